/- Ours. A part of the proof, made small by a program. -/
import Derived.Test.YtdhobpbngkainaaGreatDoorCo07
import Derived.Test.YtdhobpbngkainaaGreatDoorCo03
import Derived.Test.YtdhobpbngkainaaGreatDoorCo06
import Derived.Test.YtdhobpbngkainaaGreatDoorCo04
set_option maxRecDepth 100000
set_option maxHeartbeats 4000000
namespace Go.Proofs.YtdhobpbngkainaaGreatDoor
open Go.RowKit Go.Maps
def qys (S:AS) (l D:Bs) (b num:Nat) (B6 B7:Nat) (F:HF) (B w':World) (n:Int) (ev:Value):Prop :=
 (∃ sp chs J,n=0∧ev=errV 8∧AreaOk { S.A with spare:=sp }∧Turns F ((B6,Is (intO 0))::(B7,Is (errO (errV 8)))::(arF { S with A:={ S.A with spare:=sp } }++J)) B w' ∧
  128*S.A.count<S.data.length+(qb4 (qa8 S D)).length+(frame 2 (verB l num D.length (atsOf chs))).length∧chs.length=(qav D).length) ∨
 (∃ S' V J,n=num∧ev=.nilIface∧PutStep S S' l D V∧ArOk S'∧PutB S D b S'∧Turns F ((B6,Is (intO num))::(B7,Is (errO (.nilIface)))::(arF S'++J)) B w')
theorem q6a {w:World} {b e n:Nat} {v:Value} {xs:List Value} {a:Option Addr} {cap:Nat} (h:w.ownsRow b e 1 v n xs) (hv:v=.slice a n cap):cap≤9223372036854775807:=by
 obtain ⟨a',c',h1,_,_,h2,_⟩:=qko h
 rw [hv] at h1
 simp only [Value.slice.injEq] at h1
 omega
def intN:Value→Nat
 | .int _ a=>a.toNat
 | _=>0
def aggAt (i:Nat):Value→Value
 | .agg c=>c.getD i undef
 | _=>undef
def entK (e:Ent Bs):Bs×Nat×Nat:=(e.key,intN (aggAt 0 e.val),intN (aggAt 1 e.val))
theorem qpn:∀ (l:List Bs) (at_ b:Nat),(qba at_ b l).map entK=qbo at_ l
 | [],_,_=>rfl
 | c::r,at_,b=>by
  simp only [qba,qbo,List.map_cons,qpn r]
  congr 1
def XK (X:ArchL) (done:List (Ent Bs)):ArchL:={ X with sc:=X.sc+done.length,sb:=X.sb+(done.map (fun e=>e.key.length)).sum }
def qxp (S:AS) (S1:HF) (acc:List Bs) (F Z:HF) (B:World) (Bm r:Nat) (w:World):Prop :=
 ∃ (done todo:List (Ent Bs)) (cs:List ChkL) (cc:Nat) (J:HF),(done++todo).Perm (qba S.data.length 0 acc)∧ChunksOk cs cc ∧
  (∀ k,(qa5 cs k).Perm (((S.K++done.map entK).filter (fun e=>decide (keyB e.1=k))).map (·.2))) ∧
  Turns F ((r,Is (iterO Bm acc.length done))::(Bm,Is (mapO str (qba S.data.length 0 acc) acc.length))::(S.a,Is (archO (XK S.X done)))::(qbd S.X.cm cs cc++(S1++(J++Z)))) B w
def qi4 (r n:Nat) (w:World):Nat:=match w.heap[r]? with
 | some (.mapIter _ _ seen _)=>n-seen.size
 | _=>0
theorem q52 (X:ArchL) (done:List (Ent Bs)) (e:Ent Bs):(.cells (((qa4 (XK X done)).setIfInBounds 3 (.int .i64 ((XK X done).sc+1))).setIfInBounds 4 (.int .i64 ((XK X done).sb+e.key.length))) 128 (0,0):Obj)=archO (XK X (done++[e])):=by
 have h1:X.sc+(done.length:Int)+1=X.sc+((done++[e]).length:Nat):=by simp;omega
 have h2:X.sb+((done.map (fun e=>e.key.length)).sum:Nat)+(e.key.length:Int)=X.sb+(((done++[e]).map (fun e=>e.key.length)).sum:Nat):=by simp;omega
 unfold archO
 congr 1
 simp only [qa4,XK]
 rw [h1,h2]
 rfl
theorem q7g (X:ArchL) {done fE:List (Ent Bs)} {acc:List Bs} {at_:Nat} (size n:Nat) (hs:size=n) (h:done.Perm fE) (hf:fE=qba at_ 0 acc):(.cells ((qa4 (XK X done)).setIfInBounds 5 (.int .i64 ((XK X done).used+size))) 128 (0,0):Obj)=archO { X with sc:=X.sc+acc.length,sb:=X.sb+(acc.map List.length).sum,used:=X.used+n }:=by
 have h1:done.length=acc.length:=by rw [h.length_eq,hf,qk6]
 have h2:(done.map (fun e=>e.key.length)).sum=(acc.map List.length).sum:=by
  rw [((h.map (fun e=>e.key.length)).sum_nat),hf]
  conv=>rhs;rw [← qeb acc at_ 0,List.map_map]
  rfl
 subst hs
 unfold archO
 congr 1
 simp only [qa4,XK]
 rw [h1,h2]
 rfl
theorem qmk {cs:List ChkL} {cc:Nat} (h:ChunksOk cs cc) {k:Bs} (hk:Ok4 k) {v:Value} {g:List (Nat×Nat)} (hv:qbl v g):ChunksOk (setG cs cc k v g) (putC (cs.map entG) cc k) where
 map:=by rw [qlo];exact h.map.put hk v
 rows:=fun p hp=>by
  rcases qlc hp with ⟨h1,_⟩ | ⟨_,h2,h3⟩
  ·exact h.rows p h1
  ·rw [h2,h3];exact hv
theorem q3j {done todo fE:List (Ent Bs)} {acc:List Bs} {at_ m:Nat} (h:(done++todo).Perm fE) (hf:fE=qba at_ 0 acc) (hm:(acc.map List.length).sum≤m):(done.map (fun e=>e.key.length)).sum≤m:=by
 have h1:=((h.map (fun e=>e.key.length)).sum_nat)
 have h2:fE.map (fun e=>e.key.length)=acc.map List.length:=by
  rw [hf]
  conv=>rhs;rw [← qeb acc at_ 0,List.map_map]
  rfl
 rw [h2,List.map_append,List.sum_append] at h1
 omega
theorem qvr {cs:List ChkL} {cc:Nat} {T:List (Bs×Nat×Nat)} (h:∀ k,(qa5 cs k).Perm ((T.filter (fun e=>decide (keyB e.1=k))).map (·.2))) (c:Bs) (q:Nat×Nat) (v:Value) :
  ∀ k,(qa5 (setG cs cc (keyB c) v (qa5 cs (keyB c)++[q])) k).Perm (((T++[(c,q)]).filter (fun e=>decide (keyB e.1=k))).map (·.2)):=by
 intro k
 rw [List.filter_append,List.map_append]
 have e1:qa5 (setG cs cc (keyB c) v (qa5 cs (keyB c)++[q])) k=if k=keyB c then qa5 cs (keyB c)++[q] else qa5 cs k:=qon [] cs cc (keyB c) k v _
 rw [e1]
 by_cases hk:k=keyB c
 ·subst hk
  simp only [if_true,List.filter_cons,decide_true,List.filter_nil,List.map_cons,List.map_nil]
  exact (h _).append_right _
 ·have hk2:¬ keyB c=k:=fun e=>hk e.symm
  simp only [hk,if_false,List.filter_cons,hk2,decide_false,Bool.false_eq_true,List.filter_nil,List.map_nil,List.append_nil]
  exact h k
theorem qzc (S:AS) (hok:ArOk S) (b:Nat) (hB:ArB S b) (hb:b≤90000) (l D:Bs) (hl:qa6 l=true) (hll:l.length≤20) (hDl:D.length≤4000) (B3 B6 B7 B9 B11 B12 B13 Bm Bv num:Nat) (hnum:num=qc7 (qaq S.ps l)+1) (F:HF) (B:World)
  (hJ:PutJ S D B9 B11 B12 B13 Bm Bv num ((B3,Is (boxA S.a))::[(B6,Is (intO 0)),(B7,Is (errO .nilIface))]) (qas D).length F) (hF:Sat B F) {u0 u2 u4 u5 u8 u10 u13 u14 u15 u16 u17 u18 u19 u20 u21 u22 u23 u24 u25 u26 u27 u28 u29 u30 u31 u32 u33 u34 u35 u36 u37 u38 u39 u40 u41 u42 u43 u44 u45 u46 u47 u48 u49 u50 u51 u52 u53 u54 u55 u56 u57 u58 u59 u60 u61 u62 u63 u64 u65 u66 u67 u68 u69 u70 u71 u72 u73 u74 u75 u76 u77 u78 u79 u80 u81 u82 u83 u84 u85 u86 u87 u88 u89 u90 u91 u92 u93 u94 u95 u96 u97 u98 u99 u100 u101 u102 u103 u104 u105 u106 u107 u108 u109 u110 u111 u112 u113 u114 u115 u116 u117 u118 u119 u120 u121 u122 u123 u124 u125 u126 u127 u128 u129 u130 u131 u132 u133 u134 u135 u136 u137 u138 u139 u140 u141 u142 u143 u144 u145 u146 u147 u148 u149 u150 u151 u152 u153 u154 u155 u156 u157 u158 u159 u160 u161 u162 u163 u164 u165 u166 u167 u168 u169 u170 u171 u172 u173 u174 u175 u176:Value} {ds:List Deferred} {Q:Exit→Act→World→Prop}
  (hQ:∀ (tmps:Array Value) (w':World) (n:Int) (ev:Value),tmps.getD 6 undef=.pointer (some ⟨B6,0,none⟩)→tmps.getD 7 undef=.pointer (some ⟨B7,0,none⟩)→qys S l D b num B6 B7 F B w' n ev→Q .ret { tmps:=tmps,defers:=ds } w') :
  q7n.wp Tryz.prog Q { tmps:=#[u0,str l,u2,.pointer (some ⟨B3,0,none⟩),u4,u5,.pointer (some ⟨B6,0,none⟩),.pointer (some ⟨B7,0,none⟩),u8,.pointer (some ⟨B9,0,none⟩),u10,.pointer (some ⟨B11,0,none⟩),.pointer (some ⟨B12,0,none⟩),u13,u14,u15,u16,u17,u18,u19,u20,u21,u22,u23,u24,u25,u26,u27,u28,u29,u30,u31,u32,u33,u34,u35,u36,u37,u38,u39,u40,u41,u42,u43,u44,u45,u46,u47,u48,u49,u50,u51,u52,u53,u54,u55,u56,u57,u58,u59,u60,u61,u62,u63,u64,u65,u66,u67,u68,u69,u70,u71,u72,u73,u74,u75,u76,u77,u78,u79,u80,u81,u82,u83,u84,u85,u86,u87,u88,u89,u90,u91,u92,u93,u94,u95,u96,u97,u98,u99,u100,u101,u102,u103,u104,u105,u106,u107,u108,u109,u110,u111,u112,u113,u114,u115,u116,u117,u118,u119,u120,u121,u122,u123,u124,u125,u126,u127,u128,u129,u130,u131,u132,u133,u134,u135,u136,u137,u138,u139,u140,u141,u142,u143,u144,u145,u146,u147,u148,u149,u150,u151,u152,u153,u154,u155,u156,u157,u158,u159,u160,u161,u162,u163,u164,u165,u166,u167,u168,u169,u170,u171,u172,u173,u174,u175,u176],defers:=ds } B:=by
 obtain ⟨sp,acc,fv,rv,chs,recs,hacc,hAo,hrb,hro,hpo,hcl,hin,hFe⟩:=hJ
 have hacc2:acc=qa8 S D:=by rw [hacc,← qbz,List.take_length];rfl
 rw [← qbz,List.take_length] at hin
 obtain ⟨V,hV⟩:∃ V:VerL,V=⟨Bv,num,D.length,fv,chs,0⟩:=⟨_,rfl⟩
 have hchl:chs.length≤4000:=by have:=qcy D;omega
 obtain ⟨Y,hY⟩:∃ Y,Y=(B3,Is (boxA S.a))::(B6,Is (intO 0))::(B7,Is (errO .nilIface))::(S.a,Is (archO S.X))::(areaF S.X.ab S.X.d { S.A with spare:=sp }++(devF S.X.d S.L++(qbc S.X.pm S.ps S.pc++(tagsF S.X.tm S.ts S.tc++qbd S.X.cm S.cs S.cc)))):=⟨_,rfl⟩
 obtain ⟨Z,hZ⟩:∃ Z,Z=(B13,Is (intO ((S.data.length+qa1 acc:Nat):Int)))::(B12,Is (fmapO Bm))::(Bm,Is (mapO str (qba S.data.length 0 acc) acc.length))::((recs.flatMap fun r=>bRow r.val r.bytes)++Y):=⟨_,rfl⟩
 have hT:Turns F (rowF 38 1 rv (recs.map (·.val)).length (recs.map (·.val))++((B11,Is (recsO rv))::(B9,Is (vboxO V.blk))::(verF V++Z))) B B:=by
  refine (Turns.refl hF).to ?_
  rw [hFe,hZ,hY,hV]
  unfold qc5 arF
  exact (qaf fun _=>by simp only [qad,qaa,qah]<;>omega)
 have hrl:(recs.map (·.val)).length=acc.length:=by
  have:=congrArg List.length hrb
  simpa using this
 have hal:=qk8 S D
 rw [← hacc2] at hal
 have hKat:∀ e∈S.K,e.2.1≤137438953472:=fun e he=>by
  have h1:=(hok.kat e he).2.1
  have h2:=hok.dat.2
  have h3:=hok.fits
  have h4:=hok.nmax
  omega
 have hln:=qpa hB l
 have hdl:=hok.dat.2
 have hnn:=hok.nmax
 have hfit:=hok.fits
 have hat:∀ n∈atsOf chs,I64 n:=fun n hn=>by
  obtain ⟨q,hq,rfl⟩:=List.mem_map.1 hn
  obtain ⟨c,hc,hz⟩:=qh6 (l:=qav D) (by rw [hcl,qbz]) q hq
  have hbig:q.1≤1099511627776:=by
   rcases List.mem_append.1 (hin _ hz) with h | h
   ·have:=hKat _ h;simp only at this;omega
   ·rw [hacc2] at h
    have h2:=qm3 [] (qa8 S D) S.data (fun x hx=>by have:=qde (qlh hx).1;omega) _ h
    have h3:=h2.2.1
    have h4:=qfz S D
    rw [← hacc2] at h3 h4
    simp only [List.append_nil,List.length_append,qdi,qg9] at h3
    omega
  unfold I64;omega
 have HM:=Lib.hid (show Tryz.prog.follows .mixedOrders=true by kernel_rfl)
 have HH:=Lib.hid (And.intro hok (And.intro hB (And.intro hF (And.intro hacc2 (And.intro hAo (And.intro hrb (And.intro hro (And.intro hpo (And.intro hcl (And.intro hin (And.intro hFe (And.intro hV (And.intro hY (And.intro hZ (And.intro hT (And.intro hrl (And.intro hat hQ)))))))))))))))))
 have HN:=Lib.hid (And.intro hnum (And.intro hln (And.intro hal (And.intro hdl (And.intro hnn (And.intro hfit hchl))))))
 clear hok hB hF hacc hacc2 hAo hrb hro hpo hcl hin hFe hV hY hZ hT hrl hat hQ hnum hln hal hdl hnn hfit hKat hchl
 conv=>arg 2;whnf
 go_wp2_with fail
 refine put29 F Z B B11 B9 V rv (recs.map (·.val)) l HH.out.2.2.2.2.2.2.2.2.2.2.2.2.2.2.1 HH.out.2.2.2.2.2.2.1.1 (by have:=HH.out.2.2.2.2.2.2.2.2.2.2.2.2.2.2.2.1;have:=HN.out.2.2.1;omega) (by rw [HH.out.2.2.2.2.2.2.2.2.2.2.2.1];exact HH.out.2.2.2.2.2.2.2.1) (by rw [HH.out.2.2.2.2.2.2.2.2.2.2.2.1];have:=HN.out.2.2.2.2.2.2;show chs.length≤_;omega) (by omega) (by rw [HH.out.2.2.2.2.2.2.2.2.2.2.2.1];show I64 (num:Int);unfold I64;have:=HN.out.1;have:=HN.out.2.1;omega) (by rw [HH.out.2.2.2.2.2.2.2.2.2.2.2.1];show I64 (D.length:Int);unfold I64;omega) (by rw [HH.out.2.2.2.2.2.2.2.2.2.2.2.1];exact HH.out.2.2.2.2.2.2.2.2.2.2.2.2.2.2.2.2.1) ?_
 intro _ _ _ _ _ vb _ rv2 w1 hb1 hr1 hT1
 obtain ⟨recs2,hrecs2⟩:∃ recs2:List RecL,recs2=recs++[⟨vb,frame 2 (verB l V.num V.size (atsOf V.chs))⟩]:=⟨_,rfl⟩
 have hrm:recs.map (·.val)++[vb]=recs2.map (·.val):=by rw [hrecs2,List.map_append];rfl
 rw [hrm] at hr1 hT1
 have hrb2:∀ r∈recs2,bOk r.val r.bytes:=fun r hr=>by
  rw [hrecs2] at hr
  rcases List.mem_append.1 hr with h | h
  ·exact HH.out.2.2.2.2.2.2.1.2 r h
  ·simp only [List.mem_singleton] at h;subst h;exact hb1
 obtain ⟨sl2,cap2,rfl,-,-,hrc,hrow⟩:=qbk (qbm hT1.sat.tail.left hr1)
 obtain ⟨RB,hRB⟩:∃ RB,RB=recs2.flatMap fun r=>bRow r.val r.bytes:=⟨_,rfl⟩
 obtain ⟨G1,hG1⟩:∃ G1,G1=(B9,Is (vboxO V.blk))::(verF V++((B13,Is (intO ((S.data.length+qa1 acc:Nat):Int)))::(B12,Is (fmapO Bm))::(Bm,Is (mapO str (qba S.data.length 0 acc) acc.length))::(B3,Is (boxA S.a))::(B6,Is (intO 0))::(B7,Is (errO .nilIface))::(qbc S.X.pm S.ps S.pc++(tagsF S.X.tm S.ts S.tc++qbd S.X.cm S.cs S.cc)))):=⟨_,rfl⟩
 have hT2:Turns F (((S.a,Is (archO S.X))::(areaF S.X.ab S.X.d { S.A with spare:=sp }++devF S.X.d S.L))++((B11,Is (recsO (.slice sl2 (recs2.map (·.val)).length cap2)))::(rowF 38 1 (.slice sl2 (recs2.map (·.val)).length cap2) (recs2.map (·.val)).length (recs2.map (·.val))++(RB++G1)))) B w1:=by
  refine hT1.to ?_
  rw [HH.out.2.2.2.2.2.2.2.2.2.2.2.2.2.1,HH.out.2.2.2.2.2.2.2.2.2.2.2.2.1,hRB,hG1,hrecs2]
  simp only [List.flatMap_append,List.flatMap_cons,List.flatMap_nil,List.append_nil]
  exact (qaf fun _=>by simp only [qad,qaa,qah]<;>omega)
 obtain ⟨rs,hrs⟩:∃ rs,rs=recs2.map (·.bytes):=⟨_,rfl⟩
 have hrsl:(recs2.map (·.val)).length=rs.length:=by rw [hrs,List.length_map,List.length_map]
 have hflat:rs.flatten=qb4 (qa8 S D)++frame 2 (verB l V.num V.size (atsOf V.chs)):=by
  rw [hrs,hrecs2,List.map_append,HH.out.2.2.2.2.2.1,← HH.out.2.2.2.1]
  simp [qb4]
 have hrb3:RB=recs2.flatMap fun r=>bRow r.val r.bytes:=hRB
 have hsum:qdm rs≤200000:=by
  rw [← qhv,hflat,List.length_append,qdi,qg9,qfs]
  have h1:=qfz S D
  have h2:=qk8 S D
  have h3:=HN.out.2.2.2.2.2.2
  have h4:V.chs.length=chs.length:=by rw [HH.out.2.2.2.2.2.2.2.2.2.2.2.1]
  omega
 have hlen5:rs.length≤5000:=by
  rw [← hrsl,← hrm,List.length_append]
  have:=HH.out.2.2.2.2.2.2.2.2.2.2.2.2.2.2.2.1
  have:=HN.out.2.2.1
  simp at *;omega
 have HCh:=Lib.hid (qvg S.a S.X S.X.ab S.X.d rfl { S.A with spare:=sp } S.L S.data rs (recs2.map (·.val)) sl2 cap2 w1 hT2.sat.left HH.out.1.sound HH.out.1.dev HH.out.1.fits HH.out.1.nmax HH.out.1.end_ HH.out.1.tail HH.out.1.dat hrsl (by omega) (by omega) (by have:=HH.out.2.1.chs;omega)
  hrc (fun x hx=>?hx1) (fun k h1 h2=>?hx2))
 case hx1 =>
  have hb:=hrow x hx
  have hin:x.block∈dom (rowF 38 1 (.slice sl2 (recs2.map (·.val)).length cap2) (recs2.map (·.val)).length (recs2.map (·.val))):=(qfa _ _ _ _ _ _).2 hb
  intro hd
  exact hT2.sat.disj (b:=x.block) (by rw [qhi];exact List.mem_cons_of_mem _ hd) (by rw [qhi,qcw];exact List.mem_cons_of_mem _ (List.mem_append_left _ hin))
 case hx2 =>
  have hk2:k<recs2.length:=by simpa using h1
  have hmem:recs2[k]∈recs2:=List.getElem_mem hk2
  have hsub:Sat w1 (bRow recs2[k].val recs2[k].bytes):=Sat.flat (f:=fun r:RecL=>bRow r.val r.bytes) (by rw [← hrb3];exact hT2.sat.right.tail.right.left) hmem
  obtain ⟨ka,kc,ke,-,kcap,kcells,kown⟩:=qbk (bOwns hsub (hrb2 _ hmem))
  have e2:rs[k]=recs2[k].bytes:=by simp [hrs]
  refine ⟨ka,kc,?_,by rw [e2];exact kcap,q6a (bOwns hsub (hrb2 _ hmem)) ke,?_,fun x hx=>?_⟩
  ·rw [List.getElem_map,ke,e2]
  ·rw [e2];exact kcells
  ·have hin:x.block∈dom (bRow recs2[k].val recs2[k].bytes):=(qfa _ _ _ _ _ _).2 (kown x hx)
   have hin2:x.block∈dom RB:=by
    obtain ⟨p,hp,hpe⟩:=List.mem_map.1 hin
    rw [hrb3]
    exact List.mem_map.2 ⟨p,List.mem_flatMap.2 ⟨_,hmem,hp⟩,hpe⟩
   exact ⟨fun hd=>hT2.sat.disj (b:=x.block) (by rw [qhi];exact List.mem_cons_of_mem _ hd) (by simp only [qhi,qcw];exact List.mem_cons_of_mem _ (List.mem_append_right _ (List.mem_append_left _ hin2))),hsub.lt hin⟩
 have HR1:=Lib.hid (And.intro hT2 (And.intro hrs (And.intro hflat (And.intro hsum (And.intro hG1 hrsl)))))
 have b3:w1.cell? ⟨B3,0,none⟩=some (.pointer (some ⟨S.a,0,none⟩)):=qac (hT2.sat.memIs (b:=B3) (o:=boxA S.a) (by rw [hG1];simp)) 0 rfl
 have b11:w1.cell? ⟨B11,0,none⟩=some (.slice sl2 (recs2.map (·.val)).length cap2):=qac (hT2.sat.memIs (b:=B11) (o:=recsO (.slice sl2 (recs2.map (·.val)).length cap2)) (by simp)) 0 rfl
 rw [hrsl] at b11
 clear hb1 hr1 hT1 hrc hrow hRB hG1 hT2 hrs hflat hrb3 hrb2 hrm
 go_wp2_with fail
 refine HCh.out.mono ?_
 rintro e w2 (⟨hfull,rfl,hs2⟩ | ⟨hfit,rfl,hch⟩)
 ·have HR2:=Lib.hid (And.intro hfull (HR1.out.1.thenSame hs2))
  have hb6:=HR2.out.2.sat.memIs (b:=B6) (o:=intO 0) (by rw [HR1.out.2.2.2.2.1];simp)
  have hb7:=HR2.out.2.sat.memIs (b:=B7) (o:=errO .nilIface) (by rw [HR1.out.2.2.2.2.1];simp)
  have c6:w2.cell? ⟨B6,0,none⟩=some (.int .i64 0):=qac hb6 0 rfl
  have c7:w2.cell? ⟨B7,0,none⟩=some .nilIface:=qac hb7 0 rfl
  have f6:=qa9 hb6 0
  have f7:=qa9 hb7 0
  have hnd:(dom [(B6,Is (intO 0)),(B7,Is (errO .nilIface))]).Nodup:=(HR2.out.2.sat.sub (G:=[(B6,Is (intO 0)),(B7,Is (errO .nilIface))]) (by rw [HR1.out.2.2.2.2.1];exact (fun _=>by simp only [qad,qaa,qah]<;>omega))).nodup
  have h67:¬ B6=B7:=by simpa using hnd
  have h76:¬ B7=B6:=fun h=>h67 h.symm
  clear hfull hs2 hb6 hb7 hnd
  unfold errV
  go_wp2_with fail
  refine HH.out.2.2.2.2.2.2.2.2.2.2.2.2.2.2.2.2.2 _ _ 0 (errV 8) rfl rfl (.inl ⟨sp,chs,((B11,Is (recsO (.slice sl2 (recs2.map (·.val)).length cap2)))::(rowF 38 1 (.slice sl2 (recs2.map (·.val)).length cap2) (recs2.map (·.val)).length (recs2.map (·.val))++(RB++((B9,Is (vboxO V.blk))::(verF V++[(B13,Is (intO ((S.data.length+qa1 acc:Nat):Int))),(B12,Is (fmapO Bm)),(Bm,Is (mapO str (qba S.data.length 0 acc) acc.length)),(B3,Is (boxA S.a))]))))),rfl,rfl,HH.out.2.2.2.2.1,?_,?_,by rw [qbz];exact HH.out.2.2.2.2.2.2.2.2.1⟩)
  ·have hq:=HR2.out.2
   rw [HR1.out.2.2.2.2.1] at hq
   have q1:=hq.to (H:=(B6,Is (intO 0))::(B7,Is (errO .nilIface))::(arF { S with A:={ S.A with spare:=sp } }++((B11,Is (recsO (.slice sl2 (recs2.map (·.val)).length cap2)))::(rowF 38 1 (.slice sl2 (recs2.map (·.val)).length cap2) (recs2.map (·.val)).length (recs2.map (·.val))++(RB++((B9,Is (vboxO V.blk))::(verF V++[(B13,Is (intO ((S.data.length+qa1 acc:Nat):Int))),(B12,Is (fmapO Bm)),(Bm,Is (mapO str (qba S.data.length 0 acc) acc.length)),(B3,Is (boxA S.a))]))))))) (by unfold arF;exact (qaf fun _=>by simp only [qad,qaa,qah]<;>omega))
   have q2:=q1.putIs (o:=intO 0) ((Mods.refl (fun k=>k=B6) w2).set1 (i:=0) (.int .i64 0)) (qbf q1.sat.headIs 0 (.int .i64 0))
   have q3:=q2.to (H:=(B7,Is (errO .nilIface))::(B6,Is (intO 0))::_) (List.Perm.swap _ _ _)
   have q4:=q3.putIs (o:=errO (errV 8)) ((Mods.refl (fun k=>k=B7) _).set1 (i:=0) (errV 8)) (qbf q3.sat.headIs 0 (errV 8))
   exact q4.to (List.Perm.swap _ _ _)
  ·have h1:=HR2.out.1
   rw [← qhv,HR1.out.2.2.1,List.length_append,HH.out.2.2.2.2.2.2.2.2.2.2.2.1] at h1
   have h2:=qfs l num D.length chs
   have h3:=qfs l (num:Int) ((⟨Bv,num,D.length,fv,chs,0⟩:VerL).size) chs
   simp only at h1 h2 h3 ⊢
   omega
 ·obtain ⟨L',hTc,hDv,hLn,hdat,hoth,hlc⟩:=hch
  obtain ⟨S1,hS1⟩:∃ S1,S1=areaF S.X.ab S.X.d { S.A with spare:=sp,end_:=(S.data++rs.flatten).length,tail:=qbs (S.data++rs.flatten) }++(devF S.X.d L'++(qbc S.X.pm S.ps S.pc++tagsF S.X.tm S.ts S.tc)):=⟨_,rfl⟩
  obtain ⟨Z0,hZ0⟩:∃ Z0,Z0=(B3,Is (boxA S.a))::(B6,Is (intO 0))::(B7,Is (errO .nilIface))::(B9,Is (vboxO V.blk))::(B12,Is (fmapO Bm))::verF V:=⟨_,rfl⟩
  have hT3:Turns F ((Bm,Is (mapO str (qba S.data.length 0 acc) acc.length))::(S.a,Is (archO S.X))::(qbd S.X.cm S.cs S.cc++(S1++(((B11,Is (recsO (.slice sl2 (recs2.map (·.val)).length cap2)))::(rowF 38 1 (.slice sl2 (recs2.map (·.val)).length cap2) (recs2.map (·.val)).length (recs2.map (·.val))++(RB++[(B13,Is (intO ((S.data.length+qa1 acc:Nat):Int)))])))++Z0)))) B w2:=by
   have q:=HR1.out.1.step (R:=(S.a,Is (archO S.X))::((B11,Is (recsO (.slice sl2 (recs2.map (·.val)).length cap2)))::(rowF 38 1 (.slice sl2 (recs2.map (·.val)).length cap2) (recs2.map (·.val)).length (recs2.map (·.val))++(RB++G1)))) (qaf fun _=>by simp only [qad,qaa,qah]<;>omega) hTc
   refine q.to ?_
   rw [HR1.out.2.2.2.2.1,hS1,hZ0]
   exact (qaf fun _=>by simp only [qad,qaa,qah]<;>omega)
  have hmk:MapOk OkS (qba S.data.length 0 acc) acc.length:=by
   rw [HH.out.2.2.2.1]
   exact qrx (qgj _ _ _ List.nodup_nil) (fun c hc=>by have:=qde (qlh hc).1;unfold OkS;omega) _
  obtain ⟨fE,hfE⟩:∃ fE,fE=qba S.data.length 0 acc:=⟨_,rfl⟩
  rw [← hfE] at hmk hT3
  have hbm:=hT3.sat.headIs
  have b12:w2.cell? ⟨B12,0,none⟩=some (.map (some Bm)):=qac (hT3.sat.memIs (b:=B12) (o:=fmapO Bm) (by rw [hZ0];simp)) 0 rfl
  obtain ⟨r,hr⟩:∃ r,r=w2.heap.size:=⟨_,rfl⟩
  have hrel0:qxp S S1 acc F Z0 B Bm r (w2.alloc (iterO Bm acc.length ([]:List (Ent Bs)))):=by
   refine ⟨[],fE,S.cs,S.cc,((B11,Is (recsO (.slice sl2 (recs2.map (·.val)).length cap2)))::(rowF 38 1 (.slice sl2 (recs2.map (·.val)).length cap2) (recs2.map (·.val)).length (recs2.map (·.val))++(RB++[(B13,Is (intO ((S.data.length+qa1 acc:Nat):Int)))]))),by rw [hfE];exact List.Perm.refl _,HH.out.1.chunks,fun k=>by simpa using HH.out.1.kin k,?_⟩
   rw [← hfE]
   have hx:archO (XK S.X [])=archO S.X:=by simp [XK]
   rw [hx,hr]
   exact (hT3.allocIs _).to (qaf fun _=>by simp only [qad,qaa,qah]<;>omega)
  have HR3:=Lib.hid (And.intro hDv (And.intro hLn (And.intro hdat (And.intro hoth (And.intro hlc (And.intro hS1 (And.intro hZ0 (And.intro hmk (And.intro hfE (And.intro hr (And.intro hrel0 hbm)))))))))))
  clear hfit hTc hDv hLn hdat hoth hlc hS1 hZ0 hT3 hmk hfE hbm hrel0 hr
  go_wp2_with ((refine qak rfl (qxv (.tmp 153) rfl Tryz.underlying154 HR3.out.2.2.2.2.2.2.2.2.2.2.2 rfl ?_);rw [← HR3.out.2.2.2.2.2.2.2.2.2.1]))
  go_frame
  go_loopw [155] (fun _ wr=>qxp S S1 acc F Z0 B Bm r wr) (fun _ wr=>qi4 r acc.length wr)
  case atStart=>exact HR3.out.2.2.2.2.2.2.2.2.2.2.1
  case round =>
   obtain ⟨done,todo,cs,cc,J,hperm,hcsok,hkin,hTr⟩:=hrel
   rw [← HR3.out.2.2.2.2.2.2.2.2.1] at hperm hTr
   have hri:=hTr.sat.headIs
   have hrm:=hTr.sat.memIs (b:=Bm) (o:=mapO str fE acc.length) (by simp)
   have hal2:acc.length≤4000:=by have:=HN.out.2.2.1;omega
   have hfl:fE.length=acc.length:=by rw [HR3.out.2.2.2.2.2.2.2.2.1,qk6]
   have hdl:done.length+todo.length=acc.length:=by rw [← hfl,← hperm.length_eq,List.length_append]
   rcases qrn (P:=Tryz.prog) (ty:=0) hri hrm HR3.out.2.2.2.2.2.2.2.1 hperm with ⟨ht,hnx⟩ | ⟨e,rest,w4,ht,hw4,hnx⟩
   ·have hte:done.Perm fE:=by rw [ht,List.append_nil] at hperm;exact hperm
    have HD:=Lib.hid (And.intro hte (And.intro hcsok (And.intro hkin (And.intro hTr (And.intro hfl hdl)))))
    clear hte hcsok hkin hTr hfl hdl hperm hri hrm ht
    go_wp2_with fail
    refine put37 F ((r,Is (iterO Bm acc.length done))::(Bm,Is (mapO str fE acc.length))::(qbd S.X.cm cs cc++(J++((B6,Is (intO 0))::(B7,Is (errO .nilIface))::(B12,Is (fmapO Bm))::(areaF S.X.ab S.X.d { S.A with spare:=sp,end_:=(S.data++rs.flatten).length,tail:=qbs (S.data++rs.flatten) }++(devF S.X.d L'++tagsF S.X.tm S.ts S.tc)))))) B B3 B9 S.a (XK S.X done) S.ps S.pc l V ?_ HH.out.1.paths (by unfold OkS;omega) ?_ ?_ ?_ ?_
    ·have h:=HD.out.2.2.2.1
     rw [HR3.out.2.2.2.2.2.2.1,HR3.out.2.2.2.2.2.1] at h
     show Turns F (((S.a,Is (archO (XK S.X done)))::(qbc S.X.pm S.ps S.pc++verF V))++_) B _
     exact h.to (qaf fun _=>by simp only [qad,qaa,qah]<;>omega)
    ·by_cases hn:qaq S.ps l=[]
     ·rw [hn];simp
     ·obtain ⟨p',hp',_,h2⟩:=qcu hn
      rw [← h2]
      have:=(HH.out.2.1.vers p' hp').2.1
      omega
    ·have h1:=HH.out.2.1.used
     rw [HH.out.2.2.2.2.2.2.2.2.2.2.2.1]
     simp only [XK]
     omega
    ·rw [HH.out.2.2.2.2.2.2.2.2.2.2.2.1]
     simp only
     omega
    intro _ _ _ _ _ _ w6 hw6
    obtain ⟨v',hv',hT6⟩:=hw6
    have hps:Sat w6 (qbc S.X.pm (addP S.ps S.pc l v' V) (putC (S.ps.map entG) S.pc l)):=hT6.sat.left.tail
    have hver:w6.heap[V.blk]?=some (verO V):=((hps.tail.perm (qse S.pc l v' V (by rw [← qje];exact HH.out.1.paths.map.nodup))).right.right).headIs
    have hT7:Turns F ((B6,Is (intO 0))::(B7,Is (errO .nilIface))::((S.a,Is (.cells ((qa4 (XK S.X done)).setIfInBounds 5 (.int .i64 ((XK S.X done).used+V.size))) 128 (0,0)))::(areaF S.X.ab S.X.d { S.A with spare:=sp,end_:=(S.data++rs.flatten).length,tail:=qbs (S.data++rs.flatten) }++(devF S.X.d L'++(qbc S.X.pm (addP S.ps S.pc l v' V) (putC (S.ps.map entG) S.pc l)++(tagsF S.X.tm S.ts S.tc++qbd S.X.cm cs cc))))++((r,Is (iterO Bm acc.length done))::(Bm,Is (mapO str fE acc.length))::(J++((B3,Is (boxA S.a))::(B9,Is (vboxO V.blk))::(B12,Is (fmapO Bm))::[]))))) B w6:=by
     have e0:(XK S.X done).pm=S.X.pm:=rfl
     rw [e0] at hT6
     exact hT6.to (qaf fun _=>by simp only [qad,qaa,qah]<;>omega)
    have hb6:=hT7.sat.headIs
    have hb7:=hT7.sat.tail.headIs
    have hnd:=(hT7.sat.sub (G:=[(B6,Is (intO 0)),(B7,Is (errO .nilIface))]) (fun _=>by simp only [qad,qaa,qah]<;>omega)).nodup
    have h67:¬ B6=B7:=by simpa using hnd
    have h76:¬ B7=B6:=fun h=>h67 h.symm
    have c6:w6.cell? ⟨B6,0,none⟩=some (.int .i64 0):=qac hb6 0 rfl
    have c7:w6.cell? ⟨B7,0,none⟩=some .nilIface:=qac hb7 0 rfl
    have f6:=qa9 hb6 0
    have f7:=qa9 hb7 0
    have b9:w6.cell? ⟨B9,0,none⟩=some (.pointer (some ⟨V.blk,0,none⟩)):=qac (hT7.sat.memIs (b:=B9) (o:=vboxO V.blk) (by simp)) 0 rfl
    have bv0:w6.cell? ⟨V.blk,0,none⟩=some (.int .i64 V.num):=qac hver 0 rfl
    have HG:=Lib.hid (And.intro hT7 hv')
    clear hT6 hps hver hT7 hb6 hb7 hnd hv'
    go_wp2_with fail
    have hT8:=HG.out.1.putIs (o:=intO V.num) ((Mods.refl (fun k=>k=B6) w6).set1 (i:=0) (.int .i64 V.num)) (qbf HG.out.1.sat.headIs 0 (.int .i64 V.num))
    have hT9:=hT8.to (H:=(B7,Is (errO .nilIface))::(B6,Is (intO V.num))::_) (List.Perm.swap _ _ _)
    have hT10:=hT9.putIs (o:=errO .nilIface) ((Mods.refl (fun k=>k=B7) _).set1 (i:=0) .nilIface) (qbf hT9.sat.headIs 0 .nilIface)
    have hfin:∃ S',PutStep S S' l D V∧ArOk S'∧PutB S D b S'∧arF S'=((S.a,Is (.cells ((qa4 (XK S.X done)).setIfInBounds 5 (.int .i64 ((XK S.X done).used+V.size))) 128 (0,0)))::(areaF S.X.ab S.X.d { S.A with spare:=sp,end_:=(S.data++rs.flatten).length,tail:=qbs (S.data++rs.flatten) }++(devF S.X.d L'++(qbc S.X.pm (addP S.ps S.pc l v' V) (putC (S.ps.map entG) S.pc l)++(tagsF S.X.tm S.ts S.tc++qbd S.X.cm cs cc))))):=by
     have hVe:=HH.out.2.2.2.2.2.2.2.2.2.2.2.1
     have hfl:=HR1.out.2.2.1
     have hap:S.data++rs.flatten=S.data++qb4 (qa8 S D)++frame 2 (verB l V.num V.size (atsOf V.chs)):=by rw [hfl,List.append_assoc]
     have hdk:(done.map entK).Perm (qbo S.data.length (qa8 S D)):=by
      have:=HD.out.1.map entK
      rw [HR3.out.2.2.2.2.2.2.2.2.1,qpn,HH.out.2.2.2.1] at this
      exact this
     obtain ⟨p1,p2,p3⟩:=q4b HH.out.1 HH.out.2.1 (by omega) hDl (V:=V) HH.out.2.2.2.2.1 (by rw [hVe];exact HN.out.1) (by rw [hVe]) (by rw [hVe]) (by rw [hVe,qbz];exact HH.out.2.2.2.2.2.2.2.2.1) (by rw [hVe,← HH.out.2.2.2.1];exact HH.out.2.2.2.2.2.2.2.2.2.1) (by rw [hVe];exact HH.out.2.2.2.2.2.2.2.1)
      HR3.out.1 HR3.out.2.1 (by rw [← hap];exact HR3.out.2.2.1) HR3.out.2.2.2.1 (by rw [← hfl];exact HR3.out.2.2.2.2.1) HD.out.2.1 (fun k=>(HD.out.2.2.1 k).trans (((hdk.append_left S.K).filter _).map _)) HG.out.2 _ rfl
     refine ⟨_,p1,p2,p3,?_⟩
     unfold arF
     simp only
     rw [hap]
     have hx:=q7g S.X V.size D.length (by rw [hVe]) HD.out.1 (HR3.out.2.2.2.2.2.2.2.2.1.trans (by rw [HH.out.2.2.2.1]))
     rw [hx]
    obtain ⟨S',p1,p2,p3,p4⟩:=hfin
    refine HH.out.2.2.2.2.2.2.2.2.2.2.2.2.2.2.2.2.2 _ _ num .nilIface rfl rfl (.inr ⟨S',V,((r,Is (iterO Bm acc.length done))::(Bm,Is (mapO str fE acc.length))::(J++((B3,Is (boxA S.a))::(B9,Is (vboxO V.blk))::(B12,Is (fmapO Bm))::[]))),rfl,rfl,p1,p2,p3,?_⟩)
    have hnv:(V.num:Int)=num:=by rw [HH.out.2.2.2.2.2.2.2.2.2.2.2.1]
    rw [p4,← hnv]
    exact hT10.to (List.Perm.swap _ _ _)
   ·obtain ⟨w5,hw5⟩:∃ w5,w5=Go.ChangeMaps.setBlock w4 r (iterO Bm acc.length (done++[e])):=⟨_,rfl⟩
    rw [← hw5] at hnx
    have hT5:Turns F ((r,Is (iterO Bm acc.length (done++[e])))::(Bm,Is (mapO str fE acc.length))::(S.a,Is (archO (XK S.X done)))::(qbd S.X.cm cs cc++(S1++(J++Z0)))) B w5:=by
     rw [hw5]
     rcases hw4 with rfl | rfl
     ·exact hTr.putIs (qc8 _ _ _) (qds hri)
     ·exact (hTr.drew).putIs (qc8 _ _ _) (qds (by exact hri))
    have heE:e∈fE:=hperm.mem_iff.1 (List.mem_append_right _ (ht.mem_iff.2 (by simp)))
    have hri5:=hT5.sat.headIs
    have hrm5:=hT5.sat.memIs (b:=Bm) (o:=mapO str fE acc.length) (by simp)
    have hen:=qp3 (P:=Tryz.prog) hri5 hrm5 HR3.out.2.2.2.2.2.2.2.1 heE
    obtain ⟨q,hq,hev⟩:=qlu acc S.data.length 0 e (by rw [← HR3.out.2.2.2.2.2.2.2.2.1];exact heE)
    obtain ⟨c,hc⟩:∃ c,c=e.key:=⟨_,rfl⟩
    rw [hev,← hc] at hnx hen
    simp only [qed] at hnx hen
    have b3':w5.cell? ⟨B3,0,none⟩=some (.pointer (some ⟨S.a,0,none⟩)):=qac (hT5.sat.memIs (b:=B3) (o:=boxA S.a) (by rw [HR3.out.2.2.2.2.2.2.1];simp)) 0 rfl
    have HD:=Lib.hid (And.intro hperm (And.intro hcsok (And.intro hkin (And.intro hT5 (And.intro heE (And.intro hev (And.intro hc (And.intro hq (And.intro ht (And.intro hdl (And.intro hri hri5)))))))))))
    clear hperm hcsok hkin hTr hrm hw5 hw4 heE hri5 hrm5 hev hc hq ht hT5 hri
    go_wp2_with fail
    refine put36 F ((r,Is (iterO Bm acc.length (done++[e])))::(Bm,Is (mapO str fE acc.length))::(S1++(J++((B6,Is (intO 0))::(B7,Is (errO .nilIface))::(B9,Is (vboxO V.blk))::(B12,Is (fmapO Bm))::verF V)))) B B3 w5.heap.size S.a (XK S.X done) cs cc c q ?_ HD.out.2.1 ?_ ?_ ?_ ?_ ?_
    ·have h:=Turns.allocIs HD.out.2.2.2.1 (qau q)
     rw [HR3.out.2.2.2.2.2.2.1] at h
     show Turns F (((S.a,Is (archO (XK S.X done)))::qbd S.X.cm cs cc)++_) B _
     exact h.to (qaf fun _=>by simp only [qad,qaa,qah]<;>omega)
    ·have h:=(HD.out.2.2.1 (keyB c)).length_eq
     have h2:=List.length_filter_le (fun e=>decide (keyB e.1=keyB c)) (S.K++done.map entK)
     have h3:=HH.out.2.1.K
     rw [List.length_map] at h
     rw [List.length_append,List.length_map] at h2
     unfold keyB at h h2
     omega
    ·rw [HD.out.2.2.2.2.2.2.1]
     have:=HR3.out.2.2.2.2.2.2.2.1.ok e HD.out.2.2.2.2.1
     exact this
    ·have:=HH.out.2.1.sc
     simp only [XK]
     omega
    ·have h1:=HH.out.2.1.sb
     have h2:(done.map (fun e=>e.key.length)).sum≤4000:=q3j HD.out.1 HR3.out.2.2.2.2.2.2.2.2.1 (by rw [HH.out.2.2.2.1];exact Nat.le_trans (qfz S D) hDl)
     simp only [XK]
     omega
    intro _ _ _ _ _ _ _ w6 hw6
    obtain ⟨v',hv',hT6⟩:=hw6
    go_frame
    go_roundw
    case rel =>
     refine ⟨_,_,_,_,_,_,_,_,_,_,_,_,_,_,?_,rfl⟩
     have hwho:=HD.out.2.2.2.2.2.2.1
     refine ⟨done++[e],rest,setG cs cc (keyB c) v' (qa5 cs (keyB c)++[q]),putC (cs.map entG) cc (keyB c),(w5.heap.size,Is (qau q))::J,by rw [← HR3.out.2.2.2.2.2.2.2.2.1];exact q15 HD.out.1 HD.out.2.2.2.2.2.2.2.2.1,qmk HD.out.2.1 (qbv _ _) hv',?_,?_⟩
     ·rw [List.map_append,← List.append_assoc]
      have he:[e].map entK=[(c,q)]:=by
       simp only [List.map_cons,List.map_nil,entK,HD.out.2.2.2.2.2.1,← hwho];rfl
      rw [he]
      exact qvr HD.out.2.2.1 c q v'
     ·have hx:=q52 S.X done e
      rw [← hwho] at hx
      have e0:(XK S.X done).cm=S.X.cm:=rfl
      rw [hx,e0] at hT6
      refine hT6.to ?_
      rw [HR3.out.2.2.2.2.2.2.1,HR3.out.2.2.2.2.2.2.2.2.1]
      unfold keyB
      exact (qaf fun _=>by simp only [qad,qaa,qah]<;>omega)
    case measure =>
     have e1:qi4 r acc.length wr=acc.length-done.length:=by unfold qi4;rw [HD.out.2.2.2.2.2.2.2.2.2.2.1];simp [iterO]
     have e2:qi4 r acc.length w6=acc.length-(done.length+1):=by unfold qi4;rw [hT6.sat.memIs (b:=r) (o:=iterO Bm acc.length (done++[e])) (by simp)];simp [iterO]
     rw [e1,e2]
     have h3:=HD.out.2.2.2.2.2.2.2.2.2.1
     have h4:=HD.out.2.2.2.2.2.2.2.2.1.length_eq
     simp only [List.length_cons] at h4
     omega
abbrev KL:=List (Bs×Nat×Nat)
structure HV where
 p:Bs
 num:Nat
 size:Nat
 chs:List (Nat×Nat)
def szOf (K:KL) (a:Int):Option Nat:=(K.find? (fun e=>decide ((e.2.1:Int)=a))).map (·.2.2)
inductive Reach (D:Bs):Nat→KL→List HV→Prop
 | zero:Reach D 0 [] []
 | chunk {at_ K H body n}:Reach D at_ K H→openR (D.drop at_)=some (1,body,n)→Reach D (at_+n) (K++[(body,at_,body.length)]) H
 | ver {at_ K H body n p num size ats chs}:Reach D at_ K H→openR (D.drop at_)=some (2,body,n)→readR 2 body=some (.ver p num size ats)→chsOf (szOf K) ats=some chs→(chs.map (·.2)).sum=size→Reach D (at_+n) K (H++[⟨p,num,size,chs⟩])
def qnh (D:Bs) (at_:Nat) (K:KL):Prop :=
 openR (D.drop at_)=none∨∃ body n,openR (D.drop at_)=some (2,body,n)∧(readR 2 body=none∨∃ p num size ats,readR 2 body=some (.ver p num size ats)∧∀ chs,chsOf (szOf K) ats=some chs→(chs.map (·.2)).sum≠size)
def qj9 (h:HV):Nat×Nat×List (Nat×Nat)×Int:=(h.num,h.size,h.chs,0)
def qcn (V:VerL):Nat×Nat×List (Nat×Nat)×Int:=(V.num,V.size,V.chs,V.held)
structure CtOk (D:Bs) (X:ArchL) (ps:List PathL) (pc:Nat) (cs:List ChkL) (cc:Nat) (sz:List (Ent Int)) (szc:Nat) (at_:Nat) (K:KL) (H:List HV):Prop where
 reach:Reach D at_ K H
 le:at_≤D.length
 paths:PathsOk ps pc
 chunks:ChunksOk cs cc
 kin:∀ k,(qa5 cs k).Perm ((K.filter (fun e=>decide (keyB e.1=k))).map (·.2))
 kat:∀ e∈K,e.2.2=e.1.length∧e.1.length≤65535∧qek (D.take at_) e.2.1 e.1
 hist:∀ l,(qaq ps l).map qcn=(H.filter (fun h=>decide (h.p=l))).map qj9
 nem:∀ p∈ps,p.g≠[]
 chsK:∀ h∈H,(∀ q∈h.chs,∃ e∈K,e.2=q)∧h.size=(h.chs.map (·.2)).sum
 used:X.used=((H.map (·.size)).sum:Nat)
 sc:X.sc=K.length
 sb:X.sb=((K.map (·.1.length)).sum:Nat)
 map:MapOk OkI sz szc
 get:∀ k,getE sz k=(szOf K k).map (fun s=>.int .i64 (s:Nat))
theorem qwq (K:KL) (e:Bs×Nat×Nat) (a:Int):szOf (K++[e]) a=(szOf K a).or (if (e.2.1:Int)=a then some e.2.2 else none):=by
 unfold szOf
 rw [List.find?_append]
 cases hf:K.find? (fun e=>decide ((e.2.1:Int)=a)) with
 | some x=>simp
 | none =>
  simp only [Option.none_or,Option.map_none,List.find?_cons,List.find?_nil]
  by_cases h:(e.2.1:Int)=a<;>simp [h]
theorem q14 {K:KL} {n:Nat} (h:∀ e∈K,e.2.1<n):szOf K n=none:=by
 unfold szOf
 rw [List.find?_eq_none.2]
 ·rfl
 ·intro e he
  have:=h e he
  simp;omega
theorem qvh {K:KL} {a:Int} {s:Nat} (h:szOf K a=some s):∃ e∈K,e.2=(a.toNat,s):=by
 unfold szOf at h
 cases hf:K.find? (fun e=>decide ((e.2.1:Int)=a)) with
 | none=>rw [hf] at h;cases h
 | some e =>
  rw [hf] at h
  have h1:(e.2.1:Int)=a:=by simpa using List.find?_some hf
  refine ⟨e,List.mem_of_find?_eq_some hf,?_⟩
  simp only [Option.map_some,Option.some.injEq] at h
  rw [← h,← h1];rfl
theorem qrq {K:KL}:∀ {l:List Int} {m:List (Nat×Nat)},chsOf (szOf K) l=some m→∀ q∈m,∃ e∈K,e.2=q
 | [],m,h,q,hq=>by simp only [chsOf,Option.some.injEq] at h;subst h;cases hq
 | b::r,m,h,q,hq=>by
  simp only [chsOf] at h
  cases hb:szOf K b with
  | none=>rw [hb] at h;cases h
  | some s =>
   cases hr:chsOf (szOf K) r with
   | none=>rw [hb,hr] at h;cases h
   | some l =>
    rw [hb,hr] at h
    simp only [Option.some.injEq] at h
    subst h
    rcases List.mem_cons.1 hq with rfl | hq
    ·exact qvh hb
    ·exact qrq hr q hq
theorem qho {b c:Bs} {k:UInt8} {body:Bs} {n:Nat} (h:openR b=some (k,body,n)) (hc:c.take n=b.take n):openR c=some (k,body,n):=by
 obtain ⟨-,hn,hnb,hbody,-⟩:=qez h
 have hlen:n≤c.length:=by
  have:=congrArg List.length hc
  rw [List.length_take,List.length_take] at this
  omega
 have hg:∀ j,j<n→c.getD j 0=b.getD j 0:=fun j hj=>by
  have:=congrArg (fun l=>l[j]?) hc
  simp only [List.getElem?_take_of_lt hj] at this
  rw [List.getD_eq_getElem?_getD,List.getD_eq_getElem?_getD,this]
 have hd:∀ i m,i+m≤n→(c.drop i).take m=(b.drop i).take m:=fun i m hi=>by
  have:=congrArg (fun l=>(l.drop i).take m) hc
  simp only [List.drop_take,List.take_take] at this
  rwa [Nat.min_eq_left (by omega)] at this
 unfold openR at h
 split at h
 ·cases h
 split at h
 ·cases h
 simp only at h
 split at h
 ·cases h
 split at h
 ·cases h
 split at h
 ·cases h
 rename_i h1 h2 h3 h4 h5
 simp only [Option.some.injEq,Prod.mk.injEq] at h
 obtain ⟨rfl,hb,rfl⟩:=h
 unfold openR
 rw [if_neg (by omega),hg 0 (by omega),if_neg h2]
 simp only
 rw [hg 1 (by omega),hg 2 (by omega),hg 3 (by omega),hg 4 (by omega),if_neg h3,if_neg (by omega),hd 5 _ (by omega),hd _ 4 (by omega),if_neg h5,hb]
theorem qek.at_ {D body:Bs} {at_ n:Nat} (h:openR (D.drop at_)=some (1,body,n)) (hle:at_≤D.length):n=body.length+9∧at_+n≤D.length∧body.length≤65535∧qek (D.take (at_+n)) at_ body:=by
 obtain ⟨-,h2,h3,h4,h5⟩:=qez h
 rw [List.length_drop] at h3
 refine ⟨h2,by omega,by omega,by rw [List.length_take];omega,?_⟩
 rw [List.drop_take,List.take_take,show min (body.length+9) (at_+n-at_)=n by omega,← h2]
 have:=qho (c:=(D.drop at_).take n) h (by rw [List.take_take,Nat.min_self])
 rw [this]
theorem CtOk.at_lt {D:Bs} {X:ArchL} {ps:List PathL} {pc:Nat} {cs:List ChkL} {cc:Nat} {sz:List (Ent Int)} {szc at_:Nat} {K:KL} {H:List HV} (h:CtOk D X ps pc cs cc sz szc at_ K H):∀ e∈K,e.2.1<at_:=fun e he=>by
 have h1:=(h.kat e he).2.2.1
 rw [List.length_take] at h1
 omega
theorem qek.grow {D body:Bs} {a b q:Nat} (h:qek (D.take a) q body) (hab:a≤b):qek (D.take b) q body:=by
 have:D.take b=D.take a++(D.drop a).take (b-a):=by
  rw [← List.take_append_drop a (D.take b),List.take_take,Nat.min_eq_left hab,List.drop_take]
 rw [this]
 exact h.more
theorem CtOk.chunk {D:Bs} {X:ArchL} {ps:List PathL} {pc:Nat} {cs:List ChkL} {cc:Nat} {sz:List (Ent Int)} {szc at_:Nat} {K:KL} {H:List HV} (h:CtOk D X ps pc cs cc sz szc at_ K H) {body:Bs} {n:Nat} (ho:openR (D.drop at_)=some (1,body,n)) (hat:at_≤4294967296) {v:Value} (hv:qbl v (qa5 cs (keyB body)++[(at_,body.length)])) :
  CtOk D { X with sc:=X.sc+1,sb:=X.sb+body.length } ps pc (setG cs cc (keyB body) v (qa5 cs (keyB body)++[(at_,body.length)])) (putC (cs.map entG) cc (keyB body)) (putE sz szc (at_:Int) (.int .i64 body.length)) (putC sz szc (at_:Int)) (at_+n) (K++[(body,at_,body.length)]) H:=by
 obtain ⟨h1,h2,h3,h4⟩:=qek.at_ ho h.le
 have hnone:szOf K at_=none:=q14 h.at_lt
 refine ⟨h.reach.chunk ho,h2,h.paths,qmk h.chunks (by unfold keyB;exact qbv _ _) hv,qvr h.kin body _ v,fun e he=>?_,h.hist,h.nem,fun x hx=>⟨fun q hq=>?_,(h.chsK x hx).2⟩,h.used,?_,?_,h.map.put ⟨by omega,by omega⟩ _,fun k=>?_⟩
 ·rcases List.mem_append.1 he with he | he
  ·obtain ⟨k1,k2,k3⟩:=h.kat e he
   exact ⟨k1,k2,k3.grow (by omega)⟩
  ·obtain rfl:=List.mem_singleton.1 he
   exact ⟨rfl,h3,h4⟩
 ·obtain ⟨e,he,hq2⟩:=(h.chsK x hx).1 q hq
  exact ⟨e,List.mem_append_left _ he,hq2⟩
 ·show X.sc+1=_;rw [h.sc];simp
 ·show X.sb+body.length=_;rw [h.sb];simp
 ·rw [q29,qwq,h.get k]
  by_cases hk:k=(at_:Int)
  ·subst hk
   rw [if_pos rfl,hnone,if_pos rfl];rfl
  ·rw [if_neg hk,if_neg (fun e=>hk e.symm)]
   simp
theorem q1j {ps:List PathL} {pc:Nat} {p l:Bs} {v:Value} {V:VerL}:qaq (addP ps pc p v V) l=if l=p then qaq ps p++[V] else qaq ps l:=qon [] ps pc p l v _
theorem CtOk.ver {D:Bs} {X:ArchL} {ps:List PathL} {pc:Nat} {cs:List ChkL} {cc:Nat} {sz:List (Ent Int)} {szc at_:Nat} {K:KL} {H:List HV} (h:CtOk D X ps pc cs cc sz szc at_ K H) {body:Bs} {n:Nat} (ho:openR (D.drop at_)=some (2,body,n)) {p:Bs} {num m:Nat} {ats:List Int} (hr:readR 2 body=some (.ver p num m ats)) {chs:List (Nat×Nat)} (hc:chsOf (szOf K) ats=some chs) (hm:(chs.map (·.2)).sum=m) (hp:OkS p)
  {b:Nat} {cv v':Value} (hcv:qbl cv chs) (hv:ptrOk v' (qaq ps p++[⟨b,num,m,cv,chs,0⟩])) :
  CtOk D { X with used:=X.used+m } (addP ps pc p v' ⟨b,num,m,cv,chs,0⟩) (putC (ps.map entG) pc p) cs cc sz szc (at_+n) K (H++[⟨p,num,m,chs⟩]):=by
 obtain ⟨-,h2,h3,-⟩:=qez ho
 rw [List.length_drop] at h3
 refine ⟨h.reach.ver ho hr hc hm,by have:=h.le;omega,qnx h.paths hp hv hcv,h.chunks,h.kin,fun e he=>?_,fun l=>?_,fun q hq=>?_,fun x hx=>?_,?_,h.sc,h.sb,h.map,h.get⟩
 ·obtain ⟨k1,k2,k3⟩:=h.kat e he
  exact ⟨k1,k2,k3.grow (by omega)⟩
 ·rw [q1j,List.filter_append,List.map_append,← h.hist l]
  by_cases hl:l=p
  ·subst hl
   rw [if_pos rfl,List.map_append];simp [qcn,qj9]
  ·rw [if_neg hl];simp [Ne.symm hl]
 ·rcases qlc hq with ⟨h1,_⟩ | ⟨_,_,h3⟩
  ·exact h.nem q h1
  ·rw [h3];simp
 ·rcases List.mem_append.1 hx with hx | hx
  ·exact h.chsK x hx
  ·obtain rfl:=List.mem_singleton.1 hx
   exact ⟨qrq hc,hm.symm⟩
 ·show X.used+m=_;rw [h.used];simp
theorem q24 (x rest:Bs):rdNum (x++rest) false x.length=beNat x:=by
 unfold rdNum
 rw [if_neg (by simp),List.take_left]
theorem q2v (x rest:Bs):rN (x++rest,false) x.length=(rest,false):=by
 unfold rN qdb rdBad
 rw [if_neg (by simp),List.drop_left]
 simp
theorem qrl {n:Int} {k:Nat} (h0:0≤n) (h1:n<256 ^ k):(beNat (beI n k):Int)=n:=by
 obtain ⟨m,rfl⟩:∃ m:Nat,n=m:=⟨n.toNat,by omega⟩
 have h2:m<256 ^ k:=by have:((256 ^ k:Nat):Int)=256 ^ k:=Int.natCast_pow 256 k;omega
 rw [qq3,qk3,Nat.mod_eq_of_lt h2]
theorem qsh {n:Int} {k:Nat} (h0:0≤n) (h1:n<256 ^ k) (rest:Bs):(rdNum (beI n k++rest) false k:Int)=n:=by
 have:=q24 (beI n k) rest
 rw [qb6] at this
 rw [this];exact qrl h0 h1
theorem q00 (n:Int) (k:Nat) (rest:Bs):rN (beI n k++rest,false) k=(rest,false):=by
 have:=q2v (beI n k) rest
 rwa [qb6] at this
theorem q08 {p:Bs} (hp:p.length≤255) (rest:Bs):rdNum (textB p++rest) false 1=p.length∧qdb (textB p++rest) false 1=p++rest∧rdBad (textB p++rest) false 1=false:=by
 unfold textB rdNum qdb rdBad
 refine ⟨?_,?_,?_⟩
 ·rw [if_neg (by simp)]
  simp only [List.cons_append,List.take_succ_cons,List.take_zero]
  unfold beNat
  simp only [List.foldl_cons,List.foldl_nil,Nat.zero_mul,Nat.zero_add]
  rw [UInt8.toNat_ofNat']
  exact Nat.mod_eq_of_lt (by omega)
 ·rw [if_neg (by simp)];rfl
 ·simp
theorem qyi {p:Bs} (hp:p.length≤255) (rest:Bs):qg7 (textB p++rest) false=p∧rT (textB p++rest,false)=(rest,false):=by
 obtain ⟨h1,h2,h3⟩:=q08 hp rest
 have hN:textN (textB p++rest) false=p.length:=by unfold textN;exact h1
 refine ⟨?_,?_⟩
 ·unfold qg7
  rw [h2,h3,hN,if_neg (by simp),List.take_left]
 ·unfold rT qlr qq1
  simp only [h2,h3,hN]
  have:=q2v p rest
  exact this
theorem qo1 (a:Int) (r:List Int):numsB (a::r)=beI a 4++numsB r:=by simp [numsB]
theorem qtt:∀ (l:List Int) (i:Nat) (hi:i<l.length),((numsB l).drop (4*i)).take 4=beI l[i] 4
 | [],i,hi=>by simp at hi
 | a::r,0,_=>by
  rw [qo1,Nat.mul_zero,List.drop_zero]
  have:=List.take_left (l₁:=beI a 4) (l₂:=numsB r)
  rw [qb6] at this;exact this
 | a::r,i+1,hi=>by
  have e1:(numsB (a::r)).drop (4*(i+1))=(numsB r).drop (4*i):=by
   have h4:4*(i+1)=(beI a 4).length+4*i:=by rw [qb6];omega
   rw [qo1,h4,← List.drop_drop,List.drop_left]
  rw [e1]
  exact qtt r i (by simpa using hi)
theorem q1p {l:List Int} (h:∀ n∈l,0≤n∧n<4294967296):nums4 (numsB l)=l:=by
 refine List.ext_getElem (by rw [qhx,qeg];omega) (fun i h1 h2=>?_)
 have e1:(nums4 (numsB l))[i]?=some ((beNat (((numsB l).drop (4*i)).take 4):Nat):Int):=by
  unfold nums4
  rw [List.getElem?_map,List.getElem?_range (by rw [qeg];omega)]
  rfl
 rw [List.getElem?_eq_getElem h1] at e1
 rw [Option.some.inj e1,qtt l i h2]
 have:=h l[i] (List.getElem_mem h2)
 exact qrl this.1 (by omega)
theorem q1m {p:Bs} {num size:Nat} {ats:List Int} (hp:p.length≤255) (hn:num<4294967296) (hs:size<65536) (ha:∀ n∈ats,0≤n∧n<4294967296):readR 2 (verB p num size ats)=some (.ver p num size ats):=by
 have e0:verB p num size ats=textB p++(beI num 4++(beI size 2++numsB ats)):=by unfold verB;simp
 obtain ⟨t1,t2⟩:=qyi hp (beI num 4++(beI size 2++numsB ats))
 rw [qnk,e0,t1,t2,q00,q00]
 rw [if_pos ⟨rfl,by rw [qeg];omega⟩,q1p ha]
 have h1:=qsh (n:=(num:Int)) (k:=4) (by omega) (by omega) (beI size 2++numsB ats)
 have h2:=qsh (n:=(size:Int)) (k:=2) (by omega) (by omega) (numsB ats)
 simp only [Option.some.injEq,RecR.ver.injEq,true_and,and_true]
 exact ⟨by omega,by omega⟩
end Go.Proofs.YtdhobpbngkainaaGreatDoor
namespace Go.Proofs.YtdhobpbngkainaaGreatDoor
open Go.RowKit
def useV (u:Nat×Nat):List Value:=[.int .u32 u.1,.int .u32 u.2]
def qga (v:Value) (l:List (Nat×Nat)):HF:=rowF 118 2 v l.length (l.flatMap useV)
def useOk (v:Value) (l:List (Nat×Nat)):Prop:=RowOk 2 v l.length (l.flatMap useV)
def usTo (us:Nat→Option (Nat×Nat)) (k:Nat):List (Nat×Nat):=(List.range k).filterMap us
def useO (e wh:Nat):Obj:=.cells #[.int .u32 e,.int .u32 wh] 118 (0,0)
theorem q6q:(Tryz.prog.info? 118).map (fun i=>(i.zero,i.size,i.bytes))=some (some (.agg #[.int .u32 0,.int .u32 0]),2,8):=by kernel_rfl
theorem q4p (l:List (Nat×Nat)):(l.flatMap useV).length=l.length*2:=by
 induction l with
 | nil=>rfl
 | cons a r ih=>rw [List.flatMap_cons,List.length_append,ih];simp [useV];omega
theorem qtg {o:Oper} {a:Act} {w a0:World} {K:Act→World→Prop} {Q:Exit→Act→World→Prop} {F G:HF} (s x:Operand) (hop:o.op=.call { callee:=.builtin .append,args:=#[s,x],argTypes:=#[113,113] })
  (v:Value) (l:List (Nat×Nat)) (hs:a.eval s=v) (hT:Turns F (qga v l++G) a0 w) (hok:useOk v l) (sa:Option Addr) (m c:Nat) (hx:a.eval x=.slice sa m c) (r:List (Nat×Nat)) (hm:m=r.length)
  (hc:0<m→∃ ad,sa=some ad∧∀ j u,(r.flatMap useV)[j]?=some u→w.cell? (ad.add j)=some u) (hb:l.length+r.length≤1000000)
  (hk:∀ v' w',useOk v' (l++r)→Turns F (qga v' (l++r)++G) a0 w'→K (a.put o.dst v') w'):o.wp Tryz.prog a w K Q:=by
 obtain ⟨i0,hi0,hz1,hz2,hz3⟩:=info_parts q6q
 refine qct s x 113 118 i0 (.agg #[.int .u32 0,.int .u32 0]) 2 8 hop Tryz.underlying113 hi0 hz1 hz2 hz3 rfl (by decide) v l.length (l.flatMap useV) hs hT hok sa m c hx (r.flatMap useV) (by rw [q4p,hm]) hc (fun u hu=>?_) (by unfold maxLen;omega) (by omega) (fun v' w' h1 h2 h3=>?_)
 ·obtain ⟨q,-,hq⟩:=List.mem_flatMap.1 hu
  simp only [useV,List.mem_cons,List.not_mem_nil,or_false] at hq
  rcases hq with rfl | rfl<;>rfl
 ·exact hk v' w' (by unfold useOk;rw [List.length_append,List.flatMap_append,← hm];exact h1) (by unfold qga;rw [List.length_append,List.flatMap_append,← hm];exact h2)
theorem qri (a b:Nat) (ha:a*256+b<4294967296) (hb:b<256):bits BinOp.or IntKind.u32 ((a:Int)*256) (b:Int)=((a*256+b:Nat):Int):=by
 have e1:(BitVec.ofInt 32 ((a:Int)*256)).toNat=a*256:=by
  rw [show ((a:Int)*256)=((a*256:Nat):Int) by omega,BitVec.ofInt_natCast,BitVec.toNat_ofNat];exact Nat.mod_eq_of_lt (by omega)
 have e2:(BitVec.ofInt 32 (b:Int)).toNat=b:=by rw [BitVec.ofInt_natCast,BitVec.toNat_ofNat];exact Nat.mod_eq_of_lt (by omega)
 show IntKind.u32.wrap ((BitVec.ofInt 32 ((a:Int)*256) ||| BitVec.ofInt 32 (b:Int)).toNat:Int)=_
 have e3:a*256 ||| b=a*256+b:=by
  have:=Nat.two_pow_add_eq_or_of_lt (i:=8) hb a
  rw [show (256:Nat)=2 ^ 8 from rfl,Nat.mul_comm];exact this.symm
 rw [BitVec.toNat_or,e1,e2,e3]
 unfold IntKind.wrap
 simp [IntKind.bits,IntKind.signed]
 omega
theorem w_cmp {o:Oper} {a:Act} {w:World} {K:Act→World→Prop} {Q:Exit→Act→World→Prop} (b:BinOp) (t:TypeId) (x y:Operand) (ty:TypeId) (ho:o.op=.binOp b t x y ty)
  (hg:Tryz.prog.eqGuardType Tryz.prog.depth t=false) (A B:Array Value) (v:Value) (hn:(binOp b t (.agg A) (.agg B)).run Tryz.prog w=.ok v w) (hx:a.eval x=.agg A) (hy:a.eval y=.agg B)
  (h:K (a.put o.dst v) w):o.wp Tryz.prog a w K Q:=by
 unfold Oper.wp execOp
 simp only [ho,hx,hy,Sem.run_bind,qh8 hg,Result.andThen_ok,hn,Sem.run_pure]
 exact h
theorem q17 {P:Program} {o:Oper} {a:Act} {w:World} {K:Act→World→Prop} {Q:Exit→Act→World→Prop} (s d:TypeId) (x:Operand) {u r:Value} (ho:o.op=.convert s d x) (hx:a.eval x=u) (h:(convert s d u).run P w=.ok r w) (hk:K (a.put o.dst r) w):o.wp P a w K Q:=by
 refine qag (v:=r) (w':=w) ?_ hk
 simp [execOp,ho,hx,h]
theorem w_eqI {P:Program} {o:Oper} {a:Act} {w:World} {K:Act→World→Prop} {Q:Exit→Act→World→Prop} (t:TypeId) (x y:Operand) {ty:TypeId} {k k':IntKind} {m n:Int} {r:Value} (ho:o.op=.binOp .eql t x y ty) (hx:a.eval x=.int k m) (hy:a.eval y=.int k' n) (h:(binOp .eql t (.int k m) (.int k' n)).run P w=.ok r w) (hk:K (a.put o.dst r) w):o.wp P a w K Q:=by
 refine qag (v:=r) (w':=w) ?_ hk
 simp [execOp,ho,hx,hy,eqGuard,h]
theorem wrap_u32 {n:Int} (h1:0≤n) (h2:n<4294967296):IntKind.u32.wrap n=n:=by
 unfold IntKind.wrap
 simp [show IntKind.u32.bits=32 from rfl,show IntKind.u32.signed=false from rfl]
 omega
theorem q3k {t:TypeId} (e:Nat) (he:e<4294967296) (w:World):(binOp .rem t (.int .u32 e) (.int .u32 2)).run Tryz.prog w=.ok (.int .u32 ((e%2:Nat):Int)) w:=by
 have h1:(e:Int).tmod 2=((e%2:Nat):Int):=by
  rw [Int.tmod_eq_emod_of_nonneg (by omega)];omega
 have h2:IntKind.u32.wrap ((e:Int).tmod 2)=((e%2:Nat):Int):=by rw [h1,wrap_u32 (by omega) (by omega)]
 simp [binOp,Op.intDiv,h1]
theorem qz9 (k:Nat) (hk:k<4294967296) (w:World):(convert 3 116 (.int .i64 k)).run Tryz.prog w=.ok (.int .u32 k) w:=by
 simp [convert,run_underlying Tryz.underlying3,run_underlying Tryz.underlying116,Conv.intToInt,wrap_u32 (show (0:Int)≤k by omega) (by omega)]
theorem q1l {t:TypeId} (a b:Nat) (w:World):(binOp .eql t (.int .u32 a) (.int .u32 b)).run Tryz.prog w=.ok (.bool (decide (a=b))) w:=by
 simp [binOp,Op.intCmp]
 rw [Bool.eq_iff_iff];simp;omega
theorem q7c (F1 Z:HF) (A:World) (b6 ub k e wh:Nat) (s:Bs) {Q:Exit→Act→World→Prop} {w:World} {u0 u1 u2 u3 u4 u7 u8 u9 u10 u12 u13 u14 u15 u16 u17 u18 u19 u20 u21 u22 u23 u24 u25 u26 u27 u28 u29 u30 u31 u32 u33 u34 u35 u36 u37 u38 u39 u40 u41 u42 u43 u44 u45 u46 u47 u48 u49 u50 u51 u52 u53 u54 u55 u56 u57 u58 u59 u60 u61 u62 u63 u64 u65 u66 u67 u68 u69 u70 u71 u72 u73 u74 u75 u76 u77 u78 u79 u80 u81 u82 u83 u84 u85 u86 u87 u88 u89 u90 u91 u92 u93 u94 u95 u96 u97 u98 u99 u100 u101 u102 u103 u104 u105 u106 u107 u108 u109 u110 u111 u112 u113 u114 u115 u116 u117 u118:Value} {ds:List Deferred} (hT:Turns F1 ((b6,Is (.cells (row8 s) 43 (0,0)))::(ub,Is (useO e wh))::Z) A w) (hs:s=qcc e wh) (hsl:s.length=128) (he:e<4294967296) (hwh:wh<4294967296) (hek:e%2=k) (hk2:k<2)
  (hk:∀ (y76 y77 y78 y79 y80 y81 y82 y83 y84 y85 y86 y87:Value) (w':World),y87=.bool true→Turns F1 ((b6,Is (.cells (row8 s) 43 (0,0)))::(ub,Is (useO e wh))::Z) A w'→Q .normal { tmps:=#[u0,u1,u2,u3,u4,.int .i64 k,.pointer (some ⟨b6,0,none⟩),u7,u8,u9,u10,.pointer (some ⟨ub,0,none⟩),u12,u13,u14,u15,u16,u17,u18,u19,u20,u21,u22,u23,u24,u25,u26,u27,u28,u29,u30,u31,u32,u33,u34,u35,u36,u37,u38,u39,u40,u41,u42,u43,u44,u45,u46,u47,u48,u49,u50,u51,u52,u53,u54,u55,u56,u57,u58,u59,u60,u61,u62,u63,u64,u65,u66,u67,u68,u69,u70,u71,u72,u73,u74,u75,y76,y77,y78,y79,y80,y81,y82,y83,y84,y85,y86,y87,u88,u89,u90,u91,u92,u93,u94,u95,u96,u97,u98,u99,u100,u101,u102,u103,u104,u105,u106,u107,u108,u109,u110,u111,u112,u113,u114,u115,u116,u117,u118],defers:=ds } w') :
  (regOf 22 Tryz.f50).wp Tryz.prog Q { tmps:=#[u0,u1,u2,u3,u4,.int .i64 k,.pointer (some ⟨b6,0,none⟩),u7,u8,u9,u10,.pointer (some ⟨ub,0,none⟩),u12,u13,u14,u15,u16,u17,u18,u19,u20,u21,u22,u23,u24,u25,u26,u27,u28,u29,u30,u31,u32,u33,u34,u35,u36,u37,u38,u39,u40,u41,u42,u43,u44,u45,u46,u47,u48,u49,u50,u51,u52,u53,u54,u55,u56,u57,u58,u59,u60,u61,u62,u63,u64,u65,u66,u67,u68,u69,u70,u71,u72,u73,u74,u75,u76,u77,u78,u79,u80,u81,u82,u83,u84,u85,u86,u87,u88,u89,u90,u91,u92,u93,u94,u95,u96,u97,u98,u99,u100,u101,u102,u103,u104,u105,u106,u107,u108,u109,u110,u111,u112,u113,u114,u115,u116,u117,u118],defers:=ds } w:=by
 have HM:=Lib.hid (show Tryz.prog.follows .mixedOrders=true by kernel_rfl)
 conv=>arg 2;whnf
 refine qbt (A:=?A) (hA:=?hA) HM.out (phiL [fun v=>v=.agg (row8 s),fun v=>v=.agg #[.int .u32 e,.int .u32 wh],fun v=>v=.agg (row8 s),fun v=>v=.bool true,fun v=>v=.bool true,fun v=>v=.pointer (some ⟨ub,0,none⟩),fun v=>v=.int .u32 e,fun v=>v=.int .u32 ((e%2:Nat):Int),fun v=>v=.int .i64 k,fun v=>v=.int .u32 k,fun v=>v=.bool true,fun v=>v=.bool true])
  (fun vs1 W=>match vs1 with
  | []=>Turns F1 ((b6,Is (.cells (row8 s) 43 (0,0)))::(ub,Is (useO e wh))::Z) A W
  | _=>False)
  (fun W=>W.heap[b6]?=some (.cells (row8 s) 43 (0,0))∧W.heap[ub]?=some (useO e wh)) [] ?hC (by kernel_rfl) (by kernel_rfl) (by decide) (by decide) ?h0 ?hs ?he
 case hA=>intro x;simp only [qam,Act.put,List.setIfInBounds_toArray,List.set_cons_zero,List.set_cons_succ,Nat.reduceAdd];rfl
 case hs =>
  refine ⟨qab rfl rfl (fun x wq hd hC K hK hKw=>?_),qab rfl rfl (fun x wq hd hC K hK hKw=>?_),qab rfl rfl (fun x wq hd hC K hK hKw=>?_),qab rfl rfl (fun x wq hd hC K hK hKw=>?_),qab rfl rfl (fun x wq hd hC K hK hKw=>?_),qd3 rfl ?_ (fun x wq hd hC K hK hKw=>?_),qd3 rfl ?_ (fun x wq hd hC K hK hKw=>?_),qd3 rfl ?_ (fun x wq hd hC K hK hKw=>?_),qd3 rfl ?_ (fun x wq hd hC K hK hKw=>?_),qd3 rfl ?_ (fun x wq hd hC K hK hKw=>?_),qd3 rfl ?_ (fun x wq hd hC K hK hKw=>?_),qab rfl rfl (fun x wq hd hC K hK hKw=>?_),trivial⟩
  ·exact wp_load_mid 43 (.tmp 6) rfl b6 0 rfl (s.map enc8) _ (by have:=qdc hC.1 0 128;rwa [List.drop_zero,List.take_of_length_le (by omega)] at this) Tryz.underlying43 rfl (secHi hsl) (hK _ rfl)
  ·exact wp_load_mid 118 (.tmp 11) rfl ub 0 rfl [.int .u32 e,.int .u32 wh] _ (fun j v hv=>qac hC.2 (0+j) (by rw [Nat.zero_add,← Array.getElem?_toList];exact hv)) Tryz.underlying118 rfl (by kernel_rfl) (hK _ rfl)
  ·have h1:x 1=.agg #[.int .u32 e,.int .u32 wh]:=qae hd 1 (by kernel_rfl)
   refine qbe (by rw [h1];kernel_rfl) (qm2 e wh he hwh wq) ?_
   rintro e3 w3 ⟨rfl,hs3⟩
   refine ⟨_,rfl,hKw _ _ (by rw [hs];rfl) ?_⟩
   intro vs hvs
   match vs,hvs with
   | [],hT=>exact hT.thenSame hs3
  ·have h0:x 0=.agg (row8 s):=qae hd 0 (by kernel_rfl)
   have h2:x 2=.agg (row8 s):=qae hd 2 (by kernel_rfl)
   exact w_cmp .eql 43 (.tmp 76) (.tmp 78) _ rfl qla (row8 s) (row8 s) (.bool true) (by rw [q53 s s hsl hsl];simp) (by rw [h0];rfl) (by rw [h2];rfl) (hK _ rfl)
  ·have h3:x 3=.bool true:=qae hd 3 (by kernel_rfl)
   exact qag (by rw [h3];kernel_rfl) (hK _ rfl)
  ·intro x hd
   have hg:=qae hd 4 (by kernel_rfl)
   change x 4=.bool true at hg
   rw [hg]
   first | rfl | simp [Region.wanted,yielded]
  ·exact qag (by kernel_rfl) (hK _ rfl)
  ·intro x hd
   have hg:=qae hd 4 (by kernel_rfl)
   change x 4=.bool true at hg
   rw [hg]
   first | rfl | simp [Region.wanted,yielded]
  ·have h5:x 5=.pointer (some ⟨ub,0,none⟩):=qae hd 5 (by kernel_rfl)
   exact qat Tryz.underlying116 rfl rfl (by rw [h5];rfl) (qac hC.2 0 rfl) (hK _ rfl)
  ·intro x hd
   have hg:=qae hd 4 (by kernel_rfl)
   change x 4=.bool true at hg
   rw [hg]
   first | rfl | simp [Region.wanted,yielded]
  ·have h6:x 6=.int .u32 e:=qae hd 6 (by kernel_rfl)
   exact w_bin .rem 116 116 (.tmp 82) (.const (.int .u32 2)) rfl (by rw [h6];rfl) rfl (q3k e he wq) rfl (hK _ rfl)
  ·intro x hd
   have hg:=qae hd 4 (by kernel_rfl)
   change x 4=.bool true at hg
   rw [hg]
   first | rfl | simp [Region.wanted,yielded]
  ·exact qag (by kernel_rfl) (hK _ rfl)
  ·intro x hd
   have hg:=qae hd 4 (by kernel_rfl)
   change x 4=.bool true at hg
   rw [hg]
   first | rfl | simp [Region.wanted,yielded]
  ·have h8:x 8=.int .i64 k:=qae hd 8 (by kernel_rfl)
   exact q17 3 116 (.tmp 84) rfl (by rw [h8];rfl) (qz9 k (by omega) wq) (hK _ rfl)
  ·intro x hd
   have hg:=qae hd 4 (by kernel_rfl)
   change x 4=.bool true at hg
   rw [hg]
   first | rfl | simp [Region.wanted,yielded]
  ·have h7:x 7=.int .u32 ((e%2:Nat):Int):=qae hd 7 (by kernel_rfl)
   have h9:x 9=.int .u32 k:=qae hd 9 (by kernel_rfl)
   exact w_eqI 116 (.tmp 83) (.tmp 85) rfl (by rw [h7];rfl) (by rw [h9];rfl) (by rw [q1l,hek];simp) (hK _ rfl)
  ·have h4:x 4=.bool true:=qae hd 4 (by kernel_rfl)
   have h10:x 10=.bool true:=qae hd 10 (by kernel_rfl)
   exact qag (by rw [h4,h10];kernel_rfl) (hK _ rfl)
 case hC =>
  intro vs1 W hS
  match vs1,hS with
  | [],hT=>exact ⟨hT.sat.memIs (by simp),hT.sat.memIs (by simp)⟩
 case h0 =>
  exact (show Turns F1 ((b6,Is (.cells (row8 s) 43 (0,0)))::(ub,Is (useO e wh))::Z) A w from hT).drew
 case he =>
  intro x w3 hφ hS
  exact hk (x 0) (x 1) (x 2) (x 3) (x 4) (x 5) (x 6) (x 7) (x 8) (x 9) (x 10) (x 11) w3 (qdo hφ 11 (by decide) (by decide)) hS
def q4g (us:Nat→Option (Nat×Nat)) (z:Bool) (w:World) (e:Ending) (w':World):Prop :=
 ∃ v,e=.returned (.tuple #[v,.bool z,.nilIface])∧useOk v (usTo us 2)∧Turns [] (qga v (usTo us 2)) w w'
def q5l (us:Nat→Option (Nat×Nat)) (now:Bs) (w:World) (l em i:Value) (W:World):Prop :=
 ∃ (k:Nat) (J:HF),k≤2∧i=.int .i64 k∧useOk l (usTo us k)∧em=.bool (qcj now k)∧Turns [] (qga l (usTo us k)++J) w W
def UseAt (now:Bs) (us:Nat→Option (Nat×Nat)) (k:Nat):Prop :=
 (us k=none∧openR (secOf now k)=none)∨(∃ e wh,us k=some (e,wh)∧secOf now k=qcc e wh∧e%2=k∧e<4294967296∧wh<4294967296)
theorem qng (us:Nat→Option (Nat×Nat)) (k:Nat):usTo us (k+1)=usTo us k++(us k).toList:=by
 unfold usTo
 rw [List.range_succ,List.filterMap_append]
 cases h:us k<;>simp [List.filterMap_cons,h]
theorem qrv (e wh:Nat):openR (qcc e wh)=some (77,qbh e wh,17):=by
 unfold qcc
 rw [qgd 77 _ _ (by decide) (by rw [qb3];omega),qb3]
theorem q06 (e wh:Nat):qcc e wh≠zeros 128:=fun h=>by
 have h1:=qrv e wh
 rw [h,qn5] at h1
 cases h1
def ptrsO (ub:Nat):Obj:=.cells #[.pointer (some ⟨ub,0,none⟩),.pointer (some ⟨ub,1,none⟩)] 208 (0,0)
def qvm (G:HF) (ub j x e:Nat) (w:World) (i:Value) (W:World):Prop :=
 ∃ m:Nat,m≤4∧i=.int .i64 m∧Turns [] ((ub,Is (if j=0 then useO (beNat ((be x 4).take m)) 0 else useO e (beNat ((be x 4).take m))))::G) w W
def q43 (G:HF) (ub e wh:Nat) (w:World) (i:Value) (W:World):Prop :=
 ∃ j:Nat,j≤2∧i=.int .i64 j∧Turns [] ((ub,Is (useO (if j=0 then 0 else e) (if j≤1 then 0 else wh)))::G) w W
theorem q0i (us:Nat→Option (Nat×Nat)) (k:Nat):(usTo us k).length≤k:=by
 have:=List.length_filterMap_le us (List.range k)
 rw [List.length_range] at this
 exact this
theorem qz1 (d:Nat) (L:DevL) (us:Nat→Option (Nat×Nat)) (w:World) (h:Sat w (devF d L)) (hL:DevOk L) (hn:16≤L.n) (hU:∀ k,k<2→UseAt L.now us k) (h01:us 0=none∨us 1=none) :
  Calls Tryz.prog 50 #[.pointer (some ⟨d,0,none⟩)] w (q4g us (qcj L.now 2) w):=by
 have HZ:=Lib.hid qjj
 have HC:Hid (∀ (k:Nat) (W:World),k<2→Same w W→Calls Tryz.prog 17 #[.pointer (some ⟨d,0,none⟩),.int .i64 k] W (qgk L k W)):=Lib.hid (fun k W hk hW=>qij d L k W (h.same hW) hL (by omega))
 have HL:Hid (∀ k,k<2→(secOf L.now k).length=128):=Lib.hid (fun k hk=>qfl hL.nowL (by omega))
 have HU:=Lib.hid (And.intro hU h01)
 clear h hL hU h01
 go_enter Tryz.func50,Tryz.ntmps50
 go_wp2_with fail
 go_loopw [2,3,16] (fun l em i wr=>q5l us L.now w l em i wr) (fun _ _ i _=>2-(intOf i).toNat)
 case atStart=>exact ⟨0,[],by omega,rfl,⟨rfl,fun _=>⟨rfl,rfl⟩⟩,by rw [qmx],Turns.refl (Sat.nil w)⟩
 case round =>
  obtain ⟨k,J,hk,rfl,hlo,rfl,hT⟩:=hrel
  by_cases hlt:k<2
  ·have HR:=Lib.hid (HC.out k wr hlt hT.news)
   have HL':=Lib.hid (HL.out k hlt)
   have HZ0:=Lib.hid (qoh (l:=L.now) (k:=k))
   have HZ1:=Lib.hid (qpl (l:=L.now) (k:=k))
   have HUk:=Lib.hid (HU.out.1 k hlt)
   have hsu:=qng us k
   unfold qgk at HR
   unfold UseAt at HUk
   obtain ⟨s,hse⟩:∃ s,s=secOf L.now k:=⟨_,rfl⟩
   obtain ⟨z,hz⟩:∃ z,z=qcj L.now k:=⟨_,rfl⟩
   obtain ⟨z1,hz1⟩:∃ z,z=qcj L.now (k+1):=⟨_,rfl⟩
   rw [← hse] at HR HL' HZ0 HZ1 HUk
   rw [← hz,← hz1] at HZ0
   rw [← hz1] at HZ1
   rw [← hz]
   have H1:=Lib.hid (And.intro hz1 (And.intro hlo (And.intro hT hsu)))
   clear hT hlo HC HL hse hz hz1 hsu
   go_wp2_with fail
   refine HR.out.mono ?_
   rintro e w2 ⟨rfl,hs2⟩
   have hb:=qa7 w2 (.cells (row8 (zeros 128)) 43)
   obtain ⟨q1,q2⟩:=qcs hb (s:=s) (by rw [HL'.out,qan])
   have hTs:Turns [] ((w2.heap.size,Is (.cells (row8 s) 43 (0,0)))::(qga u2 (usTo us k)++J)) w ((w2.alloc (.cells (row8 (zeros 128)) 43)).setCells w2.heap.size 0 (s.map enc8)):=((H1.out.2.2.1.thenSame hs2).allocIs (.cells (row8 (zeros 128)) 43)).putIs q2 q1
   have hth:(w2.alloc (.cells (row8 (zeros 128)) 43)).there w2.heap.size 0 (row8 s).size:=by rw [qbn,HL'.out];exact qdg hb 0 128 (by rw [qan];omega)
   have hrg:((w2.alloc (.cells (row8 (zeros 128)) 43)).setCells w2.heap.size 0 (s.map enc8)).rangeAt w2.heap.size 0 (s.map enc8):=by
    have:=qdc q1 0 128
    rwa [List.drop_zero,List.take_of_length_le (by rw [HL'.out];omega)] at this
   have HN:=Lib.hid (fun W=>qxg s (zeros 128) HL'.out (qan _) W)
   obtain ⟨W4,hW4⟩:∃ W,(w2.alloc (.cells (row8 (zeros 128)) 43)).setCells w2.heap.size 0 (s.map enc8)=W:=⟨_,rfl⟩
   rw [hW4] at q1 hTs hrg
   have H3:=Lib.hid (And.intro q1 (And.intro hTs hrg))
   have HT:=Lib.hid hth
   have HW:=Lib.hid hW4
   have hb6l:w2.heap.size<W4.heap.size:=qal q1
   clear q1 q2 hb hTs hs2 hth hrg hW4
   have hz:=qir
   have hop:Calls Tryz.prog 97 #[.slice (some ⟨w2.heap.size,0,none⟩) 128 128] W4 (qc4 (some ⟨w2.heap.size,0,none⟩) s W4):=by
    have:=qge (some ⟨w2.heap.size,0,none⟩) 128 s W4 (fun hp=>⟨w2.heap.size,0,rfl,fun j hj=>by rw [Nat.zero_add];exact qac H3.out.1 j (by rw [qdw s j (by simpa using hj)];simp)⟩) (by rw [HL'.out];omega) (by rw [HL'.out];omega)
    rwa [HL'.out] at this
   rcases HUk.out with ⟨huk,hno⟩ | ⟨e,wh,huk,hsu,hek,he,hwh⟩
   ·unfold qc4 at hop
    rw [hno] at hop
    have HP:=Lib.hid hop
    have HK:=Lib.hid huk
    clear hop hno huk
    go_wp2_with (first | (refine wpList_store_mid rfl 43 (.tmp 6) (.tmp 23) rfl w2.heap.size 0 (row8 s) rfl rfl HT.out (secHr HL'.out) (qcf _) ?_;change wpList _ _ _ _ _ (World.setCells (w2.alloc (.cells (row8 (zeros 128)) 43)) w2.heap.size 0 (s.map enc8));rw [HW.out]) | (refine wpList_load_mid rfl 43 (.tmp 6) rfl w2.heap.size 0 rfl (s.map enc8) _ H3.out.2.2 Tryz.underlying43 rfl (secHi HL'.out) ?_) | (refine qby rfl 43 #[] rfl (row8 (zeros 128)) HZ.out ?_) | (refine qlk rfl .neq 43 (.tmp 28) (.tmp 29) _ rfl qla _ _ (.bool (!decide (s=zeros 128))) (HN.out _) rfl rfl ?_))
    all_goals
     first
     | (
      have hne:s≠zeros 128:=by
       have:(!decide (s=zeros 128))=true:=by assumption
       simpa using this
      have HE:=Lib.hid (HZ1.out hne))
     | (
      have hne:s=zeros 128:=by
       have:(!decide (s=zeros 128))=false:=by assumption
       simpa using this
      have HE:=Lib.hid (HZ0.out hne))
     clear hne
     refine HP.out.mono ?_
     rintro e w5 ⟨rfl,hs5⟩
     have H5:=Lib.hid (H3.out.2.1.thenSame hs5)
     clear hs5
     go_wp2_with fail
     go_roundw
     case rel=>exact ⟨k+1,(w2.heap.size,Is (.cells (row8 s) 43 (0,0)))::J,by omega,by go_num,by rw [H1.out.2.2.2,HK.out];simpa using H1.out.2.1,by rw [← H1.out.1,HE.out],by rw [H1.out.2.2.2,HK.out];exact H5.out.to (by simp only [Option.toList_none,List.append_nil];exact (qaf fun _=>by simp only [qad,qaa,qah]<;>omega))⟩
     case measure=>simp [intOf];omega
   ·have hop2:openR s=some (77,qbh e wh,17):=by rw [hsu];exact qrv e wh
    have hne:s≠zeros 128:=by rw [hsu];exact q06 e wh
    have HE:=Lib.hid (HZ1.out hne)
    have hne2:(!decide (s=zeros 128))=true:=by simp [hne]
    have HNE:=Lib.hid hne2
    unfold qc4 at hop
    rw [hop2] at hop
    have HP:=Lib.hid hop
    have HK:=Lib.hid (And.intro huk (And.intro hsu hek))
    have hbl:=qb3 e wh
    clear hop hop2 huk hsu hek hne hne2
    go_wp2_with (first | (refine wpList_store_mid rfl 43 (.tmp 6) (.tmp 23) rfl w2.heap.size 0 (row8 s) rfl rfl HT.out (secHr HL'.out) (qcf _) ?_;change wpList _ _ _ _ _ (World.setCells (w2.alloc (.cells (row8 (zeros 128)) 43)) w2.heap.size 0 (s.map enc8));rw [HW.out]) | (refine wpList_load_mid rfl 43 (.tmp 6) rfl w2.heap.size 0 rfl (s.map enc8) _ H3.out.2.2 Tryz.underlying43 rfl (secHi HL'.out) ?_) | (refine qby rfl 43 #[] rfl (row8 (zeros 128)) HZ.out ?_) | (refine qlk rfl .neq 43 (.tmp 28) (.tmp 29) _ rfl qla _ _ (.bool true) ((HN.out _).trans (by rw [HNE.out])) rfl rfl ?_))
    refine HP.out.mono ?_
    rintro e5 w5 ⟨a2,rfl,hb2,ha2,hs5⟩
    rw [hbl]
    obtain ⟨g2,off2,hg2,hc2⟩:=hb2 (by rw [List.length_map,hbl];omega)
    subst hg2
    obtain ⟨y2,hy2,hgy⟩:=ha2 _ rfl
    simp only [Option.some.injEq] at hy2
    subst hy2
    simp only at hgy
    subst hgy
    have H5:=Lib.hid (And.intro (H3.out.2.1.thenSame hs5) hc2)
    clear hb2 ha2 hs5 hc2
    have hk77:(((77:UInt8).toNat:Nat):Int)=77:=rfl
    rw [hk77]
    go_wp2_with fail
    obtain ⟨b6,hb6⟩:∃ b6,b6=w2.heap.size:=⟨_,rfl⟩
    have hby:∀ (q:Nat) (hq:q<8) (W:World),W.heap[b6]?=some (.cells (row8 s) 43 (0,0))→W.cell? ⟨b6,off2+q,none⟩=some (.int .u8 (((qbh e wh)[q]'(by rw [hbl];exact hq)).toNat:Int)):=fun q hq W hW=>by
     have h1:=H5.out.2 q (by rw [List.length_map,hbl];exact hq)
     rw [List.getElem_map] at h1
     rw [hb6] at hW ⊢
     exact (World.cell?_of_block (hW.trans (H5.out.1.sat.memIs (b:=w2.heap.size) (o:=.cells (row8 s) 43 (0,0)) (by simp)).symm)).trans h1
    have HBy:=Lib.hid hby
    obtain ⟨ub,hub⟩:∃ ub,ub=w5.heap.size:=⟨_,rfl⟩
    obtain ⟨pb,hpb⟩:∃ pb,pb=w5.heap.size+1:=⟨_,rfl⟩
    obtain ⟨G,hG⟩:∃ G:HF,G=(pb,Is (ptrsO ub))::(b6,Is (.cells (row8 s) 43 (0,0)))::(qga u2 (usTo us k)++J):=⟨_,rfl⟩
    have HG:=Lib.hid hG
    have hTu:Turns [] ((ub,Is (useO 0 0))::G) w ((w5.alloc (useO 0 0)).alloc (ptrsO ub)):=by
     have h1:=(H5.out.1.allocIs (useO 0 0)).allocIs (ptrsO ub)
     rw [World.size_alloc,← hpb,← hub] at h1
     rw [hG,hb6]
     exact h1.to (qaf fun _=>by simp only [qad,qaa,qah]<;>omega)
    have HTu:=Lib.hid (And.intro hTu (And.intro hub (And.intro hpb hb6)))
    clear hby hG hTu
    rw [← hpb,← hub,← hb6]
    clear hpb hub hb6
    go_loopw [48] (fun i wr=>q43 G ub e wh w i wr) (fun i _=>2-(intOf i).toNat)
    case atStart =>
     refine ⟨0,by omega,rfl,?_⟩
     have h1:=HTu.out.1
     rw [HTu.out.2.1] at h1 ⊢
     exact h1
    case round =>
     obtain ⟨j,hj,rfl,hT⟩:=hrel
     rcases (show j=0∨j=1∨j=2 by omega) with rfl | rfl | rfl
     ·have hTj:=hT.to (H:=(ub,Is (useO 0 0))::G) (List.Perm.refl _)
      have p0:wr.cell? ⟨pb,0,none⟩=some (.pointer (some ⟨ub,0,none⟩)):=qac (hTj.sat.memIs (b:=pb) (o:=ptrsO ub) (by rw [HG.out];simp)) 0 rfl
      have hpl:=hTj.sat.lt (b:=pb) (by rw [HG.out];simp)
      have HTj:=Lib.hid hTj
      clear hT hTj
      go_wp2_with fail
      go_loopw [61] (fun i wr=>qvm G ub 0 e e w i wr) (fun i _=>4-(intOf i).toNat)
      case atStart=>exact ⟨0,by omega,rfl,HTj.out⟩
      case round =>
       obtain ⟨m,hm,rfl,hT3⟩:=hrel
       by_cases hm4:m<4
       ·have hby:=HBy.out (m) (by omega) wr (hT3.sat.memIs (by rw [HG.out];simp))
        obtain ⟨x8,hx8⟩:∃ x8,x8=((qbh e wh)[m]'(by rw [hbl];omega)).toNat:=⟨_,rfl⟩
        have hx8l:x8<256:=by rw [hx8];exact UInt8.toNat_lt _
        rw [← hx8] at hby
        have hql:beNat ((be e 4).take m)<16777216:=by
         have h1:=qfm ((be e 4).take m)
         have h2:((be e 4).take m).length≤3:=by simp;omega
         have h3:(256:Nat) ^ ((be e 4).take m).length≤256 ^ 3:=Nat.pow_le_pow_right (by omega) h2
         omega
        have hnx:beNat ((be e 4).take (m+1))=beNat ((be e 4).take m)*256+x8:=by
         rw [List.take_succ_eq_append_getElem (by rw [qbv];exact hm4),qky,hx8]
         congr 2
         simp only [qbh];rw [List.getElem_append_left (by rw [qbv];exact hm4)]
        obtain ⟨q,hq⟩:∃ q,q=beNat ((be e 4).take m):=⟨_,rfl⟩
        rw [← hq] at hql hnx hT3
        have hor:=qri q x8 (by omega) hx8l
        have hub3:=hT3.sat.headIs
        have c3:wr.cell? ⟨ub,0,none⟩=some (.int .u32 q):=qac hub3 0 rfl
        have hul3:=qal hub3
        have H6:=Lib.hid (And.intro hnx hT3)
        have s1:IntKind.u32.wrap ((q:Int)*256)=(q:Int)*256:=wrap_u32 (by omega) (by omega)
        clear hx8 hq hnx hT3 hub3
        go_wp2_with (first | (refine qak rfl (qa0 116 (.tmp 73) (.tmp 72) rfl ub 0 #[.int .u32 q,.int .u32 0] 118 (.int .u32 ((q*256+x8:Nat):Int)) H6.out.2 rfl rfl (by simp) (by kernel_rfl) rfl rfl ?_);intro w7 hT7;have HT7:=Lib.hid hT7;clear hT7;simp only [Act.put]) | fail)
        go_roundw
        case rel=>exact ⟨m+1,by omega,by go_num,by rw [H6.out.1];exact HT7.out⟩
        case measure=>simp [intOf];omega
       ·obtain rfl:m=4:=by omega
        have hx4:beNat ((be e 4).take 4)=e:=by rw [List.take_of_length_le (by rw [qbv];omega),qk3];exact Nat.mod_eq_of_lt (by omega)
        rw [hx4] at hT3
        have HT3:=Lib.hid hT3
        clear hT3 hx4
        go_wp2_with fail
        go_roundw
        case rel=>exact ⟨0+1,by omega,by go_num,HT3.out⟩
        case measure=>simp [intOf]
     ·have hTj:=hT.to (H:=(ub,Is (useO e 0))::G) (List.Perm.refl _)
      have p0:wr.cell? ⟨pb,1,none⟩=some (.pointer (some ⟨ub,1,none⟩)):=qac (hTj.sat.memIs (b:=pb) (o:=ptrsO ub) (by rw [HG.out];simp)) 1 rfl
      have hpl:=hTj.sat.lt (b:=pb) (by rw [HG.out];simp)
      have HTj:=Lib.hid hTj
      clear hT hTj
      go_wp2_with fail
      go_loopw [61] (fun i wr=>qvm G ub 1 wh e w i wr) (fun i _=>4-(intOf i).toNat)
      case atStart=>exact ⟨0,by omega,rfl,HTj.out⟩
      case round =>
       obtain ⟨m,hm,rfl,hT3⟩:=hrel
       by_cases hm4:m<4
       ·have hby:=HBy.out (4+m) (by omega) wr (hT3.sat.memIs (by rw [HG.out];simp))
        obtain ⟨x8,hx8⟩:∃ x8,x8=((qbh e wh)[4+m]'(by rw [hbl];omega)).toNat:=⟨_,rfl⟩
        have hx8l:x8<256:=by rw [hx8];exact UInt8.toNat_lt _
        rw [← hx8] at hby
        rw [← Nat.add_assoc] at hby
        have hql:beNat ((be wh 4).take m)<16777216:=by
         have h1:=qfm ((be wh 4).take m)
         have h2:((be wh 4).take m).length≤3:=by simp;omega
         have h3:(256:Nat) ^ ((be wh 4).take m).length≤256 ^ 3:=Nat.pow_le_pow_right (by omega) h2
         omega
        have hnx:beNat ((be wh 4).take (m+1))=beNat ((be wh 4).take m)*256+x8:=by
         rw [List.take_succ_eq_append_getElem (by rw [qbv];exact hm4),qky,hx8]
         congr 2
         simp only [qbh];rw [List.getElem_append_right (by rw [qbv];omega)];simp [qbv]
        obtain ⟨q,hq⟩:∃ q,q=beNat ((be wh 4).take m):=⟨_,rfl⟩
        rw [← hq] at hql hnx hT3
        have hor:=qri q x8 (by omega) hx8l
        have hub3:=hT3.sat.headIs
        have c3:wr.cell? ⟨ub,1,none⟩=some (.int .u32 q):=qac hub3 1 rfl
        have hul3:=qal hub3
        have H6:=Lib.hid (And.intro hnx hT3)
        have s1:IntKind.u32.wrap ((q:Int)*256)=(q:Int)*256:=wrap_u32 (by omega) (by omega)
        clear hx8 hq hnx hT3 hub3
        go_wp2_with (first | (refine qak rfl (qa0 116 (.tmp 73) (.tmp 72) rfl ub 1 #[.int .u32 e,.int .u32 q] 118 (.int .u32 ((q*256+x8:Nat):Int)) H6.out.2 rfl rfl (by simp) (by kernel_rfl) rfl rfl ?_);intro w7 hT7;have HT7:=Lib.hid hT7;clear hT7;simp only [Act.put]) | fail)
        go_roundw
        case rel=>exact ⟨m+1,by omega,by go_num,by rw [H6.out.1];exact HT7.out⟩
        case measure=>simp [intOf];omega
       ·obtain rfl:m=4:=by omega
        have hx4:beNat ((be wh 4).take 4)=wh:=by rw [List.take_of_length_le (by rw [qbv];omega),qk3];exact Nat.mod_eq_of_lt (by omega)
        rw [hx4] at hT3
        have HT3:=Lib.hid hT3
        clear hT3 hx4
        go_wp2_with fail
        go_roundw
        case rel=>exact ⟨1+1,by omega,by go_num,HT3.out⟩
        case measure=>simp [intOf]
     ·have HT9:=Lib.hid (show Turns [] ((ub,Is (useO e wh))::G) w wr from hT)
      clear hT
      go_upto_region 22 with (fail)
      have hT9:=HT9.out.to (H:=(b6,Is (.cells (row8 s) 43 (0,0)))::(ub,Is (useO e wh))::((pb,Is (ptrsO ub))::(qga u2 (usTo us k)++J))) (by rw [HG.out];exact (qaf fun _=>by simp only [qad,qaa,qah]<;>omega))
      refine q7c [] ((pb,Is (ptrsO ub))::(qga u2 (usTo us k)++J)) w b6 ub k e wh s hT9 HK.out.2.1 HL'.out he hwh HK.out.2.2 hlt ?_
      intro _ _ _ _ _ _ _ _ _ _ _ y87 w9 h87 hTA
      obtain rfl:=h87
      have hu9:=hTA.sat.memIs (b:=ub) (o:=useO e wh) (by simp)
      have f0:w9.cell? ⟨ub,0,none⟩=some (.int .u32 e):=qac hu9 0 rfl
      have f1:w9.cell? ⟨ub,1,none⟩=some (.int .u32 wh):=qac hu9 1 rfl
      have hul9:=qal hu9
      have hTA2:=hTA.to (H:=qga u2 (usTo us k)++((b6,Is (.cells (row8 s) 43 (0,0)))::(ub,Is (useO e wh))::((pb,Is (ptrsO ub))::J))) (qaf fun _=>by simp only [qad,qaa,qah]<;>omega)
      have HTA:=Lib.hid hTA2
      have hul:=q0i us k
      clear hT9 hTA hTA2 hu9
      go_wp2_with (first | (at_builtin;refine qak rfl ?_;refine qtg (.tmp 88) (.tmp 90) rfl _ (usTo us k) rfl (HTA.out.alloc _) H1.out.2.1 _ 1 1 rfl [(e,wh)] rfl (fun _=>⟨_,rfl,fun j u hu=>qff _ _ _ j u (by simpa [useV] using hu)⟩) (by simp;omega) ?_;intro v10 w10 hok10 hT10;have H10:=Lib.hid (And.intro hok10 hT10);clear hok10 hT10) | fail)
      go_roundw
      case rel=>exact ⟨k+1,(b6,Is (.cells (row8 s) 43 (0,0)))::(ub,Is (useO e wh))::((pb,Is (ptrsO ub))::J),by omega,by go_num,by rw [H1.out.2.2.2,HK.out.1];exact H10.out.1,by rw [← H1.out.1,HE.out],by rw [H1.out.2.2.2,HK.out.1];exact H10.out.2⟩
      case measure=>simp [intOf];omega
  ·obtain rfl:k=2:=by omega
   have HS:=Lib.hid (And.intro hlo hT)
   clear hlo hT HC HL
   have hlen:(usTo us 2).length≤1:=by
    have h0:=qng us 1
    have h1:=qng us 0
    have h2:usTo us 0=[]:=rfl
    rw [h1,h2] at h0
    rw [h0]
    rcases HU.out.2 with h | h<;>rw [h]
    ·cases us 1<;>simp
    ·cases us 0<;>simp
   obtain ⟨-,-,sl,cap,e1,-,-⟩:=qdv HS.out.2.sat.left HS.out.1
   obtain ⟨m,hm⟩:∃ m,m=(usTo us 2).length:=⟨_,rfl⟩
   rw [← hm] at e1 hlen
   have hne:((m:Int)==2)=false:=by simp;omega
   have hne2:¬ ((m:Int)=2):=by omega
   have HM:=Lib.hid (And.intro hm e1)
   clear hm
   subst e1
   go_wp2_with fail
   go_quiet (fail)
   go_wp2_with fail
   go_ret3
   exact ⟨.slice sl m cap,rfl,HS.out.1,(HS.out.2.drewN _).drop (fun x=>by simp only [qaa];omega)⟩
end Go.Proofs.YtdhobpbngkainaaGreatDoor
namespace Go.Proofs.YtdhobpbngkainaaGreatDoor
open Go.RowKit Go.Maps
theorem q0u {W W':World} {a:Option Addr} {xs:List Value} (h:qaj W a xs) (he:∀ x,a=some x→W'.heap[x.block]?=W.heap[x.block]?):qaj W' a xs:=fun hp=>by
 obtain ⟨g,off,ha,hc⟩:=h hp
 refine ⟨g,off,ha,fun j hj=>?_⟩
 rw [← hc j hj]
 exact World.cell?_of_block (he ⟨g,off,none⟩ ha)
theorem qyl (w:World):(Instr.typeAssert .nilIface 215 173 true).run Tryz.prog w=.ok (.tuple #[.agg #[.int .u8 0,.string ⟨#[]⟩,.int .i64 0,.int .i64 0,.slice none 0 0],.bool false]) w:=by kernel_rfl
theorem qy9 (w:World):(Instr.typeAssert .nilIface 215 286 true).run Tryz.prog w=.ok (.tuple #[.agg #[.int .u8 0,.string ⟨#[]⟩,.slice none 0 0],.bool false]) w:=by kernel_rfl
theorem qyh (w:World):(Instr.typeAssert .nilIface 215 233 true).run Tryz.prog w=.ok (.tuple #[.agg #[.int .u8 0,.string ⟨#[]⟩,.string ⟨#[]⟩,.int .i64 0],.bool false]) w:=by kernel_rfl
theorem qsz (a sm:Nat) (w:World):Calls Tryz.prog 100 #[.pointer (some ⟨a,0,none⟩),.nilIface,.map (some sm)] w (fun e w'=>e=.returned (.bool false)∧Same w w'):=by
 have h1:=qyl w
 have h2:=qy9 w
 have h3:=qyh w
 go_enter Tryz.func100,Tryz.ntmps100
 go_wp2_with fail
 exact bodyPost_ret (results_tmp rfl _ _ _) rfl ⟨rfl,Mods.refl _ _⟩
def ctF (a:Nat) (X:ArchL) (ps:List PathL) (pc:Nat) (cs:List ChkL) (cc:Nat):HF:=(a,Is (archO X))::(qbc X.pm ps pc++qbd X.cm cs cc)
def newX (X:ArchL) (u s b:Int):ArchL:={ X with used:=u,sc:=s,sb:=b }
theorem q0r {X:ArchL} (h:X.used=0∧X.sc=0∧X.sb=0):newX X 0 0 0=X:=by
 cases X
 obtain ⟨h1,h2,h3⟩:=h
 simp only at h1 h2 h3
 subst h1;subst h2;subst h3
 rfl
def qlf (D:Bs):Prop:=∀ at_ K H,Reach D at_ K H→K.length≤90000∧H.length≤90000∧∀ k body n,openR (D.drop at_)=some (k,body,n)→k=1∨k=2
def qnj (a:Nat) (X:ArchL) (D:Bs) (g:Nat) (o:Obj) (w:World) (e:Ending) (w':World):Prop :=
 ∃ at_ K H u s b ps pc cs cc sz szc,e=.returned (.int .i64 (at_:Nat))∧CtOk D (newX X u s b) ps pc cs cc sz szc at_ K H∧qnh D at_ K ∧
  Turns (ctF a X [] 0 [] 0++[(g,Is o)]) (ctF a (newX X u s b) ps pc cs cc++[(g,Is o)]) w w'
def q7i (a:Nat) (X:ArchL) (D:Bs) (g:Nat) (o:Obj) (sm:Nat) (w:World) (t:Value) (W:World):Prop :=
 ∃ at_ K H u s b ps pc cs cc sz szc J,t=.int .i64 (at_:Nat)∧CtOk D (newX X u s b) ps pc cs cc sz szc at_ K H ∧
  Turns (ctF a X [] 0 [] 0++[(g,Is o)]) (ctF a (newX X u s b) ps pc cs cc++((sm,Is (mapO encI sz szc))::(g,Is o)::J)) w W
theorem qth (l:Bs) (bad:Bool) (n:Nat):rdNum l bad n<256 ^ n:=by
 unfold rdNum
 split
 ·exact Nat.pow_pos (by omega)
 ·have h1:=qfm (l.take n)
  exact Nat.lt_of_lt_of_le h1 (Nat.pow_le_pow_right (by omega) (by simp;omega))
theorem qwu {l:Bs}:∀ x∈nums4 l,0≤x∧x≤4294967296:=fun x hx=>by
 unfold nums4 at hx
 obtain ⟨i,-,rfl⟩:=List.mem_map.1 hx
 have h1:=qfm ((l.drop (4*i)).take 4)
 have h2:256 ^ ((l.drop (4*i)).take 4).length≤256 ^ 4:=Nat.pow_le_pow_right (by omega) (by simp;omega)
 omega
theorem qoc {body:Bs} {r:RecR} (h:readR 2 body=some r):∃ p num size ats,r=.ver p num size ats∧p.length≤255∧num<4294967296∧size≤65535∧(∀ x∈ats,0≤x∧x≤4294967296)∧ats.length≤body.length:=by
 rw [qnk] at h
 split at h
 ·simp only [Option.some.injEq] at h
  refine ⟨_,_,_,_,h.symm,q0m _ _,?_,?_,qwu,?_⟩
  ·exact Nat.lt_of_lt_of_le (qth _ _ _) (by omega)
  ·have:=qth (rN (rT (body,false)) 4).1 (rN (rT (body,false)) 4).2 2;omega
  ·rw [qhx]
   have h1:(rN (rN (rT (body,false)) 4) 2).1.length≤body.length:=Nat.le_trans (qea _ _ _) (Nat.le_trans (qea _ _ _) (qna _ _))
   omega
 ·cases h
theorem qyg {D:Bs} {K:KL} {H:List HV} {at_:Nat} (h:Reach D at_ K H):∀ x∈H,x.size≤65535:=by
 induction h with
 | zero=>intro x hx;cases hx
 | chunk _ _ ih=>exact ih
 | ver _ _ hr _ _ ih =>
  intro x hx
  rcases List.mem_append.1 hx with hx | hx
  ·exact ih x hx
  ·obtain rfl:=List.mem_singleton.1 hx
   obtain ⟨_,_,_,_,e,_,_,h4,_⟩:=qoc hr
   simp only [RecR.ver.injEq] at e
   obtain ⟨-,-,rfl,-⟩:=e
   exact h4
theorem qo6 {α:Type} {f:α→Nat} {m:Nat}:∀ {l:List α},(∀ x∈l,f x≤m)→(l.map f).sum≤m*l.length
 | [],_=>by simp
 | a::l,h=>by
  have h1:=h a (by simp)
  have h2:=qo6 (l:=l) (fun x hx=>h x (by simp [hx]))
  simp only [List.map_cons,List.sum_cons,List.length_cons,Nat.mul_add,Nat.mul_one]
  omega
theorem CtOk.bounds {D:Bs} {X:ArchL} {ps:List PathL} {pc:Nat} {cs:List ChkL} {cc:Nat} {sz:List (Ent Int)} {szc at_:Nat} {K:KL} {H:List HV} (h:CtOk D X ps pc cs cc sz szc at_ K H) (hR:qlf D) :
  (0≤X.used∧X.used≤65535*90000)∧(0≤X.sc∧X.sc≤90000)∧(0≤X.sb∧X.sb≤65535*90000)∧(∀ k,(qa5 cs k).length≤90000)∧(∀ l,(qaq ps l).length≤90000)∧(∀ a s,szOf K a=some s→s≤65535):=by
 obtain ⟨h1,h2,-⟩:=hR _ _ _ h.reach
 have h3:=qo6 (l:=H) (f:=(·.size)) (qyg h.reach)
 have h4:=qo6 (l:=K) (f:=(·.1.length)) (m:=65535) (fun e he=>(h.kat e he).2.1)
 refine ⟨by rw [h.used];omega,by rw [h.sc];omega,by rw [h.sb];omega,fun k=>?_,fun l=>?_,fun a s hs=>?_⟩
 ·have:=(h.kin k).length_eq
  rw [List.length_map] at this
  have:=List.length_filter_le (fun e=>decide (keyB e.1=k)) K
  omega
 ·have:=congrArg List.length (h.hist l)
  rw [List.length_map,List.length_map] at this
  have:=List.length_filter_le (fun h=>decide (h.p=l)) H
  omega
 ·obtain ⟨e,he,h5⟩:=qvh hs
  have h6:=h.kat e he
  rw [h5] at h6
  simp only at h6
  omega
theorem qu6 (a:Nat) (X:ArchL) (D:Bs) (g off cap:Nat) (o:Obj) (w:World) (h:Sat w (ctF a X [] 0 [] 0++[(g,Is o)])) (hX:X.used=0∧X.sc=0∧X.sb=0) (hD:∀ W:World,W.heap[g]?=some o→qaj W (some ⟨g,off,none⟩) (D.map enc8)) (hcap:D.length≤cap) (hl:D.length≤1073741824) (hR:qlf D) :
  Calls Tryz.prog 55 #[.pointer (some ⟨a,0,none⟩),.slice (some ⟨g,off,none⟩) D.length cap] w (qnj a X D g o w):=by
 obtain ⟨F1,hF1⟩:∃ F1,F1=ctF a X [] 0 [] 0++[(g,Is o)]:=⟨_,rfl⟩
 have HH:=Lib.hid (And.intro h (And.intro hX (And.intro hD (And.intro hR hF1))))
 have hT0:Turns F1 F1 w w:=by rw [hF1];exact Turns.refl h
 have H0:=Lib.hid hT0
 clear h hX hD hR hF1 hT0
 go_enter Tryz.func55,Tryz.ntmps55
 go_wp2_with ((refine qak rfl (qo4 212 rfl H0.out ?_);intro sm w1 hT1;have H1:=Lib.hid hT1;clear hT1;simp only [Act.put]))
 go_loopw [5] (fun t wr=>q7i a X D g o sm w t wr) (fun t _=>D.length-(intOf t).toNat)
 case atStart =>
  refine ⟨0,[],[],0,0,0,[],0,[],0,[],0,[],rfl,⟨.zero,Nat.zero_le _,⟨⟨List.nodup_nil,List.nodup_nil,(fun e he=>by cases he),(fun e he=>by cases he)⟩,(fun p hp=>by cases hp)⟩,⟨⟨List.nodup_nil,List.nodup_nil,(fun e he=>by cases he),(fun e he=>by cases he)⟩,(fun p hp=>by cases hp)⟩,fun k=>List.Perm.refl _,(fun e he=>by cases he),fun l=>rfl,(fun p hp=>by cases hp),(fun e he=>by cases he),rfl,rfl,rfl,⟨List.nodup_nil,List.nodup_nil,(fun e he=>by cases he),(fun e he=>by cases he)⟩,fun k=>rfl⟩,?_⟩
  have hx:newX X 0 0 0=X:=q0r HH.out.2.1
  rw [hx,← HH.out.2.2.2.2]
  exact H1.out.to (by rw [HH.out.2.2.2.2];show List.Perm _ (ctF a X [] 0 [] 0++((sm,Is (.map #[] 0))::(g,Is o)::[]));exact (qaf fun _=>by simp only [qad,qaa,qah]<;>omega))
 case round =>
  obtain ⟨at_,K,H,us,sc,sb,ps,pc,cs,cc,sz,szc,J,rfl,hct,hT⟩:=hrel
  rw [← HH.out.2.2.2.2] at hT
  have hle:=hct.le
  have hgo:=hT.sat.memIs (b:=g) (o:=o) (by simp)
  have hgl:=qal hgo
  obtain ⟨a1,ha1,hc1⟩:∃ a1:Option Addr,a1=(if cap=at_ then some ⟨g,off,none⟩ else some ⟨g,off+at_,none⟩)∧qaj wr a1 ((D.drop at_).map enc8):=by
   refine ⟨_,rfl,?_⟩
   by_cases he:cap=at_
   ·rw [if_pos he,List.drop_eq_nil_of_le (by omega)];exact qbr _ _
   ·rw [if_neg he];exact qd6 (HH.out.2.2.1 wr hgo) at_ hle
  have ha1b:∀ x,a1=some x→x.block=g:=fun x hx=>by
   rw [ha1] at hx
   split at hx<;>(simp only [Option.some.injEq] at hx;subst hx;rfl)
  have HO:=qge a1 (cap-at_) (D.drop at_) wr hc1 (by rw [List.length_drop];omega) (by rw [List.length_drop];omega)
  rw [List.length_drop] at HO
  obtain ⟨rd,hrd⟩:∃ rd,rd=D.length-at_:=⟨_,rfl⟩
  have hbnd:=hct.bounds HH.out.2.2.2.1
  unfold qc4 at HO
  have HHO:=Lib.hid HO
  have HR:=Lib.hid (And.intro hct (And.intro hT (And.intro ha1b (And.intro hgo hbnd))))
  clear hct hT hgo hc1 ha1b HO hbnd
  cases hop:openR (D.drop at_) with
  | none =>
   have HO2:=HHO.out
   rw [hop] at HO2
   have hfin:∀ w':World,Same wr w'→qnj a X D g o w (.returned (.int .i64 at_)) w':=fun w' hs =>
    ⟨at_,K,H,us,sc,sb,ps,pc,cs,cc,sz,szc,rfl,HR.out.1,.inl hop,by rw [← HH.out.2.2.2.2];exact (HR.out.2.1.thenSame hs).drop (fun x=>by simp only [qad,qaa,qah];omega)⟩
   have HFin:=Lib.hid hfin
   clear hfin HHO hop
   by_cases he:cap=at_
   ·rw [if_pos he] at ha1
    subst ha1
    rw [he,Nat.sub_self,show D.length-at_=0 by omega] at HO2
    have HO:=Lib.hid HO2
    clear HO2 hrd
    subst he
    go_wp2_with fail
    refine HO.out.mono ?_
    rintro e w2 ⟨rfl,hs⟩
    have HS:=Lib.hid hs
    clear hs
    go_wp2_with fail
    exact bodyPost_ret (results_tmp rfl _ _ _) rfl (by exact HFin.out _ HS.out)
   ·rw [if_neg he] at ha1
    have he2:¬ at_=cap:=fun h=>he h.symm
    subst ha1
    have HO:=Lib.hid HO2
    clear HO2 hrd
    go_wp2_with fail
    refine HO.out.mono ?_
    rintro e w2 ⟨rfl,hs⟩
    have HS:=Lib.hid hs
    clear hs
    go_wp2_with fail
    exact bodyPost_ret (results_tmp rfl _ _ _) rfl (by exact HFin.out _ HS.out)
  | some r =>
   obtain ⟨k,body,n⟩:=r
   have HO2:=HHO.out
   rw [hop] at HO2
   have HO:=Lib.hid HO2
   clear HO2 HHO
   obtain ⟨hk0,hn,hnl,-,hbl⟩:=qez hop
   rw [List.length_drop] at hnl
   have he:¬ cap=at_:=by omega
   have he2:¬ at_=cap:=by omega
   rw [if_neg he] at ha1
   subst ha1
   have hk:=(HH.out.2.2.2.1 _ _ _ HR.out.1.reach).2.2 _ _ _ hop
   go_wp2_with fail
   refine HO.out.mono ?_
   rintro e w2 ⟨a2,rfl,hb2,ha2,hs2⟩
   have hg2:∀ x,a2=some x→x.block=g:=fun x hx=>by
    obtain ⟨y,hy,hxy⟩:=ha2 x hx
    rw [hxy];exact HR.out.2.2.1 y hy
   have hT2:=HR.out.2.1.thenSame hs2
   have HX:=Lib.hid (And.intro hb2 (And.intro hg2 (And.intro hT2 (And.intro hop hbl))))
   clear hb2 ha2 hs2 hg2 hT2 hop hk0
   have hsum:IntKind.i64.wrap ((at_:Int)+n)=((at_+n:Nat):Int):=by rw [IntWalk.i64_in _ (by omega)];omega
   have hg2l:g<w2.heap.size:=qal (HX.out.2.2.1.sat.memIs (b:=g) (o:=o) (by simp))
   rcases hk with rfl | rfl
   ·have hk1:(((1:UInt8).toNat:Nat):Int)=1:=rfl
    rw [hk1]
    go_wp2_with ((refine qak rfl (qtj qub (.tmp 24) (.tmp 25) (.tmp 27) rfl Tryz.underlying212 sm sz szc (HX.out.2.2.1.to (H:=(sm,Is (mapO encI sz szc))::(ctF a (newX X us sc sb) ps pc cs cc++((g,Is o)::J))) (qaf fun _=>by simp only [qad,qaa,qah]<;>omega)) HR.out.1.map (at_:Int) (.int .i64 body.length) rfl rfl rfl ⟨by omega,by omega⟩ ?_);intro w3 hT3;have HT3:=Lib.hid hT3;clear hT3;simp only [Act.put]))
    have hb3:qaj w3 a2 (body.map enc8):=q0u HX.out.1 (fun x hx=>by
     rw [HX.out.2.1 x hx,HT3.out.sat.memIs (b:=g) (o:=o) (by simp),HX.out.2.2.1.sat.memIs (b:=g) (o:=o) (by simp)])
    have hTk:Turns F1 (((a,Is (.cells (qa4 (newX X us sc sb)) 128 (0,0)))::qbd X.cm cs cc)++((sm,Is (mapO encI (putE sz szc (at_:Int) (.int .i64 body.length)) (putC sz szc (at_:Int))))::(qbc X.pm ps pc++((g,Is o)::J)))) w w3:=HT3.out.to (by unfold ctF archO newX;exact (qaf fun _=>by simp only [qad,qaa,qah]<;>omega))
    obtain ⟨hb1,hb2',hb3',hb4,-,-⟩:=HR.out.2.2.2.2
    have HK:=Lib.hid (qpq a X.pm X.tm X.cm cc sc sb us cs body a2 body.length (at_,body.length) (qa4 (newX X us sc sb)) 128 w3 hTk.sat.left ⟨rfl,rfl,rfl,rfl,rfl,rfl⟩ HR.out.1.chunks hb3 (by have:=hb4 (be (sumOf 1 body) 4);omega) (by omega) (by have h:0≤sc∧sc≤90000:=hb2';omega) (by have h:0≤sb∧sb≤65535*90000:=hb3';omega))
    have HTk:=Lib.hid hTk
    clear hb3 hTk hb1 hb2' hb3' hb4
    refine HK.out.mono ?_
    rintro e w4 ⟨v4,rfl,hv4,hT4⟩
    have hT5:=HTk.out.step (List.Perm.refl _) hT4
    have HT5:=Lib.hid (And.intro hv4 hT5)
    clear hv4 hT4 hT5
    go_wp2_with fail
    go_roundw
    case rel =>
     refine ⟨at_+n,K++[(body,at_,body.length)],H,us,sc+1,sb+body.length,ps,pc,setG cs cc (keyB body) v4 (qa5 cs (keyB body)++[(at_,body.length)]),putC (cs.map entG) cc (keyB body),putE sz szc (at_:Int) (.int .i64 body.length),putC sz szc (at_:Int),J,by go_num,CtOk.chunk HR.out.1 HX.out.2.2.2.1 (by omega) HT5.out.1,?_⟩
     rw [← HH.out.2.2.2.2]
     have h9:=HT5.out.2
     change Turns F1 (((a,Is (archO (newX X us (sc+1) (sb+body.length))))::qbd X.cm (setG cs cc (keyB body) v4 (qa5 cs (keyB body)++[(at_,body.length)])) (putC (cs.map entG) cc (keyB body)))++_) w w4 at h9
     exact h9.to (by unfold ctF newX;exact (qaf fun _=>by simp only [qad,qaa,qah]<;>omega))
    case measure=>simp [intOf];omega
   ·have hk1:(((2:UInt8).toNat:Nat):Int)=2:=rfl
    rw [hk1]
    have HRd:=Lib.hid (qw2 a2 body.length body w2 HX.out.1 (Nat.le_refl _) (fun x hx=>by rw [HX.out.2.1 x hx];exact hg2l) (by omega))
    go_wp2_with fail
    refine HRd.out.mono ?_
    intro e w3 hp
    unfold qe8 at hp
    cases hr:readR 2 body with
    | none =>
     rw [hr] at hp
     obtain ⟨rfl,hs3⟩:=hp
     have HS3:=Lib.hid (And.intro hs3 hr)
     clear hs3 hr
     go_wp2_with fail
     refine (qsz a sm w3).mono ?_
     rintro e w4 ⟨rfl,hs4⟩
     have HS4:=Lib.hid hs4
     clear hs4
     go_wp2_with fail
     have hfin:qnj a X D g o w (.returned (.int .i64 at_)) w4 :=
      ⟨at_,K,H,us,sc,sb,ps,pc,cs,cc,sz,szc,rfl,HR.out.1,.inr ⟨body,n,HX.out.2.2.2.1,.inl HS3.out.2⟩,by rw [← HH.out.2.2.2.2];exact ((HX.out.2.2.1.thenSame HS3.out.1).thenSame HS4.out).drop (fun x=>by simp only [qad,qaa,qah];omega)⟩
     exact bodyPost_ret (results_tmp rfl _ _ _) rfl (by exact hfin)
    | some r =>
     obtain ⟨p,num,m,ats,rfl,hpl,hnum,hm,hat,hal⟩:=qoc hr
     rw [hr] at hp
     obtain ⟨v,rfl,hio,hT3⟩:=hp
     have hT4:Turns F1 (redoF a (newX X us sc sb) ps pc sm sz szc v ats++(qbd X.cm cs cc++((g,Is o)::J))) w w3:=(HX.out.2.2.1.newIn hT3).to (by unfold ctF redoF newX recNs;exact (qaf fun _=>by simp only [qad,qaa,qah]<;>omega))
     obtain ⟨hb1,-,-,-,hb5,hb6⟩:=HR.out.2.2.2.2
     have hb1':0≤us∧us≤65535*90000:=hb1
     have HRv:=Lib.hid (qv4 a (newX X us sc sb) ps pc sm sz szc v (szOf K) p num m ats w3 hT4.sat.left hio HR.out.1.map HR.out.1.get hb6 hat (by omega) HR.out.1.paths (by unfold OkS;omega) (by have:=hb5 p;omega) (by show _≤us∧us≤_;omega) (by omega))
     have H4:=Lib.hid (And.intro hT4 hr)
     clear hio hT3 hT4 hb1 hb1' hb5 hb6 hat hr
     unfold recV at HRv
     unfold recV
     go_wp2_with fail
     refine HRv.out.mono ?_
     rintro e w5 (⟨hno,rfl,hT5⟩ | ⟨chs,b,cv,v',hch,hsm,rfl,hcv,hv',hT5⟩)
     ·have H5:=Lib.hid (And.intro hno (H4.out.1.step (List.Perm.refl _) hT5))
      clear hno hT5
      go_wp2_with fail
      have hfin:qnj a X D g o w (.returned (.int .i64 at_)) w5 :=
       ⟨at_,K,H,us,sc,sb,ps,pc,cs,cc,sz,szc,rfl,HR.out.1,.inr ⟨body,n,HX.out.2.2.2.1,.inr ⟨p,num,m,ats,H4.out.2,H5.out.1⟩⟩,by rw [← HH.out.2.2.2.2];exact H5.out.2.drop (fun x=>by unfold ctF redoF newX;simp only [qad,qaa,qah];omega)⟩
      exact bodyPost_ret (results_tmp rfl _ _ _) rfl (by exact hfin)
     ·have H5:=Lib.hid (And.intro (CtOk.ver HR.out.1 HX.out.2.2.2.1 H4.out.2 hch hsm (by unfold OkS;omega) hcv hv') (H4.out.1.step (List.Perm.refl _) hT5))
      clear hch hsm hcv hv' hT5
      go_wp2_with fail
      go_roundw
      case rel =>
       refine ⟨at_+n,K,H++[(⟨p,num,m,chs⟩:HV)],us+m,sc,sb,addP ps pc p v' ⟨b,num,m,cv,chs,0⟩,putC (ps.map entG) pc p,cs,cc,sz,szc,iRow v ats++J,by go_num,(by exact H5.out.1),?_⟩
       rw [← HH.out.2.2.2.2]
       have h9:=H5.out.2
       change Turns F1 (redoF a (newX X (us+m) sc sb) (addP ps pc p v' ⟨b,num,m,cv,chs,0⟩) (putC (ps.map entG) pc p) sm sz szc v ats++_) w w5 at h9
       exact h9.to (by unfold ctF redoF newX;exact (qaf fun _=>by simp only [qad,qaa,qah]<;>omega))
      case measure=>simp [intOf];omega
end Go.Proofs.YtdhobpbngkainaaGreatDoor
namespace Go.Proofs.YtdhobpbngkainaaGreatDoor
open Go.RowKit
theorem q1a {l s x:Bs} {a:Nat} (h:a≤l.length):putAt (putAt l a s) (a+s.length) x=putAt l a (s++x):=by
 have h1:(l.take a++s).length=a+s.length:=by rw [List.length_append,List.length_take];omega
 have e0:putAt l a s=(l.take a++s)++l.drop (a+s.length):=rfl
 have e1:(putAt l a s).take (a+s.length)=l.take a++s:=by rw [e0];exact List.take_left' h1
 have e2:(putAt l a s).drop (a+s.length+x.length)=l.drop (a+(s.length+x.length)):=by
  have h2:(putAt l a s).drop (a+s.length)=l.drop (a+s.length):=by rw [e0];exact List.drop_left' h1
  rw [← List.drop_drop,h2,List.drop_drop,Nat.add_assoc]
 show (putAt l a s).take (a+s.length)++x++(putAt l a s).drop (a+s.length+x.length)=l.take a++(s++x)++l.drop (a+(s++x).length)
 rw [e1,e2,List.length_append,List.append_assoc (l.take a)]
def qfk (t:Bs):Nat→Bs
 | 0=>[]
 | m+1=>qfk t m++(if m=0 then t else zeros 128)
theorem qh7 {t:Bs} (ht:t.length=128):∀ m,(qfk t m).length=128*m
 | 0=>rfl
 | m+1=>by
  rw [qfk,List.length_append,qh7 ht m]
  split
  ·omega
  ·simp [zeros];omega
theorem qr0 {t:Bs} (ht:t.length=128):∀ m,qfk t (m+1)=t++zeros (128*m)
 | 0=>by simp [qfk,zeros]
 | m+1=>by
  rw [qfk,qr0 ht m,if_neg (by omega),List.append_assoc,qi1]
  congr 2
theorem qoi {l t:Bs} {first q:Nat} (ht:t.length=128) (h:128*(first+q)≤l.length):∀ m,cutTo l first q t m=putAt l (128*(first+q)) (qfk t m)
 | 0=>by simp [cutTo,qfk,putAt]
 | m+1=>by
  rw [cutTo,qoi ht h m,qfk]
  have:=q1a (l:=l) (s:=qfk t m) (x:=if m=0 then t else zeros 128) h
  rw [qh7 ht,← Nat.mul_add] at this
  exact this
theorem qud {l ws:Bs} {first count end_:Nat} (hl:128*(first+count)≤l.length) (hw:(qax l first count).take end_=ws.take end_) (hwl:ws.length=128*count) (he:end_≤128*count) :
  qdt (cutTo l first (end_ / 128) ((ws.take end_).drop (128*(end_ / 128))++zeros (128-end_%128)) (count-end_ / 128)) first count (ws.take end_) ∧
  ∀ f2 c2,(f2+c2≤first∨first+count≤f2)→qax (cutTo l first (end_ / 128) ((ws.take end_).drop (128*(end_ / 128))++zeros (128-end_%128)) (count-end_ / 128)) f2 c2=qax l f2 c2:=by
 have hdl:(ws.take end_).length=end_:=by rw [List.length_take];omega
 obtain ⟨t,ht⟩:∃ t,t=(ws.take end_).drop (128*(end_ / 128))++zeros (128-end_%128):=⟨_,rfl⟩
 have htl:t.length=128:=by rw [ht,List.length_append,List.length_drop,hdl,qan];omega
 rw [← ht,qoi htl (by omega)]
 have hrl:=qh7 htl (count-end_ / 128)
 have hhl:(qax l first count).length=128*count:=by unfold qax;rw [List.length_take,List.length_drop];omega
 refine ⟨⟨?_,by rw [hdl];exact he⟩,fun f2 c2 hd=>qk2 (by omega) (by omega) hd⟩
 rw [qvk (by omega) (by omega),hdl]
 rcases Nat.lt_or_ge (end_ / 128) count with hlt | hge
 ·obtain ⟨m,hm⟩:∃ m,count-end_ / 128=m+1:=⟨count-end_ / 128-1,by omega⟩
  rw [hm,qr0 htl]
  unfold putAt
  have e1:(qax l first count).take (128*(end_ / 128))=(ws.take end_).take (128*(end_ / 128)):=by
   rw [← hw,List.take_take,Nat.min_eq_left (by omega)]
  rw [e1,ht,List.append_assoc ((ws.take end_).drop _),qi1,← List.append_assoc,List.take_append_drop,List.drop_of_length_le (by rw [hhl];simp only [List.length_append,List.length_drop,hdl,qan];omega),List.append_nil]
  congr 2
  omega
 ·have h0:count-end_ / 128=0:=by omega
  have he2:end_=128*count:=by omega
  rw [h0]
  simp only [qfk,putAt,List.append_nil,List.length_nil,Nat.add_zero,List.take_append_drop]
  rw [← hw,List.take_of_length_le (by omega),he2]
  simp [zeros]
end Go.Proofs.YtdhobpbngkainaaGreatDoor
namespace Go.Proofs.YtdhobpbngkainaaGreatDoor
open Go.RowKit Go.Maps
theorem q5o {F G:HF} {A W:World} {v:Value} {D:Bs} (h:Turns F (bRow v D++G) A W) (hok:bOk v D) (hne:D≠[]):∃ g cap o,v=.slice (some ⟨g,0,none⟩) D.length cap∧D.length≤cap∧cap≤9223372036854775807∧Turns F ((g,Is o)::G) A W∧(∀ W':World,W'.heap[g]?=some o→qaj W' (some ⟨g,0,none⟩) (D.map enc8)):=by
 have hown:=bOwns h.sat.left hok
 rcases hown.2 with ⟨-,h0⟩ | ⟨g,cap,cur,rfl,-,hg,h1,h2,h3,h4⟩
 ·exact absurd (List.eq_nil_of_length_eq_zero h0) hne
 ·refine ⟨g,cap,.cells cur 5 (0,0),rfl,h1,by unfold maxLen at h2;omega,?_,fun W' hW hp=>⟨g,0,rfl,fun j hj=>?_⟩⟩
  ·have e:bRow (.slice (some ⟨g,0,none⟩) D.length cap) D++G=(g,_)::G:=rfl
   rw [e] at h
   exact h.put (Mods.refl _ _) hg Is.rfl
  ·rw [Nat.zero_add]
   refine qac hW j ?_
   rw [← Array.getElem?_toList]
   have hj2:j<D.length:=by simpa using hj
   have e1:(cur.toList.take (D.length*1))[j]?=cur.toList[j]?:=by rw [List.getElem?_take,if_pos (by omega)]
   rw [← e1,h4]
   exact List.getElem?_eq_getElem hj
def openX (pm tm cm d ab e:Nat) (q:Int):ArchL:=⟨pm,tm,cm,0,0,0,d,ab,e,clip0 q,false,.nilIface⟩
def openA (L:DevL) (e ch:Nat):AreaL:=⟨2+e%2*halfN L.n,halfN L.n,0,zeros 128,ch,[]⟩
def qqj (F1 Z:HF) (A:World) (d u:Nat) (L:DevL) (q:Int) (e wh:Nat) (v:Value) (W:World):Prop :=
 ∃ g pm tm cm ab ch,v=.pointer (some ⟨g,0,none⟩)∧Turns F1 ((g,Is (archO (openX pm tm cm d ab e q)))::(areaF ab d (openA L e ch)++([(cm,Is (.map #[] 0)),(tm,Is (.map #[] 0)),(pm,Is (.map #[] 0))]++((u,Is (useO e wh))::(devF d L++Z))))) A W
theorem q7k (F1 Z:HF) (A:World) (d u:Nat) (L:DevL) (q:Int) (e wh:Nat) {Q:Exit→Act→World→Prop} {w:World} {u2 u3 u4 u5 u6 u7 u8 u9 u11 u12 u13 u14 u15 u16 u17 u18 u19 u20 u21 u22 u23 u24 u25 u26 u27 u28 u29 u30 u31 u32 u33 u34 u35 u36 u37 u38 u39 u40 u41 u42 u43 u44 u45 u46 u47 u48 u49 u50 u51 u52 u53 u54 u55 u56 u57 u58 u59 u60 u61 u62 u63 u64 u65 u66 u67 u68 u69 u70 u71 u72 u73 u74 u75 u76 u77 u78 u79 u80 u81 u82 u83 u84:Value} {ds:List Deferred} (hT:Turns F1 ((u,Is (useO e wh))::(devF d L++Z)) A w) (hn:16≤L.n) (hn2:L.n≤1073741824) (he:e<4294967296)
  (hk:∀ (y41 y42 y43 y44 y45 y46 y47 y48 y49 y50 y51 y52 y11:Value) (w':World),qqj F1 Z A d u L q e wh y11 w'→Q .normal { tmps:=#[.pointer (some ⟨d,0,none⟩),.int .i64 q,u2,u3,u4,u5,u6,u7,u8,u9,.pointer (some ⟨u,0,none⟩),y11,u12,u13,u14,u15,u16,u17,u18,u19,u20,u21,u22,u23,u24,u25,u26,u27,u28,u29,u30,u31,u32,u33,u34,u35,u36,u37,u38,u39,u40,y41,y42,y43,y44,y45,y46,y47,y48,y49,y50,y51,y52,u53,u54,u55,u56,u57,u58,u59,u60,u61,u62,u63,u64,u65,u66,u67,u68,u69,u70,u71,u72,u73,u74,u75,u76,u77,u78,u79,u80,u81,u82,u83,u84],defers:=ds } w') :
  (regOf 11 Tryz.f22).wp Tryz.prog Q { tmps:=#[.pointer (some ⟨d,0,none⟩),.int .i64 q,u2,u3,u4,u5,u6,u7,u8,u9,.pointer (some ⟨u,0,none⟩),u11,u12,u13,u14,u15,u16,u17,u18,u19,u20,u21,u22,u23,u24,u25,u26,u27,u28,u29,u30,u31,u32,u33,u34,u35,u36,u37,u38,u39,u40,u41,u42,u43,u44,u45,u46,u47,u48,u49,u50,u51,u52,u53,u54,u55,u56,u57,u58,u59,u60,u61,u62,u63,u64,u65,u66,u67,u68,u69,u70,u71,u72,u73,u74,u75,u76,u77,u78,u79,u80,u81,u82,u83,u84],defers:=ds } w:=by
 have HM:=Lib.hid (show Tryz.prog.follows .mixedOrders=true by kernel_rfl)
 conv=>arg 2;whnf
 refine qbt (A:=?A) (hA:=?hA) HM.out (phiL [fun _=>True,fun v=>v=.pointer (some ⟨d,0,none⟩),fun v=>v=.pointer (some ⟨d,0,none⟩),fun v=>v=.pointer (some ⟨u,0,none⟩),fun v=>v=.int .u32 e,fun _=>True,fun v=>v=.pointer (some ⟨u,0,none⟩),fun v=>v=.int .u32 e,fun v=>v=.int .i64 q,fun v=>v=.int .i64 (clip0 q),fun _=>True,fun _=>True,fun _=>True])
  (fun vs W=>match vs with
   | []=>Turns F1 ((u,Is (useO e wh))::(devF d L++Z)) A W
   | [v0]=>∃ pm tm cm,v0=.agg (qer pm tm cm 0 0 0)∧Turns F1 ([(cm,Is (.map #[] 0)),(tm,Is (.map #[] 0)),(pm,Is (.map #[] 0))]++((u,Is (useO e wh))::(devF d L++Z))) A W
   | [v0,v5]=>∃ pm tm cm ab ch,v0=.agg (qer pm tm cm 0 0 0)∧v5=.pointer (some ⟨ab,0,none⟩)∧Turns F1 (areaF ab d (openA L e ch)++([(cm,Is (.map #[] 0)),(tm,Is (.map #[] 0)),(pm,Is (.map #[] 0))]++((u,Is (useO e wh))::(devF d L++Z)))) A W
   | [_,_,v]=>∃ pm tm cm ab ch,v=.agg (qa4 (openX pm tm cm d ab e q))∧Turns F1 (areaF ab d (openA L e ch)++([(cm,Is (.map #[] 0)),(tm,Is (.map #[] 0)),(pm,Is (.map #[] 0))]++((u,Is (useO e wh))::(devF d L++Z)))) A W
   | [_,_,_,v]=>qqj F1 Z A d u L q e wh v W
   | [_,_,_,_,v]=>qqj F1 Z A d u L q e wh v W
   | _=>False)
  (fun W=>W.cell? ⟨u,0,none⟩=some (.int .u32 e)) [0,5,10,11,12] ?hC (by kernel_rfl) (by kernel_rfl) (by decide) (by decide) ?h0 ?hs ?he
 case hA=>intro x;simp only [qam,Act.put,List.setIfInBounds_toArray,List.set_cons_zero,List.set_cons_succ,Nat.reduceAdd];rfl
 case hs =>
  refine ⟨qap 0 rfl rfl (fun x wq hd hS K hK=>?_),qab rfl rfl (fun x wq hd hC K hK hKw=>?_),qab rfl rfl (fun x wq hd hC K hK hKw=>?_),qab rfl rfl (fun x wq hd hC K hK hKw=>?_),qab rfl rfl (fun x wq hd hC K hK hKw=>?_),qap 1 rfl rfl (fun x wq hd hS K hK=>?_),qab rfl rfl (fun x wq hd hC K hK hKw=>?_),qab rfl rfl (fun x wq hd hC K hK hKw=>?_),qab rfl rfl (fun x wq hd hC K hK hKw=>?_),qab rfl rfl (fun x wq hd hC K hK hKw=>?_),qap 2 rfl rfl (fun x wq hd hS K hK=>?_),qap 3 rfl rfl (fun x wq hd hS K hK=>?_),qap 4 rfl rfl (fun x wq hd hS K hK=>?_),trivial⟩
  ·refine qbe (by kernel_rfl) (qiw wq) ?_
   rintro e3 w3 ⟨pm,tm,cm,rfl,hT3⟩
   exact ⟨_,rfl,hK _ _ trivial ⟨pm,tm,cm,rfl,Turns.newIn hS hT3⟩⟩
  ·exact qag (by kernel_rfl) (hK _ rfl)
  ·exact qag (by kernel_rfl) (hK _ rfl)
  ·exact qag (by kernel_rfl) (hK _ rfl)
  ·have h3:x 3=.pointer (some ⟨u,0,none⟩):=qae hd 3 (by kernel_rfl)
   exact qat Tryz.underlying116 rfl rfl (by rw [h3];rfl) (hC) (hK _ rfl)
  ·have h2:x 2=.pointer (some ⟨d,0,none⟩):=qae hd 2 (by kernel_rfl)
   have h4:x 4=.int .u32 e:=qae hd 4 (by kernel_rfl)
   obtain ⟨pm,tm,cm,e0,hT⟩:=hS
   refine qbe (by rw [h2,h4];kernel_rfl) (qpu d L e wq (hT.sat.sub (fun _=>by simp only [qad,qaa,qah]<;>omega)) (by omega) hn2 he) ?_
   rintro e3 w3 ⟨ab,ch,rfl,hT3⟩
   exact ⟨_,rfl,hK _ _ trivial ⟨pm,tm,cm,ab,ch,e0,rfl,Turns.newIn hT hT3⟩⟩
  ·exact qag (by kernel_rfl) (hK _ rfl)
  ·have h6:x 6=.pointer (some ⟨u,0,none⟩):=qae hd 6 (by kernel_rfl)
   exact qat Tryz.underlying116 rfl rfl (by rw [h6];rfl) (hC) (hK _ rfl)
  ·exact qag (by kernel_rfl) (hK _ rfl)
  ·have h8:x 8=.int .i64 q:=qae hd 8 (by kernel_rfl)
   exact qag (by rw [h8];kernel_rfl) (hK _ rfl)
  ·have h1:x 1=.pointer (some ⟨d,0,none⟩):=qae hd 1 (by kernel_rfl)
   have h7:x 7=.int .u32 e:=qae hd 7 (by kernel_rfl)
   have h9:x 9=.int .i64 (clip0 q):=qae hd 9 (by kernel_rfl)
   obtain ⟨pm,tm,cm,ab,ch,e0,e5,hT⟩:=hS
   exact qag (by rw [e0,h1,e5,h7,h9];kernel_rfl) (hK _ _ trivial ⟨pm,tm,cm,ab,ch,rfl,hT⟩)
  ·obtain ⟨pm,tm,cm,ab,ch,e10,hT⟩:=hS
   exact qag (by rw [e10];kernel_rfl) (hK _ _ trivial ⟨_,pm,tm,cm,ab,ch,rfl,hT.allocIs _⟩)
  ·obtain ⟨g,pm,tm,cm,ab,ch,e11,hT⟩:=hS
   exact qag (by rw [e11];kernel_rfl) (hK _ _ trivial ⟨g,pm,tm,cm,ab,ch,rfl,hT⟩)
 case hC =>
  intro vs W hS
  have key:∀ {F:HF},Sat W F→(u,Is (useO e wh))∈F→W.cell? ⟨u,0,none⟩=some (.int .u32 e):=fun hs hm=>qac (hs.memIs hm) 0 rfl
  match vs,hS with
  | [],hT=>exact key hT.sat (by simp)
  | [_],⟨pm,tm,cm,_,hT⟩=>exact key hT.sat (by simp)
  | [_,_],⟨pm,tm,cm,ab,ch,_,_,hT⟩=>exact key hT.sat (by simp)
  | [_,_,_],⟨pm,tm,cm,ab,ch,_,hT⟩=>exact key hT.sat (by simp)
  | [_,_,_,_],⟨g,pm,tm,cm,ab,ch,_,hT⟩=>exact key hT.sat (by simp)
  | [_,_,_,_,_],⟨g,pm,tm,cm,ab,ch,_,hT⟩=>exact key hT.sat (by simp)
 case h0 =>
  exact (show Turns F1 ((u,Is (useO e wh))::(devF d L++Z)) A w from hT).drew
 case he =>
  intro x w3 hφ hS
  exact hk (x 0) (x 1) (x 2) (x 3) (x 4) (x 5) (x 6) (x 7) (x 8) (x 9) (x 10) (x 11) (x 12) w3 hS
structure OpenIs (d:Nat) (L:DevL) (q:Int) (e:Nat) (D:Bs) (S:AS):Prop where
 ct:∃ at_ H sz szc,CtOk D S.X S.ps S.pc S.cs S.cc sz szc at_ S.K H∧qnh D at_ S.K∧S.data=D.take at_
 X:∃ us sc sb,S.X=newX (openX S.X.pm S.X.tm S.X.cm d S.X.ab e q) us sc sb
 A:S.A.first=2+e%2*halfN L.n∧S.A.count=halfN L.n∧S.A.end_=S.data.length∧S.A.tail=qbs S.data∧S.A.spare=[]
 ts:S.ts=[]∧S.tc=0
 dev:DevOk S.L∧S.L.n=L.n∧S.L.safe=S.L.now∧S.L.chs=[]
 dat:qdt S.L.now S.A.first S.A.count S.data
 other:∀ f2 c2,(f2+c2≤S.A.first∨S.A.first+S.A.count≤f2)→qax S.L.now f2 c2=qax L.now f2 c2
def qre (d:Nat) (L:DevL) (q:Int) (e:Nat) (w:World) (ev:Ending) (w':World):Prop :=
 ∃ S,ev=.returned (.tuple #[.pointer (some ⟨S.a,0,none⟩),.nilIface])∧OpenIs d L q e (qax L.now (2+e%2*halfN L.n) (halfN L.n)) S∧Turns (devF d L) (arF S) w w'
theorem q4r (d:Nat) (L:DevL) (us:Nat→Option (Nat×Nat)) (e wh:Nat) (q:Int) (w:World) (h:Sat w (devF d L)) (hL:DevOk L) (hn:16≤L.n) (hn2:L.n≤8388608) (hch:L.chs.length≤137438953472)
  (hU:∀ k,k<2→UseAt L.now us k) (h01:us 0=none∨us 1=none) (hus:usTo us 2=[(e,wh)]) (hz:qcj L.now 2=false) (he:e<4294967296)
  (hR:qlf (qax L.now (2+e%2*halfN L.n) (halfN L.n))) (hwh:∀ at_ K H,Reach (qax L.now (2+e%2*halfN L.n) (halfN L.n)) at_ K H→qnh (qax L.now (2+e%2*halfN L.n) (halfN L.n)) at_ K→wh≤at_) (hwl:wh<4294967296) :
  Calls Tryz.prog 22 #[.pointer (some ⟨d,0,none⟩),.int .i64 q] w (qre d L q e w):=by
 have HSc:=Lib.hid (qh9 d L w h)
 have HUs:=Lib.hid (fun W (hW:Same w W)=>qz1 d L us W (h.same hW) hL hn hU h01)
 have HH:=Lib.hid (And.intro h (And.intro hL (And.intro hch (And.intro hR (And.intro hwh (And.intro hus hz))))))
 clear h hL hch hU h01 hus hR hwh hz
 go_enter Tryz.func22,Tryz.ntmps22
 go_wp2_with fail
 refine HSc.out.mono ?_
 rintro ev w1 ⟨rfl,rfl⟩
 go_wp2_with fail
 refine (HUs.out _ (Mods.refl _ _)).mono ?_
 rintro ev w2 ⟨v2,rfl,hu2,hT2⟩
 rw [HH.out.2.2.2.2.2.2]
 rw [HH.out.2.2.2.2.2.1] at hu2 hT2
 obtain ⟨sl,cap,rfl,hcap,hcap2,hcells,hblk⟩:=qcq hT2.sat hu2 (by decide)
 obtain ⟨gu,offu,hgu,hcu⟩:=hcells (by simp [useV])
 subst hgu
 have c0:w2.cell? ⟨gu,offu,none⟩=some (.int .u32 e):=by simpa [useV] using hcu 0 (by simp [useV])
 have c1:w2.cell? ⟨gu,offu+1,none⟩=some (.int .u32 wh):=by simpa [useV] using hcu 1 (by simp [useV])
 have hone:([(e,wh)]:List (Nat×Nat)).length=1:=rfl
 rw [hone] at hcap ⊢
 have hTd:Turns (devF d L) (devF d L) w w2:=Turns.same HH.out.1 hT2.news
 have H2:=Lib.hid hTd
 clear hu2 hT2 hcells hblk hcu hTd hone
 go_wp2_with fail
 obtain ⟨D,hD⟩:∃ D,D=qax L.now (2+e%2*halfN L.n) (halfN L.n):=⟨_,rfl⟩
 have hfit:2+e%2*halfN L.n+halfN L.n≤L.n:=by
  unfold halfN
  rcases Nat.mod_two_eq_zero_or_one e with h | h<;>rw [h]<;>omega
 have hDl:D.length=128*halfN L.n:=by rw [hD];exact qe3 HH.out.2.1.nowL hfit
 have hh7:7≤halfN L.n∧halfN L.n≤L.n:=by unfold halfN;omega
 have HD:=Lib.hid (And.intro hD (And.intro hDl (And.intro hfit hh7)))
 clear hD hDl hfit hh7
 go_loopw [37] (fun i wr=>i=.int .i64 0∧wr=w2) (fun _ _=>0)
 case atStart=>exact ⟨rfl,rfl⟩
 case round =>
  obtain ⟨rfl,rfl⟩:=hrel
  go_upto_region 11 with (fail)
  obtain ⟨u,hu⟩:∃ u,u=wr.heap.size:=⟨_,rfl⟩
  rw [← hu]
  refine q7k (devF d L) [] w d u L q e wh ?_ hn (by omega) he ?_
  ·rw [hu,List.append_nil];exact H2.out.allocIs (useO e wh)
  intro _ _ _ _ _ _ _ _ _ _ _ _ y11 w3 hmid
  obtain ⟨g,pm,tm,cm,ab,ch,rfl,hT3⟩:=hmid
  have g7:w3.cell? ⟨g,7,none⟩=some (.pointer (some ⟨ab,0,none⟩)):=qac hT3.sat.headIs 7 rfl
  have hgl:=qal hT3.sat.headIs
  have HAll:=Lib.hid (qsi ab d (openA L e ch) L w3 (hT3.sat.sub (fun _=>by simp only [qad,qaa,qah]<;>omega)) HH.out.2.1 HD.out.2.2.1 (by omega))
  have H3:=Lib.hid hT3
  clear hT3 hu
  go_wp2_with fail
  refine HAll.out.mono ?_
  rintro ev w4 ⟨v,rfl,hok,hT4⟩
  change bOk v (qax L.now (2+e%2*halfN L.n) (halfN L.n)) at hok
  change Turns [] (bRow v (qax L.now (2+e%2*halfN L.n) (halfN L.n))) w3 w4 at hT4
  rw [← HD.out.1] at hok hT4
  obtain ⟨gD,capD,o,rfl,hcD,hcD2,hT5,hcell⟩:=q5o (Turns.newIn H3.out hT4) hok (fun h=>by have:=HD.out.2.1;rw [h] at this;simp at this;have:=HD.out.2.2.2;omega)
  have hTp:Turns (devF d L) ((ctF g (openX pm tm cm d ab e q) [] 0 [] 0++[(gD,Is o)])++(areaF ab d (openA L e ch)++((tm,Is (mapO str [] 0))::(u,Is (useO e wh))::devF d L))) w w4:=hT5.to (by
   show List.Perm _ ((((g,Is (archO (openX pm tm cm d ab e q)))::([(pm,Is (.map #[] 0))]++[(cm,Is (.map #[] 0))]))++[(gD,Is o)])++(areaF ab d (openA L e ch)++((tm,Is (.map #[] 0))::(u,Is (useO e wh))::devF d L)))
   exact (qaf fun _=>by simp only [qad,qaa,qah]<;>omega))
  have HRp:=Lib.hid (qu6 g (openX pm tm cm d ab e q) D gD 0 capD o w4 hTp.sat.left ⟨rfl,rfl,rfl⟩ hcell hcD (by have:=HD.out.2.1;have:=HD.out.2.2.2;omega) (by rw [HD.out.1];exact HH.out.2.2.2.1))
  have h4g:w4.cell? ⟨g,7,none⟩=some (.pointer (some ⟨ab,0,none⟩)):=qac (hTp.sat.memIs (b:=g) (o:=archO (openX pm tm cm d ab e q)) (by simp [ctF])) 7 rfl
  have H5:=Lib.hid (And.intro hTp (And.intro hcell (And.intro hcD hcD2)))
  clear hok hT4 hT5 hcell hTp g7
  go_wp2_with fail
  refine HRp.out.mono ?_
  rintro ev w5 ⟨at_,K,H,us',sc,sb,ps,pc,cs,cc,sz,szc,rfl,hct,href,hTr⟩
  have hT6:=H5.out.1.step (List.Perm.refl _) hTr
  have hle:=hct.le
  have hlt:¬ ((at_:Int)<(wh:Int)):=by
   have:=HH.out.2.2.2.2.1 at_ K H (by rw [← HD.out.1];exact hct.reach) (by rw [← HD.out.1];exact href)
   omega
  have hu6:=hT6.sat.memIs (b:=u) (o:=useO e wh) (by simp)
  have u1:w5.cell? ⟨u,1,none⟩=some (.int .u32 wh):=qac hu6 1 rfl
  have hul:=qal hu6
  have g5:w5.cell? ⟨g,7,none⟩=some (.pointer (some ⟨ab,0,none⟩)):=qac (hT6.sat.memIs (b:=g) (o:=archO (newX (openX pm tm cm d ab e q) us' sc sb)) (by simp [ctF])) 7 rfl
  have hgl5:g<w5.heap.size:=hT6.sat.lt (by simp [ctF])
  have hDl:=HD.out.2.1
  have hcut:=qsd ab d (openA L e ch) L at_ (some ⟨gD,0,none⟩) capD D w5 (hT6.sat.sub (fun _=>by simp only [qad,qaa,qah]<;>omega)) HH.out.2.1 HD.out.2.2.1 (by omega) ⟨qan _,by simp [openA],fun _ h=>by simp [openA] at h⟩ (H5.out.2.1 w5 (hT6.sat.memIs (b:=gD) (o:=o) (by simp)))
   (fun x hx hin=>by
    simp only [Option.some.injEq] at hx
    subst hx
    have h1:Sat w5 ((gD,Is o)::(areaF ab d (openA L e ch)++devF d L)):=hT6.sat.sub (fun _=>by simp only [qad,qaa,qah]<;>omega)
    exact h1.notMem hin) hDl H5.out.2.2.1 H5.out.2.2.2 (by show 0<halfN L.n;have:=HD.out.2.2.2;omega) (by show at_≤128*halfN L.n;omega) HH.out.2.2.1
   (fun m hm hx=>by
    rw [HD.out.1] at hx
    rw [qmw (by exact hm)] at hx
    rw [HD.out.1];exact hx)
  have HC:=Lib.hid hcut
  have H6:=Lib.hid (And.intro hct (And.intro href hT6))
  clear hct href hTr hT6 hcut hu6 hDl
  go_wp2_with fail
  refine HC.out.mono ?_
  rintro ev w6 ⟨rfl,L',hT7,hL',hn',hnow',hsafe',hch'⟩
  have hT8:=H6.out.2.2.step (F:=areaF ab d (openA L e ch)++devF d L) (R:=ctF g (newX (openX pm tm cm d ab e q) us' sc sb) ps pc cs cc++((gD,Is o)::(tm,Is (mapO str [] 0))::[(u,Is (useO e wh))])) (qaf fun _=>by simp only [qad,qaa,qah]<;>omega) hT7
  have H8:=Lib.hid (And.intro hT8 (And.intro hL' (And.intro hn' (And.intro hnow' (And.intro hsafe' hch')))))
  clear hT7 hT8 hL' hn' hnow' hsafe' hch'
  go_wp2_with fail
  have hDl:=HD.out.2.1
  have hdl:(D.take at_).length=at_:=by rw [List.length_take];omega
  have htl:(D.take at_).drop (128*(at_ / 128))++zeros (128-at_%128)=qbs (D.take at_):=by unfold qbs qb9;rw [hdl]
  obtain ⟨S,hS⟩:∃ S:AS,S={ a:=g,X:=newX (openX pm tm cm d ab e q) us' sc sb,A:={ openA L e ch with end_:=at_,tail:=(D.take at_).drop (128*(at_ / 128))++zeros (128-at_%128) },L:=L',ps:=ps,pc:=pc,cs:=cs,cc:=cc,ts:=[],tc:=0,data:=D.take at_,K:=K }:=⟨_,rfl⟩
  have hcd:=qud (l:=L.now) (ws:=D) (first:=2+e%2*halfN L.n) (count:=halfN L.n) (end_:=at_) (by rw [HH.out.2.1.nowL];have:=HD.out.2.2.1;omega) (by rw [← HD.out.1]) hDl (by omega)
  have hfin:qre d L q e w (.returned (.tuple #[.pointer (some ⟨g,0,none⟩),.nilIface])) w6:=by
   refine ⟨S,by rw [hS],?_,?_⟩
   ·rw [← HD.out.1]
    refine ⟨⟨at_,H,sz,szc,by rw [hS];exact H6.out.1,by rw [hS];exact H6.out.2.1,by rw [hS]⟩,⟨us',sc,sb,by rw [hS];rfl⟩,?_,by rw [hS];exact ⟨rfl,rfl⟩,by rw [hS];exact ⟨H8.out.2.1,H8.out.2.2.1,H8.out.2.2.2.2.1,H8.out.2.2.2.2.2⟩,?_,fun f2 c2 hf=>?_⟩
    ·rw [hS];exact ⟨rfl,rfl,hdl.symm,htl,rfl⟩
    ·rw [hS]
     show qdt L'.now (2+e%2*halfN L.n) (halfN L.n) (D.take at_)
     rw [H8.out.2.2.2.1];exact hcd.1
    ·rw [hS] at hf ⊢
     show qax L'.now f2 c2=_
     rw [H8.out.2.2.2.1];exact hcd.2 f2 c2 hf
   ·rw [hS]
    refine H8.out.1.drop (fun x=>?_)
    show cnt x ((g,Is (archO (newX (openX pm tm cm d ab e q) us' sc sb)))::(areaF ab d { openA L e ch with end_:=at_,tail:=(D.take at_).drop (128*(at_ / 128))++zeros (128-at_%128) }++(devF d L'++(qbc pm ps pc++([(tm,Is (mapO str [] 0))]++qbd cm cs cc)))))≤_
    unfold ctF
    show _≤cnt x ((areaF ab d { openA L e ch with end_:=at_,tail:=(D.take at_).drop (128*(at_ / 128))++zeros (128-at_%128) }++devF d L')++(((g,Is (archO (newX (openX pm tm cm d ab e q) us' sc sb)))::(qbc pm ps pc++qbd cm cs cc))++((gD,Is o)::(tm,Is (mapO str [] 0))::[(u,Is (useO e wh))])))
    simp only [qad,qaa,qah]
    omega
  exact bodyPost_ret (results_tmp2 rfl _ _ _) rfl (by exact hfin)
end Go.Proofs.YtdhobpbngkainaaGreatDoor
