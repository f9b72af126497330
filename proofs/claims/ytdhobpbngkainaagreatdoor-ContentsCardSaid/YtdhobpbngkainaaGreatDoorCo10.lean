/- Ours. A part of the proof, made small by a program. -/
import Derived.Test.YtdhobpbngkainaaGreatDoorCo06
import Derived.Test.YtdhobpbngkainaaGreatDoorCo09
import Derived.Shelf.SlSortCmp.NoneTotal
import Derived.Test.YtdhobpbngkainaaGreatDoorCo07
import Derived.Test.YtdhobpbngkainaaGreatDoorCo08
import Derived.Test.YtdhobpbngkainaaGreatDoorCo04
set_option maxRecDepth 100000
set_option maxHeartbeats 4000000
namespace Go.Proofs.YtdhobpbngkainaaGreatDoor
open Go.RowKit Go.Maps
def qcb (K:List (Bs×Nat×Nat)) (q:Nat×Nat):Bs:=((K.find? (fun e=>decide (e.2=q))).map (·.1)).getD []
def contV (S:AS) (V:VerL):Bs:=V.chs.flatMap (qcb S.K)
theorem K_inj {S:AS} (h:ArOk S) {c c':Bs} {q:Nat×Nat} (h1:(c,q)∈S.K) (h2:(c',q)∈S.K):c=c' :=
 qj1 ((h.kat _ h1).2.chunkAt h.dat) ((h.kat _ h2).2.chunkAt h.dat) ((h.kat _ h1).1.symm.trans (h.kat _ h2).1)
theorem qyf {S:AS} (h:ArOk S) {c:Bs} {q:Nat×Nat} (hq:(c,q)∈S.K):qcb S.K q=c:=by
 unfold qcb
 cases hf:S.K.find? (fun e=>decide (e.2=q)) with
 | none=>rw [List.find?_eq_none] at hf;exact absurd (by simp) (hf _ hq)
 | some e =>
  have h1:=List.mem_of_find?_eq_some hf
  have h2:e.2=q:=by simpa using List.find?_some hf
  have h3:(e.1,q)∈S.K:=by rw [← h2];exact h1
  simpa using K_inj h h3 hq
theorem qnl {S:AS} {l:Bs} {n:Int} {V:VerL} (hf:findV (qaq S.ps l) n=some V):∃ p∈S.ps,p.key=l∧V∈p.g:=by
 have key:∀ (l:List VerL),findV l n=some V→V∈l:=by
  intro l
  induction l with
  | nil=>intro h;simp [findV] at h
  | cons v r ih =>
   intro h
   unfold findV at h
   split at h
   ·simp only [Option.some.injEq] at h;subst h;simp
   ·exact List.mem_cons_of_mem _ (ih h)
 have hm:=key _ hf
 unfold qaq gOf at hm
 cases hg:S.ps.find? (fun p=>decide (p.key=l)) with
 | none=>rw [hg] at hm;simp at hm
 | some p=>rw [hg] at hm;exact ⟨p,List.mem_of_find?_eq_some hg,by simpa using List.find?_some hg,hm⟩
theorem chs_K {S:AS} (h:ArOk S) {p:PathL} (hp:p∈S.ps) {V:VerL} (hV:V∈p.g) {q:Nat×Nat} (hq:q∈V.chs):(qcb S.K q,q)∈S.K:=by
 obtain ⟨e,he,rfl⟩:=(h.vers p hp V hV).1 q hq
 have:=qyf h (c:=e.1) (q:=e.2) he
 rw [this];exact he
theorem qh1 {S:AS} (h:ArOk S) {p:PathL} (hp:p∈S.ps) {V:VerL} (hV:V∈p.g):(contV S V).length=V.size:=by
 rw [(h.vers p hp V hV).2]
 have key:∀ l:List (Nat×Nat),(∀ q∈l,(qcb S.K q,q)∈S.K)→(l.flatMap (qcb S.K)).length=(l.map (·.2)).sum:=by
  intro l
  induction l with
  | nil=>intro _;rfl
  | cons q r ih =>
   intro hq
   rw [List.flatMap_cons,List.length_append,ih (fun x hx=>hq x (by simp [hx])),List.map_cons,List.sum_cons,(h.kat _ (hq q (by simp))).1]
 exact key _ (fun q hq=>chs_K h hp hV hq)
def qin (S:AS) (l:Bs) (n:Int) (k:Int):Prop :=
 (S.X.closed=true∧k=9)∨(S.X.closed=false∧qa6 l=false∧k=1)∨(S.X.closed=false∧qa6 l=true∧findV (qaq S.ps l) n=none∧k=3)
def Found (S:AS) (l:Bs) (n:Int) (V:VerL):Prop:=S.X.closed=false∧qa6 l=true∧findV (qaq S.ps l) n=some V
theorem qlv {S:AS} {l:Bs} {n:Int} {w w':World} {e:Ending} (h:qtv S.X S.ps l n w e w') :
  Same w w'∧((∃ k,qin S l n k∧e=.returned (.tuple #[.pointer none,errV k]))∨(∃ V,Found S l n V∧e=.returned (.tuple #[ptrV V,.nilIface]))):=by
 obtain ⟨he,hs⟩:=h
 refine ⟨hs,?_⟩
 cases hc:S.X.closed with
 | true=>rw [hc,if_pos rfl] at he;exact .inl ⟨9,.inl ⟨hc,rfl⟩,he⟩
 | false =>
  rw [hc,if_neg (by simp)] at he
  cases hp:qa6 l with
  | false=>rw [hp,if_neg (by simp)] at he;exact .inl ⟨1,.inr (.inl ⟨hc,hp,rfl⟩),he⟩
  | true =>
   rw [hp,if_pos rfl] at he
   cases hf:findV (qaq S.ps l) n with
   | none=>rw [hf] at he;exact .inl ⟨3,.inr (.inr ⟨hc,hp,hf,rfl⟩),he⟩
   | some V=>rw [hf] at he;exact .inr ⟨V,⟨hc,hp,hf⟩,he⟩
def qx3 (S:AS) (l:Bs) (n:Int) (w:World) (e:Ending) (w':World):Prop :=
 (∃ k,qin S l n k∧e=.returned (.tuple #[.slice none 0 0,errV k])∧Turns (arF S) (arF S) w w') ∨
 (∃ V v sp,Found S l n V∧e=.returned (.tuple #[v,.nilIface])∧bOk v (contV S V)∧AreaOk { S.A with spare:=sp }∧Turns (arF S) (bRow v (contV S V)++arF { S with A:={ S.A with spare:=sp } }) w w')
theorem qrr {S:AS} (hok:ArOk S) {p:PathL} (hp:p∈S.ps) {V:VerL} (hV:V∈p.g) {sl:Option Addr} {n cap:Nat} (hcv:V.cv=.slice sl n cap) {W:World} (hs:Sat W (qbc S.X.pm S.ps S.pc)):W.heap[V.blk]?=some (verO V)∧qaj W sl (qb2 V.chs):=by
 have hps:Sat W (pathR p.val p.g):=Sat.flat (f:=fun p:PathL=>pathR p.val p.g) hs.tail hp
 have hvf:Sat W (verF V):=Sat.flat (f:=verF) hps.right hV
 obtain ⟨sl2,cap2,h1,_,_,h4⟩:=qe9 hvf.tail ((hok.paths.rows p hp).2 V hV)
 rw [hcv] at h1
 simp only [Value.slice.injEq] at h1
 obtain ⟨rfl,_,_⟩:=h1
 exact ⟨hvf.headIs,h4⟩
def q68 (S:AS) (V:VerL) (w:World) (out i:Value) (W:World):Prop :=
 ∃ (j:Nat) (sp:List (Nat×Nat×Nat)) (J:HF),j≤V.chs.length∧i=.int .i64 j∧bOk out ((V.chs.take j).flatMap (qcb S.K))∧AreaOk { S.A with spare:=sp }∧Turns (arF S) (bRow out ((V.chs.take j).flatMap (qcb S.K))++(arF { S with A:={ S.A with spare:=sp } }++J)) w W
theorem q25 (S:AS) (l:Bs) (n:Int) (b:Nat) (w:World) (h:Sat w (arF S)) (hok:ArOk S) (hB:ArB S b) (hb:b≤90000) (hl:l.length≤9223372036854775807) :
  Calls Tryz.prog 27 #[.pointer (some ⟨S.a,0,none⟩),str l,.int .i64 n] w (qx3 S l n w):=by
 have HF:=Lib.hid (qk0 S.a S.X S.ps S.pc l n w h.headIs (h.tail.right.right.left) hok.paths)
 have HH:=Lib.hid (And.intro h (And.intro hok (And.intro hB hb)))
 clear h hok hB hb
 go_enter Tryz.func27,Tryz.ntmps27
 go_wp2_with fail
 refine HF.out.mono ?_
 intro e w1 hp
 obtain ⟨hs,⟨k,hk,rfl⟩ | ⟨V,hV,rfl⟩⟩:=qlv hp
 ·have HK:=Lib.hid (And.intro hk hs)
  clear hp hs hk
  unfold errV
  go_wp2_with fail
  refine bodyPost_ret (results_tmp2 rfl _ _ _) rfl (.inl ⟨k,HK.out.1,rfl,(Turns.same HH.out.1 HK.out.2)⟩)
 ·obtain ⟨p,hpm,hpk,hVp⟩:=qnl hV.2.2
  have hT1:Turns (arF S) (arF S) w w1:=Turns.same HH.out.1 hs
  have hps:Sat w1 (pathR p.val p.g):=Sat.flat (f:=fun p:PathL=>pathR p.val p.g) (hT1.sat.tail.right.right.left).tail hpm
  have hvf:Sat w1 (verF V):=Sat.flat (f:=verF) hps.right hVp
  have hpo:qbl V.cv V.chs:=(HH.out.2.1.paths.rows p hpm).2 V hVp
  obtain ⟨sl,cap,hcv,e2,e3,hcell⟩:=qe9 hvf.tail hpo
  have v2:w1.cell? ⟨V.blk,2,none⟩=some (.slice sl V.chs.length cap):=by rw [← hcv];exact qac hvf.headIs 2 rfl
  have hvl:=qal hvf.headIs
  have hcl:V.chs.length≤90000:=by
   have h1:=((HH.out.2.2.1.vers p hpm).2.2 V hVp).2.1
   have:=HH.out.2.2.2
   omega
  have HV:=Lib.hid (And.intro hV (And.intro hpm (And.intro hVp (And.intro hT1 (And.intro hcell (And.intro hpo hcv))))))
  clear hp hs hV hpm hpk hVp hT1 hps hvf hpo hcv hcell
  unfold ptrV
  go_wp2_with fail
  go_loopw [10,30] (fun out i wr=>q68 S V w out i wr) (fun _ i _=>V.chs.length-(intOf i).toNat)
  case atStart=>exact ⟨0,S.A.spare,[],Nat.zero_le _,rfl,qdh,HH.out.2.1.area,by rw [List.append_nil];exact HV.out.2.2.2.1⟩
  case round =>
   obtain ⟨j,sp,J,hj,rfl,hbo,hAo,hT⟩:=hrel
   have HR:=Lib.hid (And.intro hbo (And.intro hAo hT))
   clear hbo hAo hT
   by_cases hlt:j<V.chs.length
   ·obtain ⟨hver,hcells⟩:=qrr HH.out.2.1 HV.out.2.1 HV.out.2.2.1 HV.out.2.2.2.2.2.2 (W:=wr) (HR.out.2.2.sat.sub (fun x=>by simp only [arF,qad,qaa]<;>omega))
    obtain ⟨g,off,hg,hcell⟩:=hcells (by rw [qef];omega)
    subst hg
    obtain ⟨hc1,hc2⟩:=qkt hcell hlt
    obtain ⟨q,hq⟩:∃ q,q=V.chs[j]:=⟨_,rfl⟩
    rw [← hq] at hc1 hc2
    have hbK:=chs_K HH.out.2.1 HV.out.2.1 HV.out.2.2.1 (q:=q) (by rw [hq];exact List.getElem_mem hlt)
    obtain ⟨bo,hbo⟩:∃ bo,bo=qcb S.K q:=⟨_,rfl⟩
    rw [← hbo] at hbK
    have hq2:q.2=bo.length:=(HH.out.2.1.kat _ hbK).1
    have hbody:=(HH.out.2.1.kat _ hbK).2.chunkAt HH.out.2.1.dat
    have htk:(V.chs.take (j+1)).flatMap (qcb S.K)=(V.chs.take j).flatMap (qcb S.K)++bo:=by
     rw [List.take_succ_eq_append_getElem hlt,List.flatMap_append,hbo,hq];simp
    have hlen:((V.chs.take j).flatMap (qcb S.K)).length+bo.length≤137438953472:=by
     have h1:((V.chs.take (j+1)).flatMap (qcb S.K)).length≤(contV S V).length:=by
      unfold contV
      conv=>rhs;rw [← List.take_append_drop (j+1) V.chs,List.flatMap_append,List.length_append]
      omega
     rw [qh1 HH.out.2.1 HV.out.2.1 HV.out.2.2.1,htk,List.length_append] at h1
     have h2:=((HH.out.2.2.1.vers p HV.out.2.1).2.2 V HV.out.2.2.1).2.2.1
     have:=HH.out.2.2.2
     omega
    obtain ⟨B8,hB8⟩:∃ B8,B8=wr.heap.size:=⟨_,rfl⟩
    obtain ⟨bs,hbs⟩:∃ bs,bs=(V.chs.take j).flatMap (qcb S.K):=⟨_,rfl⟩
    rw [← hbs] at htk hlen HR
    have hT8:Turns (arF S) (areaF S.X.ab S.X.d { S.A with spare:=sp }++((B8,Is (qau q))::(bRow u10 bs++((S.a,Is (archO S.X))::(devF S.X.d S.L++(qbc S.X.pm S.ps S.pc++(tagsF S.X.tm S.ts S.tc++(qbd S.X.cm S.cs S.cc++J)))))))) w (wr.alloc (qau q)):=by
     rw [hB8]
     exact (HR.out.2.2.allocIs (qau q)).to (by unfold arF;exact (qaf fun _=>by simp only [qad,qaa,qah]<;>omega))
    have HLd:=Lib.hid (qkx S.a S.X S.X.ab S.X.d rfl { S.A with spare:=sp } S.L q.1 bo _ (wr.alloc (qau q)) hT8.sat (fun x=>by simp only [qad,qaa];omega) HH.out.2.1.dev HR.out.2.1 HH.out.2.1.fits HH.out.2.1.nmax hbody)
    rw [← hq2] at HLd
    have HQ:=Lib.hid (And.intro hbK (And.intro hq2 (And.intro htk (And.intro hlen (And.intro hT8 hB8)))))
    clear hver hcells hcell hq hbK hbo hq2 hbody htk hlen hT8 hB8 hbs
    go_wp2_with fail
    refine HLd.out.mono ?_
    rintro e w4 ⟨av,cv,sp2,rfl,hok4,hAo4,hT4⟩
    have hT5:=HQ.out.2.2.2.2.1.trans hT4
    obtain ⟨av',cv',hev,-,-,hav,-⟩:=qbk (bOwns hT4.sat.left hok4)
    simp only [Value.slice.injEq,true_and] at hev
    obtain ⟨rfl,rfl⟩:=hev
    rw [← HQ.out.2.2.2.2.2]
    have hT6:Turns (arF S) (bRow u10 bs++(arF { S with A:={ S.A with spare:=sp2 } }++((B8,Is (qau q))::(bRow (.slice av bo.length cv) bo++J)))) w w4:=hT5.to (by unfold arF;exact (qaf fun _=>by simp only [qad,qaa,qah]<;>omega))
    have H4:=Lib.hid (And.intro hAo4 (And.intro hT6 hav))
    clear hok4 hAo4 hT4 hT5 hav hT6
    go_wp2_with ((refine qak rfl (qf0 (.tmp 43) (.tmp 44) rfl u10 bs rfl H4.out.2.1 HR.out.1 av bo.length cv rfl bo rfl H4.out.2.2 HQ.out.2.2.2.1 ?_);intro av2 cv2 w6 hok6 hT6 _))
    go_roundw
    case rel =>
     refine ⟨j+1,sp2,(B8,Is (qau q))::(bRow (.slice av bo.length cv) bo++J),by omega,by go_num,?_,H4.out.1,?_⟩
     ·rw [HQ.out.2.2.1];rw [List.length_append] at hok6;exact hok6
     ·rw [HQ.out.2.2.1];rw [List.length_append] at hT6;exact hT6
    case measure=>simp [intOf];omega
   ·obtain rfl:j=V.chs.length:=by omega
    rw [List.take_length] at HR
    go_wp2_with fail
    refine bodyPost_ret (results_tmp2 rfl _ _ _) rfl (.inr ⟨V,u10,sp,HV.out.1,rfl,HR.out.1,HR.out.2.1,?_⟩)
    exact HR.out.2.2.drop (fun x=>by unfold contV;simp only [qaa];omega)
end Go.Proofs.YtdhobpbngkainaaGreatDoor
namespace Go.Proofs.YtdhobpbngkainaaGreatDoor
open Go.RowKit
section
def qh3 (ops:Array Oper) (a0:Act) (k:Nat):Value:=((ops.toList[k]?).bind (·.dst)).elim undef (fun d=>a0.tmps.getD d undef)
def qrh (P:Program) (Q:Exit→Act→World→Prop) (ops:Array Oper) (a0:Act) (φ:Nat→Value→Prop) (J:(Nat→Option Value)→World→Prop) (noisy:List Nat) (i:Nat) (o:Oper):Prop :=
 ∀ (x:Nat→Value) (s:Nat→Option Value) (w:World),qf6 φ x s noisy o.after.toList→(∀ k v,s k=some v→x k=v)→s i=none→(∀ k,noisy.contains k=true→s k=none→x k=qh3 ops a0 k)→J s w →
  if Region.wanted o (yielded ops (qam x 0 ops.toList a0).tmps) then
   ∀ K:Act→World→Prop,(∀ v w',φ i v→J (if noisy.contains i then updO s i v else s) w'→K ((qam x 0 ops.toList a0).put o.dst v) w')→o.wp P (qam x 0 ops.toList a0) w K Q
  else φ i undef∧J (if noisy.contains i then updO s i undef else s) w
def qg6 (P:Program) (Q:Exit→Act→World→Prop) (ops:Array Oper) (a0:Act) (φ:Nat→Value→Prop) (J:(Nat→Option Value)→World→Prop) (noisy:List Nat):Nat→List Oper→Prop
 | _,[]=>True
 | i,o::r=>qrh P Q ops a0 φ J noisy i o∧qg6 P Q ops a0 φ J noisy (i+1) r
theorem qs0 {P:Program} {Q:Exit→Act→World→Prop} {ops:Array Oper} {a0:Act} {φ:Nat→Value→Prop} {J:(Nat→Option Value)→World→Prop} {noisy:List Nat} :
  ∀ (l:List Oper) (i:Nat),qg6 P Q ops a0 φ J noisy i l→∀ (j:Nat) (o:Oper),l[j]?=some o→qrh P Q ops a0 φ J noisy (i+j) o:=by
 intro l
 induction l with
 | nil=>intro i _ j o h;simp at h
 | cons o' r ih =>
  intro i h j o hj
  cases j with
  | zero=>simp only [List.getElem?_cons_zero,Option.some.injEq] at hj;subst hj;exact h.1
  | succ j=>have:=ih _ h.2 j o (by simpa using hj);rwa [Nat.add_right_comm,Nat.add_assoc] at this
theorem qv9 {P:Program} {Q:Exit→Act→World→Prop} {ops:Array Oper} {a0:Act} (φ:Nat→Value→Prop) (J:(Nat→Option Value)→World→Prop) (noisy:List Nat)
  (hok:qcd a0.tmps.size 0 ops.toList []=true) (hsteps:qg6 P Q ops a0 φ J noisy 0 ops.toList)
  (hend:∀ x w,qdf φ x 0 ops.size→J (fun k=>if k<ops.size∧noisy.contains k=true then some (x k) else none) w→Q .normal (qam x 0 ops.toList a0) w) :
  ∀ (fuel:Nat) (listed:Array Bool) (x:Nat→Value) (w:World),listed.size=ops.size→qb8 listed=fuel→(∀ k,listed.getD k false=true→φ k (x k))→(∀ k,listed.getD k false=false→x k=qh3 ops a0 k)→J (qa3 noisy listed x) w →
   wpAny P .any ops Q fuel listed (qam x 0 ops.toList a0) w:=by
 have hn:=(qiv ops.toList 0 [] hok).1
 have fin:∀ (listed:Array Bool) (x:Nat→Value) (w:World),listed.size=ops.size→qb8 listed=0→(∀ k,listed.getD k false=true→φ k (x k))→J (qa3 noisy listed x) w→Q .normal (qam x 0 ops.toList a0) w:=by
  intro listed x w hs hu hφ hJ
  have hall:∀ k,listed.getD k false=true↔k<ops.size:=fun k=>by
   rcases Nat.lt_or_ge k listed.size with h' | h'
   ·have:=qdz hu h'
    simp only [Array.getD_eq_getD_getElem?,Array.getElem?_eq_getElem h',Option.getD_some] at this ⊢
    exact ⟨fun _=>by omega,fun _=>this⟩
   ·simp only [Array.getD_eq_getD_getElem?,Array.getElem?_eq_none h',Option.getD_none]
    exact ⟨fun h=>Bool.noConfusion h,fun h=>by omega⟩
  refine hend x w (qmv _ _ (fun k _ h2=>hφ k ((hall k).2 (by omega)))) ?_
  have e:qa3 noisy listed x=fun k=>if k<ops.size∧noisy.contains k=true then some (x k) else none:=by
   funext k
   unfold qa3
   simp only [hall k]
  rw [← e];exact hJ
 intro fuel
 induction fuel with
 | zero =>
  intro listed x w hs hu hφ hin hJ
  refine ⟨?_,fin listed x w hs hu hφ hJ⟩
  apply Classical.byContradiction
  intro hne
  obtain ⟨i,hi⟩:=List.exists_mem_of_ne_nil _ hne
  obtain ⟨h1,h2,_⟩:=qgu hi
  have:=qdz hu (i:=i) (by omega)
  rw [this] at h2;cases h2
 | succ fuel ih =>
  intro listed x w hs hu hφ hin hJ
  refine ⟨fun hnil=>?_,fun i hi=>?_⟩
  ·obtain ⟨i,hi,hl⟩:=qi0 (listed:=listed) (by omega)
   exact absurd hnil (qok hok hs (by omega) hl)
  ·obtain ⟨h1,h2,o,ho,hdeps⟩:=qgu hi
   have hlt:i<listed.size:=by omega
   have hf:listed.getD i false=false:=by
    simp only [Array.getD_eq_getD_getElem?,Array.getElem?_eq_getElem hlt,Option.getD_some] at h2 ⊢;exact h2
   have hol:ops.toList[i]?=some o:=by simpa using ho
   have hst:=qs0 ops.toList 0 hsteps i o hol
   rw [Nat.zero_add] at hst
   have hst:=hst x (qa3 noisy listed x) w (qmb _ (fun e he hb=>⟨hφ _ (hdeps e he hb),fun hc=>by unfold qa3;rw [if_pos ⟨hdeps e he hb,hc⟩]⟩)) (fun k v hk=>by unfold qa3 at hk;split at hk<;>simp_all) (by unfold qa3;rw [if_neg (by simp [hf])]) (fun k hk hs2=>hin k (by
    unfold qa3 at hs2
    cases hl:listed.getD k false with
    | false=>rfl
    | true=>rw [if_pos ⟨hl,hk⟩] at hs2;cases hs2)) hJ
   have hsz':(listed.setIfInBounds i true).size=ops.size:=by simpa using hs
   have hu':qb8 (listed.setIfInBounds i true)=fuel:=by have:=qi2 h2;omega
   have next:∀ v w',φ i v→J (if noisy.contains i then updO (qa3 noisy listed x) i v else qa3 noisy listed x) w'→wpAny P .any ops Q fuel (listed.setIfInBounds i true) ((qam x 0 ops.toList a0).put o.dst v) w':=by
    intro v w' hv hJ'
    rw [qoq i v ops.toList 0 a0 o hn (Nat.zero_le _) (by simpa using hol)]
    have hgd:∀ k,(listed.setIfInBounds i true).getD k false=if k=i then true else listed.getD k false:=fun k=>by
     simp only [Array.getD_eq_getD_getElem?,Array.getElem?_setIfInBounds]
     by_cases hk:k=i
     ·subst hk;simp [hlt]
     ·rw [if_neg (Ne.symm hk),if_neg hk]
    refine ih _ _ w' hsz' hu' (fun k hk=>?_) (fun k hk=>?_) ?_
    ·rw [hgd k] at hk
     by_cases hki:k=i
     ·subst hki;rw [if_pos rfl];exact hv
     ·rw [if_neg hki] at hk ⊢;exact hφ k hk
    ·rw [hgd k] at hk
     by_cases hki:k=i
     ·rw [if_pos hki] at hk;cases hk
     ·rw [if_neg hki] at hk ⊢;exact hin k hk
    ·have e:qa3 noisy (listed.setIfInBounds i true) (fun j=>if j=i then v else x j)=(if noisy.contains i then updO (qa3 noisy listed x) i v else qa3 noisy listed x):=by
      funext k
      unfold qa3
      rw [hgd k]
      by_cases hki:k=i
      ·subst hki
       cases hc:noisy.contains k with
       | true=>simp only [if_true,and_self,updO,↓reduceIte]
       | false=>simp only [if_true,Bool.false_eq_true,and_false,if_false,↓reduceIte,hc]
      ·simp only [if_neg hki]
       cases hc:noisy.contains i with
       | true=>simp only [if_true,updO,if_neg hki,↓reduceIte]
       | false=>simp only [Bool.false_eq_true,if_false,↓reduceIte]
     rw [e];exact hJ'
   unfold wpOp
   rw [ho]
   simp only
   split
   ·rename_i hw
    rw [if_pos hw] at hst
    exact .inl (hst _ next)
   ·rename_i hw
    rw [if_neg hw] at hst
    exact next undef w hst.1 hst.2
theorem qoz {P:Program} {Q:Exit→Act→World→Prop} {ops:Array Oper} {a0:Act} {w:World} (φ:Nat→Value→Prop) (J:(Nat→Option Value)→World→Prop) (noisy:List Nat)
  (hok:qcd a0.tmps.size 0 ops.toList []=true) (h0:J (fun _=>none) w.drew) (hsteps:qg6 P Q ops a0 φ J noisy 0 ops.toList)
  (hend:∀ x w,qdf φ x 0 ops.size→J (fun k=>if k<ops.size∧noisy.contains k=true then some (x k) else none) w→Q .normal (qam x 0 ops.toList a0) w) :
  wpAny P .any ops Q ops.size (Array.replicate ops.size false) a0 w.drew:=by
 have hx:∃ x:Nat→Value,(∀ k,x k=qh3 ops a0 k)∧qam x 0 ops.toList a0=a0:=by
  have key:∀ (l:List Oper) (k:Nat) (x:Nat→Value),(∀ j o d,l[j]?=some o→o.dst=some d→d<a0.tmps.size→x (k+j)=a0.tmps.getD d undef)→qam x k l a0=a0:=by
   intro l
   induction l with
   | nil=>intro k x _;rfl
   | cons o r ih =>
    intro k x h
    simp only [qam]
    have e:a0.put o.dst (x k)=a0:=by
     cases hd:o.dst with
     | none=>rfl
     | some d =>
      simp only [Act.put]
      by_cases hlt:d<a0.tmps.size
      ·have:=h 0 o d (by simp) hd hlt
       rw [Nat.add_zero] at this
       rw [this]
       obtain ⟨t,df⟩:=a0
       simp only [Act.mk.injEq,and_true]
       have hlt':d<t.size:=hlt
       apply Array.ext_getElem?
       intro j
       rw [Array.getElem?_setIfInBounds]
       by_cases hj:d=j
       ·subst hj;simp [hlt']
       ·rw [if_neg hj]
      ·obtain ⟨t,df⟩:=a0
       simp only [Act.mk.injEq,and_true]
       have hle:t.size≤d:=Nat.le_of_not_lt hlt
       exact Array.setIfInBounds_eq_of_size_le hle
    rw [e]
    exact ih (k+1) x (fun j o' d hj hd hl=>by have:=h (j+1) o' d (by simpa using hj) hd hl;rwa [show k+(j+1)=k+1+j by omega] at this)
  refine ⟨fun j=>qh3 ops a0 j,fun _=>rfl,key ops.toList 0 _ (fun j o d hj hd _=>?_)⟩
  unfold qh3
  simp [hj,hd]<;>simp_all
 obtain ⟨x,hin,hx⟩:=hx
 have h:=qv9 (P:=P) (Q:=Q) φ J noisy hok hsteps hend ops.size (Array.replicate ops.size false) x w.drew (by simp) (qhh _) (fun k hk=>by
   simp only [Array.getD_eq_getD_getElem?,Array.getElem?_replicate] at hk
   split at hk<;>simp at hk) (fun k _=>hin k) (by
   have e:qa3 noisy (Array.replicate ops.size false) x=fun _=>none:=by
    funext k
    unfold qa3
    rw [if_neg]
    simp only [Array.getD_eq_getD_getElem?,Array.getElem?_replicate]
    split<;>simp
   rw [e];exact h0)
 rw [hx] at h
 exact h
variable {P : Program} {Q : Exit → Act → World → Prop} {ops : Array Oper} {a0 : Act} {A : (Nat → Value) → Act} {φ : Nat → Value → Prop} {J : (Nat → Option Value) → World → Prop} {noisy : List Nat}
def qjh (P:Program) (Q:Exit→Act→World→Prop) (ops:Array Oper) (a0:Act) (A:(Nat→Value)→Act) (φ:Nat→Value→Prop) (J:(Nat→Option Value)→World→Prop) (noisy:List Nat) (i:Nat) (o:Oper):Prop :=
 ∀ (x:Nat→Value) (s:Nat→Option Value) (w:World),qf6 φ x s noisy o.after.toList→(∀ k v,s k=some v→x k=v)→s i=none→(∀ k,noisy.contains k=true→s k=none→x k=qh3 ops a0 k)→J s w →
  if Region.wanted o (yielded ops (A x).tmps) then
   ∀ K:Act→World→Prop,(∀ v w',φ i v→J (if noisy.contains i then updO s i v else s) w'→K ((A x).put o.dst v) w')→o.wp P (A x) w K Q
  else φ i undef∧J (if noisy.contains i then updO s i undef else s) w
def qle (P:Program) (Q:Exit→Act→World→Prop) (ops:Array Oper) (a0:Act) (A:(Nat→Value)→Act) (φ:Nat→Value→Prop) (J:(Nat→Option Value)→World→Prop) (noisy:List Nat):Nat→List Oper→Prop
 | _,[]=>True
 | i,o::r=>qjh P Q ops a0 A φ J noisy i o∧qle P Q ops a0 A φ J noisy (i+1) r
theorem qix (hA:∀ x,qam x 0 ops.toList a0=A x):∀ (l:List Oper) (i:Nat),qle P Q ops a0 A φ J noisy i l→qg6 P Q ops a0 φ J noisy i l
 | [],_,_=>trivial
 | o::r,i,h=>by
  refine ⟨fun x=>?_,qix hA r (i+1) h.2⟩
  rw [hA x]
  exact h.1 x
theorem qo7 {id:Nat} {w:World} (A:(Nat→Value)→Act) (hA:∀ x,qam x 0 ops.toList a0=A x) (hm:P.follows .mixedOrders=true) (φ:Nat→Value→Prop) (J:(Nat→Option Value)→World→Prop) (noisy:List Nat)
  (hok:qcd a0.tmps.size 0 ops.toList []=true) (h0:J (fun _=>none) w.drew) (hsteps:qle P Q ops a0 A φ J noisy 0 ops.toList)
  (hend:∀ x w,qdf φ x 0 ops.size→J (fun k=>if k<ops.size∧noisy.contains k=true then some (x k) else none) w→Q .normal (A x) w) :
  (Code.region id ops true).wp P Q a0 w :=
 wp_region_any hm (qoz φ J noisy hok h0 (qix hA _ _ hsteps) (fun x w h1 h2=>by rw [hA x];exact hend x w h1 h2))
theorem qci {i:Nat} {o:Oper} (hi:noisy.contains i=false) (hg:o.guard=none)
  (h:∀ (x:Nat→Value) (s:Nat→Option Value) (w:World),depsC φ x o.after.toList→(∀ k,noisy.contains k=true→s k=none→x k=qh3 ops a0 k)→J s w→∀ K:Act→World→Prop,(∀ v,φ i v→K ((A x).put o.dst v) w)→o.wp P (A x) w K Q):qjh P Q ops a0 A φ J noisy i o:=by
 intro x s w hd _ _ hin hJ
 rw [if_pos (by simp [Region.wanted,hg])]
 intro K hK
 exact h x s w (qec _ hd).1 hin hJ K (fun v hv=>hK v w hv (by rw [hi];exact hJ))
theorem qtx {i:Nat} {o:Oper} (hi:noisy.contains i=true) (hg:o.guard=none)
  (h:∀ (x:Nat→Value) (s:Nat→Option Value) (w:World),depsC φ x o.after.toList→(∀ k,noisy.contains k=true→s k=none→x k=qh3 ops a0 k)→s i=none→J s w→∀ K:Act→World→Prop,(∀ v w',φ i v→J (updO s i v) w'→K ((A x).put o.dst v) w')→o.wp P (A x) w K Q):qjh P Q ops a0 A φ J noisy i o:=by
 intro x s w hd _ hsi hin hJ
 rw [if_pos (by simp [Region.wanted,hg])]
 intro K hK
 exact h x s w (qec _ hd).1 hin hsi hJ K (fun v w' hv hj=>hK v w' hv (by rw [hi];exact hj))
theorem qjx {i:Nat} {o:Oper} (hi:noisy.contains i=true) (hg:o.guard=none)
  (h:∀ (x:Nat→Value) (s:Nat→Option Value) (w:World),depsC φ x o.after.toList→(∀ e∈o.after.toList,Region.binds .any e=true→noisy.contains e.on=true→s e.on=some (x e.on))→s i=none→J s w→∀ K:Act→World→Prop,(∀ v w',φ i v→J (updO s i v) w'→K ((A x).put o.dst v) w')→o.wp P (A x) w K Q):qjh P Q ops a0 A φ J noisy i o:=by
 intro x s w hd _ hsi _ hJ
 rw [if_pos (by simp [Region.wanted,hg])]
 intro K hK
 exact h x s w (qec _ hd).1 (qec _ hd).2 hsi hJ K (fun v w' hv hj=>hK v w' hv (by rw [hi];exact hj))
end
end Go.Proofs.YtdhobpbngkainaaGreatDoor
namespace Go.Proofs.YtdhobpbngkainaaGreatDoor
open Go.RowKit Go.Maps
theorem q6h:(Tryz.prog.info? 262).map (fun i=>(i.zero,i.size,i.bytes))=some (some (.agg #[str [],.int .i64 0,.int .i64 0,.int .i64 0]),4,40):=by kernel_rfl
theorem qt6 {o:Oper} {a:Act} {w a0:World} {K:Act→World→Prop} {Q:Exit→Act→World→Prop} {F G:HF} (s x:Operand) (hop:o.op=.call { callee:=.builtin .append,args:=#[s,x],argTypes:=#[181,181] })
  (v:Value) (l:List EntL) (hs:a.eval s=v) (hT:Turns F (qb5 v l++G) a0 w) (hok:entOk v l) (nb:Nat) (hx:a.eval x=.slice (some ⟨nb,0,none⟩) 1 1) (r:EntL)
  (hc:w.heap[nb]?=some (.cells (entV r).toArray 262 (0,0))) (hb:l.length≤1000000)
  (hk:∀ v' w',entOk v' (l++[r])→Turns F (qb5 v' (l++[r])++G) a0 w'→K (a.put o.dst v') w'):o.wp Tryz.prog a w K Q:=by
 obtain ⟨i0,hi0,hz1,hz2,hz3⟩:=info_parts q6h
 refine qct s x 181 262 i0 (.agg #[str [],.int .i64 0,.int .i64 0,.int .i64 0]) 4 40 hop Tryz.underlying181 hi0 hz1 hz2 hz3 rfl (by decide) v l.length (l.flatMap entV) hs hT hok (some ⟨nb,0,none⟩) 1 1 hx (entV r) rfl (fun _=>⟨_,rfl,fun j u hu=>?_⟩) (fun u hu=>qx5 [r] u (by simpa using hu)) (by unfold maxLen;omega) (by omega) (fun v' w' h1 h2 h3=>?_)
 ·rw [Addr.add_lit,Nat.zero_add];exact qac hc j (by simpa using hu)
 ·exact hk v' w' (by unfold entOk;rw [List.length_append,List.flatMap_append];simpa using h1) (by unfold qb5;rw [List.length_append,List.flatMap_append];simpa using h2)
def entB (nb:Nat) (key:Bs) (U:VerL) (n:Nat):Nat×(Obj→Prop):=(nb,Is (.cells (entV ⟨key,U.num,U.size,n⟩).toArray 262 (0,0)))
structure L9 (F1 Z:HF) (A:World) (es:List EntL) (xv:Value) (key:Bs) (U:VerL) (n:Nat) (s:Nat→Option Value) (W:World):Prop where
 o14:s 14≠none→s 0≠none∧s 13≠none
 o15:s 15≠none→s 14≠none
 a:s 13=none→Turns F1 (qb5 xv es++((U.blk,Is (verO U))::Z)) A W
 b:∀ v,s 13=some v→s 14=none→∃ nb:Nat,v=.slice (some ⟨nb,0,none⟩) 1 1∧Turns F1 (entB nb key U n::(qb5 xv es++((U.blk,Is (verO U))::Z))) A W
 c:∀ v,s 14=some v→∃ nb:Nat,entOk v (es++[⟨key,U.num,U.size,n⟩])∧Turns F1 (entB nb key U n::(qb5 v (es++[⟨key,U.num,U.size,n⟩])++((U.blk,Is (verO U))::Z))) A W
 d:∀ v,s 15=some v→s 14=some v
theorem L9.ver {F1 Z:HF} {A:World} {es:List EntL} {xv:Value} {key:Bs} {U:VerL} {n:Nat} {s:Nat→Option Value} {W:World} (h:L9 F1 Z A es xv key U n s W):W.heap[U.blk]?=some (verO U):=by
 cases h13:s 13 with
 | none=>exact (h.a h13).sat.memIs (by simp)
 | some v =>
  cases h14:s 14 with
  | none=>obtain ⟨nb,-,h1⟩:=h.b v h13 h14;exact h1.sat.memIs (by simp)
  | some v'=>obtain ⟨nb,-,h1⟩:=h.c v' h14;exact h1.sat.memIs (by simp)
theorem list9 (F1 Z:HF) (A:World) (es:List EntL) (xv:Value) (key:Bs) (sl:Option Addr) (n cap:Nat) (U:VerL) {Q:Exit→Act→World→Prop} {w:World} {u0 u1 u2 u3 u4 u5 u10 u11 u12 u13 u14 u15 u16 u17 u18 u19 u20 u21 u22 u23 u24 u25 u26 u27 u28 u29 u30 u31 u32 u33 u34 u35 u36 u37 u38 u39 u40 u41 u42 u43 u44 u45 u46 u47 u48 u49 u50 u51 u52:Value} {ds:List Deferred} (hT:Turns F1 (qb5 xv es++((U.blk,Is (verO U))::Z)) A w) (hok:entOk xv es) (hl:es.length≤1000000)
  (hk:∀ (y6 y35 y36 y37 y38 y39 y40 y41 y42 y43 y44 y45 y46 y47 y48 y49:Value) (nb:Nat) (w':World),entOk y6 (es++[⟨key,U.num,U.size,n⟩])→Turns F1 (entB nb key U n::(qb5 y6 (es++[⟨key,U.num,U.size,n⟩])++((U.blk,Is (verO U))::Z))) A w'→Q .normal { tmps:=#[u0,u1,u2,u3,u4,u5,y6,str key,.slice sl n cap,.pointer (some ⟨U.blk,0,none⟩),u10,u11,u12,u13,u14,u15,u16,u17,u18,u19,u20,u21,u22,u23,u24,u25,u26,u27,u28,u29,u30,u31,u32,u33,u34,y35,y36,y37,y38,y39,y40,y41,y42,y43,y44,y45,y46,y47,y48,y49,u50,u51,u52],defers:=ds } w') :
  (regOf 9 Tryz.f88).wp Tryz.prog Q { tmps:=#[u0,u1,u2,u3,u4,u5,xv,str key,.slice sl n cap,.pointer (some ⟨U.blk,0,none⟩),u10,u11,u12,u13,u14,u15,u16,u17,u18,u19,u20,u21,u22,u23,u24,u25,u26,u27,u28,u29,u30,u31,u32,u33,u34,u35,u36,u37,u38,u39,u40,u41,u42,u43,u44,u45,u46,u47,u48,u49,u50,u51,u52],defers:=ds } w:=by
 have HM:=Lib.hid (show Tryz.prog.follows .mixedOrders=true by kernel_rfl)
 conv=>arg 2;whnf
 refine qo7 (A:=?A) (hA:=?hA) HM.out (phiL [fun v=>v=xv,fun v=>v=str key,fun v=>v=.pointer (some ⟨U.blk,0,none⟩),fun v=>v=.pointer (some ⟨U.blk,0,none⟩),fun v=>v=.pointer (some ⟨U.blk,0,none⟩),fun v=>v=.int .i64 U.num,fun v=>v=.pointer (some ⟨U.blk,0,none⟩),fun v=>v=.pointer (some ⟨U.blk,0,none⟩),fun v=>v=.pointer (some ⟨U.blk,1,none⟩),fun v=>v=.int .i64 U.size,fun v=>v=.slice sl n cap,fun v=>v=.int .i64 n,fun v=>v=.agg #[str key,.int .i64 U.num,.int .i64 U.size,.int .i64 n],fun _=>True,fun _=>True,fun _=>True]) (L9 F1 Z A es xv key U n) [0,13,14,15] (by kernel_rfl) ?h0 ?hs ?he
 case hA=>intro x;simp only [qam,Act.put,List.setIfInBounds_toArray,List.set_cons_zero,List.set_cons_succ,Nat.reduceAdd];rfl
 case h0=>exact ⟨fun h=>absurd rfl h,fun h=>absurd rfl h,fun _=>hT.drew,(fun v h=>by cases h),(fun v h=>by cases h),(fun v h=>by cases h)⟩
 case hs =>
  refine ⟨qtx (by decide) rfl (fun x s wq hd hin hsi hJ K hK=>?_),qci (by decide) rfl (fun x s wq hd hin hJ K hK=>?_),qci (by decide) rfl (fun x s wq hd hin hJ K hK=>?_),qci (by decide) rfl (fun x s wq hd hin hJ K hK=>?_),qci (by decide) rfl (fun x s wq hd hin hJ K hK=>?_),qci (by decide) rfl (fun x s wq hd hin hJ K hK=>?_),qci (by decide) rfl (fun x s wq hd hin hJ K hK=>?_),qci (by decide) rfl (fun x s wq hd hin hJ K hK=>?_),qci (by decide) rfl (fun x s wq hd hin hJ K hK=>?_),qci (by decide) rfl (fun x s wq hd hin hJ K hK=>?_),qci (by decide) rfl (fun x s wq hd hin hJ K hK=>?_),qci (by decide) rfl (fun x s wq hd hin hJ K hK=>?_),qci (by decide) rfl (fun x s wq hd hin hJ K hK=>?_),qjx (by decide) rfl (fun x s wq hd hsx hsi hJ K hK=>?_),qjx (by decide) rfl (fun x s wq hd hsx hsi hJ K hK=>?_),qjx (by decide) rfl (fun x s wq hd hsx hsi hJ K hK=>?_),trivial⟩
  ·have h14n:s 14=none:=by
    cases h:s 14 with
    | none=>rfl
    | some v=>exact absurd hsi (hJ.o14 (by rw [h];simp)).1
   have h15n:s 15=none:=by
    cases h:s 15 with
    | none=>rfl
    | some v=>exact absurd h14n (hJ.o15 (by rw [h];simp))
   have h15:x 15=xv:=hin 15 (by decide) h15n
   refine qag (v:=xv) (w':=wq) (by rw [h15];kernel_rfl) (hK _ _ rfl ⟨fun h=>?_,fun h=>?_,fun h=>?_,fun v h h2=>?_,fun v h=>?_,fun v h=>?_⟩)
   ·rw [qbb (by decide)] at h;exact absurd h14n h
   ·rw [qbb (by decide)] at h;exact absurd h15n h
   ·rw [qbb (by decide)] at h;exact hJ.a h
   ·rw [qbb (by decide)] at h h2;exact hJ.b v h h2
   ·rw [qbb (by decide),h14n] at h;cases h
   ·rw [qbb (by decide),h15n] at h;cases h
  ·exact qag (by kernel_rfl) (hK _ rfl)
  ·exact qag (by kernel_rfl) (hK _ rfl)
  ·have h2:x 2=.pointer (some ⟨U.blk,0,none⟩):=qae hd 2 (by kernel_rfl)
   exact qag (by rw [h2];kernel_rfl) (hK _ rfl)
  ·have h3:x 3=.pointer (some ⟨U.blk,0,none⟩):=qae hd 3 (by kernel_rfl)
   exact qag (by rw [h3];kernel_rfl) (hK _ rfl)
  ·have h4:x 4=.pointer (some ⟨U.blk,0,none⟩):=qae hd 4 (by kernel_rfl)
   exact qat Tryz.underlying3 rfl rfl (by rw [h4];rfl) (qac hJ.ver 0 rfl) (hK _ rfl)
  ·exact qag (by kernel_rfl) (hK _ rfl)
  ·have h6:x 6=.pointer (some ⟨U.blk,0,none⟩):=qae hd 6 (by kernel_rfl)
   exact qag (by rw [h6];kernel_rfl) (hK _ rfl)
  ·have h7:x 7=.pointer (some ⟨U.blk,0,none⟩):=qae hd 7 (by kernel_rfl)
   exact qag (by rw [h7];kernel_rfl) (hK _ rfl)
  ·have h8:x 8=.pointer (some ⟨U.blk,1,none⟩):=qae hd 8 (by kernel_rfl)
   exact qat Tryz.underlying3 rfl rfl (by rw [h8];rfl) (qac hJ.ver 1 rfl) (hK _ rfl)
  ·exact qag (by kernel_rfl) (hK _ rfl)
  ·have h10:x 10=.slice sl n cap:=qae hd 10 (by kernel_rfl)
   exact qag (by rw [h10];kernel_rfl) (hK _ rfl)
  ·have h1:x 1=str key:=qae hd 1 (by kernel_rfl)
   have h5:x 5=.int .i64 U.num:=qae hd 5 (by kernel_rfl)
   have h9:x 9=.int .i64 U.size:=qae hd 9 (by kernel_rfl)
   have h11:x 11=.int .i64 n:=qae hd 11 (by kernel_rfl)
   exact qag (by rw [h1,h5,h9,h11];kernel_rfl) (hK _ rfl)
  ·have h12:x 12=.agg #[str key,.int .i64 U.num,.int .i64 U.size,.int .i64 n]:=qae hd 12 (by kernel_rfl)
   have h14n:s 14=none:=by
    cases h:s 14 with
    | none=>rfl
    | some v=>exact absurd hsi (hJ.o14 (by rw [h];simp)).2
   have h15n:s 15=none:=by
    cases h:s 15 with
    | none=>rfl
    | some v=>exact absurd h14n (hJ.o15 (by rw [h];simp))
   refine qag (v:=.slice (some ⟨wq.heap.size,0,none⟩) 1 1) (w':=wq.alloc (.cells (entV ⟨key,U.num,U.size,n⟩).toArray 262)) (by rw [h12];kernel_rfl) (hK _ _ trivial ⟨fun h=>?_,fun h=>?_,fun h=>?_,fun v h h2=>?_,fun v h=>?_,fun v h=>?_⟩)
   ·rw [qbb (by decide)] at h;exact absurd h14n h
   ·rw [qbb (by decide)] at h;exact absurd h15n h
   ·rw [qel] at h;cases h
   ·rw [qel] at h
    obtain rfl:=Option.some.inj h
    exact ⟨_,rfl,(hJ.a hsi).allocIs _⟩
   ·rw [qbb (by decide),h14n] at h;cases h
   ·rw [qbb (by decide),h15n] at h;cases h
  ·have h0:x 0=xv:=qae hd 0 (by kernel_rfl)
   have h13s:=qgq hsx 13 (by kernel_rfl) (by decide)
   have h0s:=qgq hsx 0 (by kernel_rfl) (by decide)
   have h15n:s 15=none:=by
    cases h:s 15 with
    | none=>rfl
    | some v=>exact absurd hsi (hJ.o15 (by rw [h];simp))
   obtain ⟨nb,e13,hT3⟩:=hJ.b _ h13s hsi
   refine qt6 (.tmp 35) (.tmp 48) rfl xv es (by rw [h0];rfl) (hT3.to (H:=qb5 xv es++(entB nb key U n::((U.blk,Is (verO U))::Z))) (qaf fun _=>by simp only [qad,qaa,qah]<;>omega)) hok nb (by rw [e13];rfl) ⟨key,U.num,U.size,n⟩ hT3.sat.headIs hl (fun v1 w1 k1 k2=>hK _ _ trivial ⟨fun h=>?_,fun h=>?_,fun h=>?_,fun v h h2=>?_,fun v h=>?_,fun v h=>?_⟩)
   ·rw [qbb (by decide),qbb (by decide),h13s,h0s];simp
   ·rw [qbb (by decide)] at h;exact absurd h15n h
   ·rw [qbb (by decide),h13s] at h;cases h
   ·rw [qel] at h2;cases h2
   ·rw [qel] at h
    obtain rfl:=Option.some.inj h
    exact ⟨nb,k1,k2.to (qaf fun _=>by simp only [qad,qaa,qah]<;>omega)⟩
   ·rw [qbb (by decide),h15n] at h;cases h
  ·have h14s:=qgq hsx 14 (by kernel_rfl) (by decide)
   have h13n:s 13≠none:=(hJ.o14 (by rw [h14s];simp)).2
   have h0n:s 0≠none:=(hJ.o14 (by rw [h14s];simp)).1
   refine qag (v:=x 14) (w':=wq) (by kernel_rfl) (hK _ _ trivial ⟨fun h=>?_,fun h=>?_,fun h=>?_,fun v h h2=>?_,fun v h=>?_,fun v h=>?_⟩)
   ·rw [qbb (by decide),qbb (by decide)];exact ⟨h0n,h13n⟩
   ·rw [qbb (by decide),h14s];simp
   ·rw [qbb (by decide)] at h;exact absurd h h13n
   ·rw [qbb (by decide),h14s] at h2;cases h2
   ·rw [qbb (by decide)] at h;exact hJ.c v h
   ·rw [qel] at h
    rw [qbb (by decide),h14s];exact h
 case he =>
  intro x w3 hφ hS
  have h15:(fun k=>if k<16∧([0,13,14,15]:List Nat).contains k=true then some (x k) else none) 15=some (x 15):=by simp
  have h14:=hS.d _ h15
  obtain ⟨nb,k1,k2⟩:=hS.c _ h14
  exact hk (x 15) (x 0) (x 1) (x 2) (x 3) (x 4) (x 5) (x 6) (x 7) (x 8) (x 9) (x 10) (x 11) (x 12) (x 13) (x 14) nb w3 k1 k2
def lastV (l:List VerL):VerL:=(l.getLast?).getD ⟨0,0,0,.slice none 0 0,[],0⟩
def pEnt (p:PathL):EntL:=⟨p.key,(lastV p.g).num,(lastV p.g).size,p.g.length⟩
def entsL (pre:Bs) (l:List PathL):List EntL:=(l.filter (fun p=>pre.isPrefixOf p.key)).map pEnt
def quk (S:AS) (pre:Bs) (w:World) (e:Ending) (w':World):Prop :=
 (S.X.closed=true∧e=.returned (.tuple #[.slice none 0 0,errV 9])∧Turns (arF S) (arF S) w w') ∨
 (S.X.closed=false∧∃ v es,e=.returned (.tuple #[v,.nilIface])∧qvb (entsL pre S.ps) es∧entOk v es∧Turns (arF S) (qb5 v es++arF S) w w')
def qq4 (S:AS) (pre:Bs) (w:World) (r:Nat) (v:Value) (W:World):Prop :=
 ∃ done todo J,(done++todo).Perm S.ps∧entOk v (entsL pre done)∧Turns (arF S) (qb5 v (entsL pre done)++((r,Is (iterO S.X.pm S.pc (done.map entG)))::(arF S++J))) w W
def iterN (r n:Nat) (w:World):Nat:=match w.heap[r]? with
 | some (.mapIter _ _ d _)=>n-d.size
 | _=>0
theorem qyk (S:AS) (pre:Bs) (b:Nat) (w:World) (h:Sat w (arF S)) (hok:ArOk S) (hB:ArB S b) (hb:b≤90000) :
  Calls Tryz.prog 88 #[.pointer (some ⟨S.a,0,none⟩),str pre] w (quk S pre w):=by
 have ha:=h.headIs
 have hal:=qal ha
 cases hc:S.X.closed with
 | true =>
  have a10:w.cell? ⟨S.a,10,none⟩=some (.bool true):=by rw [← hc];exact qac ha 10 rfl
  have HC:=Lib.hid (And.intro hc h)
  clear h hok hB hb ha hc
  go_enter Tryz.func88,Tryz.ntmps88
  go_wp2_with fail
  exact bodyPost_ret (results_tmp2 rfl _ _ _) rfl (.inl ⟨HC.out.1,rfl,Turns.refl HC.out.2⟩)
 | false =>
  have a10:w.cell? ⟨S.a,10,none⟩=some (.bool false):=by rw [← hc];exact qac ha 10 rfl
  have a0:w.cell? ⟨S.a,0,none⟩=some (.map (some S.X.pm)):=qac ha 0 rfl
  have hpm:=h.memIs (b:=S.X.pm) (o:=mapO str (S.ps.map entG) S.pc) (by simp [arF,qbc])
  obtain ⟨r,hr⟩:∃ r,r=w.heap.size:=⟨_,rfl⟩
  have hrel0:qq4 S pre w r (.slice none 0 0) (w.alloc (iterO S.X.pm S.pc ([]:List (Ent Bs)))):=by
   refine ⟨[],S.ps,[],List.Perm.refl _,⟨rfl,fun _=>⟨rfl,rfl⟩⟩,?_⟩
   rw [hr,List.append_nil]
   exact (Turns.refl h).allocIs _
  have HH:=Lib.hid (And.intro h (And.intro hok (And.intro hB (And.intro hb (And.intro hc (And.intro hpm (And.intro hr hrel0)))))))
  clear h hok hB hb ha hc hpm hr hrel0
  go_enter Tryz.func88,Tryz.ntmps88
  go_wp2_with ((refine qak rfl (qxv (.tmp 19) rfl Tryz.underlying119 HH.out.2.2.2.2.2.1 rfl ?_);rw [← HH.out.2.2.2.2.2.2.1]))
  go_frame
  go_loopw [6] (fun v wr=>qq4 S pre w r v wr) (fun _ wr=>iterN r S.ps.length wr)
  case atStart=>exact HH.out.2.2.2.2.2.2.2
  case round =>
   obtain ⟨done,todo,J,hperm,hio,hT⟩:=hrel
   have hT2:=hT.to (H:=(r,Is (iterO S.X.pm S.pc (done.map entG)))::(qb5 u6 (entsL pre done)++(arF S++J))) (qaf fun _=>by simp only [qad,qaa,qah]<;>omega)
   have hri:=hT2.sat.headIs
   have hrm:=hT2.sat.memIs (b:=S.X.pm) (o:=mapO str (S.ps.map entG) S.pc) (by simp [arF,qbc])
   have hpermE:(done.map entG++todo.map entG).Perm (S.ps.map entG):=by rw [← List.map_append];exact hperm.map _
   have hdl:done.length+todo.length=S.ps.length:=by rw [← hperm.length_eq,List.length_append]
   have hpl:S.ps.length≤90000:=Nat.le_trans HH.out.2.2.1.np HH.out.2.2.2.1
   rcases qrn (P:=Tryz.prog) (ty:=0) hri hrm HH.out.2.1.paths.map hpermE with ⟨ht,hnx⟩ | ⟨e,rest,w4,ht,hw4,hnx⟩
   ·have hte:todo=[]:=by simpa using ht
    have hdp:done.Perm S.ps:=by rw [hte,List.append_nil] at hperm;exact hperm
    have hee:(entsL pre done).Perm (entsL pre S.ps):=by unfold entsL;exact (hdp.filter _).map _
    have hel:(entsL pre done).length≤90000:=by
     have h1:(entsL pre done).length≤done.length:=by unfold entsL;rw [List.length_map];exact List.length_filter_le _ _
     omega
    obtain ⟨es,hes⟩:∃ es,es=entsL pre done:=⟨_,rfl⟩
    rw [← hes] at hio hT hee hel
    have HD:=Lib.hid (And.intro hio (And.intro hT (And.intro hee hel)))
    clear hio hT hT2 hri hrm hpermE hdl hpl ht hte hdp hee hel hperm hes
    by_cases hne:es=[]
    ·subst hne
     have hsn:∃ p cap,u6=.slice p 0 cap:=by
      obtain ⟨-,-,p,cap,e1,-,-⟩:=qdv HD.out.2.1.sat.left HD.out.1
      exact ⟨p,cap,e1⟩
     obtain ⟨p,cap,e1⟩:=hsn
     have hsort:=AnyF.slices_SortFunc_none sortE p cap (.func (.func 134) #[] #[]) wr
     change Calls Tryz.prog 133 _ _ _ at hsort
     have HS:=Lib.hid (And.intro hsort e1)
     have HDD:=HD.out
     rw [e1] at HDD
     have HD2:=Lib.hid HDD
     subst e1
     clear hsort HDD HD
     go_wp2_with fail
     refine HS.out.1.mono ?_
     rintro e w5 ⟨rfl,rfl⟩
     go_wp2_with fail
     exact bodyPost_ret (results_tmp2 rfl _ _ _) rfl (.inr ⟨HH.out.2.2.2.2.1,_,[],rfl,⟨HD2.out.2.2.1,fun i j hij hj=>by simp at hj⟩,HD2.out.1,by exact HD2.out.2.1.drop (fun x=>by simp only [qad,qaa];omega)⟩)
    ·obtain ⟨g,cap,e1,hsort⟩:=qyp HD.out.2.1 HD.out.1 hne (by have:=HD.out.2.2.2;omega)
     have HS:=Lib.hid hsort
     clear hsort
     have HDD:=HD.out
     rw [e1] at HDD HS
     have HD2:=Lib.hid HDD
     subst e1
     clear HDD HD hne
     go_wp2_with fail
     refine HS.out.mono ?_
     rintro e w5 ⟨rfl,es',hso,hok',hT5⟩
     have H5:=Lib.hid (And.intro hso (And.intro hok' hT5))
     clear hso hok' hT5
     go_wp2_with fail
     exact bodyPost_ret (results_tmp2 rfl _ _ _) rfl (.inr ⟨HH.out.2.2.2.2.1,_,es',rfl,⟨H5.out.1.1.trans HD2.out.2.2.1,H5.out.1.2⟩,H5.out.2.1,by exact H5.out.2.2.drop (fun x=>by simp only [qad,qaa];omega)⟩)
   ·obtain ⟨w5,hw5⟩:∃ w5,w5=Go.ChangeMaps.setBlock w4 r (iterO S.X.pm S.pc (done.map entG++[e])):=⟨_,rfl⟩
    rw [← hw5] at hnx
    obtain ⟨p,hp,rfl⟩:∃ p∈todo,entG p=e:=by
     have h1:e∈todo.map entG:=ht.mem_iff.2 (by simp)
     obtain ⟨p,hp,he⟩:=List.mem_map.1 h1
     exact ⟨p,hp,he⟩
    obtain ⟨s,t,rfl⟩:=List.append_of_mem hp
    have hdone:done.map entG++[entG p]=(done++[p]).map entG:=by simp
    rw [hdone] at hw5
    have hT5:Turns (arF S) ((r,Is (iterO S.X.pm S.pc ((done++[p]).map entG)))::(qb5 u6 (entsL pre done)++(arF S++J))) w w5:=by
     rw [hw5]
     rcases hw4 with rfl | rfl
     ·exact hT2.putIs (qc8 _ _ _) (qds hri)
     ·exact (hT2.drew).putIs (qc8 _ _ _) (qds (by exact hri))
    have hpm:p∈S.ps:=hperm.mem_iff.1 (List.mem_append_right _ hp)
    have hri5:=hT5.sat.headIs
    rw [← hdone] at hri5
    have hrm5:=hT5.sat.memIs (b:=S.X.pm) (o:=mapO str (S.ps.map entG) S.pc) (by simp [arF,qbc])
    have hen:=qp3 (P:=Tryz.prog) hri5 hrm5 HH.out.2.1.paths.map (List.mem_map.2 ⟨p,hpm,rfl⟩)
    have hperm2:((done++[p])++(s++t)).Perm S.ps:=by
     rw [List.append_assoc]
     show (done++(p::(s++t))).Perm S.ps
     exact (((List.perm_middle (l₁:=s)).symm.append_left done).trans hperm)
    have hps:Sat w5 (pathR p.val p.g):=Sat.flat (f:=fun p:PathL=>pathR p.val p.g) ((hT5.sat.sub (G:=qbc S.X.pm S.ps S.pc) (fun x=>by simp only [arF,qad,qaa]<;>omega)).tail) hpm
    have hpo:=HH.out.2.1.paths.rows p hpm
    have hne:=HH.out.2.1.some p hpm
    obtain ⟨sl,cap,e1,e2,e3,hcells,-⟩:=qcq hps.left hpo.1 (by decide)
    have hgl:0<p.g.length:=List.length_pos_iff.2 hne
    have hgb:p.g.length≤90000:=Nat.le_trans (HH.out.2.2.1.vers p hpm).2.1 HH.out.2.2.2.1
    obtain ⟨gp,offp,hsl,hcp⟩:=hcells (by rw [List.length_map];exact hgl)
    subst hsl
    obtain ⟨U,hU⟩:∃ U,U=p.g[p.g.length-1]'(by omega):=⟨_,rfl⟩
    have hUl:lastV p.g=U:=by unfold lastV;rw [List.getLast?_eq_getElem?,List.getElem?_eq_getElem (by omega),hU];rfl
    have hc1:w5.cell? ⟨gp,offp+(p.g.length-1),none⟩=some (.pointer (some ⟨U.blk,0,none⟩)):=by
     have:=hcp (p.g.length-1) (by rw [List.length_map];omega)
     rw [List.getElem_map,← hU] at this
     exact this
    have hUm:U∈p.g:=by rw [hU];exact List.getElem_mem _
    have hub:Sat w5 (verF U):=Sat.flat (f:=verF) hps.right hUm
    have hc2:w5.cell? ⟨U.blk,0,none⟩=some (.int .i64 U.num):=qac hub.headIs 0 rfl
    have hc3:w5.cell? ⟨U.blk,1,none⟩=some (.int .i64 U.size):=qac hub.headIs 1 rfl
    have hul:=qal hub.headIs
    obtain ⟨n,hn⟩:∃ n,n=p.g.length:=⟨_,rfl⟩
    rw [← hn] at e1 hgl hgb hc1
    have hent:pEnt p=⟨p.key,U.num,U.size,n⟩:=by unfold pEnt;rw [hUl,hn]
    have hel:(entsL pre done).length≤90000:=by
     have h1:(entsL pre done).length≤done.length:=by unfold entsL;rw [List.length_map];exact List.length_filter_le _ _
     omega
    obtain ⟨pk,hpk⟩:∃ pk,pk=p.key:=⟨_,rfl⟩
    have hke:(entG p).key=pk:=hpk.symm
    have hve:(entG p).val=.slice (some ⟨gp,offp,none⟩) n cap:=e1
    rw [hke,hve] at hnx hen
    obtain ⟨es,hes⟩:∃ es,es=entsL pre done:=⟨_,rfl⟩
    rw [← hes] at hio hT5 hel
    have hsub:IntKind.i64.wrap ((n:Int)-1)=((n-1:Nat):Int):=by rw [IntWalk.i64_in _ (by omega)];omega
    have hlt:((n-1:Nat):Int)<n:=by omega
    have hm1:iterN r S.ps.length wr=S.ps.length-done.length:=by unfold iterN;rw [hri];simp [iterO]
    have hdl2:done.length<S.ps.length:=by simp at hdl;omega
    have HD:=Lib.hid (And.intro hperm2 (And.intro hio (And.intro hT5 (And.intro hent (And.intro hes (And.intro hpk (And.intro hm1 (And.intro hdl2 (And.intro hpm hUm)))))))))
    clear hperm hperm2 hio hT hT2 hri hrm hpermE hpl hw5 hw4 hT5 hri5 hrm5 hps hpo hne hcells hcp hU hUl hUm hub hn hent hpk hke hve hes e1 hdone hp hpm ht hm1 hdl hdl2
    have hrelN:∀ (v':Value) (w':World) (K:HF),entOk v' (entsL pre (done++[p]))→Turns (arF S) (qb5 v' (entsL pre (done++[p]))++((r,Is (iterO S.X.pm S.pc ((done++[p]).map entG)))::(arF S++K))) w w'→qq4 S pre w r v' w'∧iterN r S.ps.length w'<iterN r S.ps.length wr:=fun v' w' K h1 h2=>by
     refine ⟨⟨done++[p],s++t,K,HD.out.1,h1,h2⟩,?_⟩
     have hr2:=h2.sat.memIs (b:=r) (o:=iterO S.X.pm S.pc ((done++[p]).map entG)) (by simp)
     have:iterN r S.ps.length w'=S.ps.length-(done.length+1):=by unfold iterN;rw [hr2];simp [iterO]
     rw [this,HD.out.2.2.2.2.2.2.1]
     have:=HD.out.2.2.2.2.2.2.2.1
     omega
    have HN:=Lib.hid hrelN
    have HM:=Lib.hid (show Tryz.prog.follows .mixedOrders=true by kernel_rfl)
    clear hrelN
    go_wp2_with fail
    refine (qpr pk pre w5).mono ?_
    rintro e w6 ⟨rfl,rfl⟩
    cases hpre:pre.isPrefixOf pk with
    | false =>
     have hadd:entsL pre (done++[p])=es:=by
      rw [HD.out.2.2.2.2.1];unfold entsL
      rw [List.filter_append,List.filter_cons,← HD.out.2.2.2.2.2.1,hpre];simp
     have HA:=Lib.hid hadd
     clear hadd
     go_wp2_with fail
     have hfin:=HN.out u6 w6 J (by rw [HA.out];exact HD.out.2.1) (by rw [HA.out];exact HD.out.2.2.1.to (qaf fun _=>by simp only [qad,qaa,qah]<;>omega))
     go_roundw
     case rel=>exact hfin.1
     case measure=>exact hfin.2
    | true =>
     have hadd:entsL pre (done++[p])=es++[⟨pk,U.num,U.size,n⟩]:=by
      rw [HD.out.2.2.2.2.1];unfold entsL
      rw [List.filter_append,List.filter_cons,← HD.out.2.2.2.2.2.1,hpre]
      simp only [if_true,List.filter_nil,List.map_append,List.map_cons,List.map_nil,HD.out.2.2.2.1,HD.out.2.2.2.2.2.1]
     have HA:=Lib.hid hadd
     clear hadd
     go_upto_region 9 with (fail)
     have hverb:(U.blk,Is (verO U))∈arF S:=by
      obtain ⟨hpS,hUm⟩:=HD.out.2.2.2.2.2.2.2.2
      refine List.mem_cons_of_mem _ (List.mem_append_right _ (List.mem_append_right _ (List.mem_append_left _ (List.mem_cons_of_mem _ ?_))))
      exact List.mem_flatMap.2 ⟨p,hpS,List.mem_append_right _ (List.mem_flatMap.2 ⟨U,hUm,by simp [verF]⟩)⟩
     obtain ⟨R,hR⟩:=qlq (G:=[(U.blk,Is (verO U))]) (F:=arF S) (fun x=>by
      obtain ⟨s',t',h⟩:=List.append_of_mem hverb
      rw [h];simp only [qaa,qad,qah];omega)
     have hTl:Turns (arF S) (qb5 u6 es++((U.blk,Is (verO U))::(R++((r,Is (iterO S.X.pm S.pc ((done++[p]).map entG)))::J)))) w w6:=HD.out.2.2.1.to (by
      refine ((((hR.append_right J).append_left _).cons _)).trans ?_
      exact (qaf fun _=>by simp only [qad,qaa,qah]<;>omega))
     have HR:=Lib.hid (And.intro hR hTl)
     clear hverb hR hTl
     refine list9 (arF S) (R++((r,Is (iterO S.X.pm S.pc ((done++[p]).map entG)))::J)) w es u6 pk (some ⟨gp,offp,none⟩) n cap U HR.out.2 HD.out.2.1 (by omega) ?_
     intro v7 _ _ _ _ _ _ _ _ _ _ _ _ _ _ _ nb w7 hok7 hT7
     have hfin:=HN.out v7 w7 (entB nb pk U n::J) (by rw [HA.out];exact hok7) (by
      rw [HA.out]
      refine hT7.to ?_
      have h1:(qb5 v7 (es++[⟨pk,U.num,U.size,n⟩])++((r,Is (iterO S.X.pm S.pc ((done++[p]).map entG)))::(([(U.blk,Is (verO U))]++R)++(entB nb pk U n::J)))).Perm (qb5 v7 (es++[⟨pk,U.num,U.size,n⟩])++((r,Is (iterO S.X.pm S.pc ((done++[p]).map entG)))::(arF S++(entB nb pk U n::J)))):=(((HR.out.1.symm.append_right _).cons _).append_left _)
      refine List.Perm.trans ?_ h1
      exact (qaf fun _=>by simp only [qad,qaa,qah]<;>omega))
     have HF:=Lib.hid hfin
     clear hfin hok7 hT7
     go_wp2_with fail
     go_roundw
     case rel=>exact HF.out.1
     case measure=>exact HF.out.2
end Go.Proofs.YtdhobpbngkainaaGreatDoor
namespace Go.Proofs.YtdhobpbngkainaaGreatDoor
open Go.RowKit Go.Maps Go.Shelf
attribute [local go_sem] Oper.semAt_some
theorem qyj (S:AS) (hok:ArOk S) (D:Bs) (d off n lb:Nat) (B3 B6 B7 B9 B11 B12 B13 Bm Bv num i:Nat) (R0 F:HF) (A:World) (hD:qdj A d off D) (hdF:d∉dom F) (hi:i<(qas D).length) (hDl:D.length≤4000) (hKl:S.K.length≤500000)
  (hJ:PutJ S D B9 B11 B12 B13 Bm Bv num ((B3,Is (boxA S.a))::R0) i F) (hF:Sat A F) (a0:Nat) (l:Bs) {dv:Value} {u4 u5 u8 u10 u15 u16 u17 u18 u19 u20 u21 u22 u23 u24 u25 u26 u27 u28 u29 u30 u31 u32 u33 u34 u35 u36 u37 u38 u39 u40 u41 u42 u43 u44 u45 u46 u47 u48 u49 u50 u51 u52 u53 u54 u55 u56 u57 u58 u59 u60 u61 u62 u63 u64 u65 u66 u67 u68 u69 u70 u71 u72 u73 u74 u75 u76 u77 u78 u79 u80 u81 u82 u83 u84 u86 u87 u88 u89 u90 u91 u92 u93 u94 u95 u96 u97 u98 u99 u100 u101 u102 u103 u104 u105 u106 u107 u108 u109 u110 u111 u112 u113 u114 u115 u116 u117 u118 u119 u120 u121 u122 u123 u124 u125 u126 u127 u128 u129 u130 u131 u132 u133 u134 u135 u136 u137 u138 u139 u140 u141 u142 u143 u144 u145 u146 u147 u148 u149 u150 u151 u152 u153 u154 u155 u156 u157 u158 u159 u160 u161 u162 u163 u164 u165 u166 u167 u168 u169 u170 u171 u172 u173 u174 u175 u176:Value} :
  q7p.wpIn (Fence.wide.inRound lb) n Tryz.prog (postT (PutJ S D B9 B11 B12 B13 Bm Bv num ((B3,Is (boxA S.a))::R0)) i F A) { tmps:=#[.pointer (some ⟨a0,0,none⟩),str l,dv,.pointer (some ⟨B3,0,none⟩),u4,u5,.pointer (some ⟨B6,0,none⟩),.pointer (some ⟨B7,0,none⟩),u8,.pointer (some ⟨B9,0,none⟩),u10,.pointer (some ⟨B11,0,none⟩),.pointer (some ⟨B12,0,none⟩),.pointer (some ⟨B13,0,none⟩),qdu d off D i,u15,u16,u17,u18,u19,u20,u21,u22,u23,u24,u25,u26,u27,u28,u29,u30,u31,u32,u33,u34,u35,u36,u37,u38,u39,u40,u41,u42,u43,u44,u45,u46,u47,u48,u49,u50,u51,u52,u53,u54,u55,u56,u57,u58,u59,u60,u61,u62,u63,u64,u65,u66,u67,u68,u69,u70,u71,u72,u73,u74,u75,u76,u77,u78,u79,u80,u81,u82,u83,u84,qdu d off D i,u86,u87,u88,u89,u90,u91,u92,u93,u94,u95,u96,u97,u98,u99,u100,u101,u102,u103,u104,u105,u106,u107,u108,u109,u110,u111,u112,u113,u114,u115,u116,u117,u118,u119,u120,u121,u122,u123,u124,u125,u126,u127,u128,u129,u130,u131,u132,u133,u134,u135,u136,u137,u138,u139,u140,u141,u142,u143,u144,u145,u146,u147,u148,u149,u150,u151,u152,u153,u154,u155,u156,u157,u158,u159,u160,u161,u162,u163,u164,u165,u166,u167,u168,u169,u170,u171,u172,u173,u174,u175,u176],defers:=[] } A:=by
 obtain ⟨sp,acc,fv,rv,chs,recs,hacc,hAo,hrb,hro,hpo,hcl,hin,hFe⟩:=hJ
 obtain ⟨c,hc⟩:∃ c,c=qi6 D i:=⟨_,rfl⟩
 have hcl2:=qpj hi
 rw [← hc] at hcl2
 have hcc:=qtl hD hi
 rw [← hc] at hcc
 obtain ⟨o2,ho2⟩:∃ o2,o2=off+((qas D).take i).sum:=⟨_,rfl⟩
 have harg:qdu d off D i=.slice (some ⟨d,o2,none⟩) c.length c.length:=by unfold qdu;rw [← hcl2,← ho2]
 rw [← ho2] at hcc
 rw [harg]
 have a3:A.cell? ⟨B3,0,none⟩=some (.pointer (some ⟨S.a,0,none⟩)):=qac (hF.memIs (b:=B3) (o:=boxA S.a) (by rw [hFe];simp)) 0 rfl
 have hs:Sat A (areaF S.X.ab S.X.d { S.A with spare:=sp }++((B13,Is (intO ((S.data.length+qa1 acc:Nat):Int)))::(B12,Is (fmapO Bm))::(Bm,Is (mapO str (qba S.data.length 0 acc) acc.length))::(B11,Is (recsO rv)) ::
   (qc5 rv recs++((B9,Is (vboxO Bv))::(verF ⟨Bv,num,D.length,fv,chs,0⟩++(((B3,Is (boxA S.a))::R0)++((S.a,Is (archO S.X))::(devF S.X.d S.L++(qbc S.X.pm S.ps S.pc++(tagsF S.X.tm S.ts S.tc++qbd S.X.cm S.cs S.cc)))))))))):=by
  refine hF.perm ?_
  rw [hFe]
  unfold arF
  exact (qaf fun _=>by simp only [qad,qaa,qah]<;>omega)
 obtain ⟨R,hR⟩:∃ R,R=((B13,Is (intO ((S.data.length+qa1 acc:Nat):Int)))::(B12,Is (fmapO Bm))::(Bm,Is (mapO str (qba S.data.length 0 acc) acc.length))::(B11,Is (recsO rv)) ::
   (qc5 rv recs++((B9,Is (vboxO Bv))::(verF ⟨Bv,num,D.length,fv,chs,0⟩++(((B3,Is (boxA S.a))::R0)++((S.a,Is (archO S.X))::(devF S.X.d S.L++(qbc S.X.pm S.ps S.pc++(tagsF S.X.tm S.ts S.tc++qbd S.X.cm S.cs S.cc))))))))):=⟨_,rfl⟩
 rw [← hR] at hs
 have hdR:d∉dom (areaF S.X.ab S.X.d { S.A with spare:=sp }++R):=fun h=>hdF (((qi3 (show (areaF S.X.ab S.X.d { S.A with spare:=sp }++R).Perm F by rw [hFe,hR];unfold arF;exact (qaf fun _=>by simp only [qad,qaa,qah]<;>omega))).mem_iff).1 h)
 have HKn:=Lib.hid (qv8 S.a S.X S.X.ab S.X.d rfl { S.A with spare:=sp } S.L S.cs S.cc c (some ⟨d,o2,none⟩) c.length R A hs (fun x=>by rw [hR];simp only [qad,qaa];omega) hok.dev hAo hok.fits hok.nmax hok.chunks hcc
  (fun x hx=>by obtain rfl:=Option.some.inj hx;exact hdR) (by have:=qex D;have:=qj6 (qas D) i hi;rw [hcl2];simp only [List.getD_eq_getElem?_getD,List.getElem?_eq_getElem hi,Option.getD_some];omega)
  (by have:=q0a hok (be (sumOf 1 c) 4);omega) (qxc hok))
 have HH:=Lib.hid (And.intro hok (And.intro hD (And.intro hdF (And.intro hF (And.intro hacc (And.intro hAo (And.intro hrb (And.intro hro (And.intro hpo (And.intro hcl (And.intro hin (And.intro hFe (And.intro hc (And.intro hcl2 (And.intro hcc (And.intro ho2 (And.intro hs (And.intro hR hdR))))))))))))))))))
 clear hok hD hdF hF hacc hAo hrb hro hpo hcl hin hFe hc hcl2 hcc ho2 harg hs hR hdR
 conv=>arg 4;whnf
 gi_wp2_with fail
 refine ⟨trivial,fun h=>by simp [Fence.wide] at h,(qtk HKn.out).mono ?_⟩
 rintro e w4 ⟨⟨sp2,hAo2,hT2⟩,hres⟩
 obtain ⟨q,okb,rfl,hq1,hq2⟩:∃ (q:Nat×Nat) (okb:Bool),e=.returned (.tuple #[.agg #[.int .i64 q.1,.int .i64 q.2],.bool okb,.nilIface])∧(okb=true→(c,q)∈S.K)∧(okb=false→c∉S.K.map (·.1)):=by
  rcases hres with ⟨p,hp,hc,rfl⟩ | ⟨hno,rfl⟩
  ·exact ⟨p,true,rfl,fun _=>q7e HH.out.1 hp hc,fun h=>by cases h⟩
  ·refine ⟨(0,0),false,rfl,(fun h=>by cases h),fun _ hm=>?_⟩
   obtain ⟨e,he,h1⟩:=List.mem_map.1 hm
   obtain ⟨p1,p2⟩:=q6y HH.out.1 (b:=c) (q:=e.2) (by rw [← h1];exact he)
   exact hno _ p1 p2
 clear hres
 obtain ⟨F1,hF1⟩:∃ F1,F1=areaF S.X.ab S.X.d { S.A with spare:=sp }++R:=⟨_,rfl⟩
 obtain ⟨Y,hY⟩:∃ Y,Y=areaF S.X.ab S.X.d { S.A with spare:=sp2 }++(R0++((S.a,Is (archO S.X))::(devF S.X.d S.L++(qbc S.X.pm S.ps S.pc++(tagsF S.X.tm S.ts S.tc++qbd S.X.cm S.cs S.cc))))):=⟨_,rfl⟩
 obtain ⟨VV,hVV⟩:∃ VV:VerL,VV=⟨Bv,num,D.length,fv,chs,0⟩:=⟨_,rfl⟩
 obtain ⟨fE,hfE⟩:∃ fE,fE=qba S.data.length 0 acc:=⟨_,rfl⟩
 obtain ⟨nE,hnE⟩:∃ nE,nE=acc.length:=⟨_,rfl⟩
 obtain ⟨e13,he13⟩:∃ e13:Nat,e13=S.data.length+qa1 acc:=⟨_,rfl⟩
 have hT4:Turns F1 ((B13,Is (intO e13))::(B12,Is (fmapO Bm))::(Bm,Is (mapO str fE nE))::(B11,Is (recsO rv))::(B9,Is (vboxO Bv))::(Bv,Is (verO VV))::(B3,Is (boxA S.a))::(qc5 rv recs++(qa2 fv chs++Y))) A w4:=by
  rw [hF1]
  refine hT2.to ?_
  rw [HH.out.2.2.2.2.2.2.2.2.2.2.2.2.2.2.2.2.2.1,hY,hVV,hfE,hnE,he13]
  unfold verF
  exact (qaf fun _=>by simp only [qad,qaa,qah]<;>omega)
 have hdF1:d∉dom F1:=by rw [hF1];exact HH.out.2.2.2.2.2.2.2.2.2.2.2.2.2.2.2.2.2.2
 have hm0:MapOk OkS fE nE:=by
  rw [hfE,hnE]
  refine qrx (by rw [HH.out.2.2.2.2.1];exact qgj _ _ _ List.nodup_nil) (by rw [HH.out.2.2.2.2.1];exact q62 hDl) _
 obtain ⟨f,th,hg1,hg2,hg3,hg4⟩:∃ (f:Nat×Nat) (th:Bool),(getE fE c).getD (.agg #[.int .i64 0,.int .i64 0])=.agg #[.int .i64 f.1,.int .i64 f.2]∧hasE fE c=th∧(th=true→(c,f)∈qbo S.data.length acc∧c∈acc)∧(th=false→c∉acc):=by
  rw [hfE,qih]
  by_cases hm:c∈acc
  ·obtain ⟨f,h1,h2⟩:=qyn (at_:=S.data.length) (b:=0) hm
   exact ⟨f,true,by rw [h2];rfl,decide_eq_true hm,fun _=>⟨h1,hm⟩,fun h=>by cases h⟩
  ·refine ⟨(0,0),false,?_,decide_eq_false hm,(fun h=>by cases h),fun _=>hm⟩
   have:=qih acc S.data.length 0 c
   rw [decide_eq_false hm,qfb] at this
   cases hg:getE (qba S.data.length 0 acc) c with
   | none=>rfl
   | some v=>rw [hg] at this;cases this
 have hl4:∀ k,k∈dom ((B13,Is (intO e13))::(B12,Is (fmapO Bm))::(Bm,Is (mapO str fE nE))::(B11,Is (recsO rv))::(B9,Is (vboxO Bv))::(Bv,Is (verO VV))::(B3,Is (boxA S.a))::(qc5 rv recs++(qa2 fv chs++Y)))→k<w4.heap.size:=fun k hk=>hT4.sat.lt hk
 have l9:=hl4 B9 (by simp)
 have l11:=hl4 B11 (by simp)
 have l12:=hl4 B12 (by simp)
 have l13:=hl4 B13 (by simp)
 have lv:=hl4 Bv (by simp)
 have b12:w4.cell? ⟨B12,0,none⟩=some (.map (some Bm)):=qac (hT4.sat.memIs (b:=B12) (o:=fmapO Bm) (by simp)) 0 rfl
 have b13:w4.cell? ⟨B13,0,none⟩=some (.int .i64 e13):=qac (hT4.sat.memIs (b:=B13) (o:=intO e13) (by simp)) 0 rfl
 have hT5:Turns F1 ((w4.heap.size,Is (qau q))::((B13,Is (intO e13))::(B12,Is (fmapO Bm))::(Bm,Is (mapO str fE nE))::(B11,Is (recsO rv))::(B9,Is (vboxO Bv))::(Bv,Is (verO VV))::(B3,Is (boxA S.a))::(qc5 rv recs++(qa2 fv chs++Y)))) A (w4.alloc (.cells #[.int .i64 q.1,.int .i64 q.2] 161)):=hT4.allocIs (qau q)
 have hbm5:=hT5.sat.memIs (b:=Bm) (o:=mapO str fE nE) (by simp)
 have hcv:=qgp c.length (HH.out.2.2.2.2.2.2.2.2.2.2.2.2.2.2.1.turnsOld hT5 (fun x hx=>by obtain rfl:=Option.some.inj hx;exact hdF1))
 have hzp:(zeroValue 161).run Tryz.prog (w4.alloc (.cells #[.int .i64 q.1,.int .i64 q.2] 161))=.ok (.agg #[.int .i64 0,.int .i64 0]) (w4.alloc (.cells #[.int .i64 q.1,.int .i64 q.2] 161)):=by kernel_rfl
 have hT6:∀ x:Nat×Nat,Turns F1 ((w4.heap.size+1,Is (qau f))::(w4.heap.size,Is (qau x))::((B13,Is (intO e13))::(B12,Is (fmapO Bm))::(Bm,Is (mapO str fE nE))::(B11,Is (recsO rv))::(B9,Is (vboxO Bv))::(Bv,Is (verO VV))::(B3,Is (boxA S.a))::(qc5 rv recs++(qa2 fv chs++Y)))) A ((w4.alloc (.cells #[.int .i64 x.1,.int .i64 x.2] 161)).alloc (.cells #[.int .i64 f.1,.int .i64 f.2] 161)):=fun x=>by
  have:=(hT4.allocIs (qau x)).allocIs (qau f)
  rw [World.size_alloc] at this
  exact this
 have hcm:c∈qav D:=by
  have:=qd0 hi
  rw [← HH.out.2.2.2.2.2.2.2.2.2.2.2.2.1] at this
  exact List.mem_of_mem_take (i:=i+1) (by rw [this];simp)
 have hOkc:OkS c:=by have:=qde hcm;unfold OkS;omega
 have hcv2:=qgp c.length (HH.out.2.2.2.2.2.2.2.2.2.2.2.2.2.2.1.turnsOld (hT6 (e13,c.length)) (fun x hx=>by obtain rfl:=Option.some.inj hx;exact hdF1))
 have hFp:F1.Perm F:=by rw [hF1,HH.out.2.2.2.2.2.2.2.2.2.2.2.1,HH.out.2.2.2.2.2.2.2.2.2.2.2.2.2.2.2.2.2.1];unfold arF;exact (qaf fun _=>by simp only [qad,qaa,qah]<;>omega)
 have hlt:((qav D).take i).length=chs.length:=by
  rw [List.length_take,qbz,HH.out.2.2.2.2.2.2.2.2.2.1];omega
 have hcl:chs.length≤4000:=by
  rw [HH.out.2.2.2.2.2.2.2.2.2.1];have:=qcy D;omega
 have hal2:acc.length≤4000:=by
  rw [HH.out.2.2.2.2.1]
  have h1:=qht (S.K.map (·.1)) ((qav D).take i) []
  rw [List.length_take,qbz] at h1
  have:=qcy D
  simp at h1;omega
 have hrl:(recs.map (·.val)).length=acc.length:=by
  have:=congrArg List.length HH.out.2.2.2.2.2.2.1
  simpa using this
 have hdl:=HH.out.1.dat.2
 have hnn:=HH.out.1.nmax
 have hfit:=HH.out.1.fits
 have he13b:e13≤1099511627776:=by
  rw [he13]
  have h2:=qme acc 4000 (fun x hx=>by
   rw [HH.out.2.2.2.2.1] at hx
   rcases qgb _ _ _ x hx with h | ⟨h,_⟩
   ·simp at h
   ·have:=qde (List.mem_of_mem_take h);omega)
  have h3:acc.length*(4000+9)≤4000*(4000+9):=Nat.mul_le_mul_right _ hal2
  omega
 have HB:=Lib.hid (And.intro hT6 (And.intro hdF1 (And.intro hm0 (And.intro hg1 (And.intro hg2 (And.intro hbm5 (And.intro hzp hOkc)))))))
 have HE:=Lib.hid (And.intro hF1 (And.intro hY (And.intro hVV (And.intro hfE (And.intro hnE (And.intro he13 (And.intro hAo2 (And.intro hq1 (And.intro hq2 (And.intro hg3 hg4))))))))))
 have HF2:=Lib.hid (And.intro hFp (And.intro hlt (And.intro hcl (And.intro hal2 (And.intro hrl (And.intro he13b hcm))))))
 clear hF1 hY hVV hfE hnE he13 hAo2 hq1 hq2 hg3 hg4 hT4 hT5 hT6 hdF1 hm0 hg1 hg2 hT2 hbm5 hzp hl4 hOkc hFp hlt hcl hal2 hrl he13b hcm hdl hnn hfit
 have FIN:∀ (w6:World) (q6:Nat×Nat) (acc':List Bs) (rv' y:Value) (recs':List RecL) (Z:HF),acc'=qbp (S.K.map (·.1)) [] ((qav D).take (i+1))→(∀ e∈qbo S.data.length acc,e∈qbo S.data.length acc')→(c,q6)∈S.K++qbo S.data.length acc'→recs'.map (·.bytes)=acc'.map (frame 1)→recOk rv' recs' →
   qbl y (chs++[q6])→Turns F1 ((Bv,Is (.cells ((qdl VV).setIfInBounds 2 y) 152 (0,0)))::(w4.heap.size,Is (qau q6))::(B9,Is (vboxO Bv))::(qa2 y (chs++[q6])++Z)) A w6 →
   (∀ x,cnt x ((B13,Is (intO ((S.data.length+qa1 acc':Nat):Int)))::(B12,Is (fmapO Bm))::(Bm,Is (mapO str (qba S.data.length 0 acc') acc'.length))::(B11,Is (recsO rv'))::(B3,Is (boxA S.a))::(qc5 rv' recs'++Y))≤cnt x Z) →
   ∃ F',PutJ S D B9 B11 B12 B13 Bm Bv num ((B3,Is (boxA S.a))::R0) (i+1) F'∧Turns F F' A w6:=by
  intro w6 q6 acc' rv' y recs' Z h1 h2 h3 h4 h5 h6 h7 h8
  refine ⟨_,⟨sp2,acc',y,rv',chs++[q6],recs',h1,HE.out.2.2.2.2.2.2.1,h4,h5,h6,by rw [List.length_append,HH.out.2.2.2.2.2.2.2.2.2.1];rfl,?_,rfl⟩,?_⟩
  ·rw [qd0 hi,← HH.out.2.2.2.2.2.2.2.2.2.2.2.2.1]
   exact q6x HF2.out.2.1 HH.out.2.2.2.2.2.2.2.2.2.2.1 (fun e he=>by
    rcases List.mem_append.1 he with h | h
    ·exact List.mem_append_left _ h
    ·exact List.mem_append_right _ (h2 e h)) h3
  ·refine (h7.drop (fun x=>?_)).perm HF2.out.1 (List.Perm.refl _)
   have:=h8 x
   rw [HE.out.2.1] at this
   have e:verO ⟨Bv,num,D.length,y,chs++[q6],0⟩=.cells ((qdl VV).setIfInBounds 2 y) 152 (0,0):=by rw [HE.out.2.2.1];rfl
   unfold verF arF
   rw [e]
   simp only [qad,qaa,qah] at this ⊢
   omega
 have HFIN:=Lib.hid FIN
 clear FIN
 gi_wp2_with (first
  | (refine qj8 rfl rfl (qom qh4 (.tmp 97) (.tmp 99) rfl Tryz.underlying154 HB.out.2.2.2.2.2.1 HB.out.2.2.1 HB.out.2.2.2.2.2.2.1 c rfl rfl HB.out.2.2.2.2.2.2.2 ?_);rw [HB.out.2.2.2.1,HB.out.2.2.2.2.1])
  | (refine qj8 rfl rfl (qtj qh4 (.tmp 115) (.tmp 117) (.tmp 118) rfl Tryz.underlying154 Bm fE nE ((HB.out.1 (e13,c.length)).to (H:=(Bm,Is (mapO str fE nE))::((w4.heap.size+1,Is (qau f))::(w4.heap.size,Is (qau (e13,c.length)))::(B13,Is (intO e13))::(B12,Is (fmapO Bm))::(B11,Is (recsO rv))::(B9,Is (vboxO Bv))::(Bv,Is (verO VV))::(B3,Is (boxA S.a))::(qc5 rv recs++(qa2 fv chs++Y)))) (qaf fun _=>by simp only [qad,qaa,qah]<;>omega)) HB.out.2.2.1 c (qed (e13,c.length)) rfl rfl rfl HB.out.2.2.2.2.2.2.2 ?_);intro w6 hT7;simp only [Act.put]))
 ·rename_i h1 h2
  refine put28 F1 ((w4.heap.size+1,Is (qau f))::(B13,Is (intO e13))::(B12,Is (fmapO Bm))::(Bm,Is (mapO str fE nE))::(B11,Is (recsO rv))::(B3,Is (boxA S.a))::(qc5 rv recs++Y)) A w4.heap.size B9 Bv VV f fv chs ((HB.out.1 f).to (qaf fun _=>by simp only [qad,qaa,qah]<;>omega)) HH.out.2.2.2.2.2.2.2.2.1 (by rw [HE.out.2.2.1]) (by have:=HF2.out.2.2.1;omega) (fun ⟨_,_,h⟩=>h) ?_
  intro _ _ _ _ _ _ _ _ _ _ w7 hpo7 hT7
  refine HFIN.out w7 f acc rv _ recs _ ?_ (fun _ h=>h) (List.mem_append_right _ (HE.out.2.2.2.2.2.2.2.2.2.1 h1).1) HH.out.2.2.2.2.2.2.1 HH.out.2.2.2.2.2.2.2.1 hpo7 hT7 (fun x=>by rw [← HE.out.2.2.2.1,← HE.out.2.2.2.2.1,← HE.out.2.2.2.2.2.1];simp only [qad,qaa,qah];omega)
  rw [qd0 hi,qfo,← HH.out.2.2.2.2.2.2.2.2.2.2.2.2.1,← HH.out.2.2.2.2.1,if_pos (.inr (HE.out.2.2.2.2.2.2.2.2.2.1 h1).2)]
 ·rename_i h1 h2
  refine put28 F1 ((w4.heap.size+1,Is (qau f))::(B13,Is (intO e13))::(B12,Is (fmapO Bm))::(Bm,Is (mapO str fE nE))::(B11,Is (recsO rv))::(B3,Is (boxA S.a))::(qc5 rv recs++Y)) A w4.heap.size B9 Bv VV q fv chs ((HB.out.1 q).to (qaf fun _=>by simp only [qad,qaa,qah]<;>omega)) HH.out.2.2.2.2.2.2.2.2.1 (by rw [HE.out.2.2.1]) (by have:=HF2.out.2.2.1;omega) (fun ⟨_,_,h⟩=>h) ?_
  intro _ _ _ _ _ _ _ _ _ _ w7 hpo7 hT7
  refine HFIN.out w7 q acc rv _ recs _ ?_ (fun _ h=>h) (List.mem_append_left _ (HE.out.2.2.2.2.2.2.2.1 (by simpa using h2))) HH.out.2.2.2.2.2.2.1 HH.out.2.2.2.2.2.2.2.1 hpo7 hT7 (fun x=>by rw [← HE.out.2.2.2.1,← HE.out.2.2.2.2.1,← HE.out.2.2.2.2.2.1];simp only [qad,qaa,qah];omega)
  rw [qd0 hi,qfo,← HH.out.2.2.2.2.2.2.2.2.2.2.2.2.1,← HH.out.2.2.2.2.1,if_pos (.inl (List.mem_map.2 ⟨_,HE.out.2.2.2.2.2.2.2.1 (by simpa using h2),rfl⟩))]
 ·rename_i h1 K1 k1 h2 K2 k2
  have hn1:=HE.out.2.2.2.2.2.2.2.2.2.2 (by simpa using h1)
  have hn2:=HE.out.2.2.2.2.2.2.2.2.1 (by simpa using h2)
  have hput:=qz7 (at_:=S.data.length) hn1
  refine put26 F1 ((w4.heap.size+1,Is (qau f))::(w4.heap.size,Is (qau (e13,c.length)))::(B13,Is (intO e13))::(B12,Is (fmapO Bm))::(Bm,Is (mapO str (putE fE nE c (qed (e13,c.length))) (putC fE nE c)))::(B9,Is (vboxO Bv))::(Bv,Is (verO VV))::(B3,Is (boxA S.a))::((recs.flatMap fun r=>bRow r.val r.bytes)++(qa2 fv chs++Y))) A B11 rv (recs.map (·.val)) c (some ⟨d,o2,none⟩) c.length (hT7.to (by unfold qc5;exact (qaf fun _=>by simp only [qad,qaa,qah]<;>omega))) HH.out.2.2.2.2.2.2.2.1.1 (by have:=HF2.out.2.2.2.2.1;have:=HF2.out.2.2.2.1;omega) (fun W G hG=>HH.out.2.2.2.2.2.2.2.2.2.2.2.2.2.2.1.turnsOld hG (fun x hx=>by obtain rfl:=Option.some.inj hx;exact HB.out.2.1)) (by have:=qde HF2.out.2.2.2.2.2.2;omega) (fun ⟨_,_,h⟩=>h) ?_
  intro _ _ fv2 _ rv2 w8 hb8 hr8 hT8
  have HR8:=Lib.hid (And.intro hb8 (And.intro hr8 (And.intro hT8 (And.intro hn1 (And.intro hn2 hput)))))
  clear hb8 hr8 hT8 hT7 hn1 hn2 hput
  gi_wp2_with fail
  refine put27 F1 ((w4.heap.size+1,Is (qau f))::(w4.heap.size,Is (qau (e13,c.length)))::(B12,Is (fmapO Bm))::(Bm,Is (mapO str (putE fE nE c (qed (e13,c.length))) (putC fE nE c)))::(B11,Is (recsO rv2))::(B9,Is (vboxO Bv))::(Bv,Is (verO VV))::(B3,Is (boxA S.a))::(rowF 38 1 rv2 (recs.map (·.val)++[fv2]).length (recs.map (·.val)++[fv2])++(bRow fv2 (frame 1 c)++((recs.flatMap fun r=>bRow r.val r.bytes)++(qa2 fv chs++Y))))) A B13 e13 c (some ⟨d,o2,none⟩) c.length (HR8.out.2.2.1.to (qaf fun _=>by simp only [qad,qaa,qah]<;>omega)) (by have:=qde HF2.out.2.2.2.2.2.2;omega) (by have:=HF2.out.2.2.2.2.2.1;omega) (fun ⟨_,_,h⟩=>h) ?_
  intro _ _ _ _ _ w9 hT9
  have HR9:=Lib.hid hT9
  clear hT9
  gi_wp2_with fail
  refine put28 F1 ((w4.heap.size+1,Is (qau f))::(B13,Is (intO (e13+(c.length+9))))::(B12,Is (fmapO Bm))::(Bm,Is (mapO str (putE fE nE c (qed (e13,c.length))) (putC fE nE c)))::(B11,Is (recsO rv2))::(B3,Is (boxA S.a))::(rowF 38 1 rv2 (recs.map (·.val)++[fv2]).length (recs.map (·.val)++[fv2])++(bRow fv2 (frame 1 c)++((recs.flatMap fun r=>bRow r.val r.bytes)++Y)))) A w4.heap.size B9 Bv VV (e13,c.length) fv chs (HR9.out.to (qaf fun _=>by simp only [qad,qaa,qah]<;>omega)) HH.out.2.2.2.2.2.2.2.2.1 (by rw [HE.out.2.2.1]) (by have:=HF2.out.2.2.1;omega) (fun ⟨_,_,h⟩=>h) ?_
  intro _ _ _ _ _ _ _ _ _ _ w7 hpo7 hT7
  refine HFIN.out w7 (e13,c.length) (acc++[c]) rv2 _ (recs++[⟨fv2,frame 1 c⟩]) _ ?_ (fun e h=>by rw [qnz];exact List.mem_append_left _ h) ?_ ?_ ?_ hpo7 hT7 (fun x=>?_)
  ·rw [qd0 hi,qfo,← HH.out.2.2.2.2.2.2.2.2.2.2.2.2.1,← HH.out.2.2.2.2.1,if_neg (fun h=>h.elim HR8.out.2.2.2.2.1 HR8.out.2.2.2.1)]
  ·rw [qnz,HE.out.2.2.2.2.2.1]
   exact List.mem_append_right _ (List.mem_append_right _ (by simp))
  ·rw [List.map_append,List.map_append,HH.out.2.2.2.2.2.2.1];rfl
  ·refine ⟨by rw [List.map_append];exact HR8.out.2.1,fun r hr=>?_⟩
   rcases List.mem_append.1 hr with h | h
   ·exact HH.out.2.2.2.2.2.2.2.1.2 r h
   ·simp only [List.mem_singleton] at h;subst h;exact HR8.out.1
  ·have e1:=HR8.out.2.2.2.2.2.1
   have e2:=HR8.out.2.2.2.2.2.2
   rw [← HE.out.2.2.2.2.2.1,← HE.out.2.2.2.1,← HE.out.2.2.2.2.1] at e1
   rw [← HE.out.2.2.2.1,← HE.out.2.2.2.2.1] at e2
   have e3:((S.data.length+qa1 (acc++[c]):Nat):Int)=(e13:Int)+(c.length+9):=by rw [qqn,HE.out.2.2.2.2.2.1];omega
   rw [e1,e2,e3]
   unfold qc5
   simp only [List.map_append,List.flatMap_append,List.flatMap_cons,List.flatMap_nil,List.append_nil,List.map_cons,List.map_nil,qad,qaa,qah]
   omega
 ·rename_i h1 h2
  refine put28 F1 ((w4.heap.size+1,Is (qau f))::(B13,Is (intO e13))::(B12,Is (fmapO Bm))::(Bm,Is (mapO str fE nE))::(B11,Is (recsO rv))::(B3,Is (boxA S.a))::(qc5 rv recs++Y)) A w4.heap.size B9 Bv VV q fv chs ((HB.out.1 q).to (qaf fun _=>by simp only [qad,qaa,qah]<;>omega)) HH.out.2.2.2.2.2.2.2.2.1 (by rw [HE.out.2.2.1]) (by have:=HF2.out.2.2.1;omega) (fun ⟨_,_,h⟩=>h) ?_
  intro _ _ _ _ _ _ _ _ _ _ w7 hpo7 hT7
  refine HFIN.out w7 q acc rv _ recs _ ?_ (fun _ h=>h) (List.mem_append_left _ (HE.out.2.2.2.2.2.2.2.1 (by simpa using h2))) HH.out.2.2.2.2.2.2.1 HH.out.2.2.2.2.2.2.2.1 hpo7 hT7 (fun x=>by rw [← HE.out.2.2.2.1,← HE.out.2.2.2.2.1,← HE.out.2.2.2.2.2.1];simp only [qad,qaa,qah];omega)
  rw [qd0 hi,qfo,← HH.out.2.2.2.2.2.2.2.2.2.2.2.2.1,← HH.out.2.2.2.2.1,if_pos (.inl (List.mem_map.2 ⟨_,HE.out.2.2.2.2.2.2.2.1 (by simpa using h2),rfl⟩))]
attribute [local go_sem] Oper.semAt_some
def q05 (a:Option Addr) (len cap:Nat) (w:World) (e:Ending) (w':World):Prop :=
 e=.returned (.func (.func 123) #[] #[.pointer (some ⟨w.heap.size,0,none⟩)])∧w'=w.alloc (.cells #[.slice a len cap] 38)
theorem qxf (a:Option Addr) (len cap:Nat) (w:World):Calls Tryz.prog 76 #[.slice a len cap] w (q05 a len cap w):=by
 go_enter Tryz.func76,Tryz.ntmps76
 go_wp2
 go_ret
 exact ⟨rfl,rfl⟩
theorem Turns.putNew {F G:HF} {a w:World} {r:Nat} (h:Turns F G a w) (hr:a.heap.size≤r) (hn:r∉dom G) (o:Obj):Turns F G a (w.putObj r o) :=
 ⟨h.mods.putObj (.inr hr) o,h.sat.frame ((Mods.refl (fun k=>k=r) w).putObj (.inl rfl) o) (fun b hb e=>hn (e ▸ hb)),h.fresh⟩
def qqz (id:Nat):Code→Option Code
 | .seq (.region i ops d) b=>if i=id then some (.seq (.region i ops d) b) else qqz id b
 | .seq _ b=>qqz id b
 | _=>none
noncomputable def q7l:Code:=(Tryz.f25.body.bind (qqz 14)).getD .skip
def qx8 (S:AS) (l D:Bs) (w:World) (e:Ending) (w':World) (b num:Nat):Prop :=
 ((∃ sp chs,e=.returned (.tuple #[.int .i64 0,errV 8])∧AreaOk { S.A with spare:=sp }∧Turns (arF S) (arF { S with A:={ S.A with spare:=sp } }) w w' ∧
    128*S.A.count<S.data.length+(qb4 (qa8 S D)).length+(frame 2 (verB l num D.length (atsOf chs))).length∧chs.length=(qav D).length) ∨
   (∃ S' V,e=.returned (.tuple #[.int .i64 num,.nilIface])∧PutStep S S' l D V∧ArOk S'∧PutB S D b S'∧Turns (arF S) (arF S') w w'))
theorem quq (S:AS) (l D:Bs) (sl:Option Addr) (cap b:Nat) (hok:ArOk S) (hB:ArB S b) (hb:b≤90000) (hl:qa6 l=true) (hll:l.length≤20) (hDl:D.length≤4000) (hcap:D.length≤cap) (B3 B6 B7 B9 B11 Bv num:Nat) (hnum:num=qc7 (qaq S.ps l)+1) (w0 w:World)
  (hT:Turns (arF S) ((B11,Is (recsO (.slice none 0 0)))::(Bv,Is (verO ⟨Bv,num,D.length,.slice none 0 0,[],0⟩))::(B9,Is (vboxO Bv))::(B7,Is (errO .nilIface))::(B6,Is (intO 0))::(B3,Is (boxA S.a))::arF S) w0 w) (hD:qaj w0 sl (D.map enc8)) (hsl:∀ x,sl=some x→x.block∉dom (arF S))
  (R:Ending→World→Prop) (hR:∀ e w',qx8 S l D w0 e w' b num→R e w') {u4 u5 u8 u10 u12 u13 u14 u15 u16 u17 u18 u19 u20 u21 u22 u23 u24 u25 u26 u27 u28 u29 u30 u31 u32 u33 u34 u35 u36 u37 u38 u39 u40 u41 u42 u43 u44 u45 u46 u47 u48 u49 u50 u51 u52 u53 u54 u55 u56 u57 u58 u59 u60 u61 u62 u63 u64 u65 u66 u67 u68 u69 u70 u71 u72 u73 u74 u75 u76 u77 u78 u79 u80 u81 u82 u83 u84 u85 u86 u87 u88 u89 u90 u91 u92 u93 u94 u95 u96 u97 u98 u99 u100 u101 u102 u103 u104 u105 u106 u107 u108 u109 u110 u111 u112 u113 u114 u115 u116 u117 u118 u119 u120 u121 u122 u123 u124 u125 u126 u127 u128 u129 u130 u131 u132 u133 u134 u135 u136 u137 u138 u139 u140 u141 u142 u143 u144 u145 u146 u147 u148 u149 u150 u151 u152 u153 u154 u155 u156 u157 u158 u159 u160 u161 u162 u163 u164 u165 u166 u167 u168 u169 u170 u171 u172 u173 u174 u175 u176:Value} {K:Act→World→Prop} (hK:∀ a w,q7l.wp Tryz.prog (bodyPostM Fence.wide 3 Tryz.prog Tryz.f25 R) a w→K a w) :
  (regOf 13 Tryz.f25).wp Tryz.prog (Exit.then K (bodyPostM Fence.wide 3 Tryz.prog Tryz.f25 R)) { tmps:=#[.pointer (some ⟨S.a,0,none⟩),str l,.slice sl D.length cap,.pointer (some ⟨B3,0,none⟩),u4,u5,.pointer (some ⟨B6,0,none⟩),.pointer (some ⟨B7,0,none⟩),u8,.pointer (some ⟨B9,0,none⟩),u10,.pointer (some ⟨B11,0,none⟩),u12,u13,u14,u15,u16,u17,u18,u19,u20,u21,u22,u23,u24,u25,u26,u27,u28,u29,u30,u31,u32,u33,u34,u35,u36,u37,u38,u39,u40,u41,u42,u43,u44,u45,u46,u47,u48,u49,u50,u51,u52,u53,u54,u55,u56,u57,u58,u59,u60,u61,u62,u63,u64,u65,u66,u67,u68,u69,u70,u71,u72,u73,u74,u75,u76,u77,u78,u79,u80,u81,u82,u83,u84,u85,u86,u87,u88,u89,u90,u91,u92,u93,u94,u95,u96,u97,u98,u99,u100,u101,u102,u103,u104,u105,u106,u107,u108,u109,u110,u111,u112,u113,u114,u115,u116,u117,u118,u119,u120,u121,u122,u123,u124,u125,u126,u127,u128,u129,u130,u131,u132,u133,u134,u135,u136,u137,u138,u139,u140,u141,u142,u143,u144,u145,u146,u147,u148,u149,u150,u151,u152,u153,u154,u155,u156,u157,u158,u159,u160,u161,u162,u163,u164,u165,u166,u167,u168,u169,u170,u171,u172,u173,u174,u175,u176],defers:=[] } w:=by
 have HH:=Lib.hid (And.intro hok (And.intro hB (And.intro hb (And.intro hT (And.intro hD (And.intro hsl (And.intro hnum (And.intro hcap hR))))))))
 clear hok hB hb hT hD hsl hnum hcap hR
 conv=>arg 2;whnf
 go_wp2_with ((refine qak rfl (qo4 154 rfl HH.out.2.2.2.1 ?_);intro Bm w1 hT1;have a7:w1.cell? ⟨S.a,7,none⟩=some (.pointer (some ⟨S.X.ab,0,none⟩)):=qac (hT1.sat.memIs (b:=S.a) (o:=archO S.X) (by simp [arF])) 7 rfl;have ab3:w1.cell? ⟨S.X.ab,3,none⟩=some (.int .i64 S.A.end_):=qac (hT1.sat.memIs (b:=S.X.ab) (o:=.cells (qaw S.X.d S.A) 157 (0,0)) (by simp [arF,areaF])) 3 (qiq _ _);have b3:w1.cell? ⟨B3,0,none⟩=some (.pointer (some ⟨S.a,0,none⟩)):=qac (hT1.sat.memIs (b:=B3) (o:=boxA S.a) (by simp)) 0 rfl;have hal:S.a<w1.heap.size:=hT1.sat.lt (by simp [arF]);have habl:S.X.ab<w1.heap.size:=hT1.sat.lt (by simp [arF,areaF]);have hb3l:B3<w1.heap.size:=hT1.sat.lt (by simp);have HT1:=Lib.hid hT1;clear hT1))
 conv=>arg 2;whnf
 go_wp2_with fail
 refine (qxf _ _ _ _).mono ?_
 rintro e w2 ⟨rfl,rfl⟩
 go_wp2_with fail
 obtain ⟨B12,hB12⟩:∃ B12,B12=w1.heap.size:=⟨_,rfl⟩
 obtain ⟨B13,hB13⟩:∃ B13,B13=w1.heap.size+1:=⟨_,rfl⟩
 obtain ⟨bx,hbx⟩:∃ bx,bx=w1.heap.size+1+1:=⟨_,rfl⟩
 have hT2:Turns (arF S) ((B13,Is (intO ((S.data.length+qa1 []:Nat):Int)))::(B12,Is (fmapO Bm))::(Bm,Is (mapO str (qba S.data.length 0 []) 0))::(B11,Is (recsO (.slice none 0 0)))::(qc5 (.slice none 0 0) []++((B9,Is (vboxO Bv))::(verF ⟨Bv,num,D.length,.slice none 0 0,[],0⟩++(((B3,Is (boxA S.a))::[(B6,Is (intO 0)),(B7,Is (errO .nilIface))])++arF S))))) w0 ((w1.alloc (.cells #[.map (some Bm)] 154)).alloc (.cells #[.int .i64 S.A.end_] 3)):=by
  have h:=(HT1.out.allocIs (fmapO Bm)).allocIs (intO S.A.end_)
  rw [World.size_alloc,← hB13,← hB12] at h
  refine h.to ?_
  unfold qc5 verF qa2
  simp only [rowF,Value.ownBlock,List.flatMap_nil,List.map_nil,List.nil_append,qa1,List.sum_nil,Nat.add_zero,qba,mapO]
  rw [← HH.out.1.end_]
  exact (qaf fun _=>by simp only [qad,qaa,qah]<;>omega)
 have hbxx:=qa7 ((w1.alloc (.cells #[.map (some Bm)] 154)).alloc (.cells #[.int .i64 S.A.end_] 3)) (.cells #[.slice sl D.length cap] 38)
 have hT3:=hT2.alloc (.cells #[.slice sl D.length cap] 38)
 simp only [World.size_alloc] at hbxx
 have hnb:bx∉dom ((B13,Is (intO ((S.data.length+qa1 []:Nat):Int)))::(B12,Is (fmapO Bm))::(Bm,Is (mapO str (qba S.data.length 0 []) 0))::(B11,Is (recsO (.slice none 0 0)))::(qc5 (.slice none 0 0) []++((B9,Is (vboxO Bv))::(verF ⟨Bv,num,D.length,.slice none 0 0,[],0⟩++(((B3,Is (boxA S.a))::[(B6,Is (intO 0)),(B7,Is (errO .nilIface))])++arF S))))):=fun h=>by have:=hT2.sat.lt h;simp only [World.size_alloc] at this;omega
 rw [← hbx] at hbxx
 have hsz:(((w1.alloc (.cells #[.map (some Bm)] 154)).alloc (.cells #[.int .i64 S.A.end_] 3)).alloc (.cells #[.slice sl D.length cap] 38)).heap.size=bx+1:=by simp only [World.size_alloc];omega
 rw [← hbx,← hB13,← hB12]
 generalize ((w1.alloc (.cells #[.map (some Bm)] 154)).alloc (.cells #[.int .i64 S.A.end_] 3)).alloc (.cells #[.slice sl D.length cap] 38)=W2 at hbxx hT3 hsz ⊢
 clear a7 ab3 b3 hal habl hb3l hT2 hB12 hB13 hbx
 obtain ⟨F0,hF0⟩:∃ F0,F0=(B13,Is (intO ((S.data.length+qa1 []:Nat):Int)))::(B12,Is (fmapO Bm))::(Bm,Is (mapO str (qba S.data.length 0 []) 0))::(B11,Is (recsO (.slice none 0 0)))::(qc5 (.slice none 0 0) []++((B9,Is (vboxO Bv))::(verF ⟨Bv,num,D.length,.slice none 0 0,[],0⟩++(((B3,Is (boxA S.a))::[(B6,Is (intO 0)),(B7,Is (errO .nilIface))])++arF S)))):=⟨_,rfl⟩
 rw [← hF0] at hT3 hnb
 have hDW:qaj W2 sl (D.map enc8):=HH.out.2.2.2.2.1.turnsOld hT3 HH.out.2.2.2.2.2.1
 obtain ⟨d,off,hda,hdb,hdF,hdw⟩:∃ d off,(0<D.length→sl=some ⟨d,off,none⟩)∧qdj W2 d off D∧d∉dom F0∧(d≠W2.heap.size∧d≠W2.heap.size+1):=by
  by_cases hd:D=[]
  ·subst hd
   exact ⟨W2.heap.size+2,0,fun h=>by simp at h,fun j hj=>by simp at hj,fun h=>by have:=hT3.sat.lt h;omega,by omega⟩
  ·have hp:0<D.length:=List.length_pos_iff.2 hd
   obtain ⟨g,off,rfl,hc⟩:=hDW (by simpa using hp)
   obtain ⟨g0,off0,he0,hc0⟩:=HH.out.2.2.2.2.1 (by simpa using hp)
   simp only [Option.some.injEq,Addr.mk.injEq,and_true] at he0
   obtain ⟨rfl,rfl⟩:=he0
   have hlt0:g<w0.heap.size:=World.block_lt_of_cell? w0 _ (hc0 0 (by simpa using hp))
   have hlt:g<W2.heap.size:=Nat.lt_of_lt_of_le hlt0 hT3.mods.size
   refine ⟨g,off,fun _=>rfl,fun j hj=>by rw [hc j (by simpa using hj)];simp [enc8],fun h=>?_,by omega⟩
   rcases hT3.fresh g h with h' | h'
   ·exact HH.out.2.2.2.2.2.1 _ rfl h'
   ·omega
 have HL:=Lib.hid (And.intro hF0 (And.intro hT3 (And.intro hnb (And.intro hdb (And.intro hdF hsz)))))
 refine (wpIn_wide (n:=3)).1 ?_
 refine qzk (n:=1) bx d off cap sl D rfl hda HH.out.2.2.2.2.2.2.2.1 (by omega) hbxx HL.out.2.2.2.1 hdw (PutJ S D B9 B11 B12 B13 Bm Bv num ((B3,Is (boxA S.a))::[(B6,Is (intO 0)),(B7,Is (errO .nilIface))])) F0 ?h0 HL.out.2.1.sat HL.out.2.2.1 HL.out.2.2.2.2.1 ?a1 ?assign ?body ?done
 case assign =>
  intro l i W K hK
  gi_wp2
  exact hK
 case h0 =>
  refine ⟨S.A.spare,[],.slice none 0 0,.slice none 0 0,[],[],rfl,HH.out.1.area,rfl,⟨⟨rfl,fun _=>⟨rfl,rfl⟩⟩,fun r hr=>by simp at hr⟩,⟨rfl,fun _=>⟨rfl,rfl⟩⟩,rfl,fun e he=>by simp at he,?_⟩
  rw [HL.out.1];rfl
 case body =>
  intro l2 i F A hi hJ hF hdA hdF2 hle
  exact qyj S HH.out.1 D d off 1 l2 B3 B6 B7 B9 B11 B12 B13 Bm Bv num i _ F A hdA hdF2 hi hDl (by have:=HH.out.2.1.K;have:=HH.out.2.2.1;omega) hJ hF S.a l
 case done =>
  intro Dd F B hDd hJ hT4 hDF hDB
  rename_i hK
  have hT5:=HL.out.2.1.trans hT4
  have HG:=Lib.hid (And.intro hJ (And.intro hT4 (And.intro hDF (And.intro hDB hT5))))
  refine hK _ _ ?_
  refine qzc S HH.out.1 b HH.out.2.1 HH.out.2.2.1 l D hl hll hDl B3 B6 B7 B9 B11 B12 B13 Bm Bv num HH.out.2.2.2.2.2.2.1 F B hJ hT4.sat ?_
  intro tmps w' n ev h6 h7 hres
  have fin:∀ (G J:HF) (v:Int) (u:Value),Turns F ((B6,Is (intO v))::(B7,Is (errO u))::(G++J)) B w'→(∀ W,Turns (arF S) G w0 W→qx8 S l D w0 (.returned (.tuple #[.int .i64 v,u])) W b num) →
    bodyPostM Fence.wide 3 Tryz.prog Tryz.f25 R .ret { tmps:=tmps,defers:=[{ target:=.collected Dd,args:=#[] }] } w':=by
   intro G J v u hTt hPF
   have hDlt:Dd<B.heap.size:=qal HG.out.2.2.2.1
   have hDn:Dd∉dom ((B6,Is (intO v))::(B7,Is (errO u))::(G++J)):=fun h=>by
    rcases hTt.fresh _ h with h' | h'
    ·exact HG.out.2.2.1 h'
    ·omega
   have hDw:w'.heap[Dd]?=some (.deferred (some [])):=hTt.mods.at HG.out.2.2.2.1 HG.out.2.2.1
   have hT6:=(HG.out.2.2.2.2.trans hTt).putNew (Nat.le_trans HL.out.2.1.mods.size hDd) hDn (.deferred none)
   refine ⟨by simp,.inl ⟨_,_,rfl,run_takeDeferred hDw,?_⟩⟩
   exact ⟨_,qkh rfl tmps _ B6 B7 (.int .i64 v) u Tryz.underlying3 rfl Tryz.underlying45 rfl h6 h7 (qac (hT6.sat.headIs) 0 rfl) (qac (hT6.sat.tail.headIs) 0 rfl),HH.out.2.2.2.2.2.2.2.2 _ _ (hPF _ (hT6.drop (fun _=>by simp only [qad,qaa,qah]<;>omega)))⟩
  rcases hres with ⟨sp,chs,J,rfl,rfl,h1,h2,h3,h4⟩ | ⟨S',V,J,rfl,rfl,h1,h2,h3,h4⟩
  ·exact fin _ J 0 (errV 8) h2 (fun W hW=>.inl ⟨sp,chs,rfl,h1,hW,h3,h4⟩)
  ·exact fin _ J num .nilIface h4 (fun W hW=>.inr ⟨S',V,rfl,h1,h2,h3,hW⟩)
end Go.Proofs.YtdhobpbngkainaaGreatDoor
namespace Go.Proofs.YtdhobpbngkainaaGreatDoor
open Go.RowKit Go.Maps
theorem put6 (F1 Z:HF) (A:World) (B3 a n:Nat) (X:ArchL) (sl:Option Addr) (cap:Nat) {Q:Exit→Act→World→Prop} {w:World} {u0 u1 u4 u5 u6 u7 u8 u9 u10 u11 u12 u13 u14 u15 u16 u17 u18 u19 u20 u21 u22 u23 u24 u25 u26 u27 u28 u29 u30 u31 u32 u33 u34 u35 u36 u37 u38 u39 u40 u41 u42 u43 u44 u45 u46 u47 u48 u49 u50 u51 u52 u53 u54 u55 u56 u57 u58 u59 u60 u61 u62 u63 u64 u65 u66 u67 u68 u69 u70 u71 u72 u73 u74 u75 u76 u77 u78 u79 u80 u81 u82 u83 u84 u85 u86 u87 u88 u89 u90 u91 u92 u93 u94 u95 u96 u97 u98 u99 u100 u101 u102 u103 u104 u105 u106 u107 u108 u109 u110 u111 u112 u113 u114 u115 u116 u117 u118 u119 u120 u121 u122 u123 u124 u125 u126 u127 u128 u129 u130 u131 u132 u133 u134 u135 u136 u137 u138 u139 u140 u141 u142 u143 u144 u145 u146 u147 u148 u149 u150 u151 u152 u153 u154 u155 u156 u157 u158 u159 u160 u161 u162 u163 u164 u165 u166 u167 u168 u169 u170 u171 u172 u173 u174 u175 u176:Value} {ds:List Deferred} (hT:Turns F1 ((B3,Is (boxA a))::(a,Is (archO X))::Z) A w) (hu : -4611686018427387904≤X.used∧X.used≤4611686018427387904) (hn:n≤1099511627776)
  (hk:∀ (y34 y35 y36 y37 y38 y39 y40 y41 y42 y43 y44 y45 y46:Value) (w':World),y46=.bool (decide (X.quota<X.used+n))→Turns F1 ((B3,Is (boxA a))::(a,Is (archO X))::Z) A w'→Q .normal { tmps:=#[u0,u1,.slice sl n cap,.pointer (some ⟨B3,0,none⟩),u4,u5,u6,u7,u8,u9,u10,u11,u12,u13,u14,u15,u16,u17,u18,u19,u20,u21,u22,u23,u24,u25,u26,u27,u28,u29,u30,u31,u32,u33,y34,y35,y36,y37,y38,y39,y40,y41,y42,y43,y44,y45,y46,u47,u48,u49,u50,u51,u52,u53,u54,u55,u56,u57,u58,u59,u60,u61,u62,u63,u64,u65,u66,u67,u68,u69,u70,u71,u72,u73,u74,u75,u76,u77,u78,u79,u80,u81,u82,u83,u84,u85,u86,u87,u88,u89,u90,u91,u92,u93,u94,u95,u96,u97,u98,u99,u100,u101,u102,u103,u104,u105,u106,u107,u108,u109,u110,u111,u112,u113,u114,u115,u116,u117,u118,u119,u120,u121,u122,u123,u124,u125,u126,u127,u128,u129,u130,u131,u132,u133,u134,u135,u136,u137,u138,u139,u140,u141,u142,u143,u144,u145,u146,u147,u148,u149,u150,u151,u152,u153,u154,u155,u156,u157,u158,u159,u160,u161,u162,u163,u164,u165,u166,u167,u168,u169,u170,u171,u172,u173,u174,u175,u176],defers:=ds } w') :
  (regOf 6 Tryz.f25).wp Tryz.prog Q { tmps:=#[u0,u1,.slice sl n cap,.pointer (some ⟨B3,0,none⟩),u4,u5,u6,u7,u8,u9,u10,u11,u12,u13,u14,u15,u16,u17,u18,u19,u20,u21,u22,u23,u24,u25,u26,u27,u28,u29,u30,u31,u32,u33,u34,u35,u36,u37,u38,u39,u40,u41,u42,u43,u44,u45,u46,u47,u48,u49,u50,u51,u52,u53,u54,u55,u56,u57,u58,u59,u60,u61,u62,u63,u64,u65,u66,u67,u68,u69,u70,u71,u72,u73,u74,u75,u76,u77,u78,u79,u80,u81,u82,u83,u84,u85,u86,u87,u88,u89,u90,u91,u92,u93,u94,u95,u96,u97,u98,u99,u100,u101,u102,u103,u104,u105,u106,u107,u108,u109,u110,u111,u112,u113,u114,u115,u116,u117,u118,u119,u120,u121,u122,u123,u124,u125,u126,u127,u128,u129,u130,u131,u132,u133,u134,u135,u136,u137,u138,u139,u140,u141,u142,u143,u144,u145,u146,u147,u148,u149,u150,u151,u152,u153,u154,u155,u156,u157,u158,u159,u160,u161,u162,u163,u164,u165,u166,u167,u168,u169,u170,u171,u172,u173,u174,u175,u176],defers:=ds } w:=by
 have HM:=Lib.hid (show Tryz.prog.follows .mixedOrders=true by kernel_rfl)
 conv=>arg 2;whnf
 refine qbt (A:=?A) (hA:=?hA) HM.out (phiL [fun v=>v=.pointer (some ⟨a,0,none⟩),fun v=>v=.pointer (some ⟨a,0,none⟩),fun v=>v=.pointer (some ⟨a,0,none⟩),fun v=>v=.pointer (some ⟨a,5,none⟩),fun v=>v=.int .i64 X.used,fun v=>v=.slice sl n cap,fun v=>v=.int .i64 n,fun v=>v=.int .i64 (X.used+n),fun v=>v=.pointer (some ⟨a,0,none⟩),fun v=>v=.pointer (some ⟨a,0,none⟩),fun v=>v=.pointer (some ⟨a,9,none⟩),fun v=>v=.int .i64 X.quota,fun v=>v=.bool (decide (X.quota<X.used+n))])
  (fun vs1 W=>match vs1 with
  | []=>Turns F1 ((B3,Is (boxA a))::(a,Is (archO X))::Z) A W
  | _=>False)
  (fun W=>W.heap[B3]?=some (boxA a)∧W.heap[a]?=some (archO X)) [] ?hC (by kernel_rfl) (by kernel_rfl) (by decide) (by decide) ?h0 ?hs ?he
 case hA=>intro x;simp only [qam,Act.put,List.setIfInBounds_toArray,List.set_cons_zero,List.set_cons_succ,Nat.reduceAdd];rfl
 case hs =>
  refine ⟨qab rfl rfl (fun x wq hd hC K hK hKw=>?_),qab rfl rfl (fun x wq hd hC K hK hKw=>?_),qab rfl rfl (fun x wq hd hC K hK hKw=>?_),qab rfl rfl (fun x wq hd hC K hK hKw=>?_),qab rfl rfl (fun x wq hd hC K hK hKw=>?_),qab rfl rfl (fun x wq hd hC K hK hKw=>?_),qab rfl rfl (fun x wq hd hC K hK hKw=>?_),qab rfl rfl (fun x wq hd hC K hK hKw=>?_),qab rfl rfl (fun x wq hd hC K hK hKw=>?_),qab rfl rfl (fun x wq hd hC K hK hKw=>?_),qab rfl rfl (fun x wq hd hC K hK hKw=>?_),qab rfl rfl (fun x wq hd hC K hK hKw=>?_),qab rfl rfl (fun x wq hd hC K hK hKw=>?_),trivial⟩
  ·exact qat Tryz.underlying32 rfl rfl (by rfl) (qac hC.1 0 rfl) (hK _ rfl)
  ·have h0:x 0=.pointer (some ⟨a,0,none⟩):=qae hd 0 (by kernel_rfl)
   exact qag (by rw [h0];kernel_rfl) (hK _ rfl)
  ·have h1:x 1=.pointer (some ⟨a,0,none⟩):=qae hd 1 (by kernel_rfl)
   exact qag (by rw [h1];kernel_rfl) (hK _ rfl)
  ·have h2:x 2=.pointer (some ⟨a,0,none⟩):=qae hd 2 (by kernel_rfl)
   exact qag (by rw [h2];kernel_rfl) (hK _ rfl)
  ·have h3:x 3=.pointer (some ⟨a,5,none⟩):=qae hd 3 (by kernel_rfl)
   exact qat Tryz.underlying3 rfl rfl (by rw [h3];rfl) (qac hC.2 5 rfl) (hK _ rfl)
  ·exact qag (by kernel_rfl) (hK _ rfl)
  ·have h5:x 5=.slice sl n cap:=qae hd 5 (by kernel_rfl)
   exact qag (by rw [h5];kernel_rfl) (hK _ rfl)
  ·have h4:x 4=.int .i64 X.used:=qae hd 4 (by kernel_rfl)
   have h6:x 6=.int .i64 n:=qae hd 6 (by kernel_rfl)
   exact w_bin .add 3 3 (.tmp 38) (.tmp 40) rfl (by rw [h4];rfl) (by rw [h6];rfl) (qot (by omega) (by omega) wq) rfl (hK _ rfl)
  ·exact qat Tryz.underlying32 rfl rfl (by rfl) (qac hC.1 0 rfl) (hK _ rfl)
  ·have h8:x 8=.pointer (some ⟨a,0,none⟩):=qae hd 8 (by kernel_rfl)
   exact qag (by rw [h8];kernel_rfl) (hK _ rfl)
  ·have h9:x 9=.pointer (some ⟨a,0,none⟩):=qae hd 9 (by kernel_rfl)
   exact qag (by rw [h9];kernel_rfl) (hK _ rfl)
  ·have h10:x 10=.pointer (some ⟨a,9,none⟩):=qae hd 10 (by kernel_rfl)
   exact qat Tryz.underlying3 rfl rfl (by rw [h10];rfl) (qac hC.2 9 rfl) (hK _ rfl)
  ·have h7:x 7=.int .i64 (X.used+n):=qae hd 7 (by kernel_rfl)
   have h11:x 11=.int .i64 X.quota:=qae hd 11 (by kernel_rfl)
   exact w_bin .gtr 3 3 (.tmp 41) (.tmp 45) rfl (by rw [h7];rfl) (by rw [h11];rfl) (q3r wq) rfl (hK _ rfl)
 case hC =>
  intro vs1 W hS
  match vs1,hS with
  | [],hT=>exact ⟨hT.sat.memIs (by simp),hT.sat.memIs (by simp)⟩
 case h0 =>
  exact hT.drew
 case he =>
  intro x w3 hφ hS
  exact hk (x 0) (x 1) (x 2) (x 3) (x 4) (x 5) (x 6) (x 7) (x 8) (x 9) (x 10) (x 11) (x 12) w3 (qdo hφ 12 (by decide) (by decide)) hS
theorem put11 (F1 Z:HF) (A:World) (B9 Bv g off n cap size:Nat) (U:VerL) {Q:Exit→Act→World→Prop} {w:World} {u0 u1 u2 u3 u4 u5 u6 u7 u8 u11 u12 u13 u14 u15 u16 u17 u18 u19 u20 u21 u22 u23 u24 u25 u26 u27 u28 u29 u30 u31 u32 u33 u34 u35 u36 u37 u38 u39 u40 u41 u42 u43 u44 u45 u46 u47 u48 u49 u50 u51 u52 u53 u54 u55 u56 u57 u58 u59 u60 u61 u62 u63 u64 u65 u66 u67 u68 u69 u70 u71 u72 u73 u74 u75 u76 u77 u78 u79 u80 u81 u82 u83 u84 u85 u86 u87 u88 u89 u90 u91 u92 u93 u94 u95 u96 u97 u98 u99 u100 u101 u102 u103 u104 u105 u106 u107 u108 u109 u110 u111 u112 u113 u114 u115 u116 u117 u118 u119 u120 u121 u122 u123 u124 u125 u126 u127 u128 u129 u130 u131 u132 u133 u134 u135 u136 u137 u138 u139 u140 u141 u142 u143 u144 u145 u146 u147 u148 u149 u150 u151 u152 u153 u154 u155 u156 u157 u158 u159 u160 u161 u162 u163 u164 u165 u166 u167 u168 u169 u170 u171 u172 u173 u174 u175 u176:Value} {ds:List Deferred} (hT:Turns F1 ((Bv,Is (verO ⟨Bv,1,size,.slice none 0 0,[],0⟩))::(B9,Is (vboxO Bv))::Z) A w) (hc1:w.cell? ⟨g,off+(n-1),none⟩=some (ptrV U)) (hc2:w.heap[U.blk]?=some (verO U)) (hn:0<n∧n≤1099511627776) (hu:U.num≤1099511627776)
  (hk:∀ (y62 y63 y64 y65 y66 y67 y68 y69 y70 y71 y72 y73 y74:Value) (w':World),Turns F1 ((Bv,Is (verO ⟨Bv,U.num+1,size,.slice none 0 0,[],0⟩))::(B9,Is (vboxO Bv))::Z) A w'→Q .normal { tmps:=#[u0,u1,u2,u3,u4,u5,u6,u7,u8,.pointer (some ⟨B9,0,none⟩),.slice (some ⟨g,off,none⟩) n cap,u11,u12,u13,u14,u15,u16,u17,u18,u19,u20,u21,u22,u23,u24,u25,u26,u27,u28,u29,u30,u31,u32,u33,u34,u35,u36,u37,u38,u39,u40,u41,u42,u43,u44,u45,u46,u47,u48,u49,u50,u51,u52,u53,u54,u55,u56,u57,u58,u59,u60,u61,y62,y63,y64,y65,y66,y67,y68,y69,y70,y71,y72,y73,y74,u75,u76,u77,u78,u79,u80,u81,u82,u83,u84,u85,u86,u87,u88,u89,u90,u91,u92,u93,u94,u95,u96,u97,u98,u99,u100,u101,u102,u103,u104,u105,u106,u107,u108,u109,u110,u111,u112,u113,u114,u115,u116,u117,u118,u119,u120,u121,u122,u123,u124,u125,u126,u127,u128,u129,u130,u131,u132,u133,u134,u135,u136,u137,u138,u139,u140,u141,u142,u143,u144,u145,u146,u147,u148,u149,u150,u151,u152,u153,u154,u155,u156,u157,u158,u159,u160,u161,u162,u163,u164,u165,u166,u167,u168,u169,u170,u171,u172,u173,u174,u175,u176],defers:=ds } w') :
  (regOf 11 Tryz.f25).wp Tryz.prog Q { tmps:=#[u0,u1,u2,u3,u4,u5,u6,u7,u8,.pointer (some ⟨B9,0,none⟩),.slice (some ⟨g,off,none⟩) n cap,u11,u12,u13,u14,u15,u16,u17,u18,u19,u20,u21,u22,u23,u24,u25,u26,u27,u28,u29,u30,u31,u32,u33,u34,u35,u36,u37,u38,u39,u40,u41,u42,u43,u44,u45,u46,u47,u48,u49,u50,u51,u52,u53,u54,u55,u56,u57,u58,u59,u60,u61,u62,u63,u64,u65,u66,u67,u68,u69,u70,u71,u72,u73,u74,u75,u76,u77,u78,u79,u80,u81,u82,u83,u84,u85,u86,u87,u88,u89,u90,u91,u92,u93,u94,u95,u96,u97,u98,u99,u100,u101,u102,u103,u104,u105,u106,u107,u108,u109,u110,u111,u112,u113,u114,u115,u116,u117,u118,u119,u120,u121,u122,u123,u124,u125,u126,u127,u128,u129,u130,u131,u132,u133,u134,u135,u136,u137,u138,u139,u140,u141,u142,u143,u144,u145,u146,u147,u148,u149,u150,u151,u152,u153,u154,u155,u156,u157,u158,u159,u160,u161,u162,u163,u164,u165,u166,u167,u168,u169,u170,u171,u172,u173,u174,u175,u176],defers:=ds } w:=by
 have HM:=Lib.hid (show Tryz.prog.follows .mixedOrders=true by kernel_rfl)
 conv=>arg 2;whnf
 refine qbu (A:=?A) (hA:=?hA) HM.out (phiL [fun v=>v=.pointer (some ⟨Bv,0,none⟩),fun v=>v=.slice (some ⟨g,off,none⟩) n cap,fun v=>v=.slice (some ⟨g,off,none⟩) n cap,fun v=>v=.int .i64 n,fun v=>v=.int .i64 ((n:Int)-1),fun v=>v=.pointer (some ⟨g,off+(n-1),none⟩),fun v=>v=.pointer (some ⟨U.blk,0,none⟩),fun v=>v=.pointer (some ⟨U.blk,0,none⟩),fun v=>v=.pointer (some ⟨U.blk,0,none⟩),fun v=>v=.int .i64 U.num,fun v=>v=.int .i64 (U.num+1),fun v=>v=.pointer (some ⟨Bv,0,none⟩),fun v=>v=.pointer (some ⟨Bv,0,none⟩),fun _=>True])
  (fun vs1 W=>match vs1 with
  | []=>Turns F1 ((Bv,Is (verO ⟨Bv,1,size,.slice none 0 0,[],0⟩))::(B9,Is (vboxO Bv))::Z) A W∧W.cell? ⟨g,off+(n-1),none⟩=some (ptrV U)∧W.heap[U.blk]?=some (verO U)
  | [_]=>Turns F1 ((Bv,Is (.cells ((qdl ⟨Bv,1,size,.slice none 0 0,[],0⟩).setIfInBounds 0 (.int .i64 (U.num+1))) 152 (0,0)))::(B9,Is (vboxO Bv))::Z) A W
  | _=>False)
  (fun W=>W.heap[B9]?=some (vboxO Bv)∧W.cell? ⟨g,off+(n-1),none⟩=some (ptrV U)∧W.heap[U.blk]?=some (verO U)) [13] ?hC (by kernel_rfl) (by kernel_rfl) (by kernel_rfl) (by decide) (by decide) ?h0 ?hs ?he
 case hA=>intro x;simp only [qam,Act.put,List.setIfInBounds_toArray,List.set_cons_zero,List.set_cons_succ,Nat.reduceAdd];rfl
 case hs =>
  refine ⟨qab rfl rfl (fun x wq hd hC K hK hKw=>?_),qab rfl rfl (fun x wq hd hC K hK hKw=>?_),qab rfl rfl (fun x wq hd hC K hK hKw=>?_),qab rfl rfl (fun x wq hd hC K hK hKw=>?_),qab rfl rfl (fun x wq hd hC K hK hKw=>?_),qab rfl rfl (fun x wq hd hC K hK hKw=>?_),qab rfl rfl (fun x wq hd hC K hK hKw=>?_),qab rfl rfl (fun x wq hd hC K hK hKw=>?_),qab rfl rfl (fun x wq hd hC K hK hKw=>?_),qab rfl rfl (fun x wq hd hC K hK hKw=>?_),qab rfl rfl (fun x wq hd hC K hK hKw=>?_),qab rfl rfl (fun x wq hd hC K hK hKw=>?_),qab rfl rfl (fun x wq hd hC K hK hKw=>?_),qap 0 rfl rfl (fun x wq hd hS K hK=>?_),trivial⟩
  ·exact qat Tryz.underlying149 rfl rfl (by rfl) (qac hC.1 0 rfl) (hK _ rfl)
  ·exact qag (by kernel_rfl) (hK _ rfl)
  ·exact qag (by kernel_rfl) (hK _ rfl)
  ·have h2:x 2=.slice (some ⟨g,off,none⟩) n cap:=qae hd 2 (by kernel_rfl)
   exact qag (by rw [h2];kernel_rfl) (hK _ rfl)
  ·have h3:x 3=.int .i64 n:=qae hd 3 (by kernel_rfl)
   exact w_bin .sub 3 3 (.tmp 65) (.const (.int .i64 1)) rfl (by rw [h3];rfl) rfl (q4d (by omega) (by omega) wq) rfl (hK _ rfl)
  ·have h1:x 1=.slice (some ⟨g,off,none⟩) n cap:=qae hd 1 (by kernel_rfl)
   have h4:x 4=.int .i64 ((n:Int)-1):=qae hd 4 (by kernel_rfl)
   refine qvl (sz:=1) 153 149 (.tmp 63) (.tmp 66) rfl Tryz.underlying153 (by kernel_rfl) (by rw [h1];rfl) (by rw [h4];rfl) (by omega) (by omega) ?_
   rw [show off+((n:Int)-1).toNat*1=off+(n-1) by omega]
   exact hK _ rfl
  ·have h5:x 5=.pointer (some ⟨g,off+(n-1),none⟩):=qae hd 5 (by kernel_rfl)
   exact qat Tryz.underlying149 rfl rfl (by rw [h5];rfl) (hC.2.1) (hK _ rfl)
  ·have h6:x 6=.pointer (some ⟨U.blk,0,none⟩):=qae hd 6 (by kernel_rfl)
   exact qag (by rw [h6];kernel_rfl) (hK _ rfl)
  ·have h7:x 7=.pointer (some ⟨U.blk,0,none⟩):=qae hd 7 (by kernel_rfl)
   exact qag (by rw [h7];kernel_rfl) (hK _ rfl)
  ·have h8:x 8=.pointer (some ⟨U.blk,0,none⟩):=qae hd 8 (by kernel_rfl)
   exact qat Tryz.underlying3 rfl rfl (by rw [h8];rfl) (qac hC.2.2 0 rfl) (hK _ rfl)
  ·have h9:x 9=.int .i64 U.num:=qae hd 9 (by kernel_rfl)
   exact w_bin .add 3 3 (.tmp 71) (.const (.int .i64 1)) rfl (by rw [h9];rfl) rfl (qot (by omega) (by omega) wq) rfl (hK _ rfl)
  ·have h0:x 0=.pointer (some ⟨Bv,0,none⟩):=qae hd 0 (by kernel_rfl)
   exact qag (by rw [h0];kernel_rfl) (hK _ rfl)
  ·have h11:x 11=.pointer (some ⟨Bv,0,none⟩):=qae hd 11 (by kernel_rfl)
   exact qag (by rw [h11];kernel_rfl) (hK _ rfl)
  ·have h10:x 10=.int .i64 (U.num+1):=qae hd 10 (by kernel_rfl)
   have h12:x 12=.pointer (some ⟨Bv,0,none⟩):=qae hd 12 (by kernel_rfl)
   exact qa0 3 (.tmp 74) (.tmp 72) rfl Bv 0 (qdl ⟨Bv,1,size,.slice none 0 0,[],0⟩) 152 (.int .i64 (U.num+1)) hS.1 (by rw [h12];rfl) (by rw [h10];rfl) (by simp [qdl]) (by kernel_rfl) rfl rfl (fun w9 h9=>hK _ _ trivial h9)
 case hC =>
  intro vs1 W hlt hS
  match vs1,hS,hlt with
  | [],hT,_=>exact ⟨hT.1.sat.memIs (by simp),hT.2.1,hT.2.2⟩
  | [_],_,hlt=>exact absurd hlt (Nat.lt_irrefl _)
 case h0 =>
  exact ⟨hT.drew,hc1,hc2⟩
 case he =>
  intro x w3 hφ hS
  exact hk (x 0) (x 1) (x 2) (x 3) (x 4) (x 5) (x 6) (x 7) (x 8) (x 9) (x 10) (x 11) (x 12) w3 hS
end Go.Proofs.YtdhobpbngkainaaGreatDoor
namespace Go.Proofs.YtdhobpbngkainaaGreatDoor
open Go.RowKit Go.Maps Go.Shelf
theorem q5a (S:AS) (l D:Bs) (b:Nat) (w W:World) (B6 B7 B3 a:Nat) (n:Int) (tmps:Array Value) (h6:tmps.getD 6 undef=.pointer (some ⟨B6,0,none⟩)) (h7:tmps.getD 7 undef=.pointer (some ⟨B7,0,none⟩)) (ev:Value) (hev:ev=errV n)
  (hT:Turns (arF S) ((B7,Is (errO .nilIface))::(B6,Is (intO 0))::(B3,Is (boxA a))::arF S) w W)
  (
   hp:((S.X.closed=true∧n=9)∨(S.X.closed=false∧qa6 l=false∧n=1)∨(S.X.closed=false∧qa6 l=true∧4000<D.length∧n=2) ∨
   (S.X.closed=false∧qa6 l=true∧D.length≤4000∧S.X.quota<S.X.used+D.length∧n=7))) :
  bodyPostM Fence.wide 3 Tryz.prog Tryz.f25 (qqx S l D b w) .ret { tmps:=tmps,defers:=[] } ((W.setCell ⟨B6,0,none⟩ (.int .i64 0)).setCell ⟨B7,0,none⟩ ev):=by
 subst hev
 have q1:=hT.to (H:=(B6,Is (intO 0))::(B7,Is (errO .nilIface))::(B3,Is (boxA a))::arF S) (List.Perm.swap _ _ _)
 have q2:=q1.putIs (o:=intO 0) ((Mods.refl (fun k=>k=B6) W).set1 (i:=0) (.int .i64 0)) (qbf q1.sat.headIs 0 (.int .i64 0))
 have q3:=q2.to (H:=(B7,Is (errO .nilIface))::(B6,Is (intO 0))::(B3,Is (boxA a))::arF S) (List.Perm.swap _ _ _)
 have q4:=q3.putIs (o:=errO (errV n)) ((Mods.refl (fun k=>k=B7) _).set1 (i:=0) (errV n)) (qbf q3.sat.headIs 0 (errV n))
 have c6:=q4.sat.memIs (b:=B6) (o:=intO 0) (by simp)
 refine ⟨_,qkh rfl tmps _ B6 B7 (.int .i64 0) (errV n) Tryz.underlying3 rfl Tryz.underlying45 rfl h6 h7 (qac c6 0 rfl) (qac q4.sat.headIs 0 rfl),.inl ⟨n,rfl,q4.drop (fun _=>by simp only [qad,qaa,qah]<;>omega),hp⟩⟩
theorem q1w (S:AS) (l D:Bs) (sl:Option Addr) (cap b:Nat) (w:World) (h:Sat w (arF S)) (hok:ArOk S) (hB:ArB S b) (hb:b≤90000)
  (hD:qaj w sl (D.map enc8)) (hcap:D.length≤cap) (hdl:D.length≤1099511627776) (hsl:∀ x,sl=some x→x.block∉dom (arF S)) (hl:l.length≤9223372036854775807) (hq : -4611686018427387904≤S.X.quota) :
  Calls Tryz.prog 25 #[.pointer (some ⟨S.a,0,none⟩),str l,.slice sl D.length cap] w (qqx S l D b w):=by
 obtain ⟨a,ha⟩:∃ a,a=S.a:=⟨_,rfl⟩
 obtain ⟨X,hX⟩:∃ X,X=S.X:=⟨_,rfl⟩
 have hao:w.heap[a]?=some (archO X):=by rw [ha,hX];exact h.headIs
 have hal:=qal hao
 obtain ⟨B3,hB3⟩:∃ B3,B3=w.heap.size:=⟨_,rfl⟩
 obtain ⟨B6,hB6⟩:∃ B6,B6=w.heap.size+1:=⟨_,rfl⟩
 obtain ⟨B7,hB7⟩:∃ B7,B7=w.heap.size+2:=⟨_,rfl⟩
 have HB:=Lib.hid (fun W (hW:Same w W) (hc:W.cell? ⟨w.heap.size+3,0,none⟩=some (str l))=>qn9 a X (some ⟨w.heap.size+3,0,none⟩) 1 [l] W (hW.at hao id) (fun _=>⟨_,_,rfl,fun j hj=>by
  obtain rfl:j=0:=by simp at hj;omega
  exact hc⟩) (by simp))
 have HM:=Lib.hid (show Tryz.prog.follows .mixedOrders=true by kernel_rfl)
 obtain ⟨w0,hw0⟩:∃ w0,w0=((w.alloc (boxA a)).alloc (intO 0)).alloc (errO .nilIface):=⟨_,rfl⟩
 have hT0:Turns (arF S) ((B7,Is (errO .nilIface))::(B6,Is (intO 0))::(B3,Is (boxA a))::arF S) w w0:=by
  have:=(((Turns.refl h).allocIs (boxA a)).allocIs (intO 0)).allocIs (errO .nilIface)
  simp only [World.size_alloc] at this
  rw [hB3,hB6,hB7,hw0]
  exact this
 rw [← ha]
 have HH:=Lib.hid (And.intro h (And.intro hok (And.intro hB (And.intro hb (And.intro hD (And.intro hcap (And.intro hdl (And.intro hsl (And.intro hl (And.intro hT0 (And.intro ha (And.intro hX (And.intro hao (And.intro hq hw0))))))))))))))
 clear h hok hB hb hD hcap hsl hl hT0 ha hX hao hq
 refine (callsIn_wide (n:=3)).1 ?_
 refine callsIn_of_wp_marks Tryz.func25 rfl trivial ?_ rfl
 simp only [Tryz.ntmps25,List.size_toArray,List.length_cons,List.length_nil,Nat.reduceAdd,Nat.reduceSub,Array.replicate_succ,Array.replicate_zero,List.push_toArray,List.append_toArray,List.nil_append,List.cons_append]
 refine wpIn_wide.2 ?_
 go_wp2_with fail
 refine (HB.out _ ((((Mods.refl _ w).alloc _).alloc _).alloc _ |>.alloc _) (by
  have:=qac (qa7 (((w.alloc (boxA a)).alloc (intO 0)).alloc (errO .nilIface)) (.cells #[str l] 9)) 0 (v:=str l) rfl
  simp only [World.size_alloc] at this
  exact this)).mono ?_
 rintro e w1 ⟨rfl,hs1⟩
 obtain ⟨cl,hcl⟩:∃ cl,cl=X.closed:=⟨_,rfl⟩
 obtain ⟨pb,hpb⟩:∃ pb,pb=qa6 l:=⟨_,rfl⟩
 have e1:([l].all qa6)=pb:=by simp [hpb]
 rw [e1,← hcl]
 have hT1:Turns (arF S) ((B7,Is (errO .nilIface))::(B6,Is (intO 0))::(B3,Is (boxA a))::arF S) w w1:=by
  have:=(HH.out.2.2.2.2.2.2.2.2.2.1.alloc (.cells #[str l] 9))
  rw [HH.out.2.2.2.2.2.2.2.2.2.2.2.2.2.2] at this
  exact this.thenSame hs1
 have hb6:=hT1.sat.memIs (b:=B6) (o:=intO 0) (by simp)
 have hb7:=hT1.sat.memIs (b:=B7) (o:=errO .nilIface) (by simp)
 have c6:w1.cell? ⟨B6,0,none⟩=some (.int .i64 0):=qac hb6 0 rfl
 have c7:w1.cell? ⟨B7,0,none⟩=some .nilIface:=qac hb7 0 rfl
 have f6:=qa9 hb6 0
 have f7:=qa9 hb7 0
 rw [show w.heap.size+1+1=w.heap.size+2 from rfl,← hB7,← hB6,← hB3]
 have h67:¬ B6=B7:=by omega
 have h76:¬ B7=B6:=by omega
 have HE:=Lib.hid (fun (W:World) (n:Int) (tmps:Array Value) (h6:tmps.getD 6 undef=.pointer (some ⟨B6,0,none⟩)) (h7:tmps.getD 7 undef=.pointer (some ⟨B7,0,none⟩)) (ev:Value) (hev:ev=errV n) (hT:Turns (arF S) ((B7,Is (errO .nilIface))::(B6,Is (intO 0))::(B3,Is (boxA a))::arF S) w W)
   (hp:((S.X.closed=true∧n=9)∨(S.X.closed=false∧qa6 l=false∧n=1)∨(S.X.closed=false∧qa6 l=true∧4000<D.length∧n=2) ∨
   (S.X.closed=false∧qa6 l=true∧D.length≤4000∧S.X.quota<S.X.used+D.length∧n=7)))=>q5a S l D b w W B6 B7 B3 a n tmps h6 h7 ev hev hT hp)
 have HD:=Lib.hid (And.intro hcl (And.intro hpb hT1))
 clear hcl hpb hT1 hb6 hb7 hs1 e1 hw0 hB3 hB6 hB7 hal
 cases cl with
 | true =>
  simp only [if_true]
  unfold errV
  go_wp2_with fail
  refine HE.out _ 9 _ rfl rfl _ rfl HD.out.2.2 (.inl ⟨?_,rfl⟩)
  rw [← HH.out.2.2.2.2.2.2.2.2.2.2.2.1];exact HD.out.1.symm
 | false =>
  cases pb with
  | false =>
   simp only [Bool.false_eq_true,if_false]
   unfold errV
   go_wp2_with fail
   refine HE.out _ 1 _ rfl rfl _ rfl HD.out.2.2 (.inr (.inl ⟨?_,HD.out.2.1.symm,rfl⟩))
   rw [← HH.out.2.2.2.2.2.2.2.2.2.2.2.1];exact HD.out.1.symm
  | true =>
   simp only [Bool.false_eq_true,if_false,if_true]
   have hcl2:S.X.closed=false:=by rw [← HH.out.2.2.2.2.2.2.2.2.2.2.2.1];exact HD.out.1.symm
   have hll:l.length≤20:=by
    have h2:=HD.out.2.1.symm
    unfold qa6 at h2
    simp only [Bool.and_eq_true,decide_eq_true_eq] at h2
    exact h2.1.2
   by_cases hbig:4000<D.length
   ·have HG:=Lib.hid hcl2
    clear hcl2
    go_wp2_with fail
    refine HE.out _ 2 _ rfl rfl _ rfl HD.out.2.2 (.inr (.inr (.inl ⟨HG.out,HD.out.2.1.symm,hbig,rfl⟩)))
   ·have HG:=Lib.hid hcl2
    clear hcl2
    go_wp2_with fail
    refine put6 (arF S) ((B7,Is (errO .nilIface))::(B6,Is (intO 0))::(areaF S.X.ab S.X.d S.A++(devF S.X.d S.L++(qbc S.X.pm S.ps S.pc++(tagsF S.X.tm S.ts S.tc++qbd S.X.cm S.cs S.cc))))) w B3 a D.length X sl cap ?_ ?_ hdl ?_
    ·have h:=HD.out.2.2
     rw [HH.out.2.2.2.2.2.2.2.2.2.2.1,HH.out.2.2.2.2.2.2.2.2.2.2.2.1]
     unfold arF at h ⊢
     rw [HH.out.2.2.2.2.2.2.2.2.2.2.1] at h
     exact h.to (qaf fun _=>by simp only [qad,qaa,qah]<;>omega)
    ·have h1:=HH.out.2.2.1.used
     have h2:=HH.out.2.2.2.1
     rw [HH.out.2.2.2.2.2.2.2.2.2.2.2.1]
     omega
    intro _ _ _ _ _ _ _ _ _ _ _ _ y46 w2 hy46 hT2
    subst hy46
    have hT2':Turns (arF S) ((B7,Is (errO .nilIface))::(B6,Is (intO 0))::(B3,Is (boxA a))::arF S) w w2:=by
     rw [HH.out.2.2.2.2.2.2.2.2.2.2.1,HH.out.2.2.2.2.2.2.2.2.2.2.2.1] at hT2
     rw [HH.out.2.2.2.2.2.2.2.2.2.2.1]
     refine hT2.to ?_
     unfold arF
     exact (qaf fun _=>by simp only [qad,qaa,qah]<;>omega)
    have hb6:=hT2'.sat.memIs (b:=B6) (o:=intO 0) (by simp)
    have hb7:=hT2'.sat.memIs (b:=B7) (o:=errO .nilIface) (by simp)
    have c62:w2.cell? ⟨B6,0,none⟩=some (.int .i64 0):=qac hb6 0 rfl
    have c72:w2.cell? ⟨B7,0,none⟩=some .nilIface:=qac hb7 0 rfl
    have f62:=qa9 hb6 0
    have f72:=qa9 hb7 0
    have HT2:=Lib.hid hT2'
    clear hT2 hT2' hb6 hb7 c6 c7 f6 f7
    by_cases hqu:X.quota<X.used+D.length
    ·rw [decide_eq_true hqu]
     have HQ:=Lib.hid hqu
     clear hqu
     go_wp2_with fail
     refine HE.out _ 7 _ rfl rfl _ rfl HT2.out (.inr (.inr (.inr ⟨HG.out,HD.out.2.1.symm,by omega,?_,rfl⟩)))
     rw [← HH.out.2.2.2.2.2.2.2.2.2.2.2.1];exact HQ.out
    ·rw [decide_eq_false hqu]
     have HQ:=Lib.hid hqu
     obtain ⟨psl,pcap,e1,e2,e3,e4,e5,e6⟩:=qik (w:=w2) (pm:=S.X.pm) (c:=S.pc) (ps:=S.ps) (HT2.out.sat.tail.tail.tail.tail.right.right.left) HH.out.2.1.paths l
     obtain ⟨vs,hvs⟩:∃ vs,vs=qaq S.ps l:=⟨_,rfl⟩
     rw [← hvs] at e1 e2 e4 e5 e6
     have hOl:OkS l:=by unfold OkS;omega
     have ha0:=HT2.out.sat.memIs (b:=S.a) (o:=archO S.X) (by simp [arF])
     rw [← HH.out.2.2.2.2.2.2.2.2.2.2.1] at ha0
     have a0c:w2.cell? ⟨a,0,none⟩=some (.map (some S.X.pm)):=qac ha0 0 rfl
     have b3c:w2.cell? ⟨B3,0,none⟩=some (.pointer (some ⟨a,0,none⟩)):=qac (HT2.out.sat.memIs (b:=B3) (o:=boxA a) (by simp)) 0 rfl
     have hal2:=qal ha0
     have hb3l:B3<w2.heap.size:=HT2.out.sat.lt (by simp)
     have hpm:=HT2.out.sat.memIs (b:=S.X.pm) (o:=mapO str (S.ps.map entG) S.pc) (by simp [arF,qbc])
     have HV:=Lib.hid (And.intro hvs (And.intro e1 (And.intro e2 (And.intro e3 (And.intro e4 (And.intro e5 (And.intro hOl (And.intro ha0 hpm))))))))
     clear hqu e1 e2 e3 e4 e5 e6 hvs hOl ha0 hpm
     obtain ⟨Bv,hBv⟩:∃ Bv,Bv=w2.heap.size:=⟨_,rfl⟩
     obtain ⟨B9,hB9⟩:∃ B9,B9=w2.heap.size+1:=⟨_,rfl⟩
     have hpm4:=(((Mods.refl (fun _=>False) w2).alloc (.cells #[.int .i64 1,.int .i64 D.length,.slice none 0 0,.int .i64 0] 152)).alloc (.cells #[.pointer (some ⟨w2.heap.size,0,none⟩)] 149)).at HV.out.2.2.2.2.2.2.2.2 id
     have hT4:Turns (arF S) ((Bv,Is (verO ⟨Bv,1,D.length,.slice none 0 0,[],0⟩))::(B9,Is (vboxO Bv))::(B7,Is (errO .nilIface))::(B6,Is (intO 0))::(B3,Is (boxA S.a))::arF S) w ((w2.alloc (.cells #[.int .i64 1,.int .i64 D.length,.slice none 0 0,.int .i64 0] 152)).alloc (.cells #[.pointer (some ⟨w2.heap.size,0,none⟩)] 149)):=by
      have h:=(HT2.out.allocIs (verO ⟨Bv,1,D.length,.slice none 0 0,[],0⟩)).allocIs (vboxO Bv)
      rw [World.size_alloc,← hB9,HH.out.2.2.2.2.2.2.2.2.2.2.1] at h
      have h2:=h.to (List.Perm.swap _ _ _)
      rw [← hBv] at h2 ⊢
      exact h2
     have hP4:=HV.out.2.1
     have HW:=Lib.hid (And.intro hpm4 (And.intro hT4 (And.intro hBv hB9)))
     clear hpm4 hT4 hP4
     by_cases hvn:vs=[]
     ·subst hvn
      have hvs0:qaq S.ps l=[]:=HV.out.1.symm
      have HN0:=Lib.hid hvs0
      clear hvs0 hBv hB9
      go_upto_region 13 with (first | (refine qhp qh4 rfl _ _ rfl Tryz.underlying119 HW.out.1 HH.out.2.1.paths.map (qh2 _) l rfl rfl HV.out.2.2.2.2.2.2.1 ?_;rw [qeu,HV.out.2.1]) | fail)
      have HNUM:Hid (1=qc7 (qaq S.ps l)+1):=Lib.hid (by rw [HN0.out];rfl)
      have hT5:=HW.out.2.1.allocIs (recsO (.slice none 0 0))
      simp only [World.size_alloc] at hT5
      rw [← HW.out.2.2.2,← HW.out.2.2.1] at hT5 ⊢
      rw [HH.out.2.2.2.2.2.2.2.2.2.2.1]
      refine quq S l D sl cap b HH.out.2.1 HH.out.2.2.1 HH.out.2.2.2.1 HD.out.2.1.symm hll (by omega) HH.out.2.2.2.2.2.1 B3 B6 B7 B9 (B9+1) Bv 1 HNUM.out w _ hT5 HH.out.2.2.2.2.1 HH.out.2.2.2.2.2.2.2.1 _ (fun e w' hp=>?_) (by assumption)
      refine .inr ⟨HG.out,HD.out.2.1.symm,by omega,?_,?_⟩
      ·have:=HQ.out;rw [HH.out.2.2.2.2.2.2.2.2.2.2.2.1] at this;omega
      ·have hnum:=HNUM.out
       have hnum2:((1:Nat):Int)=(qc7 (qaq S.ps l):Int)+1:=by omega
       rcases hp with ⟨sp,chs,h1,h2,h3,h4,h5⟩ | ⟨S',V,h1,h2,h3,h4,h5⟩
       ·exact .inl ⟨sp,chs,h1,h2,h3,by rw [← hnum2];exact h4,h5⟩
       ·exact .inr ⟨S',V,by rw [← hnum2];exact h1,h2,h3,h4,h5⟩
     ·obtain ⟨g,off,hg,hcell⟩:=HV.out.2.2.2.2.1 (by rw [List.length_map];exact List.length_pos_iff.2 hvn)
      subst hg
      obtain ⟨U,hU⟩:∃ U,vs.getLast?=some U:=⟨_,List.getLast?_eq_some_getLast hvn⟩
      have hvl:0<vs.length:=List.length_pos_iff.2 hvn
      have hUe:U=vs[vs.length-1]:=by
       rw [List.getLast?_eq_getElem?,List.getElem?_eq_getElem (by omega)] at hU
       exact (Option.some.inj hU).symm
      have hUm:U∈vs:=by rw [hUe];exact List.getElem_mem _
      have hc1:w2.cell? ⟨g,off+(vs.length-1),none⟩=some (ptrV U):=by rw [hcell (vs.length-1) (by rw [List.length_map];omega),List.getElem_map,hUe]
      have hc2:=HV.out.2.2.2.2.2.1 U hUm
      have hvb:vs.length≤90000∧U.num≤4294967296+90000:=by
       obtain ⟨p',hp',_,h2⟩:=qcu (ps:=S.ps) (l:=l) (by rw [← HV.out.1];exact hvn)
       rw [← HV.out.1] at h2
       have h3:=HH.out.2.2.1.vers p' hp'
       have h4:=HH.out.2.2.2.1
       rw [h2] at h3
       have h5:=(h3.2.2 U hUm).1
       omega
      have hs4:=((Mods.refl (fun _=>False) w2).alloc (.cells #[.int .i64 1,.int .i64 D.length,.slice none 0 0,.int .i64 0] 152)).alloc (.cells #[.pointer (some ⟨w2.heap.size,0,none⟩)] 149)
      have hc1':=qes hs4 hc1
      have hc2':=hs4.at hc2 id
      have HNUM:Hid (U.num+1=qc7 (qaq S.ps l)+1):=Lib.hid (by rw [← HV.out.1];unfold qc7;rw [hU];rfl)
      obtain ⟨m,hm⟩:∃ m,m=vs.length:=⟨_,rfl⟩
      rw [← hm] at hc1 hc1' hvl hvb
      have hvl2:(0:Int)<(m:Int):=by omega
      have HU:=Lib.hid (And.intro hc1' (And.intro hc2' (And.intro hvb hm)))
      clear hcell hU hUe hUm hc2 hs4 hc1 hc1' hc2' hvb hBv hB9
      have HV2:=HV.out.2.1
      rw [← hm] at HV2
      have HVV:=Lib.hid HV2
      clear HV2 hm
      go_upto_region 11 with (first | (refine qhp qh4 rfl _ _ rfl Tryz.underlying119 HW.out.1 HH.out.2.1.paths.map (qh2 _) l rfl rfl HV.out.2.2.2.2.2.2.1 ?_;rw [qeu,HVV.out]) | fail)
      rw [← HW.out.2.2.2,← HW.out.2.2.1]
      refine put11 (arF S) ((B7,Is (errO .nilIface))::(B6,Is (intO 0))::(B3,Is (boxA S.a))::arF S) w B9 Bv g off m pcap D.length U ?_ ?_ ?_ ⟨hvl,by have:=HU.out.2.2.1;omega⟩ (by have:=HU.out.2.2.1;omega) ?_
      ·have h:=HW.out.2.1
       rw [← HW.out.2.2.1] at h
       exact h
      ·have h:=HU.out.1
       rw [← HW.out.2.2.1] at h
       exact h
      ·have h:=HU.out.2.1
       rw [← HW.out.2.2.1] at h
       exact h
      intro _ _ _ _ _ _ _ _ _ _ _ _ _ w5 hT5
      have HT5:=Lib.hid hT5
      clear hT5
      go_upto_region 13 with (fail)
      have hT6:=HT5.out.allocIs (recsO (.slice none 0 0))
      rw [HH.out.2.2.2.2.2.2.2.2.2.2.1]
      refine quq S l D sl cap b HH.out.2.1 HH.out.2.2.1 HH.out.2.2.2.1 HD.out.2.1.symm hll (by omega) HH.out.2.2.2.2.2.1 B3 B6 B7 B9 w5.heap.size Bv (U.num+1) HNUM.out w _ hT6 HH.out.2.2.2.2.1 HH.out.2.2.2.2.2.2.2.1 _ (fun e w' hp=>?_) (by assumption)
      refine .inr ⟨HG.out,HD.out.2.1.symm,by omega,?_,?_⟩
      ·have:=HQ.out;rw [HH.out.2.2.2.2.2.2.2.2.2.2.2.1] at this;omega
      ·have hnum:=HNUM.out
       have hnum2:(((U.num+1):Nat):Int)=(qc7 (qaq S.ps l):Int)+1:=by omega
       rcases hp with ⟨sp,chs,h1,h2,h3,h4,h5⟩ | ⟨S',V,h1,h2,h3,h4,h5⟩
       ·exact .inl ⟨sp,chs,h1,h2,h3,by rw [← hnum2];exact h4,h5⟩
       ·exact .inr ⟨S',V,by rw [← hnum2];exact h1,h2,h3,h4,h5⟩
end Go.Proofs.YtdhobpbngkainaaGreatDoor
namespace Go.Proofs.YtdhobpbngkainaaGreatDoor
theorem q39 {h:Int} {n:Nat} (e:endsB h n=true):16≤n:=by
 rcases Nat.lt_or_ge n 16 with h' | h'
 ·rw [q2i h'] at e;cases e
 ·exact h'
theorem quu (l:List UInt8):∀ h n,n<256→∀ i (hi:i<(cutsN h n l).length),1≤(cutsN h n l)[i]∧(cutsN h n l)[i]≤256∧(i+1<(cutsN h n l).length→16≤(cutsN h n l)[i]):=by
 induction l with
 | nil=>intro h n _ i hi;simp [cutsN] at hi
 | cons c cs ih =>
  intro h n hn i
  cases he:endsB (hashI h c.toNat) (n+1)
  ·by_cases hc:cs=[]
   ·subst hc
    rw [qk1]
    intro hi
    have hi0:i=0:=by simp at hi;omega
    subst hi0
    refine ⟨?_,?_,?_⟩
    ·simp
    ·simp;omega
    ·simp
   ·rw [qoy _ _ _ _ he hc]
    have hn1:n+1<256:=by
     rcases Nat.lt_or_ge (n+1) 256 with h' | h'
     ·exact h'
     ·rw [qlm h'] at he;cases he
    exact ih _ _ hn1 i
  ·rw [qne _ _ _ _ he]
   intro hi
   cases i with
   | zero=>exact ⟨by simp,by simp;omega,fun _=>by have:=q39 he;simpa using this⟩
   | succ i =>
    have hi':i<(cutsN 0 0 cs).length:=by simpa using hi
    have:=ih 0 0 (by omega) i hi'
    simpa using this
theorem qly (l:List UInt8) (i:Nat) (hi:i<(qas l).length):1≤(qas l)[i]∧(qas l)[i]≤256∧(i+1<(qas l).length→16≤(qas l)[i]) :=
 quu l 0 0 (by omega) i hi
end Go.Proofs.YtdhobpbngkainaaGreatDoor
namespace Go.Proofs.YtdhobpbngkainaaGreatDoor
open Go.RowKit
theorem q0l (d:Nat) (L:DevL) (q:Int) (w:World) (h:Sat w (devF d L)) (hL:DevOk L) (hn:16≤L.n) (hn2:L.n≤1073741824) (hch:L.chs.length≤137438953472) (hz:∀ k,k<2→secOf L.now k=zeros 128) :
  Calls Tryz.prog 22 #[.pointer (some ⟨d,0,none⟩),.int .i64 q] w (qmi d L q w):=by
 have HS:=Lib.hid (qh9 d L w h)
 have hzt:qcj L.now 2=true:=by unfold qcj;exact decide_eq_true hz
 have hu:=q2h d L w h hL hn (fun k hk=>by rw [hz k hk];exact qn5)
 rw [hzt] at hu
 have HU:=Lib.hid hu
 have HF:Hid (∀ W,Sat W (devF d L)→Calls Tryz.prog 51 #[.pointer (some ⟨d,0,none⟩),.int .i64 q] W (qmi d L q W)):=Lib.hid (fun W hW=>qxa d L q W hW hL hn hn2 hch)
 have HH:=Lib.hid h
 clear h hL hn2 hch hz hzt hu
 have hn':¬ (L.n:Int)<16:=by omega
 go_enter Tryz.func22,Tryz.ntmps22
 go_wp2_with fail
 refine HS.out.mono ?_
 rintro e w' ⟨rfl,rfl⟩
 go_wp2_with fail
 refine HU.out.mono ?_
 rintro e w1 ⟨rfl,hs1⟩
 have H1:=Lib.hid hs1
 clear hs1
 go_wp2_with fail
 refine (HF.out _ (HH.out.same H1.out)).mono ?_
 rintro e w2 ⟨a,ab,pm,tm,cm,ch,L',rfl,hT,hr⟩
 have H2:=Lib.hid (And.intro hT hr)
 clear hT hr
 go_wp2_with fail
 go_ret2
 exact ⟨a,ab,pm,tm,cm,ch,L',rfl,Turns.sameThen HH.out H1.out H2.out.1,H2.out.2⟩
end Go.Proofs.YtdhobpbngkainaaGreatDoor
