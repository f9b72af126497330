/- Ours. A part of the proof, made small by a program. -/
import Derived.Test.YtdhobpbngkainaaGreatDoorFl02
set_option maxRecDepth 100000
set_option maxHeartbeats 16000000
namespace Go.Proofs.YtdhobpbngkainaaGreatDoor
open List
section
open Go.RowKit Go.Maps
structure VerL where
 blk:Nat
 num:Nat
 size:Nat
 cv:Value
 chs:List (Nat×Nat)
 held:Int
def fC(V:VerL):Array Value:=#[.int .i64 V.num,.int .i64 V.size,V.cv,.int .i64 V.held]
def dq(V:VerL):Obj:=.cells (fC V) 152 (0,0)
def qV(p:Nat×Nat):List Value:=[.int .i64 p.1,.int .i64 p.2]
def cS(l:List (Nat×Nat)):List Value:=l.flatMap qV
def aU(v:Value)(l:List (Nat×Nat)):HF:=bN 161 2 v l.length (cS l)
def cd(v:Value)(l:List (Nat×Nat)):Prop:=eE 2 v l.length (cS l)
def bT(V:VerL):HF:=(V.blk,Is (dq V))::aU V.cv V.chs
def ee(V:VerL):Value:=.pointer (some ⟨V.blk,0,none⟩)
abbrev aW:=GE (List VerL)
def ek(v:Value)(l:List VerL):HF:=bN 149 1 v l.length (l.map ee)
def eP(v:Value)(l:List VerL):Prop:=eE 1 v l.length (l.map ee)
def er(v:Value)(g:List VerL):HF:=ek v g++g.flatMap bT
def Lv(p:aW):Prop:=eP p.val p.g/\∀V∈p.g,cd V.cv V.chs
def aF(pm:Nat)(ps:List aW)(c:Nat):HF:=(pm,Is (aQ str (ps.map aO) c))::gm er ps
def OkS(l:Bs):Prop:=l.length<=1000000
structure PathsOk (ps:List aW) (c:Nat):Prop where
 map:MapOk OkS (ps.map aO) c
 rows:∀p∈ps,Lv p
theorem EL:∀a b:Bs,str a=str b->a=b:=fun a b h=>by
 simp only[str,Value.string.injEq,ByteArray.mk.injEq]at h
 simpa using congrArg Array.toList h
theorem eb:EncOk Tryz.prog 9 str OkS where
 keyed:=string_keyed Tryz.underlying9
 inj:=EL
 key:=fun a h=>⟨_,Go.WideMaps.keyOf_string_mk Tryz.underlying9 (by
  simp only[ByteArray.size]
  unfold OkS at h
  unfold maxLen
  simp
  omega)⟩
def af(ps:List aW)(l:Bs):List VerL:=gOf [] ps l
theorem Sat.flat{α:Type}{w:World}{f:α->HF}:∀{l:List α},Sat w (l.flatMap f)->∀{x:α},x∈l->Sat w (f x)
 | [],_,_,hx=>by simp at hx
 | a::r,h,x,hx=>by
  rw[flatMap_cons]at h
  rcases mem_cons.1 hx with rfl|hx
  ·exact h.left
  ·exact Sat.flat h.right hx
theorem gV{w:World}{pm c:Nat}{ps:List aW}(h:Sat w (aF pm ps c))(hok:PathsOk ps c)(l:Bs):
  ∃sl cap,eH (.slice none 0 0) ps l=.slice sl (af ps l).length cap/\(af ps l).length<=cap/\cap<=9223372036854775807/\al w sl ((af ps l).map ee)/\(∀V∈af ps l,w.heap[V.blk]?=some (dq V))/\(dom ((af ps l).flatMap bT)).Nodup:=by
 unfold af eH gOf
 cases hf:ps.find? (fun p=>decide (p.key=l))with
 | none=>exact⟨none,0,rfl,Nat.le_refl _,by omega,fun h=>by simp at h,fun V hV=>by simp at hV,nodup_nil⟩
 | some p =>
  have hm:=mem_of_find?_eq_some hf;have hp:Sat w (er p.val p.g):=Sat.flat (f:=fun p:aW=>er p.val p.g) h.tail hm;have hok2:=hok.rows p hm;obtain⟨sl,cap,e1,e2,e3,e5,e4,_⟩:=o9 (aR hp.left hok2.1);refine⟨sl,cap,by simpa using e1,e3,e5,e4,fun V hV=>?_,?_⟩
  ·have:Sat w (bT V):=Sat.flat hp.right hV;exact this.Q5
  ·exact hp.right.nodup
def it:List VerL->Int->Option VerL
 | [],_=>none
 | v::r,n=>if(v.num:Int)=n\/(n=0/\r=[])then some v else it r n
def yY(X:ArchL)(ps:List aW)(l:Bs)(n:Int)(w:World)(e:Ending)(w':World):Prop :=
 e=.returned (if X.closed then .tuple #[.pointer none,cO 9]else if aw l then(match it (af ps l) n with|some V=>.tuple #[ee V,.nilIface]|none=>.tuple #[.pointer none,cO 3])else .tuple #[.pointer none,cO 1])/\aX w w'
theorem JN:∀{vs:List VerL},(dom (vs.flatMap bT)).Nodup->∀{i j:Nat} (hi:i<vs.length) (hj:j<vs.length),vs[i].blk=vs[j].blk↔i=j:=by
 have key:∀{vs:List VerL},(dom (vs.flatMap bT)).Nodup->∀{i j:Nat} (hj:j<vs.length) (hij:i<j),vs[i].blk≠vs[j].blk:=by
  intro vs;induction vs with
  | nil=>intro _ i j hj;simp at hj
  | cons v r ih =>
   intro h i j hj hij e;rw[flatMap_cons,cJ,nodup_append]at h
   cases j with
   | zero=>omega
   | succ j =>
    cases i with
    | zero =>
     simp only[getElem_cons_zero,getElem_cons_succ]at e;have h1:v.blk∈dom (bT v):=by simp[bT]
     have hjr:j<r.length:=by simpa using hj
     have h2:v.blk∈dom (r.flatMap bT):=by
      rw[e];refine mem_map.2 ⟨(r[j].blk,Is (dq r[j])),mem_flatMap.2 ⟨r[j],getElem_mem hjr,by simp[bT]⟩,rfl⟩
     exact h.2.2 _ h1 _ h2 rfl
    | succ i =>
     simp only[getElem_cons_succ]at e;exact ih h.2.1 (by simpa using hj) (by omega) e
 intro vs h i j hi hj;refine⟨fun e=>?_,fun e=>by subst e;rfl⟩;rcases Nat.lt_trichotomy i j with hl|hl|hl
 ·exact absurd e (key h hj hl)
 ·exact hl
 ·exact absurd e.symm (key h hi hl)
theorem JY{w:World}{U V:VerL}(hu:w.heap[U.blk]?=some (dq U))(hv:w.heap[V.blk]?=some (dq V)):
  (binOp .eql 149 (.pointer (some ⟨U.blk,0,none⟩)) (.pointer (some ⟨V.blk,0,none⟩))).run Tryz.prog w=.ok (.bool (decide (U.blk=V.blk))) w:=by
 have hs:(Tryz.prog.info? 152).map (·.size)=some 4:=by kernel_rfl
 obtain⟨j,hj,hsz⟩:=Option.map_eq_some_iff.1 hs;by_cases h:U.blk=V.blk
 ·rw[<- h,decide_eq_true rfl];exact run_eql_ptr_same w _ Tryz.underlying149 hj
 ·rw[decide_eq_false h];exact run_eql_ptr_other w Tryz.underlying149 hj (by rw[hsz];decide) (fun e=>h (congrArg Addr.block e)) hu hv
theorem ez{κ:Type}[DecidableEq κ]{P:Program}{k t ev:TypeId}{enc:κ->Value}{Ok:κ->Prop}(E:EncOk P k enc Ok){w:World}{ops:Array Oper}{rest:List Oper}{o:Oper}{a:Act}{Q:Exit->Act->World->Prop}(hg:o.guard=none)(m x:Operand)(hop:o.op=.lookup t m x false)(ht:P.underlying t=some (.map k ev)){b:Nat}{l:List (Ent κ)}{c:Nat}(hb:w.heap[b]?=some (aQ enc l c))(hm:MapOk Ok l c){z:Value}(hz:(zeroValue ev).run P w=.ok z w)(key:κ)(hmv:a.eval m=.map (some b))(hx:a.eval x=enc key)(hk:Ok key)(hK:wpList P ops Q rest (a.put o.dst ((dB l key).getD z)) w):wpList P ops Q (o::rest) a w:=by
 refine ai hg (m9 (v:=(dB l key).getD z) (w':=w) ?_ hK);simp[execOp,hop,hmv,hx,uH E ht hb hm hz hk,Result.andThen]
theorem gz(w:World):(zeroValue 153).run Tryz.prog w=.ok (.slice none 0 0) w:=by kernel_rfl
def xC(vs:List VerL)(n:Int)(w:World)(i:Value)(wr:World):Prop:=∃k:Nat,k<=vs.length/\i=.int .i64 k/\aX w wr/\it vs n=it (vs.drop k) n
theorem lJ(a:Nat)(X:ArchL)(ps:List aW)(c:Nat)(l:Bs)(n:Int)(w:World)(h:w.heap[a]?=some (aH X))(hp:Sat w (aF X.pm ps c))(hok:PathsOk ps c):
  Calls Tryz.prog 85 #[.pointer (some ⟨a,0,none⟩),str l,.int .i64 n] w (yY X ps l n w):=by
 have hal:=ac h
 have HB:=qqH (fun W (hW:aX w W) (hc:W.cell? ⟨w.heap.size,0,none⟩=some (str l))=>ko a X (some ⟨w.heap.size,0,none⟩) 1 [l] W (hW.at h id) (fun _=>⟨_,_,rfl,fun j hj=>by
  obtain rfl:j=0:=by simp at hj;omega
  exact hc⟩) (by simp))
 have HC:=Hq3 h hp hok;clear h hp hok;go_enter Tryz.func85,Tryz.ntmps85;go_wp2_with fail;refine(HB.out _ ((Mods.refl _ w).alloc _) (aa (aK w _) 0 rfl)).mono ?_;rintro e w1 ⟨rfl,hs1⟩;have hs2:aX w w1:=((Mods.refl _ w).alloc _).trans hs1;obtain⟨cl,hcl⟩:∃cl,cl=X.closed:=⟨_,rfl⟩;obtain⟨pb,hpb⟩:∃pb,pb=aw l:=⟨_,rfl⟩;have e1:([l].all aw)=pb:=by simp[hpb]
 rw[e1,<- hcl];have HD:=Hq3 hcl hpb hs2;clear hcl hpb hs2 hs1 e1
 cases cl with
 | true =>
  simp only[if_true];go_wp2_with fail;go_ret2;refine ⟨?_,HD.y⟩;rw[<- HD.a];rfl
 | false =>
  cases pb with
  | false =>
   simp only[Bool.false_eq_true,if_false];go_wp2_with fail;go_ret2;refine ⟨?_,HD.y⟩;rw[<- HD.a,<- HD.b];rfl
  | true =>
   obtain⟨sl,cap,hl1,hl2,hl6,hl3,hl4,hl5⟩:=gV (HC.b.same HD.y) HC.y l;have b0:w1.cell? ⟨a,0,none⟩=some (.map (some X.pm)):=aa (HD.y.at HC.a id) 0 rfl;have hal1:a<w1.heap.size:=Nat.lt_of_lt_of_le hal HD.y.size;obtain⟨vs,hvs⟩:∃vs,vs=af ps l:=⟨_,rfl⟩;rw[<- hvs]at hl1 hl2 hl3 hl4 hl5;have HG:=Hq5 hl1 hl3 hl4 hl5 hvs;clear hl1 hl3 hl4 hl5 hvs;have hmo:=(HC.b.same HD.y).Q5;have HM:=qqH hmo;clear hmo
   have hlen:OkS l:=by
    have:=HD.b;unfold aw at this;have h2:=this.symm;simp only[Bool.and_eq_true,decide_eq_true_eq]at h2;unfold OkS;have:=h2.1.2;omega
   have HL:=qqH hlen;clear hlen;simp only[Bool.false_eq_true,if_false,if_true];go_wp2_with (at_lookup;refine ez eb rfl _ _ rfl Tryz.underlying119 HM.out HC.y.map (gz _) l rfl rfl HL.out ?_;rw[cY,HG.a]);go_loopw [28] (fun v wr=>xC vs n w1 v wr) (fun v _=>vs.length-(intOf v).toNat)
   case atStart=>exact⟨0,Nat.zero_le _,rfl,Mods.refl _ _,rfl⟩
   case round =>
    obtain⟨k,hk,rfl,hs,hfi⟩:=hrel;have HR:=Hq2 hs hfi;clear hs hfi;by_cases hlt:k<vs.length
    ·obtain⟨g,off,hg,hcell⟩:=HG.b.keep HR.a (fun _ _ _=>id) (by simpa using(by omega:0<vs.length));subst hg;obtain⟨V,hV⟩:∃V,V=vs[k]:=⟨_,rfl⟩;obtain⟨z,hz⟩:∃z,vs.length=z+1:=⟨vs.length-1,by omega⟩;obtain⟨Z,hZ⟩:∃Z,Z=vs[z]:=⟨_,rfl⟩;have hw:wrap64 ((vs.length:Int)-1)=(z:Int):=by rw[IntWalk.wrap64_in _ (by omega)];omega
     have hzl:(z:Int)<(vs.length:Int):=by omega
     have hz1:z<vs.length:=by omega
     have hz2:¬vs.length<=z:=by omega
     have hck:wr.cell? ⟨g,off+k,none⟩=some (ee V):=by rw[hcell k (by simpa using hlt)];simp[hV]
     have hcz:wr.cell? ⟨g,off+(vs.length-1),none⟩=some (ee Z):=by rw[show vs.length-1=z by omega,hcell z (by simp;omega)];simp[hZ]
     have hvo:=HR.a.at (HG.c V (hV ▸ getElem_mem hlt)) id;have v0:wr.cell? ⟨V.blk,0,none⟩=some (.int .i64 V.num):=aa hvo 0 rfl;have hdr:vs.drop k=V::vs.drop (k+1):=by rw[hV];exact drop_eq_getElem_cons hlt
     have hzk:V.blk=Z.blk↔k=z:=by
      rw[hV,hZ];exact JN HG.d hlt hz1
     have hpe:=JY hvo (HR.a.at (HG.c Z (hZ ▸ getElem_mem hz1)) id);have HV:=Hq3 hdr hzk hz;clear hcell hvo hdr hzk hV hZ hz;unfold ee at hck hcz;by_cases c1:(V.num:Int)=n
     ·go_wp2_with fail;go_ret2;refine ⟨?_,HD.y.trans HR.a⟩;rw[<- HD.a,<- HD.b,<- HG.w,HR.z,HV.a];simp only[it,c1,true_or,if_true];rfl
     ·by_cases c2:n=0
      ·subst c2;by_cases c3:V.blk=Z.blk
       ·rw[decide_eq_true c3]at hpe;have C3:=qqH c3;clear c3;go_wp2_with fail;go_ret2;refine ⟨?_,HD.y.trans HR.a⟩;have hlast:vs.drop (k+1)=[]:=drop_of_length_le (by have:=HV.b.1 C3.out;have:=HV.y;omega);rw[<- HD.a,<- HD.b,<- HG.w,HR.z,HV.a,hlast];simp only[it,and_self,or_true,if_true];rfl
       ·rw[decide_eq_false c3]at hpe
        have hrel:xC vs 0 w1 (.int .i64 ((k:Int)+1)) wr:=by
         refine⟨k+1,by omega,by go_num,HR.a,?_⟩;rw[HR.z,HV.a];have:¬vs.drop (k+1)=[]:=fun h=>c3 (HV.b.2 (by have:=congrArg length h;rw[length_drop]at this;have h3:=HV.y;simp only[length_nil]at this;omega))
         simp only[it,c1,this,and_false,or_false,if_false]
        have HREL:=qqH hrel;clear hrel;go_wp2_with fail;go_roundw
        case rel=>exact HREL.out
        case measure=>simp[intOf];omega
      ·have hrel:xC vs n w1 (.int .i64 ((k:Int)+1)) wr:=by
        refine⟨k+1,by omega,by go_num,HR.a,?_⟩;rw[HR.z,HV.a];simp[it,c1,c2]
       have HREL:=qqH hrel;clear hrel;go_wp2_with fail;go_roundw
       case rel=>exact HREL.out
       case measure=>simp[intOf];omega
    ·obtain rfl:k=vs.length:=by omega
     go_wp2_with fail;go_ret2;refine ⟨?_,HD.y.trans HR.a⟩;rw[<- HD.a,<- HD.b,<- HG.w,HR.z];simp[it]
end
section
open Go.RowKit
theorem Br(l:Bs):(⟨l.toArray⟩:ByteArray).size=l.length:=by simp[ByteArray.size]
theorem Gu(l:Bs)(size:Nat):(Builtin.firstCells size l.length (str l))=pure (l.map am).toArray:=by
 simp only[Builtin.firstCells];congr 1
 have:(⟨l.toArray⟩:ByteArray).extract 0 l.length=⟨l.toArray⟩:=by
  apply ByteArray.ext;simp
 rw[this];simp[am]
section
variable {P:Program} (w:World)
theorem uF(t u ty e:TypeId)(i:TypeInfo)(z:Value)(bytes:Nat)(ht:P.underlying t=some (.slice e))(hu:P.underlying u=some .string)(hi:P.info? e=some i)(hz:i.zero=some z)(hsize:i.size=1)(hby:i.bytes=bytes)(hzs:z.cells.size=1)(v:Value)(n:Nat)(xs:List Value)(hown:w.ownsRow 0 e 1 v n xs)(r:Bs)(h63:n+r.length<=maxLen)(hbytes:(n+r.length)*bytes<=140737488355328):
  ∃v' w',(Builtin.append_ #[t,u] ty #[v,str r]).run P w=.ok v' w'/\w'.ownsRow 0 e 1 v' (n+r.length) (xs++r.map am)/\w.grownBy w' v.ownBlock/\(∀g,v'.ownBlock=some g->v.ownBlock=some g\/w.heap.size<=g)/\(v'=.slice none 0 0↔v=.slice none 0 0/\r.length=0):=by
 have hl:(r.map am).length=r.length*i.size:=by simp[hsize]
 subst hby
 have hsmall:n+r.length<=9223372036854775807:=by simp only[maxLen]at h63;omega
 have hlen:(xs++r.map am).length=(n+r.length)*1:=by rw[length_append,hown.1];simp
 have hsz:=Br r;have hfc:=Gu r i.size
 have grown:∀(old:Nat),old<n+r.length->∀(row:Option Nat),
   (w.drew.alloc (.cells (xs.toArray++(r.map am).toArray++Builtin.zeroCells z.cells (grownCap w (n+r.length) old e-(n+r.length))) e)).ownsRow 0 e 1
    (.slice (some ⟨w.heap.size,0,none⟩) (n+r.length) (grownCap w (n+r.length) old e)) (n+r.length) (xs++r.map am) /\
   w.grownBy (w.drew.alloc (.cells (xs.toArray++(r.map am).toArray++Builtin.zeroCells z.cells (grownCap w (n+r.length) old e-(n+r.length))) e)) row:=by
  intro old ho row;have hge:=grownCap_ge w (n+r.length) old e;have hcm:grownCap w (n+r.length) old e<=maxLen:=grownCap_le_maxLen w (n+r.length) old e h63;refine⟨⟨hlen,.inr ⟨w.heap.size,_,_,rfl,Nat.zero_le _,World.alloc_heap_new w.drew _,hge,hcm,?_,?_⟩⟩,⟨rfl,rfl,rfl,by simp,fun k hk _=>dN (w:=w.drew) hk⟩⟩
  ·simp only[Array.size_append,size_toArray,size_zeroCells,hzs,hown.1,length_map];omega
  ·simp only[Array.toList_append,append_assoc];rw[<- append_assoc,<- hlen];exact take_left
 rcases hown.2 with⟨rfl,rfl⟩|⟨g,cap,cur,rfl,hbg,hg,hnc,hcm,hcs,htake⟩
 ·have hx:xs=[]:=eq_nil_of_length_eq_zero (by simpa using hown.1);subst hx;by_cases hm:r.length=0
  ·obtain rfl:r=[]:=eq_nil_of_length_eq_zero hm;refine⟨.slice none 0 0,w,?_,World.ownsRow_nil w 0 e 1,⟨rfl,rfl,rfl,Nat.le_refl _,fun _ _ _=>rfl⟩,fun g h=>.inl h,by simp⟩;simp[Builtin.append_,run_underlying ht,run_underlying hu,sizeOf,typeInfo,hi,Builtin.lenOf,str,Builtin.firstCells];try rfl
  ·have hn:r.length≠0:=hm;have h63':¬(9223372036854775807<(r.length:Int)):=by omega
   have h48':¬(281474976710656<Builtin.nextslicecap r.length 0*i.bytes):=by rw[nextslicecap_zero (by omega)];simp only[Nat.zero_add]at hbytes;omega
   have hr:(Builtin.append_ #[t,u] ty #[.slice none 0 0,str r]).run P w=.ok (.slice (some ⟨w.heap.size,0,none⟩) r.length (grownCap w r.length 0 e)) (w.drew.alloc (.cells ((r.map am).toArray++Builtin.zeroCells z.cells (grownCap w r.length 0 e-r.length)) e)):=by
    unfold str at hfc ⊢;simp[Builtin.append_,run_underlying ht,run_underlying hu,sizeOf,typeInfo,zeroValue,hi,hz,Builtin.lenOf,hsz,hn,h63',h48',Question.forced,run_firstCells_none,hfc,newRow,grownCap]
   have hgr:=grown 0 (by omega) (Value.ownBlock (.slice none 0 0));simp only[Nat.zero_add,nil_append,Array.empty_append]at hgr ⊢;exact⟨_,_,hr,hgr.1,hgr.2,fun g hg=>by simp[Value.ownBlock]at hg;exact .inr (by omega),by simp[hm]⟩
 ·by_cases hroom:n+r.length<=cap
  ·have hfit:n*i.size+(r.map am).length<=cur.size:=by rw[hl,hcs,hsize];omega
   have hst:=run_storeCells_at P g (n*i.size) e (r.map am) 0 cur w hg (by simpa using hfit) (dA r);simp only[Nat.add_zero]at hst
   have hr:(Builtin.append_ #[t,u] ty #[.slice (some ⟨g,0,none⟩) n cap,str r]).run P w=.ok (.slice (some ⟨g,0,none⟩) (n+r.length) cap) (w.setRow g (cur.toList.take (n*i.size)++r.map am++cur.toList.drop (n*i.size+(r.map am).length)).toArray):=by
    unfold str at hfc ⊢;simp[Builtin.append_,run_underlying ht,run_underlying hu,sizeOf,typeInfo,hi,Builtin.lenOf,hsz,hroom,hfc,Addr.add_lit];simp only[append_assoc,length_map]at hst;rw[hst];rfl
   rw[hsize]at hr;refine⟨_,_,hr,⟨hlen,.inr ⟨g,cap,_,rfl,hbg,setRow_heap w g cur _ e _ hg,hroom,hcm,?_,?_⟩⟩,⟨rfl,rfl,rfl,by simp,fun k _ hk=>setRow_other w g k _ (fun e=>hk (by simp[Value.ownBlock,e]))⟩,fun g' hg'=>.inl hg',by simp⟩
   ·simp only[size_toArray,length_append,length_take,length_drop,Array.length_toList,length_map];omega
   ·rw[htake,<- hlen];exact take_left
  ·have holds:∀j u,xs[j]?=some u->w.cell? ((⟨g,0,none⟩:Addr).add j)=some u:=hown.cells (g:=g) rfl;have hn:¬(n+r.length<=cap):=hroom;have h63':¬(9223372036854775807<((n:Int)+(r.length:Int))):=by omega
   have h48':¬(281474976710656<Builtin.nextslicecap (n+r.length) cap*i.bytes):=by have:=growslice_fits (need:=n+r.length) (old:=cap) (by omega) hbytes;omega
   have hfo:=run_firstCells_some (P:=P) w.drew i.size n ⟨g,0,none⟩ n cap xs (by rw[hown.1,hsize]) (by simpa using holds)
   have hr:(Builtin.append_ #[t,u] ty #[.slice (some ⟨g,0,none⟩) n cap,str r]).run P w=.ok (.slice (some ⟨w.heap.size,0,none⟩) (n+r.length) (grownCap w (n+r.length) cap e)) (w.drew.alloc (.cells (xs.toArray++(r.map am).toArray++Builtin.zeroCells z.cells (grownCap w (n+r.length) cap e-(n+r.length))) e)):=by
    unfold str at hfc ⊢;simp[Builtin.append_,run_underlying ht,run_underlying hu,sizeOf,typeInfo,zeroValue,hi,hz,Builtin.lenOf,hsz,hn,h63',h48',Question.forced,hfc,hfo,newRow,grownCap];try (congr 2;apply Array.ext';simp[append_assoc])
   have hgr:=grown cap (by omega) (Value.ownBlock (.slice (some ⟨g,0,none⟩) n cap));exact⟨_,_,hr,hgr.1,hgr.2,fun g hg=>by simp[Value.ownBlock]at hg;exact .inr (by omega),by simp⟩
end
theorem DR{o:Oper}{a:Act}{w a0:World}{K:Act->World->Prop}{Q:Exit->Act->World->Prop}{F G:HF}(s x:Operand)(hop:o.op=.call { callee:=.builtin .append,args:=#[s,x],argTypes:=#[38,9] })(v:Value)(l:Bs)(hs:a.eval s=v)(hT:Turns F (aI v l++G) a0 w)(hok:bOk v l)(r:Bs)(hx:a.eval x=str r)(hb:l.length+r.length<=137438953472)(hk:∀av cv w',bOk (.slice av (l++r).length cv) (l++r)->Turns F (aI (.slice av (l++r).length cv) (l++r)++G) a0 w'->K (a.put o.dst (.slice av (l++r).length cv)) w'):o.wp Tryz.prog a w K Q:=by
 obtain⟨i0,hi0,hz1,hz2,hz3⟩:=info_parts j5;obtain⟨v',w',hr,r1,r2,r3,r4⟩:=uF (P:=Tryz.prog) w 38 9 o.type 5 i0 (.int .u8 0) 1 Tryz.underlying38 Tryz.underlying9 hi0 hz1 hz2 hz3 rfl v l.length (l.map am) (dr hT.sat.left hok) r (by unfold maxLen;omega) (by omega);have hh:=jz hT rfl r1 r2 r3;unfold Oper.wp execOp;simp only[hop,resolve,invoke,builtin,Sem.run_bind,Sem.run_pure,Result.andThen_ok,map_toArray,map_cons,map_nil,hs,hx,hr];obtain⟨av,cv,rfl,-,-,-,-⟩:=aP (dr hh.2.sat.left hh.1);exact hk av cv w' hh.1 hh.2
def ei(s:Bs):Bs:=UInt8.ofNat s.length::s
theorem me(v:Value)(l s:Bs)(w:World)(h:Sat w (aI v l))(hok:bOk v l)(hl:l.length<=1000000)(hs:s.length<=255):
  Calls Tryz.prog 218 #[v,str s] w (jv v l (l++ei s) w):=by
 have hsz:=Br s;have HC:=Hq4 h hok hl hs;have e1:(s.length:Int)%256=s.length:=by omega
 clear h hok;go_enter Tryz.func218,Tryz.ntmps218;have hT0:Turns (aI v l) (aI v l++[]) w (w.alloc (.cells #[.int .u8 s.length] 5)):=by rw[append_nil];exact(Turns.refl HC.a).alloc _
 have hc0:al (w.alloc (.cells #[.int .u8 s.length] 5)) (some ⟨w.heap.size,0,none⟩) (([UInt8.ofNat s.length]:Bs).map am):=fun _=>⟨_,_,rfl,fun j hj=>by
  obtain rfl:j=0:=by simp at hj;omega
  rw[aa (aK w _) 0 rfl];simp[am];omega⟩
 have HT:=Hq2 hT0 hc0;clear hT0 hc0
 go_wp2_with ((at_builtin;first
  | (refine ai rfl ?_;refine go (.tmp 5) (.tmp 9) rfl v l rfl HT.a HC.b _ 1 1 rfl [UInt8.ofNat s.length] rfl HT.z (by simp;omega) ?_;intro av cv w2 hok2 hT2 _;simp only[length_append,length_singleton]at hok2 hT2;have H2:=Hq2 hok2 hT2;clear hok2 hT2)
  | (refine ai rfl ?_;refine DR (.tmp 10) (.tmp 11) rfl _ (l++[UInt8.ofNat s.length]) rfl H2.z H2.a s rfl (by simp;omega) ?_;intro av2 cv2 w3 hok3 hT3;simp only[length_append,length_singleton]at hok3 hT3;have H3:=Hq2 hok3 hT3;clear hok3 hT3)))
 have e2:l++[UInt8.ofNat s.length]++s=l++ei s:=by simp[ei]
 have H4:=H3.out;rw[e2,append_nil,Nat.add_assoc,Nat.add_comm 1]at H4;go_ret;exact⟨_,rfl,H4.1,H4.2⟩
end
section
open Go.RowKit
def vQ(bx:Nat)(O:Obj)(l:Bs)(w:World)(v:Value)(W:World):Prop:=bOk v l/\Turns [] (aI v l++[(bx,Is O)]) w W
theorem jQ{bx:Nat}{O:Obj}{l l':Bs}{w W W':World}{v:Value}{e:Ending}(h:vQ bx O l w v W)(k:jv v l l' W e W'):∃v',e=.returned v'/\vQ bx O l' w v' W':=by
 obtain⟨v',he,hok,hT⟩:=k;exact⟨v',he,hok,h.2.step (Perm.refl _) hT⟩
theorem q7{bx:Nat}{O:Obj}{l':Bs}{w W W':World}{e:Ending}(h:Turns [] [(bx,Is O)] w W)(k:jv (.slice none 0 0) [] l' W e W'):∃v',e=.returned v'/\vQ bx O l' w v' W':=by
 obtain⟨v',he,hok,hT⟩:=k;exact⟨v',he,hok,h.step (Perm.refl _) hT⟩
theorem jR{bx:Nat}{O:Obj}{l:Bs}{w W:World}{v:Value}(h:vQ bx O l w v W):W.heap[bx]?=some O:=h.2.sat.Q7 (by simp)
theorem jS{bx:Nat}{O:Obj}{l:Bs}{w W:World}{v:Value}(h:vQ bx O l w v W):Sat W (aI v l):=h.2.sat.left
def dL(l:List Int):Bs:=l.flatMap (beI · 4)
theorem ul(l:List Int)(n:Int):dL (l++[n])=dL l++beI n 4:=by simp[dL]
theorem cH(l:List Int):(dL l).length=4*l.length:=by
 induction l with
 | nil=>rfl
 | cons a r ih=>simp only[dL,flatMap_cons,length_append,bV,length_cons]at ih ⊢;omega
theorem bI(p:Bs):(ei p).length=p.length+1:=by simp[ei]
def eC(p:Bs)(num size:Int)(ats:List Int):Bs:=ei p++beI num 4++beI size 2++dL ats
def dZ(p:Bs)(nums:List Int):Bs:=ei p++dL nums
def dR(p name:Bs)(num:Int):Bs:=ei p++ei name++beI num 4
def I64(n:Int):Prop:=-9223372036854775808<=n/\n<=9223372036854775807
def D5(bx:Nat)(O:Obj)(b:Bs)(ats:List Int)(w:World)(v i:Value)(wr:World):Prop:=∃k:Nat,k<=ats.length/\i=.int .i64 k/\vQ bx O (b++dL (ats.take k)) w v wr
theorem vI(k:UInt8)(p:Bs)(num size:Int)(sl:Option Addr)(cap:Nat)(ats:List Int)(w:World)(hc:al w sl (ats.map dQ))(hp:p.length<=255)(hnum:I64 num)(hsize:I64 size)(hat:∀n∈ats,I64 n)(hl:ats.length<=100000):
  Calls Tryz.prog 217 #[.agg #[.int .u8 k.toNat,str p,.int .i64 num,.int .i64 size,.slice sl ats.length cap]] w (eJ (eC p num size ats) w):=by
 obtain⟨bx,hbx⟩:∃bx,bx=w.heap.size:=⟨_,rfl⟩;obtain⟨O,hO⟩:∃O:Obj,O=.cells #[.int .u8 k.toNat,str p,.int .i64 num,.int .i64 size,.slice sl ats.length cap] 173 (0,0):=⟨_,rfl⟩;have hT0:Turns [] [(bx,Is O)] w (w.alloc (.cells #[.int .u8 k.toNat,str p,.int .i64 num,.int .i64 size,.slice sl ats.length cap] 173)):=by rw[<- hO,hbx];exact(Turns.refl (Sat.nil w)).Q8 O
 have HP:=Hq5 hp hnum hsize hat hc;have HT:=Hq2 hT0 hO;clear hp hnum hsize hat hc hT0;go_enter Tryz.func217,Tryz.ntmps217;go_wp2_with fail;rw[<- hbx];clear hbx;refine cL [([0,1,2,4,5,7,8],3,[4,5,7,8]),([],6,[7,8]),([],9,[])] [10] HM.out (by kernel_rfl) fun W tW=>?_
 simp only[Mix,map_cons,map_nil,nth,QG,QF];have hT:=tW HT.a;clear tW;have B:∀{W:World},W.heap[bx]?=some O->W.cell? ⟨bx,1,none⟩=some (str p)/\W.cell? ⟨bx,2,none⟩=some (.int .i64 num)/\W.cell? ⟨bx,3,none⟩=some (.int .i64 size):=fun h=>by rw[HT.z]at h;exact⟨aa h 1 rfl,aa h 2 rfl,aa h 3 rfl⟩
 obtain⟨b1,b2,b3⟩:=B hT.sat.Q5;repeat still_step
 refine wpStill_nil (bw (by kernel_rfl) (me (.slice none 0 0) [] p W (Sat.nil _) jy (by simp) HP.a) ?_);rintro e W1 hp;obtain⟨v1,rfl,h1⟩:=q7 hT hp;refine⟨_,rfl,by(obtain⟨b1,b2,b3⟩:=B (jR h1);(repeat still_step);exact rfl),wpStill_nil (bw (by kernel_rfl) (eo v1 (ei p) num 4 W1 (by omega) (by rw[bI];have:=HP.a;omega) HP.b.1 HP.b.2 (jS h1) h1.1) ?_)⟩;rintro e W2 hp;obtain⟨v2,rfl,h2⟩:=jQ h1 hp;refine⟨_,rfl,by(obtain⟨b1,b2,b3⟩:=B (jR h2);(repeat still_step);exact rfl),wpStill_nil (bw (by kernel_rfl) (eo v2 (ei p++beI num 4) size 2 W2 (by omega) (by rw[length_append,bI,bV];have:=HP.a;omega) HP.c.1 HP.c.2 (jS h2) h2.1) ?_)⟩;rintro e W3 hp;obtain⟨v3,rfl,h3⟩:=jQ h2 hp;refine⟨_,rfl,rfl,?_⟩;repeat still_step
 refine wpStill_nil ?_;have HS:=qqH h3;have hbo:=jR h3;rw[HT.z]at hbo;have b4:W3.cell? ⟨bx,4,none⟩=some (.slice sl ats.length cap):=aa hbo 4 rfl;have hbl:=ac hbo;clear hT B b1 b2 b3 h1 h2 h3 hbo;go_wp2_with fail;go_loopw [3,19] (fun v i wr=>D5 bx O (ei p++beI num 4++beI size 2) ats w v i wr) (fun _ i _=>ats.length-(intOf i).toNat)
 case atStart=>exact⟨0,Nat.zero_le _,rfl,by simpa[dL]using HS.out⟩
 case round =>
  obtain⟨j,hj,rfl,hR⟩:=hrel;have HR:=qqH hR;clear hR;by_cases hlt:j<ats.length
  ·obtain⟨g,off,hg,hcell⟩:=HP.w.keep HR.z.mods (fun g off e hh=>by simp at hh) (by simpa using(by omega:0<ats.length));subst hg;obtain⟨n,hn⟩:∃n,n=ats[j]:=⟨_,rfl⟩;have hck:wr.cell? ⟨g,off+j,none⟩=some (.int .i64 n):=by rw[hcell j (by simpa using hlt)];simp[hn,dQ]
   have htk:dL (ats.take (j+1))=dL (ats.take j)++beI n 4:=by rw[QH hlt,ul,hn]
   have hnI:=HP.d n (hn ▸ getElem_mem hlt);have HN:=qqH (eo _ (ei p++beI num 4++beI size 2++dL (ats.take j)) n 4 wr (by omega) (by simp only[length_append,bI,bV,cH,length_take];have:=HP.a;omega) hnI.1 hnI.2 (jS HR.out) HR.a);have HK:=qqH htk;clear hcell hn htk hnI;go_wp2_with fail;refine HN.out.mono ?_;rintro e w4 hp4;obtain⟨v4,rfl,hr4⟩:=jQ HR.out hp4;rw[append_assoc,<- HK.out]at hr4;have HR4:=qqH hr4;clear hr4 hp4;go_wp2_with fail;go_roundw
   case rel=>exact⟨j+1,by omega,by go_num,HR4.out⟩
   case measure=>simp[intOf];omega
  ·obtain rfl:j=ats.length:=by omega
   have hR:=HR.out;rw[take_length]at hR;go_wp2_with fail;go_ret;exact⟨_,rfl,hR.1,hR.2.left⟩
theorem vz(k:UInt8)(p name:Bs)(num:Int)(w:World)(hp:p.length<=255)(hn:name.length<=255)(hnum:I64 num):
  Calls Tryz.prog 222 #[.agg #[.int .u8 k.toNat,str p,str name,.int .i64 num]] w (eJ (dR p name num) w):=by
 obtain⟨bx,hbx⟩:∃bx,bx=w.heap.size:=⟨_,rfl⟩;obtain⟨O,hO⟩:∃O:Obj,O=.cells #[.int .u8 k.toNat,str p,str name,.int .i64 num] 233 (0,0):=⟨_,rfl⟩;have hT0:Turns [] [(bx,Is O)] w (w.alloc (.cells #[.int .u8 k.toNat,str p,str name,.int .i64 num] 233)):=by rw[<- hO,hbx];exact(Turns.refl (Sat.nil w)).Q8 O
 have HP:=Hq3 hp hn hnum;have HT:=Hq2 hT0 hO;clear hp hnum hn hT0 hO;go_enter Tryz.func222,Tryz.ntmps222;go_wp2_with fail;rw[<- hbx];clear hbx;refine cL [([0,1,2,4,5,7,8],3,[4,5,7,8]),([],6,[7,8]),([],9,[])] [10] HM.out (by kernel_rfl) fun W tW=>?_
 simp only[Mix,map_cons,map_nil,nth,QG,QF];have hT:=tW HT.a;clear tW;have B:∀{W:World},W.heap[bx]?=some O->W.cell? ⟨bx,1,none⟩=some (str p)/\W.cell? ⟨bx,2,none⟩=some (str name)/\W.cell? ⟨bx,3,none⟩=some (.int .i64 num):=fun h=>by rw[HT.z]at h;exact⟨aa h 1 rfl,aa h 2 rfl,aa h 3 rfl⟩
 obtain⟨b1,b2,b3⟩:=B hT.sat.Q5;repeat still_step
 refine wpStill_nil (bw (by kernel_rfl) (me (.slice none 0 0) [] p W (Sat.nil _) jy (by simp) HP.a) ?_);rintro e W1 hp;obtain⟨v1,rfl,h1⟩:=q7 hT hp;refine⟨_,rfl,by(obtain⟨b1,b2,b3⟩:=B (jR h1);(repeat still_step);exact rfl),wpStill_nil (bw (by kernel_rfl) (me v1 (ei p) name W1 (jS h1) h1.1 (by rw[bI];have:=HP.a;omega) HP.b) ?_)⟩;rintro e W2 hp;obtain⟨v2,rfl,h2⟩:=jQ h1 hp;refine⟨_,rfl,by(obtain⟨b1,b2,b3⟩:=B (jR h2);(repeat still_step);exact rfl),wpStill_nil (bw (by kernel_rfl) (eo v2 (ei p++ei name) num 4 W2 (by omega) (by rw[length_append,bI,bI];have:=HP.a;have:=HP.b;omega) HP.c HP.x (jS h2) h2.1) ?_)⟩;rintro e W3 hp;obtain⟨v3,rfl,h3⟩:=jQ h2 hp;refine⟨_,rfl,rfl,?_⟩;repeat still_step
 refine wpStill_nil ?_;go_wp2_with fail;go_ret;exact⟨_,rfl,h3.1,h3.2.left⟩
theorem tX(k:UInt8)(p:Bs)(sl:Option Addr)(cap:Nat)(ats:List Int)(w:World)(hc:al w sl (ats.map dQ))(hp:p.length<=255)(hat:∀n∈ats,I64 n)(hl:ats.length<=100000):
  Calls Tryz.prog 234 #[.agg #[.int .u8 k.toNat,str p,.slice sl ats.length cap]] w (eJ (dZ p ats) w):=by
 obtain⟨bx,hbx⟩:∃bx,bx=w.heap.size:=⟨_,rfl⟩;obtain⟨O,hO⟩:∃O:Obj,O=.cells #[.int .u8 k.toNat,str p,.slice sl ats.length cap] 286 (0,0):=⟨_,rfl⟩;have hT0:Turns [] [(bx,Is O)] w (w.alloc (.cells #[.int .u8 k.toNat,str p,.slice sl ats.length cap] 286)):=by rw[<- hO,hbx];exact(Turns.refl (Sat.nil w)).Q8 O
 have hb0:w.heap.size=bx:=hbx.symm;have HP:=Hq3 hp hat hc;have HT:=Hq2 hT0 hO;clear hp hat hc hT0 hO hb0;go_enter Tryz.func234,Tryz.ntmps234;go_wp2_with fail;refine(me (.slice none 0 0) [] p _ (Sat.nil _) jy (by simp) HP.a).mono ?_;rintro e w3 hp3;obtain⟨v3,rfl,hS⟩:=q7 HT.a hp3;have HS:=qqH hS;have hbo:=jR hS;rw[HT.z]at hbo;have b2:w3.cell? ⟨bx,2,none⟩=some (.slice sl ats.length cap):=aa hbo 2 rfl;have hbl:=ac hbo;rw[<- hbx];clear hS hbo hp3 hbx;go_wp2_with fail;go_loopw [3,13] (fun v i wr=>D5 bx O (ei p) ats w v i wr) (fun _ i _=>ats.length-(intOf i).toNat)
 case atStart=>exact⟨0,Nat.zero_le _,rfl,by simpa[dL]using HS.out⟩
 case round =>
  obtain⟨j,hj,rfl,hR⟩:=hrel;have HR:=qqH hR;clear hR;by_cases hlt:j<ats.length
  ·obtain⟨g,off,hg,hcell⟩:=HP.y.keep HR.z.mods (fun g off e hh=>by simp at hh) (by simpa using(by omega:0<ats.length));subst hg;obtain⟨n,hn⟩:∃n,n=ats[j]:=⟨_,rfl⟩;have hck:wr.cell? ⟨g,off+j,none⟩=some (.int .i64 n):=by rw[hcell j (by simpa using hlt)];simp[hn,dQ]
   have htk:dL (ats.take (j+1))=dL (ats.take j)++beI n 4:=by rw[QH hlt,ul,hn]
   have hnI:=HP.b n (hn ▸ getElem_mem hlt);have HN:=qqH (eo _ (ei p++dL (ats.take j)) n 4 wr (by omega) (by simp only[length_append,bI,cH,length_take];have:=HP.a;omega) hnI.1 hnI.2 (jS HR.out) HR.a);have HK:=qqH htk;clear hcell hn htk hnI;go_wp2_with fail;refine HN.out.mono ?_;rintro e w4 hp4;obtain⟨v4,rfl,hr4⟩:=jQ HR.out hp4;rw[append_assoc,<- HK.out]at hr4;have HR4:=qqH hr4;clear hr4 hp4;go_wp2_with fail;go_roundw
   case rel=>exact⟨j+1,by omega,by go_num,HR4.out⟩
   case measure=>simp[intOf];omega
  ·obtain rfl:j=ats.length:=by omega
   have hR:=HR.out;rw[take_length]at hR;go_wp2_with fail;go_ret;exact⟨_,rfl,hR.1,hR.2.left⟩
def KZ(k:UInt8)(w:World)(e:Ending)(w':World):Prop:=e=.returned (.int .u8 k.toNat)/\aX w w'
theorem lN(k:UInt8)(p:Bs)(w:World):Calls Tryz.prog 141 #[.agg #[.int .u8 k.toNat,str p]] w (KZ k w):=by
 go_enter Tryz.func141,Tryz.ntmps141;go_wp2_with fail;go_ret;refine ⟨rfl,(Mods.refl _ w).alloc _⟩
theorem L7(a b c d e:Value)(w:World):(Go.method 462 173 (.agg #[a,b,c,d,e]) "Of").run Tryz.prog w=.ok (141,.agg #[a,b]) w:=by kernel_rfl
theorem Kx(a b c d e:Value)(w:World):(Go.method 462 173 (.agg #[a,b,c,d,e]) "versions/record.body").run Tryz.prog w=.ok (217,.agg #[a,b,c,d,e]) w:=by kernel_rfl
theorem Lj(a b c:Value)(w:World):(Go.method 462 286 (.agg #[a,b,c]) "Of").run Tryz.prog w=.ok (141,.agg #[a,b]) w:=by kernel_rfl
theorem Iq(a b c:Value)(w:World):(Go.method 462 286 (.agg #[a,b,c]) "versions/record.body").run Tryz.prog w=.ok (234,.agg #[a,b,c]) w:=by kernel_rfl
theorem LX(a b c d:Value)(w:World):(Go.method 462 233 (.agg #[a,b,c,d]) "Of").run Tryz.prog w=.ok (141,.agg #[a,b]) w:=by kernel_rfl
theorem Kg(a b c d:Value)(w:World):(Go.method 462 233 (.agg #[a,b,c,d]) "versions/record.body").run Tryz.prog w=.ok (222,.agg #[a,b,c,d]) w:=by kernel_rfl
theorem eJ.frame{k:UInt8}{body:Bs}{w w1 w2:World}{v:Value}(hs:aX w w1)(hT:Turns [] (aI v body) w1 w2){e:Ending}{w3:World}(h:eJ (frame k body) w2 e w3):eJ (frame k body) w e w3:=by
 obtain⟨v',he,hok,hT'⟩:=h;have h1:Turns [] [] w w2:=(Turns.same (Sat.nil w) hs).trans (hT.drop (by intro x;simp[cnt]));exact⟨v',he,hok,h1.trans hT'⟩
theorem kQ{l:Bs}{w w':World}{e:Ending}(h:eJ l w e w'):∃av cv,e=.returned (.slice av l.length cv)/\al w' av (l.map am)/\Turns [] (aI (.slice av l.length cv) l) w w':=by
 obtain⟨v',he,hok,hT⟩:=h;obtain⟨av,cv,rfl,-,-,hc,-⟩:=aP (dr hT.sat hok);exact⟨av,cv,he,hc,hT⟩
theorem ng(k:UInt8)(p:Bs)(num size:Int)(sl:Option Addr)(cap:Nat)(ats:List Int)(w:World)(hc:al w sl (ats.map dQ))(hp:p.length<=255)(hnum:I64 num)(hsize:I64 size)(hat:∀n∈ats,I64 n)(hl:ats.length<=100000):
  Calls Tryz.prog 80 #[.iface 173 (.agg #[.int .u8 k.toNat,str p,.int .i64 num,.int .i64 size,.slice sl ats.length cap])] w (eJ (frame k (eC p num size ats)) w):=by
 have HB:=qqH (fun W (hW:aX w W)=>vI k p num size sl cap ats W (hc.keep hW (fun _ _ _=>id)) hp hnum hsize hat hl);have hl0:(eC p num size ats).length<=1000000:=by simp only[eC,length_append,bI,bV,cH];omega
 have HL:=qqH hl0;have h1:=fun W=>L7 (.int .u8 k.toNat) (str p) (.int .i64 num) (.int .i64 size) (.slice sl ats.length cap) W
 have h2:=fun W=>Kx (.int .u8 k.toNat) (str p) (.int .i64 num) (.int .i64 size) (.slice sl ats.length cap) W
 clear hc hp hnum hsize hat hl0;go_enter Tryz.func80,Tryz.ntmps80;go_wp2_with fail;refine(lN k p _).mono ?_;rintro e w1 ⟨rfl,hs1⟩;have HS1:=qqH hs1;clear hs1;go_wp2_with fail;refine(HB.out _ HS1.out).mono ?_;rintro e w2 hb2;obtain⟨av,cv,rfl,hc2,hT2⟩:=kQ hb2;have H2:=Hq2 hc2 hT2;obtain⟨n2,hn2⟩:∃n2,n2=(eC p num size ats).length:=⟨_,rfl⟩;rw[<- hn2];have HN:=qqH hn2;clear hb2 hc2 hT2 hn2;go_wp2_with fail;rw[HN.out];refine(gX k av cv (eC p num size ats) _ H2.a (by have:=HL.out;omega)).mono ?_;rintro e w3 hp3;have h3:=eJ.frame HS1.out H2.z hp3;obtain⟨v3,rfl,hok3,hT3⟩:=h3;have H3:=Hq2 hok3 hT3;clear hp3 hok3 hT3;go_wp2_with fail;go_ret;exact⟨_,rfl,H3.a,H3.z⟩
theorem su(k:UInt8)(p:Bs)(sl:Option Addr)(cap:Nat)(ats:List Int)(w:World)(hc:al w sl (ats.map dQ))(hp:p.length<=255)(hat:∀n∈ats,I64 n)(hl:ats.length<=100000):
  Calls Tryz.prog 80 #[.iface 286 (.agg #[.int .u8 k.toNat,str p,.slice sl ats.length cap])] w (eJ (frame k (dZ p ats)) w):=by
 have HB:=qqH (fun W (hW:aX w W)=>tX k p sl cap ats W (hc.keep hW (fun _ _ _=>id)) hp hat hl);have hl0:(dZ p ats).length<=1000000:=by simp only[dZ,length_append,bI,cH];omega
 have HL:=qqH hl0;have h1:=fun W=>Lj (.int .u8 k.toNat) (str p) (.slice sl ats.length cap) W
 have h2:=fun W=>Iq (.int .u8 k.toNat) (str p) (.slice sl ats.length cap) W
 clear hc hp hat hl0;go_enter Tryz.func80,Tryz.ntmps80;go_wp2_with fail;refine(lN k p _).mono ?_;rintro e w1 ⟨rfl,hs1⟩;have HS1:=qqH hs1;clear hs1;go_wp2_with fail;refine(HB.out _ HS1.out).mono ?_;rintro e w2 hb2;obtain⟨av,cv,rfl,hc2,hT2⟩:=kQ hb2;have H2:=Hq2 hc2 hT2;obtain⟨n2,hn2⟩:∃n2,n2=(dZ p ats).length:=⟨_,rfl⟩;rw[<- hn2];have HN:=qqH hn2;clear hb2 hc2 hT2 hn2;go_wp2_with fail;rw[HN.out];refine(gX k av cv (dZ p ats) _ H2.a (by have:=HL.out;omega)).mono ?_;rintro e w3 hp3;have h3:=eJ.frame HS1.out H2.z hp3;obtain⟨v3,rfl,hok3,hT3⟩:=h3;have H3:=Hq2 hok3 hT3;clear hp3 hok3 hT3;go_wp2_with fail;go_ret;exact⟨_,rfl,H3.a,H3.z⟩
theorem kd(k:UInt8)(p name:Bs)(num:Int)(w:World)(hp:p.length<=255)(hn:name.length<=255)(hnum:I64 num):
  Calls Tryz.prog 80 #[.iface 233 (.agg #[.int .u8 k.toNat,str p,str name,.int .i64 num])] w (eJ (frame k (dR p name num)) w):=by
 have HB:=qqH (fun W (hW:aX w W)=>vz k p name num W hp hn hnum);have hl0:(dR p name num).length<=1000000:=by simp only[dR,length_append,bI,bV];omega
 have HL:=qqH hl0;have h1:=fun W=>LX (.int .u8 k.toNat) (str p) (str name) (.int .i64 num) W
 have h2:=fun W=>Kg (.int .u8 k.toNat) (str p) (str name) (.int .i64 num) W
 clear hp hn hnum hl0;go_enter Tryz.func80,Tryz.ntmps80;go_wp2_with fail;refine(lN k p _).mono ?_;rintro e w1 ⟨rfl,hs1⟩;have HS1:=qqH hs1;clear hs1;go_wp2_with fail;refine(HB.out _ HS1.out).mono ?_;rintro e w2 hb2;obtain⟨av,cv,rfl,hc2,hT2⟩:=kQ hb2;have H2:=Hq2 hc2 hT2;obtain⟨n2,hn2⟩:∃n2,n2=(dR p name num).length:=⟨_,rfl⟩;rw[<- hn2];have HN:=qqH hn2;clear hb2 hc2 hT2 hn2;go_wp2_with fail;rw[HN.out];refine(gX k av cv (dR p name num) _ H2.a (by have:=HL.out;omega)).mono ?_;rintro e w3 hp3;have h3:=eJ.frame HS1.out H2.z hp3;obtain⟨v3,rfl,hok3,hT3⟩:=h3;have H3:=Hq2 hok3 hT3;clear hp3 hok3 hT3;go_wp2_with fail;go_ret;exact⟨_,rfl,H3.a,H3.z⟩
theorem LR:(Tryz.prog.info? 3).map (fun i=>(i.zero,i.size,i.bytes))=some (some (.int .i64 0),1,8):=by kernel_rfl
def cA(v:Value)(l:List Int):HF:=bN 3 1 v l.length (l.map dQ)
def iOk(v:Value)(l:List Int):Prop:=eE 1 v l.length (l.map dQ)
theorem Am:cA (.slice none 0 0) []=[]:=rfl
theorem sA:iOk (.slice none 0 0) []:=⟨rfl,fun _=>⟨rfl,rfl⟩⟩
theorem mh{o:Oper}{a:Act}{w a0:World}{K:Act->World->Prop}{Q:Exit->Act->World->Prop}{F G:HF}(s x:Operand)(hop:o.op=.call { callee:=.builtin .append,args:=#[s,x],argTypes:=#[171,171] })(v:Value)(l:List Int)(hs:a.eval s=v)(hT:Turns F (cA v l++G) a0 w)(hok:iOk v l)(sa:Option Addr)(m c:Nat)(hx:a.eval x=.slice sa m c)(r:List Int)(hm:m=r.length)(hc:0<m->∃ad,sa=some ad/\∀j u,(r.map dQ)[j]?=some u->w.cell? (ad.add j)=some u)(hb:l.length+r.length<=1000000)(hk:∀av cv w',iOk (.slice av (l++r).length cv) (l++r)->Turns F (cA (.slice av (l++r).length cv) (l++r)++G) a0 w'->K (a.put o.dst (.slice av (l++r).length cv)) w'):o.wp Tryz.prog a w K Q:=by
 obtain⟨i0,hi0,hz1,hz2,hz3⟩:=info_parts LR;refine cI s x 171 3 i0 (.int .i64 0) 1 8 hop Tryz.underlying171 hi0 hz1 hz2 hz3 rfl (by decide) v l.length (l.map dQ) hs hT hok sa m c hx (r.map dQ) (by simp[hm]) hc (fun u hu=>by obtain⟨y,_,rfl⟩:=mem_map.1 hu;rfl) (by unfold maxLen;omega) (by omega) (fun v' w' h1 h2 h3=>?_);have k1:iOk v' (l++r):=by unfold iOk;rw[length_append,map_append,<- hm];exact h1
 have k2:Turns F (cA v' (l++r)++G) a0 w':=by unfold cA;rw[length_append,map_append,<- hm];exact h2
 obtain⟨av,cv,rfl,-,-,-,-⟩:=aP (aR k2.sat.left k1);exact hk av cv w' k1 k2
def qg(k:UInt8)(p:Bs)(num size:Int)(v:Value):Obj:=.cells #[.int .u8 k.toNat,str p,.int .i64 num,.int .i64 size,v] 173 (0,0)
def bt(l:List (Nat×Nat)):List Int:=l.map (fun q=>(q.1:Int))
def Cg(p:Bs)(V:VerL)(w:World)(e:Ending)(w':World):Prop :=
 ∃av cv,e=.returned (.agg #[.int .u8 2,str p,.int .i64 V.num,.int .i64 V.size,.slice av (bt V.chs).length cv])/\al w' av ((bt V.chs).map dQ)/\aX w w'
def Mg(c r:Nat)(p:Bs)(V:VerL)(w:World)(i:Value)(W:World):Prop :=
 ∃(k:Nat) (v:Value),k<=V.chs.length/\i=.int .i64 k/\iOk v ((bt V.chs).take k)/\Turns [] (((c,Is (qg 2 p V.num V.size v))::cA v ((bt V.chs).take k))++[(r,Is (qg 0 [] 0 0 (.slice none 0 0)))]) w W
theorem gh{w:World}{v:Value}{l:List (Nat×Nat)}(h:Sat w (aU v l))(hok:cd v l):∃sl cap,v=.slice sl l.length cap/\l.length<=cap/\cap<=9223372036854775807/\al w sl (cS l):=by
 have hown:=aR h hok;rcases hown.2 with⟨rfl,h0⟩|⟨g,cap,cur,rfl,hbg,hg,hnc,hcm,hcs,htake⟩
 ·have hl:l=[]:=eq_nil_of_length_eq_zero h0;subst hl;exact⟨none,0,rfl,Nat.le_refl _,by omega,fun h=>by simp[cS]at h⟩
 ·refine⟨some ⟨g,0,none⟩,cap,rfl,hnc,by unfold maxLen at hcm;omega,fun hp=>⟨g,0,rfl,fun j hj=>?_⟩⟩;have:=hown.cells (g:=g) rfl j _ (getElem?_eq_getElem hj);rwa [Addr.add_lit]at this
theorem CD(w:World)(o:Obj)(xs:List Value)(t:TypeId):∀j u,xs[j]?=some u->((w.alloc o).alloc (.cells xs.toArray t)).cell? ((⟨w.heap.size+1,0,none⟩:Addr).add j)=some u:=fun j u hu=>by
 have:=iU (w.alloc o) xs t j u hu
 simpa using this
theorem gi(l:List (Nat×Nat)):(cS l).length=2*l.length:=by
 induction l with
 | nil=>rfl
 | cons a r ih=>simp only[cS,flatMap_cons,length_append,qV,length_cons,length_nil]at ih ⊢;omega
theorem Dh:∀(l:List (Nat×Nat)) (k:Nat) (hk:k<l.length),(cS l)[2*k]?=some (.int .i64 l[k].1)/\(cS l)[2*k+1]?=some (.int .i64 l[k].2):=by
 intro l;induction l with
 | nil=>intro k hk;simp at hk
 | cons a r ih =>
  intro k hk
  cases k with
  | zero=>simp[cS,qV]
  | succ k =>
   have:=ih k (by simpa using hk);simp only[cS,flatMap_cons,qV]at this ⊢;rw[show 2*(k+1)=2*k+2 by omega,show 2*k+2+1=(2*k+1)+2 by omega,getElem?_append_right (by simp),getElem?_append_right (by simp)];simpa using this
theorem qb{w:World}{g off:Nat}{l:List (Nat×Nat)}(h:∀j (h:j<(cS l).length),w.cell? ⟨g,off+j,none⟩=some ((cS l)[j]'h)){k:Nat}(hk:k<l.length):
  w.cell? ⟨g,off+k*2,none⟩=some (.int .i64 l[k].1)/\w.cell? ⟨g,off+k*2+1,none⟩=some (.int .i64 l[k].2):=by
 obtain⟨h1,h2⟩:=Dh l k hk;obtain⟨p1,e1⟩:=List.getElem?_eq_some_iff.1 h1;obtain⟨p2,e2⟩:=List.getElem?_eq_some_iff.1 h2;rw[Nat.add_assoc,Nat.mul_comm k 2];exact⟨by rw[h _ p1,e1],by rw[h _ p2,e2]⟩
theorem ju(p:Bs)(V:VerL)(w:World)(hV:Sat w (bT V))(hok:cd V.cv V.chs)(hl:V.chs.length<=100000):
  Calls Tryz.prog 81 #[str p,ee V] w (Cg p V w):=by
 obtain⟨r,hr⟩:∃r,r=w.heap.size:=⟨_,rfl⟩;obtain⟨Z,hZ⟩:∃Z:Obj,Z=qg 0 [] 0 0 (.slice none 0 0):=⟨_,rfl⟩;have hT0:Turns [] [(r,Is Z)] w (w.alloc Z):=by rw[hr];exact(Turns.refl (Sat.nil w)).Q8 Z
 obtain⟨sl,cap,hcv,hcl,hcm,hcells⟩:=gh hV.tail hok;have HV:=Hq4 hV.Q5 hcells hcv hl;have HT:=Hq2 hT0 hZ;clear hV hok hT0 hZ hcells hcv;unfold ee;go_enter Tryz.func81,Tryz.ntmps81;go_wp2_with fail;rw[<- hr];have hwe:w.alloc (.cells #[.int .u8 0,.string { data:=#[] },.int .i64 0,.int .i64 0,.slice none 0 0] 173)=w.alloc Z:=by rw[HT.z];rfl
 rw[hwe];clear hwe hr;refine cL [([0,1,2,3,4,5,6,7,8,9,10],11,[0,1,2,3,4,5,6,7,8,9,10]),([],12,[])] [] HM.out (by kernel_rfl) fun W tW=>?_
 simp only[Mix,map_cons,map_nil,nth,QG,QF];have hT:=tW HT.a;clear tW;have Vb:∀{W F},Turns [] F w W->W.cell? ⟨V.blk,0,none⟩=some (.int .i64 V.num)/\W.cell? ⟨V.blk,1,none⟩=some (.int .i64 V.size):=fun h=>⟨aa (h.news.at HV.a id) 0 rfl,aa (h.news.at HV.a id) 1 rfl⟩
 obtain⟨b0,b1⟩:=Vb hT;repeat still_step
 refine wpStill_nil (i6 (qg 0 [] 0 0 (.slice none 0 0)) (fun c=>.pointer (some ⟨c,0,none⟩)) (by kernel_rfl) hT fun c W1 hT1=>⟨by(obtain⟨b0,b1⟩:=Vb hT1;(repeat still_step);exact rfl),wpStill_nil ?_⟩);refine qq 173 (.tmp 5) (.tmp 18) rfl c #[.int .u8 0,str [],.int .i64 0,.int .i64 0,.slice none 0 0] #[.int .u8 2,str p,.int .i64 V.num,.int .i64 V.size,.slice none 0 0] _ hT1 rfl rfl rfl (by kernel_rfl) (by simp[Value.oneCell']) fun W2 hT2=>⟨rfl,?_⟩
 simp only[Act.put,QA,QB,QC];refine wpStill_nil ?_;have HT3:=qqH (show Turns [] [(c,Is (qg 2 p V.num V.size (.slice none 0 0))),(r,Is Z)] w W2 from hT2);have hvo:=hT2.news.at HV.a id;have b2:W2.cell? ⟨V.blk,2,none⟩=some (.slice sl V.chs.length cap):=by rw[<- HV.c];exact aa hvo 2 rfl
 have hbl:=ac hvo;clear hT hT1 hT2 hvo b0 b1 Vb;go_wp2_with fail;go_loopw [24] (fun i wr=>Mg c r p V w i wr) (fun i _=>V.chs.length-(intOf i).toNat)
 case atStart=>exact⟨0,.slice none 0 0,Nat.zero_le _,rfl,by simpa using sA,by
  have:=HT3.out;rw[HT.z]at this;simpa[Am]using this⟩
 case round =>
  obtain⟨k,v,hk,rfl,hok,hT⟩:=hrel;have HR:=Hq2 hok hT;have hrec:=hT.sat.Q5;clear hok hT;by_cases hlt:k<V.chs.length
  ·obtain⟨g,off,hg,hcell⟩:=HV.b.keep HR.z.mods (fun g off e hh=>by simp at hh) (by rw[gi];omega);subst hg;obtain⟨hc1,hc2⟩:=qb hcell hlt;obtain⟨q,hq⟩:∃q,q=V.chs[k]:=⟨_,rfl⟩;rw[<- hq]at hc1 hc2;have c3:wr.cell? ⟨c,4,none⟩=some v:=aa hrec 4 rfl;have hcl2:=ac hrec;have HQ:=qqH hq;clear hcell hq
   have hat:(bt V.chs).take (k+1)=(bt V.chs).take k++[(q.1:Int)]:=by
    rw[QH (by simp[bt];omega)];simp[bt,HQ.out]
   have htl:((bt V.chs).take k).length=k:=by simp[bt];omega
   have hfr:=bf hrec 4;have HA:=Hq2 hat htl;have HTp:Turns [] (cA v ((bt V.chs).take k)++[(c,Is (qg 2 p V.num V.size v)),(r,Is (qg 0 [] 0 0 (.slice none 0 0)))]) w wr:=HR.z.to ae;have HT5:=qqH HTp;clear hat htl hrec HTp;go_wp2_with ((at_builtin;refine ai rfl ?_;refine mh (.tmp 29) (.tmp 32) rfl v _ rfl ((HT5.out.alloc _).alloc _) HR.a _ 1 1 rfl [(q.1:Int)] rfl (fun _=>⟨_,rfl,fun j u hu=>CD _ _ _ _ j u hu⟩) (by rw[HA.z];simp;omega) ?_;intro av cv w5 hok5 hT5;simp only[length_append,HA.z,length_singleton]at hok5 hT5;have hb5:w5.heap[c]?=some (qg 2 p V.num V.size v):=hT5.sat.Q7 (by simp);have c5:=aa (v:=v) hb5 4 rfl;have f5:=bf hb5 4;have H5:=Hq3 hok5 hT5 hb5;clear hok5 hT5 hb5 hfr c3 hc1 hc2));have hmin:min k (bt V.chs).length+1=k+1:=by have:=HA.z;rw[length_take]at this;omega
   rw[hmin];refine⟨⟨k+1,.slice av (k+1) cv,by omega,by go_num,by rw[HA.a];exact H5.a,?_⟩,by simp[intOf];omega⟩;have hq:=(H5.b.to (H:=(c,Is (qg 2 p V.num V.size v))::(cA (.slice av (k+1) cv) ((bt V.chs).take k++[(q.1:Int)])++[(r,Is (qg 0 [] 0 0 (.slice none 0 0)))])) ae).Qa (o:=qg 2 p V.num V.size (.slice av (k+1) cv)) ((Mods.refl (fun k=>k=c) w5).set1 (i:=4) (.slice av (k+1) cv)) (bB H5.y 4 _);rw[HA.a];exact hq.to ae
  ·obtain rfl:k=V.chs.length:=by omega
   have c0:wr.cell? ⟨c,0,none⟩=some (.int .u8 2):=aa hrec 0 rfl;have c1:wr.cell? ⟨c,1,none⟩=some (str p):=aa hrec 1 rfl;have c2:wr.cell? ⟨c,2,none⟩=some (.int .i64 V.num):=aa hrec 2 rfl;have c3:wr.cell? ⟨c,3,none⟩=some (.int .i64 V.size):=aa hrec 3 rfl;have c4:wr.cell? ⟨c,4,none⟩=some v:=aa hrec 4 rfl;have hrr:wr.heap[r]?=some (qg 0 [] 0 0 (.slice none 0 0)):=HR.z.sat.Q7 (by simp);have hth:=dm (C:=#[.int .u8 0,str [],.int .i64 0,.int .i64 0,.slice none 0 0]) hrr 0 5 (by simp);have ho1:=HR.a;have hT1:=HR.z;have hle:(bt V.chs).take V.chs.length=bt V.chs:=take_of_length_le (by simp[bt]);rw[hle]at ho1 hT1;have hTi:Turns [] (cA v (bt V.chs)++[(c,Is (qg 2 p V.num V.size v)),(r,Is (qg 0 [] 0 0 (.slice none 0 0)))]) w wr:=hT1.to ae;obtain⟨av,cv,rfl,-,-,hca,hbl2⟩:=aP (aR hTi.sat.left ho1);obtain⟨q1,q2⟩:=dI hrr [.int .u8 2,str p,.int .i64 V.num,.int .i64 V.size,.slice av (bt V.chs).length cv] (by simp);have hse:aX w (wr.setCells r 0 [.int .u8 2,str p,.int .i64 V.num,.int .i64 V.size,.slice av (bt V.chs).length cv]):=hTi.news.trans' q2 (fun i hi=>.inr (hi ▸ hTi.newLe (by simp)))
   have hck:al (wr.setCells r 0 [.int .u8 2,str p,.int .i64 V.num,.int .i64 V.size,.slice av (bt V.chs).length cv]) av ((bt V.chs).map dQ):=hca.keep q2 (fun g off e hh=>by
    have h1:=hbl2 _ e;have h2:=hTi.sat.Qh (b:=g) (by unfold cA;rw[ff];exact h1);exact h2 (by simp[hh]))
   have HF1:=Hq4 q1 hse hck hth;clear q1 q2 hse hck hth hTi hT1 ho1 hca hbl2 hle hrr hrec;go_wp2_with ((refine wpList_store_mid rfl 173 (.tmp 4) (.tmp 36) rfl r 0 #[.int .u8 2,str p,.int .i64 V.num,.int .i64 V.size,.slice av (bt V.chs).length cv] rfl rfl HF1.x (by kernel_rfl) (by simp[Value.oneCell']) ?_;simp only[Act.put]));refine bodyPost_ret (results_cell_row rfl _ _ r 173 _ (0,0) _ rfl HF1.a Tryz.underlying173 rfl (by kernel_rfl)) rfl ?_;exact⟨av,cv,rfl,HF1.c,HF1.b⟩
theorem qs{n:Int}(h1 : -9223372036854775808<=n)(h2:n<=9223372036854775807):IntKind.i64.wrap n=n:=by
 unfold IntKind.wrap;simp only[show IntKind.i64.bits=64 from rfl,show IntKind.i64.signed=true from rfl,Bool.true_and,decide_eq_true_eq];split<;>omega
end
section
open Go.RowKit Go.Maps
open Go.ChangeMaps (setBlock)
structure ContIs (C:Array Value) (pm tm cm:Nat) (sc sb used:Int):Prop where
 c0:C[0]?=some (.map (some pm))
 c1:C[1]?=some (.map (some tm))
 c2:C[2]?=some (.map (some cm))
 c3:C[3]?=some (.int .i64 sc)
 c4:C[4]?=some (.int .i64 sb)
 c5:C[5]?=some (.int .i64 used)
def kh(ps:List aW)(c:Nat)(l:Bs)(v:Value)(V:VerL):List aW:=ef ps c l v (af ps l++[V])
def dH(ps:List aW)(l:Bs):HF:=gm er (bH ps l)++(af ps l).flatMap bT
theorem kz{ps:List aW}(l:Bs)(h:(ps.map (·.key)).Nodup):(gm er ps).Perm (ek (eH (.slice none 0 0) ps l) (af ps l)++dH ps l):=by
 have:=uC er (.slice none 0 0) [] rfl ps l h;unfold er at this;rw[append_assoc]at this;exact this.trans (Perm.append_left _ perm_append_comm)
theorem qS{ps:List aW}(c:Nat)(l:Bs)(v:Value)(V:VerL)(h:(ps.map (·.key)).Nodup):(gm er (kh ps c l v V)).Perm (ek v (af ps l++[V])++(dH ps l++bT V)):=by
 have:=uB er ps c l v (af ps l++[V]) h;unfold er at this;rw[append_assoc]at this;refine this.trans (Perm.append_left _ ?_);rw[flatMap_append];unfold dH;simp only[flatMap_cons,flatMap_nil,append_nil];rw[append_assoc (gm er (bH ps l))];exact perm_append_comm
theorem uw{ps:List aW}{c:Nat}(hok:PathsOk ps c)(l:Bs):eP (eH (.slice none 0 0) ps l) (af ps l):=by
 unfold eH af gOf
 cases hf:ps.find? (fun p=>decide (p.key=l))with
 | none=>exact⟨rfl,fun _=>⟨rfl,rfl⟩⟩
 | some p=>exact(hok.rows p (mem_of_find?_eq_some hf)).1
theorem IA:(Tryz.prog.info? 149).map (fun i=>(i.zero,i.size,i.bytes))=some (some (.pointer none),1,8):=by kernel_rfl
theorem DQ{o:Oper}{a:Act}{w a0:World}{K:Act->World->Prop}{Q:Exit->Act->World->Prop}{F G:HF}(s x:Operand)(hop:o.op=.call { callee:=.builtin .append,args:=#[s,x],argTypes:=#[153,153] })(v:Value)(l:List VerL)(hs:a.eval s=v)(hT:Turns F (ek v l++G) a0 w)(hok:eP v l)(sa:Option Addr)(m c:Nat)(hx:a.eval x=.slice sa m c)(r:List VerL)(hm:m=r.length)(hc:0<m->∃ad,sa=some ad/\∀j u,(r.map ee)[j]?=some u->w.cell? (ad.add j)=some u)(hb:l.length+r.length<=1000000)(hk:∀v' w',eP v' (l++r)->Turns F (ek v' (l++r)++G) a0 w'->K (a.put o.dst v') w'):o.wp Tryz.prog a w K Q:=by
 obtain⟨i0,hi0,hz1,hz2,hz3⟩:=info_parts IA;refine cI s x 153 149 i0 (.pointer none) 1 8 hop Tryz.underlying153 hi0 hz1 hz2 hz3 rfl (by decide) v l.length (l.map ee) hs hT hok sa m c hx (r.map ee) (by simp[hm]) hc (fun u hu=>by obtain⟨y,_,rfl⟩:=mem_map.1 hu;rfl) (by unfold maxLen;omega) (by omega) (fun v' w' h1 h2 h3=>?_);exact hk v' w' (by unfold eP;rw[length_append,map_append,<- hm];exact h1) (by unfold ek;rw[length_append,map_append,<- hm];exact h2)
def GO(b pm c:Nat)(ps:List aW)(l:Bs)(V:VerL)(C:Array Value)(ty:TypeId)(used:Int)(w:World)(e:Ending)(w':World):Prop :=
 ∃v',e=.returned (.tuple #[])/\eP v' (af ps l++[V]) /\
  Turns ((b,Is (.cells C ty (0,0)))::(aF pm ps c++bT V)) ((b,Is (.cells (C.setIfInBounds 5 (.int .i64 (used+V.size))) ty (0,0)))::aF pm (kh ps c l v' V) (cw (ps.map aO) c l)) w w'
theorem qA(b pm tm cm c:Nat)(sc sb used:Int)(ps:List aW)(l:Bs)(V:VerL)(C:Array Value)(ty:TypeId)(w:World)(h:Sat w ((b,Is (.cells C ty (0,0)))::(aF pm ps c++bT V)))(hC:ContIs C pm tm cm sc sb used)(hok:PathsOk ps c)(hl:OkS l)(hlen:(af ps l).length<=100000)(hus : -4611686018427387904<=used/\used+V.size<=4611686018427387904)(hvs:V.size<=4611686018427387904):
  Calls Tryz.prog 84 #[.pointer (some ⟨b,0,none⟩),str l,ee V] w (GO b pm c ps l V C ty used w):=by
 obtain⟨O,hO⟩:∃O:Obj,O=.cells C ty (0,0):=⟨_,rfl⟩;rw[<- hO]at h
 have hT0:Turns ((b,Is O)::(aF pm ps c++bT V)) (ek (eH (.slice none 0 0) ps l) (af ps l)++((b,Is O)::(pm,Is (aQ str (ps.map aO) c))::(dH ps l++bT V))) w w:=by
  refine(Turns.refl h).to ?_;have hp:=kz l (by rw[<- cE];exact hok.map.nodup);unfold aF;refine((Perm.cons _ (Perm.cons _ (hp.append_right _)))).trans ?_;refine(perm_append_comm (l₁:=[(b,Is O),(pm,Is (aQ str (ps.map aO) c))]) (l₂:=ek (eH (.slice none 0 0) ps l) (af ps l)++dH ps l++bT V)).trans ?_;simp only[append_assoc];refine Perm.append_left _ ?_;rw[<- append_assoc];exact perm_append_comm
 obtain⟨v0,hv0⟩:∃v0,v0=eH (.slice none 0 0) ps l:=⟨_,rfl⟩;obtain⟨vs,hvs0⟩:∃vs,vs=af ps l:=⟨_,rfl⟩
 have hok0:eP v0 vs:=by
  rw[hv0,hvs0];exact uw hok l
 obtain⟨R1,hR1⟩:∃R1,R1=dH ps l++bT V:=⟨_,rfl⟩;obtain⟨F0,hF0⟩:∃F0,F0=(b,Is O)::(aF pm ps c++bT V):=⟨_,rfl⟩;obtain⟨M,hM⟩:∃M,M=aQ str (ps.map aO) c:=⟨_,rfl⟩;rw[<- hv0,<- hvs0,<- hR1,<- hF0,<- hM]at hT0;have HH:=qqH (And.intro hT0 (And.intro hO (And.intro hM (And.intro hv0 (And.intro hvs0 (And.intro hR1 (And.intro hF0 (And.intro hok0 (And.intro hok (And.intro hl hC))))))))));have HL:=Hq2 (hvs0 ▸ hlen) hus;have HW:=qqH (show IntKind.i64.wrap (used+V.size)=used+V.size from IntWalk.i64_in _ (by omega));clear h hT0 hO hM hv0 hvs0 hR1 hF0 hok0 hok hl hC hus hlen hvs;unfold ee;go_enter Tryz.func84,Tryz.ntmps84;go_wp2_with fail;refine cL [([0,1,2,3,4,5,6,7,8,9,10,11],12,[0,1,2,3,4,5,6,7,8,9,10]),([],13,[0,1,2,3,4]),([],14,[])] [] HM.out (by kernel_rfl) fun W tW=>?_
 simp only[Mix,map_cons,map_nil,nth,QG,QF];have hT:=tW HH.a;clear tW;have g:∀{W:World},W.heap[b]?=some O->W.cell? ⟨b,0,none⟩=some (.map (some pm)):=fun h=>aa (HH.b ▸ h) 0 HH.out.2.2.2.2.2.2.2.2.2.2.c0
 have look:=fun {W:World} (h:W.heap[pm]?=some M) (o:Oper) ho (a:Act) h1 h2=>AF (P:=Tryz.prog) (o:=o) (a:=a) eb (.tmp 14) (.tmp 15) ho Tryz.underlying119 (HH.c ▸ h) HH.out.2.2.2.2.2.2.2.2.1.map (gz W) l h1 h2 HH.out.2.2.2.2.2.2.2.2.2.1
 simp only[cY,<- HH.d]at look;have g0:=g (hT.sat.Q7 (by simp));repeat still_step
 refine cD rfl (look (hT.sat.Q7 (by simp)) _ rfl _ rfl rfl) ?_;simp only[Act.put,QA,QB,QC];repeat still_step
 refine wpStill_nil ?_;refine i6 (.cells #[.pointer (some ⟨V.blk,0,none⟩)] 149) (fun n=>.slice (some ⟨n,0,none⟩) 1 1) (by kernel_rfl) hT fun n W1 hT1=>⟨?_,?_⟩
 ·have g1:=g (hT1.sat.Q7 (by simp));repeat still_step
  exact cD rfl (look (hT1.sat.Q7 (by simp)) _ rfl _ rfl rfl) rfl
 have hn:=aa hT1.sat.Q5 0 rfl
 refine DQ (.tmp 16) (.tmp 18) rfl v0 vs rfl (hT1.drop (H:=ek v0 vs++((b,Is O)::(pm,Is M)::R1)) bS) HH.h (some ⟨n,0,none⟩) 1 1 rfl [V] rfl (fun _=>⟨_,rfl,fun j u hu=>by
  cases j with
  | zero=>simp only[map_cons,getElem?_cons_zero,Option.some.injEq]at hu;rw[<- hu,Addr.add_lit];exact hn
  | succ j=>simp at hu⟩) (by have:=HL.a;simp;omega) (fun v1 W2 h1 h2=>⟨?_,?_⟩)
 ·have g1:=g (h2.sat.Q7 (by simp));repeat still_step
  exact rfl
 refine lw eb (.tmp 9) (.tmp 10) (.tmp 19) rfl Tryz.underlying119 pm (ps.map aO) c (h2.to (H:=(pm,Is (aQ str (ps.map aO) c))::(ek v1 (vs++[V])++(b,Is O)::R1)) (by rw[HH.c];exact ae)) HH.out.2.2.2.2.2.2.2.2.1.map l v1 rfl rfl rfl HH.out.2.2.2.2.2.2.2.2.2.1 (fun W3 h3=>⟨rfl,?_⟩);have HT3:=Hq2 h1 h3;clear hT g look g0 hT1 hn h1 h2 h3;simp only[Act.put,QA,QB,QC];refine wpStill_nil ?_;go_wp2_with fail;refine cL [([0,1,2,3,4,5,6,7,8,9,10],11,[])] [] HM.out (by kernel_rfl) fun W tW=>?_
 simp only[Mix,map_cons,map_nil,nth,QG,QF];have hT:=tW HT3.z;clear tW;have hT1:=hT.to (H:=(b,Is O)::(ek v1 (vs++[V])++(pm,Is (aQ str (gA (ps.map aO) c l v1) (cw (ps.map aO) c l)))::R1)) ae;rw[HH.b]at hT1;have g0:W.cell? ⟨b,5,none⟩=some (.int .i64 used):=aa hT1.sat.Q5 5 HH.out.2.2.2.2.2.2.2.2.2.2.c5;have g1:W.cell? ⟨V.blk,1,none⟩=some (.int .i64 V.size):=aa (hT1.sat.Q7 (b:=V.blk) (o:=dq V) (by rw[HH.f];simp[bT])) 1 rfl;have g2:=HW.out;repeat still_step
 refine wpStill_nil ?_;refine bu 3 (.tmp 30) (.tmp 28) rfl b 5 C ty (.int .i64 (used+V.size)) hT1 rfl rfl (Array.getElem?_eq_some_iff.1 HH.out.2.2.2.2.2.2.2.2.2.2.c5).1 (by kernel_rfl) rfl rfl (fun W4 h4=>⟨rfl,?_⟩);have HT5:=qqH h4;clear hT hT1 g0 g1 g2 h4;refine wpStill_nil ?_;go_wp2_with fail;refine bodyPost_end (results_none rfl _ _ _) rfl ⟨v1,rfl,by rw[<- HH.e];exact HT3.a,?_⟩;rw[<- HH.b,<- HH.g];refine HT5.out.to ?_;have hp:=qS c l v1 V (by rw[<- cE];exact HH.out.2.2.2.2.2.2.2.2.1.map.nodup);rw[<- HH.e,<- HH.f]at hp;unfold aF kh;rw[iE,<- HH.e];have h1:=(Perm.cons (b,Is (.cells (C.setIfInBounds 5 (.int .i64 (used+V.size))) ty (0,0))) (Perm.cons (pm,Is (aQ str (gA (ps.map aO) c l v1) (cw (ps.map aO) c l))) hp)).symm;unfold kh at h1;rw[<- HH.e]at h1;exact Perm.trans ae h1
end
section
open Go.RowKit
def zg(A:AreaL)(w:World)(e:Ending)(w':World):Prop:=e=.returned (.int .i64 ((A.count:Int)*128-A.end_))/\aX w w'
theorem sW(ab d:Nat)(A:AreaL)(w:World)(h:Sat w (aq ab d A))(h1:A.count<=1073741824)(h2:A.end_<=128*A.count):
  Calls Tryz.prog 119 #[.pointer (some ⟨ab,0,none⟩)] w (zg A w):=by
 have hab:=h.Q5;have a2:=aa hab 2 (sw d A);have a3:=aa hab 3 (no d A);have e1:IntKind.i64.wrap ((A.count:Int)*128)=(A.count:Int)*128:=IntWalk.i64_in _ (by omega);have e2:IntKind.i64.wrap ((A.count:Int)*128-(A.end_:Int))=(A.count:Int)*128-(A.end_:Int):=IntWalk.i64_in _ (by omega);clear h hab;go_enter Tryz.func119,Tryz.ntmps119;go_wp2_with fail;go_quiet (fail);go_wp2_with fail;go_ret;exact⟨rfl,(Mods.refl _ w).drewN _⟩
def Ju(b:Bs)(w:World)(e:Ending)(w':World):Prop:=e=.returned (.agg (ay (be (cF 1 b) 4)))/\aX w w'
theorem rJ(a:Option Addr)(cap:Nat)(b:Bs)(w:World)(h:al w a (b.map am))(hl:b.length<=1099511627776):
  Calls Tryz.prog 126 #[.slice a b.length cap] w (Ju b w):=by
 have HS:=qqH (fun W (hW:aX w W)=>jL a cap 1 b W (h.keep hW (fun _ _ _=>id)) hl);have hs:=j9 1 b;obtain⟨s,hse⟩:∃s,s=cF 1 b:=⟨_,rfl⟩;rw[<- hse]at hs;have HE:=qqH hse;clear h hl hse;go_enter Tryz.func126,Tryz.ntmps126;go_wp2_with fail;refine(HS.out _ ((Mods.refl _ w).alloc _)).mono ?_;rintro e w1 ⟨rfl,hs1⟩;rw[<- HE.out];have hn:=hs1.at (aK w (.cells #[.int .u8 0,.int .u8 0,.int .u8 0,.int .u8 0] 251)) id;have hth:=dm hn 0 4 (by simp);obtain⟨q1,q2⟩:=dI hn ((be s 4).map am) (by simp[bE]);have hq:=tt s hs;rw[hq]at q1 q2;have hsz:aX w (w1.setCells w.heap.size 0 [.int .u8 ((s:Int) / 16777216),.int .u8 ((s:Int) / 65536%256),.int .u8 ((s:Int) / 256%256),.int .u8 ((s:Int)%256)]):=(((Mods.refl _ w).alloc _).trans hs1).trans' q2 (fun i hi=>.inr (by omega));have H:=Hq4 hth q1 hsz hq;clear hn hth q1 q2 hs1 hq hsz;go_wp2_with ((refine wpList_store_mid rfl 251 (.tmp 2) (.tmp 17) rfl w.heap.size 0 #[.int .u8 ((s:Int) / 16777216),.int .u8 ((s:Int) / 65536%256),.int .u8 ((s:Int) / 256%256),.int .u8 ((s:Int)%256)] rfl rfl H.a (by kernel_rfl) (by simp[Value.oneCell']) ?_;simp only[Act.put]));refine bodyPost_ret (results_cell_row rfl _ _ w.heap.size 251 _ (0,0) _ rfl H.b Tryz.underlying251 rfl (by kernel_rfl)) rfl ⟨?_,H.c⟩;unfold ay;rw[<- HE.out,H.x]
end
section
open Go.RowKit Go.Maps
open Go.ChangeMaps (setBlock)
def vu(k:Bs):Value:=.agg (ay k)
def Ok4(k:Bs):Prop:=k.length=4
theorem Ii:∀{a b:Bs},a.map am=b.map am->a=b:=by
 intro a;induction a with
 | nil=>intro b h;cases b with
  | nil=>rfl
  | cons y r=>simp at h
 | cons x r ih =>
  intro b h
  cases b with
  | nil=>simp at h
  | cons y q =>
   simp only[map_cons,List.cons.injEq,am,Value.int.injEq,true_and]at h;obtain⟨h1,h2⟩:=h;rw[ih h2,UInt8.toNat_inj.1 (show x.toNat=y.toNat by omega)]
theorem C7:EncOk Tryz.prog 251 vu Ok4 where
 keyed:=Keyed.of_law (deep_law_laid (m:=2) (by kernel_rfl) (by decide) (of_decide_eq_true (by kernel_rfl)) (by kernel_rfl) (by kernel_rfl))
 inj:=fun a b h=>by
  simp only[vu,Value.agg.injEq,ay]at h
  have h2:a.map am=b.map am:=by simpa using h
  exact Ii h2
 key:=fun a ha=>by
  refine⟨.string (keyBytes (a.map fun x=>Lit.int .u8 x.toNat)),?_⟩
  have ht:Tryz.prog.underlying 251=some (.array 4 5):=Tryz.underlying251
  have hc:Tryz.prog.cellsOf 251=4:=by kernel_rfl
  have hk2:Tryz.prog.keyType 251=true:=by kernel_rfl
  have hsz:Tryz.prog.types.size+1=362+1:=by kernel_rfl
  unfold keyOf vu
  rw[ht]
  have ha:a.length=4:=ha
  simp only[hk2,Value.formed,ht,hc,bR,ha,beq_self_eq_true,Bool.and_self,if_true]
  rw[hsz]
  show(Tryz.prog.keyLits (362-1+2) 251 (ay a).toList).map _=_
  rw[show(ay a).toList=a.map am from rfl,pC ht hc _ a ha]
  rfl
abbrev kg:=GE (List (Nat×Nat))
def aM(cm:Nat)(cs:List kg)(c:Nat):HF:=(cm,Is (aQ vu (cs.map aO) c))::gm aU cs
structure ChunksOk (cs:List kg) (c:Nat):Prop where
 map:MapOk Ok4 (cs.map aO) c
 rows:∀p∈cs,cd p.val p.g
def aY(cs:List kg)(k:Bs):List (Nat×Nat):=gOf [] cs k
theorem pu(w:World):(zeroValue 150).run Tryz.prog w=.ok (.slice none 0 0) w:=by kernel_rfl
theorem FM:(Tryz.prog.info? 161).map (fun i=>(i.zero,i.size,i.bytes))=some (some (.agg #[.int .i64 0,.int .i64 0]),2,16):=by kernel_rfl
theorem kF{o:Oper}{a:Act}{w a0:World}{K:Act->World->Prop}{Q:Exit->Act->World->Prop}{F G:HF}(s x:Operand)(hop:o.op=.call { callee:=.builtin .append,args:=#[s,x],argTypes:=#[150,150] })(v:Value)(l:List (Nat×Nat))(hs:a.eval s=v)(hT:Turns F (aU v l++G) a0 w)(hok:cd v l)(sa:Option Addr)(m c:Nat)(hx:a.eval x=.slice sa m c)(r:List (Nat×Nat))(hm:m=r.length)(hc:0<m->∃ad,sa=some ad/\∀j u,(cS r)[j]?=some u->w.cell? (ad.add j)=some u)(hb:l.length+r.length<=1000000)(hk:∀v' w',cd v' (l++r)->Turns F (aU v' (l++r)++G) a0 w'->K (a.put o.dst v') w'):o.wp Tryz.prog a w K Q:=by
 obtain⟨i0,hi0,hz1,hz2,hz3⟩:=info_parts FM;have hpv:cS (l++r)=cS l++cS r:=by simp[cS]
 refine cI s x 150 161 i0 (.agg #[.int .i64 0,.int .i64 0]) 2 16 hop Tryz.underlying150 hi0 hz1 hz2 hz3 rfl (by decide) v l.length (cS l) hs hT hok sa m c hx (cS r) (by rw[gi,hm];omega) hc (fun u hu=>?_) (by unfold maxLen;omega) (by omega) (fun v' w' h1 h2 h3=>?_)
 ·obtain⟨p,_,hp⟩:=mem_flatMap.1 hu;simp only[qV,mem_cons,not_mem_nil,or_false]at hp;rcases hp with rfl|rfl<;>rfl
 ·exact hk v' w' (by unfold cd;rw[length_append,hpv,<- hm];exact h1) (by unfold aU;rw[length_append,hpv,<- hm];exact h2)
def GW(b cm c:Nat)(cs:List kg)(body:Bs)(q:Nat×Nat)(C:Array Value)(ty:TypeId)(sc sb:Int)(w:World)(e:Ending)(w':World):Prop :=
 ∃v',e=.returned (.tuple #[])/\cd v' (aY cs (be (cF 1 body) 4)++[q]) /\
  Turns ((b,Is (.cells C ty (0,0)))::aM cm cs c) ((b,Is (.cells ((C.setIfInBounds 3 (.int .i64 (sc+1))).setIfInBounds 4 (.int .i64 (sb+body.length))) ty (0,0)))::aM cm (ef cs c (be (cF 1 body) 4) v' (aY cs (be (cF 1 body) 4)++[q])) (cw (cs.map aO) c (be (cF 1 body) 4))) w w'
theorem Df{cs:List kg}{c:Nat}(hok:ChunksOk cs c)(k:Bs):cd (eH (.slice none 0 0) cs k) (aY cs k):=by
 unfold eH aY gOf
 cases hf:cs.find? (fun p=>decide (p.key=k))with
 | none=>exact⟨rfl,fun _=>⟨rfl,rfl⟩⟩
 | some p=>exact hok.rows p (mem_of_find?_eq_some hf)
theorem oX(b pm tm cm c:Nat)(sc sb used:Int)(cs:List kg)(body:Bs)(a:Option Addr)(cap:Nat)(q:Nat×Nat)(C:Array Value)(ty:TypeId)(w:World)(h:Sat w ((b,Is (.cells C ty (0,0)))::aM cm cs c))(hC:ContIs C pm tm cm sc sb used)(hok:ChunksOk cs c)(hb:al w a (body.map am))(hlen:(aY cs (be (cF 1 body) 4)).length<=100000)(hbl:body.length<=1000000)(hsc : -4611686018427387904<=sc/\sc<=4611686018427387904)(hsb : -4611686018427387904<=sb/\sb<=4611686018427387904):
  Calls Tryz.prog 83 #[.pointer (some ⟨b,0,none⟩),.slice a body.length cap,.agg #[.int .i64 q.1,.int .i64 q.2]] w (GW b cm c cs body q C ty sc sb w):=by
 obtain⟨k,hk⟩:∃k,k=be (cF 1 body) 4:=⟨_,rfl⟩;have hk4:Ok4 k:=by rw[hk];exact bE _ _
 obtain⟨O,hO⟩:∃O:Obj,O=.cells C ty (0,0):=⟨_,rfl⟩;obtain⟨M,hM⟩:∃M,M=aQ vu (cs.map aO) c:=⟨_,rfl⟩;obtain⟨v0,hv0⟩:∃v0,v0=eH (.slice none 0 0) cs k:=⟨_,rfl⟩;obtain⟨pl,hpl⟩:∃pl,pl=aY cs k:=⟨_,rfl⟩;obtain⟨R1,hR1⟩:∃R1,R1=gm aU (bH cs k):=⟨_,rfl⟩;have hok0:cd v0 pl:=by rw[hv0,hpl];exact Df hok k
 obtain⟨F0,hF0⟩:∃F0,F0=(b,Is O)::aM cm cs c:=⟨_,rfl⟩;rw[<- hO,<- hF0]at h
 have hT0:Turns F0 (aU v0 pl++((b,Is O)::(cm,Is M)::R1)) w w:=by
  refine(Turns.refl h).to ?_;have hp:=uC aU (.slice none 0 0) [] rfl cs k (by rw[<- cE];exact hok.map.nodup);rw[<- hv0,<- hR1]at hp;rw[hF0,hM,hpl];unfold aM aY;exact(Perm.cons _ (Perm.cons _ hp)).trans ae
 have HB:=qqH (fun W (hW:aX w W)=>rJ a cap body W (hb.keep hW (fun _ _ _=>id)) (by omega));have HH:=qqH (And.intro hT0 (And.intro hO (And.intro hM (And.intro hv0 (And.intro hpl (And.intro hR1 (And.intro hF0 (And.intro hok0 (And.intro hok (And.intro hk4 (And.intro hC hk)))))))))));have HL:=qqH (hpl ▸ hk ▸ hlen);clear h hT0 hO hM hv0 hpl hR1 hF0 hok0 hok hk4 hC hb hlen hk;go_enter Tryz.func83,Tryz.ntmps83;go_wp2_with fail;refine(HB.out _ ((Mods.refl _ w).alloc _)).mono ?_;rintro e w1 ⟨rfl,hs1⟩;rw[<- HH.out.2.2.2.2.2.2.2.2.2.2.2];obtain⟨B5,hB5⟩:∃B5,B5=w.heap.size:=⟨_,rfl⟩;obtain⟨B6,hB6⟩:∃B6,B6=w1.heap.size:=⟨_,rfl⟩;obtain⟨PO,hPO⟩:∃PO:Obj,PO=.cells #[.int .i64 q.1,.int .i64 q.2] 161 (0,0):=⟨_,rfl⟩;obtain⟨KO,hKO⟩:∃KO:Obj,KO=.cells (ay k) 251 (0,0):=⟨_,rfl⟩
 have hT1:Turns F0 ((B5,Is PO)::(aU v0 pl++((b,Is O)::(cm,Is M)::R1))) w w1:=by
  rw[hB5,hPO];exact(HH.a.Q8 _).Q9 hs1
 have hk4:k.length=4:=HH.out.2.2.2.2.2.2.2.2.2.1;have hn:=aK w1 (.cells #[.int .u8 0,.int .u8 0,.int .u8 0,.int .u8 0] 251);have hth:(w1.alloc (.cells #[.int .u8 0,.int .u8 0,.int .u8 0,.int .u8 0] 251)).there B6 0 (ay k).size:=by rw[hB6,bR,hk4];exact dm hn 0 4 (by simp)
 obtain⟨q1,q2⟩:=dI hn (k.map am) (by simp[hk4])
 have hT2:Turns F0 (aU v0 pl++((b,Is O)::(cm,Is M)::(B6,Is KO)::(B5,Is PO)::R1)) w ((w1.alloc (.cells #[.int .u8 0,.int .u8 0,.int .u8 0,.int .u8 0] 251)).setCells B6 0 (k.map am)):=by
  have:=(hT1.Q8 (.cells #[.int .u8 0,.int .u8 0,.int .u8 0,.int .u8 0] 251)).Qa (o:=KO) q2 (by rw[hKO];exact q1);rw[<- hB6]at this;exact this.to ae
 have HT2:=Hq6 hT2 hth hPO hKO hk4 hB6;rw[<- hB5];clear hT1 hT2 hth hn q1 q2 hs1 hB5 hPO hKO hk4;go_wp2_with ((rw[<- hB6];refine wpList_store_mid rfl 251 (.tmp 6) (.tmp 8) rfl B6 0 (ay k) rfl rfl HT2.b (by rw[bR,HT2.e];kernel_rfl) (cU k) ?_;simp only[Act.put]));clear hB6;refine cL [([0,1,2,3,4,5],6,[0,1,2,3,4]),([],7,[]),([8,10],9,[10]),([],11,[])] [] HM.out (by kernel_rfl) fun W tW=>?_
 simp only[Mix,map_cons,map_nil,nth,QG,QF];have hT:=tW HT2.a;clear tW;have g:∀{W:World},W.heap[b]?=some O->W.cell? ⟨b,2,none⟩=some (.map (some cm)):=fun h=>aa (HH.b ▸ h) 2 HH.out.2.2.2.2.2.2.2.2.2.2.1.c2
 have L6:∀{W:World},W.heap[B6]?=some KO->W.rangeAt B6 0 (k.map am):=fun h j v hv=>aa (HT2.d ▸ h) (0+j) (by rw[Nat.zero_add];simpa[ay]using hv)
 have K4:(Tryz.prog.info? 251).map (·.size)=some (k.map am).length:=by rw[length_map,HT2.e];kernel_rfl
 have L5:∀{W:World},W.heap[B5]?=some PO->W.rangeAt B5 0 [.int .i64 q.1,.int .i64 q.2]:=fun h j v hv=>aa (HT2.c ▸ h) (0+j) (by rw[Nat.zero_add,<- Array.getElem?_toList];exact hv)
 have g0:=g (hT.sat.Q7 (by simp));repeat still_step
 refine iL 251 (.tmp 6) rfl rfl B6 0 rfl (k.map am) _ (L6 (hT.sat.Q7 (by simp))) Tryz.underlying251 rfl K4 ?_;refine iL 161 (.tmp 5) rfl rfl B5 0 rfl [.int .i64 q.1,.int .i64 q.2] _ (L5 (hT.sat.Q7 (by simp))) Tryz.underlying161 rfl (by kernel_rfl) ?_;refine wpStill_nil (i6 PO (fun n=>.slice (some ⟨n,0,none⟩) 1 1) (by rw[HT2.c];kernel_rfl) hT fun n W1 hT1=>⟨?_,?_⟩)
 ·have g0:=g (hT1.sat.Q7 (by simp));repeat still_step
  exact iL 251 (.tmp 6) rfl rfl B6 0 rfl (k.map am) _ (L6 (hT1.sat.Q7 (by simp))) Tryz.underlying251 rfl K4 rfl
 have hT2:=hT1.to (H:=(cm,Is (aQ vu (cs.map aO) c))::(aU v0 pl++((n,Is PO)::(b,Is O)::(B6,Is KO)::(B5,Is PO)::R1))) (by rw[HH.c];exact ae);refine wpStill_nil (Jl C7 (.tmp 12) (.tmp 13) rfl Tryz.underlying121 cm (cs.map aO) c hT2 HH.out.2.2.2.2.2.2.2.2.1.map (pu _) k rfl rfl HH.out.2.2.2.2.2.2.2.2.2.1 fun W2 hT3=>⟨rfl,?_⟩);rw[cY,<- HH.d];simp only[Act.put,QA,QB,QC];repeat still_step
 have hn:=hT3.sat.Q7 (b:=n) (o:=PO) (by simp);rw[HT2.c]at hn
 refine wpStill_nil (kF (.tmp 14) (.tmp 16) rfl v0 pl rfl (hT3.to (H:=aU v0 pl++((cm,Is (aQ vu (AH (cs.map aO) c k (.slice none 0 0)) (cw (cs.map aO) c k)))::(n,Is PO)::(b,Is O)::(B6,Is KO)::(B5,Is PO)::R1)) ae) HH.h (some ⟨n,0,none⟩) 1 1 rfl [q] rfl (fun _=>⟨_,rfl,fun j u hu=>by
   rw[Addr.add_lit,Nat.zero_add];exact aa hn j (by rw[<- Array.getElem?_toList];exact hu)⟩) (by have:=HL.out;simp;omega) fun v3 W3 h1 hT4=>⟨?_,?_⟩)
 ·repeat still_step
  exact rfl
 refine wpStill_nil (vJ C7 (w0:=w) (.tmp 12) (.tmp 19) (.tmp 18) rfl Tryz.underlying121 cm (cs.map aO) c (HH.c ▸ HH.a.sat.Q7 (by simp)) HH.out.2.2.2.2.2.2.2.2.1.map (pu _) k HH.out.2.2.2.2.2.2.2.2.2.1
  (hT4.to (H:=(cm,Is (aQ vu (AH (cs.map aO) c k (.slice none 0 0)) (cw (cs.map aO) c k)))::(aU v3 (pl++[q])++((n,Is PO)::(b,Is O)::(B6,Is KO)::(B5,Is PO)::R1))) ae) v3 rfl rfl rfl fun W4 hT5=>⟨rfl,?_⟩)
 simp only[Act.put,QA,QB,QC];refine wpStill_nil ?_;have hbo:=hT5.sat.Q7 (b:=b) (o:=O) (by simp);rw[HH.b]at hbo;have b3:W4.cell? ⟨b,3,none⟩=some (.int .i64 sc):=aa hbo 3 HH.out.2.2.2.2.2.2.2.2.2.2.1.c3;have b4:W4.cell? ⟨b,4,none⟩=some (.int .i64 sb):=aa hbo 4 HH.out.2.2.2.2.2.2.2.2.2.2.1.c4;have f3:=bf hbo 3;have f4:=bf hbo 4;have HT3:=Hq3 h1 hT5 hbo;clear hT g L6 K4 L5 g0 hT1 hT2 hT3 hn h1 hT4 hT5 hbo;go_wp2_with fail;refine bodyPost_end (results_none rfl _ _ _) rfl ?_;have s1:=bB HT3.y 3 (.int .i64 (sc+1));have s2:=bB s1 4 (.int .i64 (sb+body.length));have m1:=((Mods.refl (fun k=>k=b) W4).set1 (i:=3) (.int .i64 (sc+1))).set1 (i:=4) (.int .i64 (sb+body.length));have hq:=(HT3.b.to (H:=(b,Is O)::(aU v3 (pl++[q])++((n,Is PO)::(cm,Is (aQ vu (gA (cs.map aO) c k v3) (cw (cs.map aO) c k)))::(B6,Is KO)::(B5,Is PO)::R1))) ae).Qa m1 s2;refine⟨v3,rfl,?_,?_⟩
 ·rw[<- HH.out.2.2.2.2.2.2.2.2.2.2.2,<- HH.e];exact HT3.a
 ·rw[<- HH.out.2.2.2.2.2.2.2.2.2.2.2,<- HH.e,<- HH.b,<- HH.g];have hp:=uB aU cs c k v3 (pl++[q]) (by rw[<- cE];exact HH.out.2.2.2.2.2.2.2.2.1.map.nodup);rw[<- HH.f]at hp;unfold aM;rw[iE];have hd:=hq.drop (H:=(b,Is (.cells ((C.setIfInBounds 3 (.int .i64 (sc+1))).setIfInBounds 4 (.int .i64 (sb+body.length))) ty (0,0)))::(cm,Is (aQ vu (gA (cs.map aO) c k v3) (cw (cs.map aO) c k)))::(aU v3 (pl++[q])++R1)) bS;exact hd.to (Perm.cons _ (Perm.cons _ hp.symm))
end
section
def iC(x:Bs):Bs:=x++ak ((128-x.length%128)%128)
def dj(x:Bs):Bs:=x.drop (128*(x.length / 128))
def bL(x:Bs):Bs:=dj x++ak (128-x.length%128)
theorem fI(x:Bs):(dj x).length=x.length%128:=by simp[dj];omega
theorem kX(x:Bs):(bL x).length=128:=by simp[bL,fI,an];omega
theorem e9(x:Bs):(iC x).length=128*((x.length+127) / 128):=by simp[iC,an];omega
theorem mj(a b:Nat):ak a++ak b=ak (a+b):=by simp[ak,replicate_append_replicate]
theorem vd(n k:Nat):(ak n).drop k=ak (n-k):=by simp[ak]
theorem wQ{x c:Bs}(h:x.length%128+c.length<=128)(h0:0<c.length):
  iC (x++c)=x.take (128*(x.length / 128))++(dj x++c++ak (128-x.length%128-c.length)):=by
 have e:x=x.take (128*(x.length / 128))++dj x:=by simp[dj]
 unfold iC;conv=>lhs;arg 1;arg 1;rw[e]
 have hz:(128-(x++c).length%128)%128=128-x.length%128-c.length:=by
  rw[length_append];omega
 rw[hz];simp[append_assoc]
theorem AX{l s1 s2:Bs}{o k:Nat}(h1:k<=s1.length)(h2:s1.length<=k+s2.length)(hf:o+k+s2.length<=l.length):
  aV (aV l o s1) (o+k) s2=aV l o (s1.take k++s2):=by
 unfold aV;have hl:(l.take o++s1++l.drop (o+s1.length)).length=l.length:=by simp;omega
 have ht:(l.take o++s1++l.drop (o+s1.length)).take (o+k)=l.take o++s1.take k:=by
  rw[append_assoc,take_append,take_append,length_take];rw[show min o l.length=o by omega,take_take,Nat.min_eq_right (by omega),show o+k-o=k by omega,show k-s1.length=0 by omega];simp
 have hd:(l.take o++s1++l.drop (o+s1.length)).drop (o+k+s2.length)=l.drop (o+(s1.take k++s2).length):=by
  rw[append_assoc,drop_append,drop_append,length_take];rw[show min o l.length=o by omega,drop_of_length_le (by simp;omega),drop_of_length_le (by omega),drop_drop];simp only[nil_append,length_append,length_take];congr 1;omega
 rw[ht,hd];simp only[append_assoc]
theorem Dn{l x c:Bs}{o:Nat}(h:x.length%128+c.length<=128)(h0:0<c.length)(hf:o+(iC (x++c)).length<=l.length):
  aV (aV l o (iC x)) (o+128*(x.length / 128)) (dj x++c++ak (128-x.length%128-c.length))=aV l o (iC (x++c)):=by
 have e1:=wQ h h0;have hlen:(dj x++c++ak (128-x.length%128-c.length)).length=128:=by simp[fI,an];omega
 have hp:=e9 x;have hp2:=e9 (x++c);rw[length_append]at hp2;rw[AX (by omega) (by omega) (by omega),e1];congr 2;unfold iC;rw[take_append_of_le_length (by omega)]
theorem AW{l x c:Bs}{o:Nat}(h:x.length<128)(h1:x.length+c.length<=128)(h0:0<c.length):
  aV l o (x++c++ak (128-x.length-c.length))=aV l o (iC (x++c)):=by
 have e1:=wQ (x:=x) (c:=c) (by omega) h0;have e2:x.length / 128=0:=by omega
 have e3:x.length%128=x.length:=by omega
 rw[e1];simp only[dj,e2,e3,Nat.mul_zero,take_zero,drop_zero,nil_append]
theorem Ay{x:Bs}{k:Nat}(h:128*k<=x.length):dj (x.drop (128*k))=dj x:=by
 unfold dj;rw[drop_drop,length_drop];congr 1;omega
theorem Kj{x c:Bs}(h:x.length%128+c.length<=128):aV (bL x) (x.length%128) c=dj x++c++ak (128-x.length%128-c.length):=by
 have hl:=fI x;unfold aV bL;rw[take_left' hl,<- hl,drop_append,drop_of_length_le (by omega),vd];simp only[nil_append];congr 2;omega
theorem BG{x c:Bs}(h:x.length%128+c.length<128):bL (x++c)=dj x++c++ak (128-x.length%128-c.length):=by
 unfold bL dj;have e1:(x++c).length / 128=x.length / 128:=by rw[length_append];omega
 have e2:(x++c).length%128=x.length%128+c.length:=by rw[length_append];omega
 rw[e1,e2,drop_append_of_le_length (by omega)];congr 2;omega
theorem BE{x:Bs}(h:x.length%128=0):bL x=ak 128:=by
 have:dj x=[]:=eq_nil_of_length_eq_zero (by rw[fI,h]);unfold bL;rw[this,h];rfl
theorem JF{l data bj c:Bs}{first q:Nat}(hq:q=(data++bj).length / 128)(h:(data++bj).length%128+c.length<=128)(h0:0<c.length)(hf:128*(first+q)+128<=l.length):
  aV (if bj=[]then l else aV l (128*(first+data.length / 128)) (iC ((data++bj).drop (128*(data.length / 128))))) (128*(first+q)) (dj (data++bj)++c++ak (128-(data++bj).length%128-c.length)) =
   aV l (128*(first+data.length / 128)) (iC ((data++bj++c).drop (128*(data.length / 128)))):=by
 have hx:128*(data.length / 128)<=(data++bj).length:=by rw[length_append];omega
 rw[drop_append_of_le_length (l₁:=data++bj) hx,<- Ay hx];obtain⟨y,hy⟩:∃y,y=(data++bj).drop (128*(data.length / 128)):=⟨_,rfl⟩;have hyl:y.length=(data++bj).length-128*(data.length / 128):=by rw[hy,length_drop]
 have em:(data++bj).length%128=y.length%128:=by omega
 rw[<- hy,em];rw[em]at h;split
 ·rename_i hb;subst hb;have hy1:y.length<128:=by rw[hyl,append_nil];omega
  have hq2:q=data.length / 128:=by rw[hq,append_nil]
  rw[hq2];have e3:y.length%128=y.length:=by omega
  have e4:dj y=y:=by unfold dj;rw[show y.length / 128=0 by omega];rfl
  rw[e3,e4];exact AW hy1 (by omega) h0
 ·have hq2:128*(first+q)=128*(first+data.length / 128)+128*(y.length / 128):=by omega
  rw[hq2];refine Dn h h0 ?_;have:=e9 (y++c);rw[length_append]at this;omega
end
section
open Go.RowKit
theorem zp(d:Nat)(A:AreaL)(o:Nat)(s:Bs)(hs:o+s.length<=A.tail.length):(splice (aE d A).toList (4+o) (s.map am)).toArray=aE d { A with tail:=aV A.tail o s }:=by
 apply Array.ext';rw[cR];show splice _ (4+o) _=_;generalize hh:[Value.pointer (some ⟨d,0,none⟩),Value.int .i64 A.first,Value.int .i64 A.count,Value.int .i64 A.end_]=hd;have hl:hd.length=4:=by rw[<- hh];rfl
 unfold splice;rw[take_append,take_of_length_le (by omega),hl,show 4+o-4=o by omega,take_append_of_le_length (by simp;omega),drop_append,drop_of_length_le (by omega),hl];rw[show 4+o+(s.map am).length-4=o+s.length by simp;omega,drop_append_of_le_length (by simp;omega)];rw[cR];simp[aV,hh]
def lenOf:Value->Nat
 | .slice _ n _=>n
 | _=>0
def BN(ab d:Nat)(A:AreaL)(L:DevL)(data b:Bs)(g off:Nat)(w:World)(v:Value)(wr:World):Prop :=
 ∃(j:Nat) (aj:Option Addr) (cj:Nat) (L':DevL),j<=b.length/\v=.slice aj (b.length-j) cj/\b.length-j<=cj/\cj<=9223372036854775807/\(0<b.length-j->aj=some ⟨g,off+j,none⟩) /\
  Turns (aq ab d A++az d L) (aq ab d { A with end_:=data.length+j,tail:=bL (data++b.take j) }++az d L') w wr/\DevOk L'/\L'.n=L.n /\
  L'.now=(if j=0 then L.now else aV L.now (128*(A.first+data.length / 128)) (iC ((data++b.take j).drop (128*(data.length / 128)))))/\L'.chs.length<=L.chs.length+j
def GL(ab d:Nat)(A:AreaL)(L:DevL)(data b:Bs)(w:World)(e:Ending)(w':World):Prop :=
 e=.returned .nilIface/\∃L',Turns (aq ab d A++az d L) (aq ab d { A with end_:=(data++b).length,tail:=bL (data++b) }++az d L') w w'/\DevOk L'/\L'.n=L.n /\
  L'.now=(if b=[]then L.now else aV L.now (128*(A.first+data.length / 128)) (iC ((data++b).drop (128*(data.length / 128)))))/\L'.chs.length<=L.chs.length+b.length
theorem pv(ab d:Nat)(A:AreaL)(L:DevL)(data b:Bs)(a:Option Addr)(cap:Nat)(w:World)(h:Sat w (aq ab d A++az d L))(hL:DevOk L)(hA:A.first+A.count<=L.n)(hn:L.n<=1073741824)(he:A.end_=data.length)(ht:A.tail=bL data)(hfit:data.length+b.length<=128*A.count)(hb:al w a (b.map am))(hcap:b.length<=cap)(hcap2:cap<=9223372036854775807)(hne:∀x,a=some x->x.block∉dom (aq ab d A++az d L))(hch:L.chs.length+b.length<=137438953472):
  Calls Tryz.prog 129 #[.pointer (some ⟨ab,0,none⟩),.slice a b.length cap] w (GL ab d A L data b w):=by
 obtain⟨g,off,hgo⟩:∃g off,0<b.length->a=some ⟨g,off,none⟩:=by
  rcases Nat.eq_zero_or_pos b.length with h0|h0
  ·exact⟨0,0,fun h=>by omega⟩
  ·obtain⟨g,off,e,_⟩:=hb (by simpa using h0);exact⟨g,off,fun _=>e⟩
 have hst:BN ab d A L data b g off w (.slice a b.length cap) w:=by
  refine⟨0,a,cap,L,Nat.zero_le _,rfl,hcap,hcap2,fun h=>by rw[hgo h];rfl,?_,hL,rfl,by rw[if_pos rfl],Nat.le_add_right _ _⟩;have e:({ A with end_:=data.length+0,tail:=bL (data++b.take 0) }:AreaL)=A:=by rw[take_zero,append_nil,<- ht,Nat.add_zero,<- he]
  rw[e];exact Turns.refl h
 have H:=Hq9 h hA hn hfit hb hne hch hgo hL;have HST:=qqH hst;clear h hL hA hn he ht hfit hb hcap hcap2 hne hch hst hgo;go_enter Tryz.func129,Tryz.ntmps129;go_wp2_with fail;go_loopw [1] (fun v wr=>BN ab d A L data b g off w v wr) (fun v _=>lenOf v)
 case atStart=>exact HST.out
 case round =>
  obtain⟨j,aj,cj,L',hj,rfl,hcj,hcj2,haj,hT,hL',hn',hnow,hch'⟩:=hrel;by_cases hlt:j<b.length
  ·obtain⟨e,hee⟩:∃e,e=data.length+j:=⟨_,rfl⟩;obtain⟨T,hTT⟩:∃T,T=bL (data++b.take j):=⟨_,rfl⟩;rw[<- hee,<- hTT]at hT;have hTl:T.length=128:=by rw[hTT,kX]
   obtain⟨t,htt⟩:∃t,t=e%128:=⟨_,rfl⟩;obtain⟨r,hr⟩:∃r,r=b.length-j:=⟨_,rfl⟩;have hab:=iq hT.sat;have a0:=aa hab 0 (lB d _);have a1:=aa hab 1 (lC d _);have a3:=aa hab 3 (no d _);have f3:=bf hab 3;simp only at a1 a3;have haj:=haj (by omega);subst haj;have hrp:0<r:=by omega
   have het:(e:Int)%128=(t:Int):=by omega
   have ht1:(t:Int)<=128:=by omega
   have ht2:¬t=128:=by omega
   have hal:ab<wr.heap.size:=ac hab;have HT:=Hq8 hT hL' hn' hnow hch' hab hTl hTT;have HE:=Hq3 hee htt hr;have he0:(e:Int)<=1099511627776:=by have:=H.d;have:=H.b;have:=H.c;omega
   rw[<- hr];clear hT hL' hn' hnow hch' hab hTl hTT hee htt hr HST hj hlt;obtain⟨c,hc⟩:∃c,c=(b.drop j).take (min r (128-t)):=⟨_,rfl⟩;have hcl:c.length=min r (128-t):=by rw[hc,length_take,length_drop,<- HE.y];omega
   have hsrc:∀i v,(c.map am)[i]?=some v->wr.cell? ((⟨g,off+j,none⟩:Addr).add i)=some v:=fun i v hv=>by
    have hbw:=H.e.keep (w':=wr) HT.a.mods (fun g' off' e hin=>H.f _ e hin);obtain⟨g',off',e',hcl'⟩:=hbw (by rw[length_map];have:=HE.y;omega);have e2:=H.h (by have:=HE.y;omega);rw[e2]at e';simp only[Option.some.injEq,Addr.mk.injEq,and_true]at e';obtain⟨rfl,rfl⟩:=e';obtain⟨hi,rfl⟩:=List.getElem?_eq_some_iff.1 hv;have hi':i<c.length:=by simpa using hi
    rw[Addr.add_mid,show off+j+i=off+(j+i) by omega];refine(hcl' (j+i) (by rw[length_map];have:=HE.y;omega)).trans ?_;simp[hc]
   have HS8:=qqH (show(Tryz.prog.info? 5).map (·.size)=some 1 by kernel_rfl);have HCP:=Hq3 hc hcl hsrc;clear hc hcl hsrc;go_upto_region 4 with(refine iJ rfl (.tmp 20) (.tmp 21) 38 38 rfl 5 Tryz.underlying38 HS8.out _ _ _ _ _ _ rfl rfl ab (4+t) (aE d { A with end_:=e,tail:=T }).toList 157 (by rw[Array.toArray_toList];exact HT.f) (c.map am) (by rw[length_map];exact HCP.b) (fun _=>⟨rfl,_,rfl,HCP.y⟩) (by rw[length_map,HCP.b,Array.length_toList,jW];simp only;rw[HT.g];omega) (dA _) ?_;intro w4 hh hm4 hz4;rw[zp d _ t c (by simp only;rw[HT.g,HCP.b];omega)]at hh;have H4:=Hq3 hh hm4 hz4;clear hh hm4 hz4);obtain⟨T2,hT2⟩:∃T2,T2=aV T t c:=⟨_,rfl⟩;obtain⟨q,hq⟩:∃q,q=e / 128:=⟨_,rfl⟩;have hab4:w4.heap[ab]?=some (.cells (aE d { A with end_:=e,tail:=T2 }) 157 (0,0)):=by rw[hT2];exact H4.a
   have hT4:Turns (aq ab d A++az d L) (aq ab d { A with end_:=e,tail:=T2 }++az d L') w w4:=HT.a.trans (lh HT.a.sat H4.b hab4 rfl rfl);have hT2l:T2.length=128:=by rw[hT2,jF];exact HT.g;rw[HT.g,HCP.b];omega
   have b0:=aa hab4 0 (lB d _);have b1:=aa hab4 1 (lC d _);have b3:=aa hab4 3 (no d _);simp only at b1 b3;have hrT:=oD hab4;simp only at hrT;have hfq:A.first+q<L'.n:=by have:=H.d;have:=H.b;have:=HT.c;have:=HE.a;have:=HE.y;omega
   have HQ2:=qqH (show wrap64 ((A.first:Int)+(e:Int) / 128)=(A.first:Int)+(q:Int) by rw[show(e:Int) / 128=(q:Int) by omega];exact IntWalk.wrap64_in _ (by have:=H.c;have:=HT.c;omega))
   have HWr:Hid (∀W,Sat W (az d L')->Calls Tryz.prog 18 #[.pointer (some ⟨d,0,none⟩),.int .i64 ((A.first:Int)+q),.agg (T2.map am).toArray] W (jM d L' (A.first+q) T2 W)):=qqH (fun W hW=>by
    have:=jj d L' (A.first+q) T2 W hW HT.b hfq hT2l (by have:=HT.e;have:=H.g;have:=HE.y;omega);exact this)
   have H5:=Hq7 hT4 hT2l hrT hT2 hq hfq hab4;clear hT4 hT2l hrT hT2 hq hfq hab4 a0 a1 a3 f3 haj hal;refine wp_region_still_tail 18 HM.out (by kernel_rfl) ?_;simp only[QE,take_zero,QD,drop_zero];iterate 17 still_step
   refine cC rfl 43 (.tmp 39) rfl ab 4 rfl (T2.map am) _ H5.c Tryz.underlying43 rfl (ig H5.b) ?_;refine wpStill_nil ?_;simp only[Act.put,QA,QB,QC];change wpList _ _ _ _ _ w4.drew;go_wp2_with fail;rw[HQ2.out];refine(HWr.out _ (by exact(H5.a.drew.sat.right))).mono ?_;rintro ev w5 ⟨rfl,L2,hW,hL2,hn2,hnow2,hch2⟩;have hx:(data++b.take j).length=e:=by rw[length_append,length_take];have:=HE.a;have:=HE.y;omega
   have hbt:b.take (j+c.length)=b.take j++c:=by
    rw[take_add];congr 1;rw[HCP.a,length_take,length_drop];rw[take_eq_take_iff,length_drop];omega
   have hT2e:T2=dj (data++b.take j)++c++ak (128-e%128-c.length):=by
    rw[H5.d,HT.t,HE.b,<- hx];exact Kj (by have:=HCP.b;have:=HE.b;omega)
   have hnow3:L2.now=aV L.now (128*(A.first+data.length / 128)) (iC ((data++b.take (j+c.length)).drop (128*(data.length / 128)))):=by
    rw[hnow2,hT2e,hbt,<- append_assoc,<- JF (l:=L.now) (first:=A.first) (q:=q) (bj:=b.take j) (by rw[hx];exact H5.e) (by rw[hx];have:=HCP.b;have:=HE.b;omega) (by have:=HCP.b;have:=HE.b;omega) ?_,hx]
    ·congr 1;rw[HT.d];by_cases hj0:j=0
     ·subst hj0;simp
     ·rw[if_neg hj0,if_neg (fun h=>hj0 (by have h1:=congrArg length h;rw[length_take]at h1;have:=HE.y;simp only[length_nil]at h1;omega))]
    ·rw[H.out.2.2.2.2.2.2.2.2.nowL];have:=H5.f;have:=HT.c;omega
   have hT5:Turns (aq ab d A++az d L) (aq ab d { A with end_:=e,tail:=T2 }++az d L2) w w5:=(H5.a.drew.step ae hW).to perm_append_comm;have hab5:=iq hT5.sat;have b3:=aa hab5 3 (no d _);have f3:=bf hab5 3;simp only at b3
   have hset:(w5.setCell ⟨ab,3,none⟩ (.int .i64 ((e:Int)+(c.length:Int)))).heap[ab]?=some (.cells (aE d { A with end_:=e+c.length,tail:=T2 }) 157 (0,0)):=by
    rw[bB hab5 3,show((e:Int)+(c.length:Int))=((e+c.length:Nat):Int) by omega,tf]
   have hT6:Turns (aq ab d A++az d L) (aq ab d { A with end_:=e+c.length,tail:=T2 }++az d L2) w (w5.setCell ⟨ab,3,none⟩ (.int .i64 ((e:Int)+(c.length:Int)))) :=
    hT5.trans (lh hT5.sat ((Mods.refl (fun k=>k=ab) w5).set1 (i:=3) _) hset rfl rfl)
   have hth:(w5.setCell ⟨ab,3,none⟩ (.int .i64 ((e:Int)+(c.length:Int)))).there ab 4 (ay (ak 128)).size:=by
    rw[bR,an];exact dm hset 4 128 (by rw[jW];simp only;rw[H5.b];omega)
   have hcm:c.length<=r:=by have:=HCP.b;omega
   have hcr:r<=cj:=by rw[HE.y];exact hcj
   have hc0:(0:Int)<=(c.length:Int):=by omega
   have hcr2:(c.length:Int)<=(r:Int):=by omega
   have hcr3:(r:Int)<=(cj:Int):=by omega
   have HN3:=Hq7 hL2 (hn2.trans HT.c) hnow3 hch2 hx hbt hT2e;have H6:=Hq3 hT6 hset hth;clear hL2 hn2 hnow3 hch2 hx hbt hT2e hT5 hab5 hT6 hset hth hW hnow2 hcj hcm hcr
   have hrel:∀(W:World) (tl:Bs) (aj2:Option Addr) (n2 cj2:Nat),n2=r-c.length->Turns (aq ab d A++az d L) (aq ab d { A with end_:=e+c.length,tail:=tl }++az d L2) w W->tl=bL (data++b.take (j+c.length))->r-c.length<=cj2->cj2<=9223372036854775807->(0<r-c.length->aj2=some ⟨g,off+j+c.length,none⟩) ->
     BN ab d A L data b g off w (.slice aj2 n2 cj2) W:=fun W tl aj2 n2 cj2 hn2 hTW htl h1 h2 h3=>by
    subst hn2;subst htl;refine⟨j+c.length,aj2,cj2,L2,?_,?_,?_,h2,?_,?_,HN3.a,HN3.b,?_,?_⟩
    ·have:=HCP.b;have:=HE.y;omega
    ·rw[show b.length-(j+c.length)=r-c.length by have:=HE.y;omega]
    ·have:=HE.y;omega
    ·intro h4;rw[h3 (by have:=HE.y;omega),Nat.add_assoc]
    ·rw[show data.length+(j+c.length)=e+c.length by have:=HE.a;omega];exact hTW
    ·rw[if_neg (by have:=HCP.b;omega)];exact HN3.c
    ·have:=HN3.d;have:=HT.e;have:=HCP.b;omega
   have hlen2:(data++b.take (j+c.length)).length=e+c.length:=by rw[HN3.f,<- append_assoc,length_append,HN3.e]
   have hc0p:0<c.length:=by have:=HCP.b;omega
   have hc128:(c.length:Int)<=128:=by have:=HCP.b;omega
   by_cases hfull:t+c.length=128
   ·have hz:((e:Int)+(c.length:Int))%128=0:=by omega
    have htf:=BE (x:=data++b.take (j+c.length)) (by rw[hlen2];omega);have hsz3:(aE d { A with end_:=e+c.length,tail:=T2 }).toList.length=133:=by rw[Array.length_toList,jW];simp only;rw[H5.b]
    obtain⟨q1,q2⟩:=fm (C:=(aE d { A with end_:=e+c.length,tail:=T2 }).toList) (by rw[Array.toArray_toList];exact H6.b) 4 ((ak 128).map am) (by rw[length_map,an,hsz3];omega);rw[qB d { A with end_:=e+c.length,tail:=T2 } (ak 128) (by rw[an];simp only;rw[H5.b];omega)]at q1;have hp0:aV T2 0 (ak 128)=ak 128:=by unfold aV;rw[take_zero,nil_append,drop_of_length_le (by rw[an,H5.b];omega),append_nil]
    simp only[hp0]at q1;have hT7:=H6.a.trans (lh H6.a.sat q2 q1 rfl rfl);have HZ:=qqH nM;have HX:=Hq4 hT7 htf q1 hrel;clear hT7 htf q1 q2 hp0 hlen2 hrel;by_cases hcc:cj=c.length
    ·obtain rfl:r=c.length:=by omega
     subst hcc;go_wp2_with (first|(refine bU rfl 43 #[] rfl (ay (ak 128)) HZ.out ?_)|(refine wpList_store_mid rfl 43 (.tmp 65) (.tmp 63) rfl ab 4 (ay (ak 128)) rfl rfl H6.y (ii (an 128)) (cU _) ?_;simp only[Act.put]))
     all_goals
      go_roundw
      case rel=>exact HX.x _ _ (some ⟨g,off+j,none⟩) 0 0 (by omega) HX.a HX.b.symm (by omega) (by omega) (by omega)
      case measure=>simp[lenOf];omega
    ·go_wp2_with (first|(refine bU rfl 43 #[] rfl (ay (ak 128)) HZ.out ?_)|(refine wpList_store_mid rfl 43 (.tmp 65) (.tmp 63) rfl ab 4 (ay (ak 128)) rfl rfl H6.y (ii (an 128)) (cU _) ?_;simp only[Act.put]))
     all_goals
      go_roundw
      case rel=>exact HX.x _ _ (some ⟨g,off+j+c.length,none⟩) (r-c.length) (cj-c.length) rfl HX.a HX.b.symm (by omega) (by omega) (fun _=>rfl)
      case measure=>simp[lenOf];omega
   ·have hz:¬((e:Int)+(c.length:Int))%128=0:=by have:=HCP.b;omega
    have htn:T2=bL (data++b.take (j+c.length)):=by
     rw[HN3.u,HN3.f,<- append_assoc,BG (by rw[HN3.e];have:=HCP.b;omega),HN3.e]
    have HX:=Hq2 htn hrel;clear htn hlen2 hrel;by_cases hcc:cj=c.length
    ·obtain rfl:r=c.length:=by omega
     subst hcc;go_wp2_with fail
     all_goals
      go_roundw
      case rel=>exact HX.z _ _ (some ⟨g,off+j,none⟩) 0 0 (by omega) H6.a HX.a (by omega) (by omega) (by omega)
      case measure=>simp[lenOf];omega
    ·go_wp2_with fail
     all_goals
      go_roundw
      case rel=>exact HX.z _ _ (some ⟨g,off+j+c.length,none⟩) (r-c.length) (cj-c.length) rfl H6.a HX.a (by omega) (by omega) (fun _=>rfl)
      case measure=>simp[lenOf];omega
  ·obtain rfl:j=b.length:=by omega
   have HR:=Hq5 hT hL' hn' hnow hch';clear hT hL' hn' hnow hch' haj HST;simp only[Nat.sub_self];go_wp2_with fail;go_ret;refine⟨rfl,L',?_,HR.b,HR.c,?_,HR.w⟩
   ·have:=HR.a;rw[take_length]at this;rw[length_append];exact this
   ·rw[HR.d,take_length];rcases b with _|⟨x,r⟩
    ·rfl
    ·simp
def eB(l:Bs)(first count:Nat)(data:Bs):Prop:=au l first count=data++ak (128*count-data.length)/\data.length<=128*count
theorem Dm{l s:Bs}{a o:Nat}(h:a+o+s.length<=l.length):(aV l (a+o) s).drop a=aV (l.drop a) o s:=by
 unfold aV;rw[append_assoc,drop_append_of_le_length (by rw[length_take];omega),drop_take,drop_drop,show a+o-a=o by omega,append_assoc,show a+(o+s.length)=a+o+s.length by omega]
theorem Dq{l s:Bs}{o n:Nat}(h:o+s.length<=n)(hn:n<=l.length):(aV l o s).take n=aV (l.take n) o s:=by
 unfold aV;rw[take_append,take_of_length_le (by simp;omega),take_take,Nat.min_eq_left (by omega),drop_take];congr 2;simp;omega
theorem pY{l s:Bs}{first count q:Nat}(h:128*q+s.length<=128*count)(hl:128*(first+count)<=l.length):au (aV l (128*(first+q)) s) first count=aV (au l first count) (128*q) s:=by
 unfold au;rw[Nat.mul_add,Dm (by omega),Dq h (by rw[length_drop];omega)]
theorem jZ{l s:Bs}{first count q f2 c2:Nat}(h:128*q+s.length<=128*count)(hl:128*(first+count)<=l.length)(hd:f2+c2<=first\/first+count<=f2):au (aV l (128*(first+q)) s) f2 c2=au l f2 c2:=by
 unfold au aV;rcases hd with hd|hd
 ·apply ext_getElem?;intro i;rw[getElem?_take,getElem?_take];split
  ·rw[getElem?_drop,getElem?_drop,append_assoc,getElem?_append_left (by rw[length_take];omega),getElem?_take,if_pos (by omega)]
  ·rfl
 ·congr 1;rw[drop_append,drop_of_length_le (by simp;omega),nil_append,drop_drop];congr 1;simp only[length_append,length_take];omega
theorem CJ{l:Bs}{first count:Nat}{data b:Bs}(h:eB l first count data)(hl:128*(first+count)<=l.length)(hfit:data.length+b.length<=128*count)(hb:b≠[]):
  eB (aV l (128*(first+data.length / 128)) (iC ((data++b).drop (128*(data.length / 128))))) first count (data++b):=by
 have hbl:0<b.length:=length_pos_iff.2 hb;have hdl:((data++b).drop (128*(data.length / 128))).length=data.length%128+b.length:=by rw[length_drop,length_append];omega
 have hpl:=e9 ((data++b).drop (128*(data.length / 128)));rw[hdl]at hpl;refine⟨?_,by rw[length_append];exact hfit⟩;rw[pY (by omega) hl,h.1];unfold aV;rw[hpl];have hd:(data++b).drop (128*(data.length / 128))=dj data++b:=drop_append_of_le_length (by omega);have e:data=data.take (128*(data.length / 128))++dj data:=by simp[dj]
 rw[hd,take_append_of_le_length (by omega),drop_append (l₁:=data),drop_of_length_le (by omega),nil_append,vd];unfold iC;rw[length_append,fI];simp only[append_assoc];rw[mj,<- append_assoc (data.take _),<- e,length_append];congr 3;omega
theorem CI{L L':DevL}{A:AreaL}{data b:Bs}(h:eB L.now A.first A.count data)(hl:L.now.length=128*L.n)(hA:A.first+A.count<=L.n)(hfit:data.length+b.length<=128*A.count)(hn:L'.now=(if b=[]then L.now else aV L.now (128*(A.first+data.length / 128)) (iC ((data++b).drop (128*(data.length / 128)))))):
  eB L'.now A.first A.count (data++b)/\∀f2 c2,(f2+c2<=A.first\/A.first+A.count<=f2)->au L'.now f2 c2=au L.now f2 c2:=by
 by_cases hb:b=[]
 ·subst hb;rw[if_pos rfl]at hn;rw[hn];exact⟨by rw[append_nil];exact h,fun _ _ _=>rfl⟩
 ·rw[if_neg hb]at hn;rw[hn];refine⟨CJ h (by omega) hfit hb,fun f2 c2 hd=>jZ ?_ (by omega) hd⟩;have hdl:((data++b).drop (128*(data.length / 128))).length=data.length%128+b.length:=by rw[length_drop,length_append];omega
  rw[e9,hdl];omega
def LI(D:List Nat)(w:World)(v:Value)(l:Bs):Prop:=∃a cap,v=.slice a l.length cap/\l.length<=cap/\cap<=9223372036854775807/\al w a (l.map am)/\∀x,a=some x->x.block∉D/\x.block<w.heap.size
def fM(rs:List Bs):Nat:=(rs.map length).sum
theorem kD(rs:List Bs):rs.flatten.length=fM rs:=by simp[fM,length_flatten]
theorem mW{rs:List Bs}{k:Nat}(h:k<rs.length):fM (rs.take (k+1))=fM (rs.take k)+rs[k].length:=by
 unfold fM;rw[QH h,map_append,sum_append];rfl
theorem nL(rs:List Bs)(k:Nat):fM (rs.take k)<=fM rs:=by
 unfold fM;have:rs.map length=(rs.take k).map length++(rs.drop k).map length:=by rw[<- map_append,take_append_drop]
 rw[this,sum_append];omega
def Jv(rs:List Bs)(w:World)(n i:Value)(wr:World):Prop:=∃k:Nat,k<=rs.length/\i=.int .i64 k/\n=.int .i64 (fM (rs.take k))/\aX w wr
def yP(ab d:Nat)(A:AreaL)(L:DevL)(data b:Bs)(w w':World):Prop :=
 ∃L',Turns (aq ab d A++az d L) (aq ab d { A with end_:=(data++b).length,tail:=bL (data++b) }++az d L') w w'/\DevOk L'/\L'.n=L.n/\eB L'.now A.first A.count (data++b) /\
  (∀f2 c2,(f2+c2<=A.first\/A.first+A.count<=f2)->au L'.now f2 c2=au L.now f2 c2)/\L'.chs.length<=L.chs.length+b.length
def Lz(ab d:Nat)(A:AreaL)(L:DevL)(data:Bs)(rs:List Bs)(w:World)(i:Value)(wr:World):Prop:=∃k:Nat,k<=rs.length/\i=.int .i64 k/\yP ab d A L data (rs.take k).flatten w wr
def BP(ab d:Nat)(A:AreaL)(L:DevL)(data:Bs)(rs:List Bs)(w:World)(e:Ending)(w':World):Prop :=
 (128*A.count<data.length+fM rs/\e=.returned (cO 8)/\aX w w')\/(data.length+fM rs<=128*A.count/\e=.returned .nilIface/\yP ab d A L data rs.flatten w w')
theorem pJ(a:Nat)(X:ArchL)(ab d:Nat)(hab:ab=X.ab)(A:AreaL)(L:DevL)(data:Bs)(rs:List Bs)(rvs:List Value)(sl:Option Addr)(cap:Nat)(w:World)(h:Sat w ((a,Is (aH X))::(aq ab d A++az d L)))(hbr:X.broken=.nilIface)(hL:DevOk L)(hA:A.first+A.count<=L.n)(hn:L.n<=1073741824)(he:A.end_=data.length)(ht:A.tail=bL data)(hd:eB L.now A.first A.count data)(hlen:rvs.length=rs.length)(hl:rs.length<=1000000)(hs:fM rs<=1099511627776)(hch:L.chs.length+fM rs<=137438953472)(hrv:al w sl rvs)(hsl:∀x,sl=some x->x.block∉dom (aq ab d A++az d L))(hr:∀k (h1:k<rvs.length) (h2:k<rs.length),LI (dom (aq ab d A++az d L)) w rvs[k] rs[k]):
  Calls Tryz.prog 82 #[.pointer (some ⟨a,0,none⟩),.slice sl rs.length cap] w (BP ab d A L data rs w):=by
 have hao:=h.Q5;have a11:w.cell? ⟨a,11,none⟩=some .nilIface:=by rw[<- hbr];exact aa hao 11 rfl
 have a7:w.cell? ⟨a,7,none⟩=some (.pointer (some ⟨ab,0,none⟩)):=by rw[hab];exact aa hao 7 rfl
 have hal:=ac hao;have HAB:=qqH hab;have H:=qqH (And.intro h (And.intro hL (And.intro hA (And.intro hn (And.intro he (And.intro ht (And.intro hd (And.intro hrv (And.intro hsl (And.intro hr (And.intro hch (And.intro hlen hao))))))))))));clear h hL hA hn he ht hd hrv hsl hr hch hao hbr hab;go_enter Tryz.func82,Tryz.ntmps82;go_wp2_with fail;go_loopw [5,22] (fun n i wr=>Jv rs w n i wr) (fun _ i _=>rs.length-(intOf i).toNat)
 case atStart=>exact⟨0,Nat.zero_le _,rfl,rfl,Mods.refl _ _⟩
 case round =>
  obtain⟨k,hk,rfl,rfl,hs1⟩:=hrel;have HS:=qqH hs1;by_cases hlt:k<rs.length
  ·obtain⟨g,off,hg,hcell⟩:=H.h.keep hs1 (fun _ _ _=>id) (by have:=H.out.2.2.2.2.2.2.2.2.2.2.2.1;omega);have hlt2:k<rvs.length:=by have:=H.out.2.2.2.2.2.2.2.2.2.2.2.1;omega
   obtain⟨ra,rc,hrv,-⟩:=H.out.2.2.2.2.2.2.2.2.2.1 k hlt2 hlt;have hck:wr.cell? ⟨g,off+k,none⟩=some (.slice ra rs[k].length rc):=by rw[hcell k hlt2,hrv]
   have htk:=mW hlt;obtain⟨m,hm⟩:∃m,m=rs[k].length:=⟨_,rfl⟩;rw[<- hm]at hck htk;obtain⟨n,hn⟩:∃n,n=fM (rs.take k):=⟨_,rfl⟩;rw[<- hn]at htk ⊢;have hb:n+m<=1099511627776:=by have:=nL rs (k+1);omega
   subst hg;have HK:=qqH htk;clear hcell hrv htk hm hn hs1;go_wp2_with fail;go_roundw
   case rel=>exact⟨k+1,by omega,by go_num,by rw[HK.out];go_num,HS.out⟩
   case measure=>simp[intOf];omega
  ·obtain rfl:k=rs.length:=by omega
   rw[take_length];have b7:wr.cell? ⟨a,7,none⟩=some (.pointer (some ⟨ab,0,none⟩)):=g8 hs1 a7;have hal2:a<wr.heap.size:=Nat.lt_of_lt_of_le hal hs1.size;have HR:=qqH (sW ab d A wr ((H.a.tail.left).same hs1) (by have:=H.c;have:=H.d;omega) (by rw[H.e];exact H.g.2));obtain⟨n,hn⟩:∃n,n=fM rs:=⟨_,rfl⟩;rw[<- hn]at hs ⊢;have HN:=qqH hn;clear hn hs1;go_wp2_with fail;refine HR.out.mono ?_;rintro e w2 ⟨rfl,hs2⟩;have HS2:=qqH (HS.out.trans hs2);have b7:w2.cell? ⟨a,7,none⟩=some (.pointer (some ⟨ab,0,none⟩)):=g8 hs2 b7;have hal2:a<w2.heap.size:=Nat.lt_of_lt_of_le hal2 hs2.size;clear hs2 HS HR;obtain⟨rm,hrm⟩:∃rm:Int,rm=(A.count:Int)*128-A.end_:=⟨_,rfl⟩;rw[<- hrm];by_cases hfit:data.length+n<=128*A.count
   ·have hf:¬rm<(n:Int):=by have:=H.e;omega
    have HF1:=Hq2 hrm hfit;clear hrm hfit;go_wp2_with fail
    have hst:yP ab d A L data (rs.take 0).flatten w w2:=by
     have e:({ A with end_:=(data++(rs.take 0).flatten).length,tail:=bL (data++(rs.take 0).flatten) }:AreaL)=A:=by simp[<- H.e,<- H.f]
     refine⟨L,?_,H.b,rfl,by simpa using H.g,fun _ _ _=>rfl,by simp⟩;rw[e];exact Turns.same H.a.tail HS2.out
    have HST:=qqH hst;clear hst;go_loopw [41] (fun i wr=>Lz ab d A L data rs w i wr) (fun i _=>rs.length-(intOf i).toNat)
    case atStart=>exact⟨0,Nat.zero_le _,rfl,HST.out⟩
    case round =>
     obtain⟨k,hk,rfl,hm⟩:=hrel;have HMd:=qqH hm;clear hm;by_cases hlt:k<rs.length
     ·obtain⟨L',hT,hL',hn',hdat,hoth,hch'⟩:=HMd.out;have hlt2:k<rvs.length:=by have:=H.out.2.2.2.2.2.2.2.2.2.2.2.1;omega
      obtain⟨g,off,hg,hcell⟩:=(H.h.Qc hT H.out.2.2.2.2.2.2.2.2.1) (by omega);obtain⟨ra,rc,hrv,hrc1,hrc2,hrcell,hrne⟩:=H.out.2.2.2.2.2.2.2.2.2.1 k hlt2 hlt;have hao2:=hT.old H.out.2.2.2.2.2.2.2.2.2.2.2.2 H.a.notMem
      have c7:wr.cell? ⟨a,7,none⟩=some (.pointer (some ⟨ab,0,none⟩)):=by
       rw[HAB.out];exact aa hao2 7 rfl
      have hck:wr.cell? ⟨g,off+k,none⟩=some (.slice ra rs[k].length rc):=by rw[hcell k hlt2,hrv]
      have hpre:data.length+(rs.take k).flatten.length+rs[k].length<=128*A.count:=by
       have h1:=mW hlt;have h2:=nL rs (k+1);have h3:=HN.out;have h4:=HF1.z;rw[kD];omega
      have hsl2:=nL rs k
      have hAp:=pv ab d { A with end_:=(data++(rs.take k).flatten).length,tail:=bL (data++(rs.take k).flatten) } L' (data++(rs.take k).flatten) rs[k] ra rc wr hT.sat hL' (by rw[hn'];exact H.c) (by rw[hn'];exact H.d) rfl rfl
       (by rw[length_append];exact hpre) (hrcell.Qc hT (fun x hx=>(hrne x hx).1)) hrc1 hrc2
       (fun x hx hin=>by
        rcases hT.fresh _ hin with h'|h'
        ·exact(hrne x hx).1 h'
        ·have:=(hrne x hx).2;omega)
       (by have h1:=mW hlt;have h2:=nL rs (k+1);have h3:=H.out.2.2.2.2.2.2.2.2.2.2.1;rw[kD]at hch';omega)
      have hAp2:∃Pq:Ending->World->Prop,Calls Tryz.prog 129 #[.pointer (some ⟨ab,0,none⟩),.slice ra rs[k].length rc] wr Pq/\∀e W,Pq e W->e=.returned .nilIface/\yP ab d A L data (rs.take (k+1)).flatten w W:=by
       refine⟨_,hAp,?_⟩;rintro e0 W ⟨he0,L2,hT2,hL2,hn2,hnow2,hch2⟩;have e:(rs.take (k+1)).flatten=(rs.take k).flatten++rs[k]:=by rw[QH hlt,flatten_append,flatten_singleton]
       rw[e];unfold yP;rw[<- append_assoc];obtain⟨d1,d2⟩:=CI (A:=A) hdat hL'.nowL (by rw[hn'];exact H.c) (by rw[length_append];exact hpre) hnow2;exact⟨he0,L2,hT.trans hT2,hL2,hn2.trans hn',d1,fun f2 c2 hh=>(d2 f2 c2 hh).trans (hoth f2 c2 hh),by rw[length_append];omega⟩
      obtain⟨Pq,hq1,hq2⟩:=hAp2;have HAp:=qqH hq1;have HNX:=qqH hq2;clear hq1 hq2;obtain⟨m,hm⟩:∃m,m=rs[k].length:=⟨_,rfl⟩;rw[<- hm]at hck HAp;have HM2:=qqH hm;clear hm;subst hg;have hal3:a<wr.heap.size:=ac hao2;clear hcell hrv hrc1 hrc2 hrcell hrne hT hL' hn' hdat hoth hch' hao2 hpre hAp hsl2 b7 hal2;go_wp2_with fail;refine HAp.out.mono ?_;intro e w5 hp5;obtain⟨rfl,hr5⟩:=HNX.out e w5 hp5;have HR5:=qqH hr5;clear hp5 hr5;go_wp2_with fail;go_roundw
      case rel=>exact⟨k+1,by omega,by go_num,HR5.out⟩
      case measure=>simp[intOf];omega
     ·obtain rfl:k=rs.length:=by omega
      go_wp2_with fail;refine bodyPost_end (results_tmp rfl _ _ _) rfl ?_;refine .inr ⟨by rw[<- HN.out];exact HF1.z,rfl,?_⟩;have:=HMd.out;rwa [take_length]at this
   ·have hf:rm<(n:Int):=by have:=H.e;omega
    have HF1:=Hq2 hrm hfit;clear hrm hfit;go_wp2_with fail;go_ret;refine .inl ⟨by rw[<- HN.out];have:=HF1.z;omega,rfl,HS2.out⟩
end
section
open Go.RowKit Go.Maps
theorem jN{w:World}{sl:Option Addr}{l:Bs}(cap:Nat)(h:al w sl (l.map am)):(convert 38 9 (.slice sl l.length cap)).run Tryz.prog w=.ok (str l) w:=by
 by_cases h0:l=[]
 ·subst h0
  cases sl with
  | none=>exact run_convert_bytes_nil w 38 5 Tryz.underlying38 Tryz.underlying5 _ _ _ Tryz.underlying9
  | some x =>
   rw[run_convert_bytes_string w 38 9 5 _ _ _ Tryz.underlying38 Tryz.underlying5 Tryz.underlying9];simp[Conv.bytesToString,loadCells,loadCellsFrom,str];try rfl
 ·have hp:0<(l.map am).length:=by simpa using length_pos_iff.2 h0
  obtain⟨g,off,rfl,hc⟩:=h hp
  have:=run_convert_bytes_arg (P:=Tryz.prog) w 38 5 Tryz.underlying38 Tryz.underlying5 g off l.length cap (l.map fun x=>(x.toNat:Int)) (by simp) (fun i hi=>by
   rw[hc i (by simpa using hi)];simp[am,getD,hi]) 9 Tryz.underlying9
  have e:strOfNums (l.map fun x=>(x.toNat:Int))=⟨l.toArray⟩:=by
   unfold strOfNums;rw[map_map];have:(fun x:UInt8=>x)=(fun n:Int=>UInt8.ofNat n.toNat) ∘ fun x:UInt8=>(x.toNat:Int):=by funext x;simp
   rw[<- this,map_id']
  rw[this,e]
def my(H:Bs)(p:Nat×Nat)(b:Bs):Prop:=p.2=b.length/\ly H p.1 b
def EW(ab d:Nat)(A:AreaL)(L:DevL)(R0:HF)(pl:List (Nat×Nat))(b:Bs)(w:World)(e:Ending)(w':World):Prop :=
 (∃sp,AreaOk { A with spare:=sp }/\Turns (aq ab d A++R0) (aq ab d { A with spare:=sp }++R0) w w') /\
 (
  (∃p∈pl,my (au L.now A.first A.count) p b/\e=.returned (.tuple #[.agg #[.int .i64 p.1,.int .i64 p.2],.bool true,.nilIface])) \/
  ((∀p∈pl,¬my (au L.now A.first A.count) p b)/\e=.returned (.tuple #[.agg #[.int .i64 0,.int .i64 0],.bool false,.nilIface])))
theorem mD{H:Bs}{at_:Nat}{a b:Bs}(ha:ly H at_ a)(hb:ly H at_ b)(h:a.length=b.length):a=b:=by
 have h1:=ha.2;have h2:=hb.2;rw[h]at h1;rw[h1]at h2;simpa using h2
theorem zH{w:World}{cm c:Nat}{cs:List kg}(h:Sat w (aM cm cs c))(hok:ChunksOk cs c)(k:Bs):∃sl cap,eH (.slice none 0 0) cs k=.slice sl (aY cs k).length cap/\(aY cs k).length<=cap/\cap<=9223372036854775807/\al w sl (cS (aY cs k)):=by
 unfold aY eH gOf
 cases hf:cs.find? (fun p=>decide (p.key=k))with
 | none=>exact⟨none,0,rfl,Nat.le_refl _,by omega,fun h=>by simp[cS]at h⟩
 | some p =>
  have hm:=mem_of_find?_eq_some hf;have hp:Sat w (aU p.val p.g):=Sat.flat (f:=fun p:kg=>aU p.val p.g) h.tail hm;exact gh hp (hok.rows p hm)
theorem lr{P:Program}{fn:Func}{p q s:Tmp}{ty:TypeId}(h:fn.results=#[.cell p ty,.tmp q,.tmp s])(tmps:Array Value)(w:World)(g:Nat)(t:TypeId)(cs:Array Value)(fr:Nat×Nat)(d:TypeDesc)(hp:tmps.getD p undef=.pointer (some ⟨g,0,none⟩))(hg:w.heap[g]?=some (.cells cs t fr))(hu:P.underlying ty=some d)(hd:(match d with|.struct _|.array _ _=>true|_=>false)=true)(hi:(P.info? ty).map (·.size)=some cs.size):
  (results fn tmps).run P w=.ok (.tuple #[.agg cs,tmps.getD q undef,tmps.getD s undef]) w:=by
 have hp':tmps[p]?.getD undef=.pointer (some ⟨g,0,none⟩):=by simpa using hp
 simp[results,h,hp',asAddr,run_loadVar_row w g t ty cs fr d hg hu hd hi]
def aG(p:Nat×Nat):Obj:=.cells #[.int .i64 p.1,.int .i64 p.2] 161 (0,0)
def GX(ab d r:Nat)(A:AreaL)(L:DevL)(R0:HF)(pl:List (Nat×Nat))(b:Bs)(w:World)(i:Value)(W:World):Prop :=
 ∃(j:Nat) (sp:List (Nat×Nat×Nat)),j<=pl.length/\i=.int .i64 j/\AreaOk { A with spare:=sp }/\Turns (aq ab d A++R0) ((r,Is (aG (0,0)))::(aq ab d { A with spare:=sp }++R0)) w W /\
  ∀t (h:t<pl.length),t<j->¬my (au L.now A.first A.count) pl[t] b
theorem Ax(a:Nat)(X:ArchL)(ab d:Nat)(hab:ab=X.ab)(A:AreaL)(L:DevL)(cs:List kg)(c:Nat)(b:Bs)(sl:Option Addr)(cap:Nat)(R0:HF)(w:World)(h:Sat w (aq ab d A++R0))(hsub:∀x,cnt x ((a,Is (aH X))::(az d L++aM X.cm cs c))<=cnt x R0)(hL:DevOk L)(hA:AreaOk A)(hAn:A.first+A.count<=L.n)(hn:L.n<=1073741824)(hok:ChunksOk cs c)(hb:al w sl (b.map am))(hbs:∀x,sl=some x->x.block∉dom (aq ab d A++R0))(hbl:b.length<=1000000)(hpl:(aY cs (be (cF 1 b) 4)).length<=1000000)(hch:∀p∈aY cs (be (cF 1 b) 4),∃body,p.2=body.length/\ly (au L.now A.first A.count) p.1 body):
  Calls Tryz.prog 77 #[.pointer (some ⟨a,0,none⟩),.slice sl b.length cap] w (EW ab d A L R0 (aY cs (be (cF 1 b) 4)) b w):=by
 obtain⟨k,hk⟩:∃k,k=be (cF 1 b) 4:=⟨_,rfl⟩;have hk4:Ok4 k:=by rw[hk];exact bE _ _
 rw[<- hk]at hpl hch ⊢;obtain⟨pl,hple⟩:∃pl,pl=aY cs k:=⟨_,rfl⟩;rw[<- hple]at hpl hch ⊢;obtain⟨r,hr⟩:∃r,r=w.heap.size:=⟨_,rfl⟩;obtain⟨F0,hF0⟩:∃F0,F0=aq ab d A++R0:=⟨_,rfl⟩
 have hsubC:∀{W:World} {F:HF},Sat W (F++R0)->W.heap[a]?=some (aH X)/\Sat W (az d L)/\Sat W (aM X.cm cs c):=fun hs=>by
  have h1:=hs.right.sub hsub;exact⟨h1.Q5,h1.tail.left,h1.tail.right⟩
 obtain⟨psl,pcap,e1,e2,e3,_⟩:=zH (hsubC h).2.2 hok k;rw[<- hple]at e1 e2;have hT0:Turns F0 ((r,Is (aG (0,0)))::(aq ab d A++R0)) w (w.alloc (aG (0,0))):=by rw[hr,hF0];exact(Turns.refl h).Q8 _
 have HK:=qqH (fun(W:World) (hW:al W sl (b.map am))=>rJ sl cap b W hW (by omega));have HH:=qqH (And.intro hT0 (And.intro hab (And.intro hL (And.intro hA (And.intro hAn (And.intro hn (And.intro hok (And.intro hb (And.intro hbs (And.intro hch (And.intro hk4 (And.intro hk (And.intro hple (And.intro e1 hF0))))))))))))));have HS:=Hq2 hsub @hsubC;clear hT0 hab hL hA hAn hn hok hb hbs hch hk4 hk hple e1 hF0 hsub hsubC h;go_enter Tryz.func77,Tryz.ntmps77;go_wp2_with fail;rw[<- hr];have hw0:w.alloc (.cells #[.int .i64 0,.int .i64 0] 161)=w.alloc (aG (0,0)):=rfl;rw[hw0];clear hw0 hr;refine cL [([0,1,2,3,4,5,9],6,[0,1,2,3,4,9])] [7,8] HM.out (by kernel_rfl) fun W tW=>?_
 simp only[Mix,map_cons,map_nil,nth,QG,QF];have hT:=tW HH.a;clear tW;have g:∀{W:World},Turns F0 ((r,Is (aG (0,0)))::(aq ab d A++R0)) w W->W.cell? ⟨a,2,none⟩=some (.map (some X.cm)):=fun hT=>aa (HS.z (F:=(r,Is (aG (0,0)))::aq ab d A) hT.sat).1 2 rfl
 have g0:=g hT;repeat still_step
 refine wpStill_nil (bw (by kernel_rfl) (HK.out W (HH.h.Qc hT (HH.out.2.2.2.2.2.2.2.2.2.2.2.2.2.2.symm ▸ HH.out.2.2.2.2.2.2.2.2.1))) ?_);rintro e w3 ⟨rfl,hs3⟩;have hT3:=hT.Q9 hs3;refine⟨_,rfl,by(have g0:=g hT3;(repeat still_step);exact rfl),?_⟩;refine cD rfl (AF C7 (.tmp 15) (.tmp 17) rfl Tryz.underlying121 (HS.z (F:=(r,Is (aG (0,0)))::aq ab d A) hT3.sat).2.2.Q5 HH.g.map (pu _) k rfl (by rw[HH.out.2.2.2.2.2.2.2.2.2.2.2.1];rfl) HH.out.2.2.2.2.2.2.2.2.2.2.1) ?_;rw[cY,HH.out.2.2.2.2.2.2.2.2.2.2.2.2.2.1];simp only[Act.put,QA,QB,QC];repeat still_step
 refine wpStill_nil ?_;have HT3:=qqH hT3;clear hT hT3 g g0 hs3;go_wp2_with fail;rw[HH.out.2.2.2.2.2.2.2.2.2.2.2.2.2.2]at HT3;go_loopw [20] (fun i wr=>GX ab d r A L R0 pl b w i wr) (fun i _=>pl.length-(intOf i).toNat)
 case atStart=>exact⟨0,A.spare,Nat.zero_le _,rfl,HH.d,HT3.out,fun t h h0=>by omega⟩
 case round =>
  obtain⟨j,sp,hj,rfl,hAo,hT,hno⟩:=hrel;have HR:=Hq3 hAo hT hno;clear hAo hT hno;by_cases hlt:j<pl.length
  ·obtain⟨psl2,pcap2,f1,f2,f3,f4⟩:=zH (HS.z (F:=(r,Is (aG (0,0)))::aq ab d { A with spare:=sp }) HR.b.sat).2.2 HH.g k;rw[HH.out.2.2.2.2.2.2.2.2.2.2.2.2.2.1,<- HH.out.2.2.2.2.2.2.2.2.2.2.2.2.1]at f1;simp only[Value.slice.injEq,true_and]at f1;obtain⟨rfl,rfl⟩:=f1;rw[<- HH.out.2.2.2.2.2.2.2.2.2.2.2.2.1]at f4;obtain⟨g,off,hg,hcell⟩:=f4 (by rw[gi];omega);subst hg;obtain⟨hc1,hc2⟩:=qb hcell hlt;obtain⟨q,hq⟩:∃q,q=pl[j]:=⟨_,rfl⟩;rw[<- hq]at hc1 hc2;obtain⟨body,hq2,hbody⟩:=HH.out.2.2.2.2.2.2.2.2.2.1 q (hq ▸ getElem_mem hlt);obtain⟨B8,hB8⟩:∃B8,B8=wr.heap.size:=⟨_,rfl⟩
   have hT8:Turns (aq ab d A++R0) (aq ab d { A with spare:=sp }++((B8,Is (aG q))::(r,Is (aG (0,0)))::R0)) w (wr.alloc (aG q)):=by
    rw[hB8];exact(HR.b.Q8 (aG q)).to ae
   have HLd:=qqH (oZ a X ab d HH.b { A with spare:=sp } L q.1 body ((B8,Is (aG q))::(r,Is (aG (0,0)))::R0) (wr.alloc (aG q)) hT8.sat (fun x=>by have:=HS.a x;simp only[ao,ah]at this ⊢;omega) HH.c HR.a HH.e HH.f hbody);rw[<- hq2]at HLd;have HQ:=Hq5 hq hq2 hbody hT8 hB8;clear hcell hq hq2 hbody hT8 hB8 f2 f3;go_wp2_with fail;refine HLd.out.mono ?_;rintro e w4 ⟨av,cv,sp2,rfl,hok4,hAo4,hT4⟩;have hT5:=HQ.d.trans hT4;obtain⟨av',cv',hev,-,-,hav,-⟩:=aP (dr hT4.sat.left hok4);simp only[Value.slice.injEq,true_and]at hev;obtain⟨rfl,rfl⟩:=hev;rw[<- HQ.w];have h8:w4.heap[B8]?=some (aG q):=hT4.sat.Q7 (by simp);have hrr:w4.heap[r]?=some (aG (0,0)):=hT4.sat.Q7 (by simp);have c80:w4.cell? ⟨B8,0,none⟩=some (.int .i64 q.1):=aa h8 0 rfl;have c81:w4.cell? ⟨B8,1,none⟩=some (.int .i64 q.2):=aa h8 1 rfl;have hcv1:=jN cv hav;have hbw4:al w4 sl (b.map am):=HH.h.Qc hT5 HH.out.2.2.2.2.2.2.2.2.1;have hcv2:=jN cap hbw4;have hth:=dm (C:=#[.int .i64 0,.int .i64 0]) hrr 0 2 (by simp);obtain⟨q1,q2⟩:=dI hrr [.int .i64 q.1,.int .i64 q.2] (by simp);have H4:=Hq6 hok4 hAo4 hT5 hth q1 q2;have hbl4:=ac h8;clear hok4 hAo4 hT4 hT5 hav h8 hrr hbw4 hth q1 q2 hc1 hc2;by_cases hbb:body=b
   ·subst hbb;go_wp2_with ((refine wpList_store_mid rfl 161 (.tmp 4) (.tmp 39) rfl r 0 #[.int .i64 q.1,.int .i64 q.2] rfl rfl H4.d (by kernel_rfl) (by simp[Value.oneCell']) ?_;simp only[Act.put]));refine bodyPost_ret (lr rfl _ _ r 161 _ (0,0) _ rfl H4.e Tryz.underlying161 rfl (by kernel_rfl)) rfl ?_;refine⟨⟨sp2,H4.b,?_⟩,.inl ⟨q,HQ.a ▸ getElem_mem hlt,⟨HQ.b,HQ.c⟩,rfl⟩⟩;have hq5:=(H4.c.to (H:=(r,Is (aG (0,0)))::(aI (.slice av body.length cv) body++(aq ab d { A with spare:=sp2 }++((B8,Is (aG q))::R0)))) ae).Qa (o:=aG q) H4.v H4.e;exact hq5.drop bS
   ·have HNB:=qqH hbb;have hsn:(body==b)=false:=by simpa using hbb
    clear hbb;go_wp2_with fail;go_roundw
    case rel =>
     refine⟨j+1,sp2,by omega,by go_num,H4.b,H4.c.drop bS,fun t ht htj=>?_⟩;rcases Nat.lt_or_ge t j with h'|h'
     ·exact HR.y t ht h'
     ·obtain rfl:t=j:=by omega
      intro hc;rw[<- HQ.a]at hc;exact HNB.out (mD HQ.c hc.2 (HQ.b.symm.trans hc.1))
    case measure=>simp[intOf];omega
  ·obtain rfl:j=pl.length:=by omega
   have hrr:=HR.b.sat.Q5;have hth:=dm (C:=#[.int .i64 0,.int .i64 0]) hrr 0 2 (by simp);obtain⟨q1,q2⟩:=dI hrr [.int .i64 0,.int .i64 0] (by simp);have hTe:=HR.b.Qa (o:=aG (0,0)) q2 q1;have HE:=Hq3 q1 hTe hth;clear hrr hth q1 q2 hTe;go_wp2_with ((refine wpList_store_mid rfl 161 (.tmp 4) (.tmp 41) rfl r 0 #[.int .i64 0,.int .i64 0] rfl rfl HE.y (by kernel_rfl) (by simp[Value.oneCell']) ?_;simp only[Act.put]));refine bodyPost_ret (lr rfl _ _ r 161 _ (0,0) _ rfl HE.a Tryz.underlying161 rfl (by kernel_rfl)) rfl ?_;refine⟨⟨sp,HR.a,HE.b.drop bS⟩,.inr ⟨fun p hp=>?_,rfl⟩⟩;obtain⟨t,ht,rfl⟩:=mem_iff_getElem.1 hp;exact HR.y t ht ht
abbrev fq:=GE (Bs×Int)
def mx(n:Bs)(g:Bs×Int):Value:=.agg #[str n,str g.1,.int .i64 g.2]
def b8(tm:Nat)(ts:List fq)(tc:Nat):HF:=[(tm,Is (aQ str (ts.map aO) tc))]
structure TagsOk (ts:List fq) (tc:Nat):Prop where
 map:MapOk OkS (ts.map aO) tc
 val:∀p∈ts,p.val=mx p.key p.g
def ed(body:Bs):Bs:=be (cF 1 body) 4
structure AS where
 a:Nat
 X:ArchL
 A:AreaL
 L:DevL
 ps:List aW
 pc:Nat
 cs:List kg
 cc:Nat
 ts:List fq
 tc:Nat
 data:Bs
 K:List (Bs×Nat×Nat)
def arF(S:AS):HF:=(S.a,Is (aH S.X))::(aq S.X.ab S.X.d S.A++(az S.X.d S.L++(aF S.X.pm S.ps S.pc++(b8 S.X.tm S.ts S.tc++aM S.X.cm S.cs S.cc))))
def dw(data:Bs)(at_:Nat)(body:Bs):Prop:=at_+(body.length+9)<=data.length/\bM ((data.drop at_).take (body.length+9))=some (1,body,body.length+9)
theorem dw.more{data more body:Bs}{at_:Nat}(h:dw data at_ body):dw (data++more) at_ body:=by
 refine⟨by have:=h.1;simp;omega,?_⟩;rw[drop_append_of_le_length (by have:=h.1;omega),take_append_of_le_length (by rw[length_drop];have:=h.1;omega)];exact h.2
theorem dw.frame{data body rest:Bs}(hl:body.length<65536):dw (data++frame 1 body++rest) data.length body:=by
 refine⟨by simp[aJ],?_⟩;rw[append_assoc,drop_left,take_append_of_le_length (by rw[aJ];omega),take_of_length_le (by rw[aJ];omega)];have:=ge 1 body [] (by decide) hl;rwa [append_nil]at this
theorem dw.Qe{l data body:Bs}{first count at_:Nat}(h:dw data at_ body)(hd:eB l first count data):ly (au l first count) at_ body:=by
 rw[hd.1];refine⟨by have:=h.1;simp;omega,?_⟩;rw[drop_append_of_le_length (by have:=h.1;omega),take_append_of_le_length (by rw[length_drop];have:=h.1;omega)];exact h.2
structure ArOk (S:AS):Prop where
 dev:DevOk S.L
 n16:16<=S.L.n
 nmax:S.L.n<=1073741824
 area:AreaOk S.A
 first:S.A.first=2+S.X.ep%2*ap S.L.n
 count:S.A.count=ap S.L.n
 end_:S.A.end_=S.data.length
 tail:S.A.tail=bL S.data
 dat:eB S.L.now S.A.first S.A.count S.data
 paths:PathsOk S.ps S.pc
 tags:TagsOk S.ts S.tc
 chunks:ChunksOk S.cs S.cc
 kin:∀k,(aY S.cs k).Perm ((S.K.filter (fun e=>decide (ed e.1=k))).map (·.2))
 kat:∀e∈S.K,e.2.2=e.1.length/\dw S.data e.2.1 e.1
 vers:∀p∈S.ps,∀V∈p.g,(∀q∈V.chs,∃e∈S.K,e.2=q)/\V.size=(V.chs.map (·.2)).sum
 some:∀p∈S.ps,p.g≠[]
 sound:S.X.broken=.nilIface
 ep:S.X.ep<4294967296
structure ArB (S:AS) (b:Nat):Prop where
 K:S.K.length<=b
 np:S.ps.length<=b
 nt:S.ts.length<=b
 vers:∀p∈S.ps,p.key.length<=255/\p.g.length<=b/\∀V∈p.g,V.num<=4294967296+b/\V.chs.length<=b/\V.size<=65536*b/\V.held.natAbs<=b
 tags:∀p∈S.ts,p.key.length<=255/\p.g.1.length<=255/\p.g.2.natAbs<=4294967296+b
 used:S.X.used.natAbs<=65536*b
 sc:S.X.sc.natAbs<=b
 sb:S.X.sb.natAbs<=65536*b
 quota:S.X.quota.natAbs<=9223372036854775807
 chs:S.L.chs.length<=262144*b
theorem ArOk.fits{S:AS}(h:ArOk S):S.A.first+S.A.count<=S.L.n:=by
 rw[h.first,h.count];have:=h.n16;unfold ap;rcases Nat.mod_two_eq_zero_or_one S.X.ep with e|e<;>rw[e]<;>omega
theorem Di{S:AS}(h:ArOk S)(k:Bs):(aY S.cs k).length<=S.K.length:=by
 rw[(h.kin k).length_eq,length_map];exact length_filter_le _ _
theorem pf{S:AS}(h:ArOk S){k:Bs}{q:Nat×Nat}:q∈aY S.cs k↔∃e∈S.K,ed e.1=k/\e.2=q:=by
 rw[(h.kin k).mem_iff];simp only[mem_map,mem_filter,decide_eq_true_eq];exact⟨fun⟨e,⟨h1,h2⟩,h3⟩=>⟨e,h1,h2,h3⟩,fun⟨e,h1,h2,h3⟩=>⟨e,⟨h1,h2⟩,h3⟩⟩
theorem AR{S:AS}(h:ArOk S){k:Bs}:∀q∈aY S.cs k,∃body,q.2=body.length/\ly (au S.L.now S.A.first S.A.count) q.1 body:=fun q hq=>by
 obtain⟨e,he,_,rfl⟩:=(pf h).1 hq
 exact⟨e.1,(h.kat e he).1,(h.kat e he).2.Qe h.dat⟩
theorem Lk{S:AS}(h:ArOk S){b:Bs}{q:Nat×Nat}(hq:q∈aY S.cs (ed b))(hc:my (au S.L.now S.A.first S.A.count) q b):(b,q)∈S.K:=by
 obtain⟨e,he,_,rfl⟩:=(pf h).1 hq;have:=mD ((h.kat e he).2.Qe h.dat) hc.2 ((h.kat e he).1.symm.trans hc.1);rw[<- this];exact he
theorem Ll{S:AS}(h:ArOk S){b:Bs}{q:Nat×Nat}(he:(b,q)∈S.K):q∈aY S.cs (ed b)/\my (au S.L.now S.A.first S.A.count) q b :=
 ⟨(pf h).2 ⟨_,he,rfl,rfl⟩,(h.kat _ he).1,(h.kat _ he).2.Qe h.dat⟩
def cX:List Nat->Bs->List Bs
 | [],_=>[]
 | n::r,d=>d.take n::cX r (d.drop n)
def cn(has:List Bs):List Bs->List Bs->List Bs
 | acc,[]=>acc
 | acc,c::r=>if c∈has\/c∈acc then cn has acc r else cn has (acc++[c]) r
def ck:Nat->List Bs->List (Bs×Nat×Nat)
 | _,[]=>[]
 | at_,c::r=>(c,at_,c.length)::ck (at_+c.length+9) r
def bd(l:List Bs):Nat:=(l.map fun c=>c.length+9).sum
theorem vA(l m:List Bs):∀at_,ck at_ (l++m)=ck at_ l++ck (at_+bd l) m:=by
 induction l with
 | nil=>intro a;simp[ck,bd]
 | cons c r ih =>
  intro a;simp only[cons_append,ck,ih,bd,map_cons,sum_cons];rw[show a+c.length+9+(r.map fun c=>c.length+9).sum=a+(c.length+9+(r.map fun c=>c.length+9).sum) by omega]
theorem du:∀(l:List Nat) (d:Bs),(cX l d).length=l.length
 | [],_=>rfl
 | _::r,d=>by simp[cX,du r]
theorem kL:∀(l:List Nat) (d:Bs) (i:Nat) (h:i<l.length),(cX l d)[i]'(by rw[du];exact h)=(d.drop (l.take i).sum).take l[i]
 | n::r,d,0,_=>by simp[cX]
 | n::r,d,i+1,h=>by
  simp only[cX,getElem_cons_succ]
  rw[kL r _ i (by simpa using h),drop_drop]
  simp
end
section
open Go.RowKit Go.Maps
open Go.ChangeMaps (setBlock)
section
variable {κ:Type}
def dC(b c:Nat)(done:List (Ent κ)):Obj:=.mapIter (some b) c (done.map (·.born)).toArray c
theorem KK{l done:List (Ent κ)}(enc:κ->Value)(_:Nat):(leftOf (l.map (dG enc)).toArray (done.map (·.born)).toArray).toList=(l.filter (fun e => !(done.map (·.born)).contains e.born)).map (dG enc):=by
 unfold leftOf;rw[Array.toList_filter,filter_map];congr 1;apply filter_congr;intro e _;simp[dG];exact decide_eq_decide.2 Iff.rfl
theorem FZ{l done todo:List (Ent κ)}(hp:(done++todo).Perm l)(hn:(l.map (·.born)).Nodup):(l.filter (fun e => !(done.map (·.born)).contains e.born)).Perm todo:=by
 have hn2:((done++todo).map (·.born)).Nodup:=(hp.map _).nodup_iff.2 hn;refine(hp.symm.filter _).trans ?_;rw[filter_append]
 have h1:done.filter (fun e => !(done.map (·.born)).contains e.born)=[]:=by
  rw[filter_eq_nil_iff];intro e he;simp only[Bool.not_eq_true',Bool.not_eq_false,contains_iff_mem];simp;exact⟨e,he,rfl⟩
 have h2:todo.filter (fun e => !(done.map (·.born)).contains e.born)=todo:=by
  rw[filter_eq_self];intro e he;rw[map_append,nodup_append]at hn2;simp only[Bool.not_eq_true'];rw[<- Bool.not_eq_true,contains_iff_mem];intro hm;exact hn2.2.2 e.born hm e.born (mem_map.2 ⟨e,he,rfl⟩) rfl
 rw[h1,h2];exact Perm.refl _
theorem xf{P:Program}{enc:κ->Value}{Ok:κ->Prop}{w:World}{ty:TypeId}{r b c:Nat}{l done todo:List (Ent κ)}(hr:w.heap[r]?=some (dC b c done))(hb:w.heap[b]?=some (aQ enc l c))(hm:MapOk Ok l c)(hp:(done++todo).Perm l):
  (todo=[]/\(Instr.next (.pointer (some ⟨r,0,none⟩)) false ty).run P w=.ok (.tuple #[.bool false]) w) \/
  ∃e rest w1,todo.Perm (e::rest)/\(w1=w\/w1=w.drew)/\(Instr.next (.pointer (some ⟨r,0,none⟩)) false ty).run P w=.ok (.tuple #[.bool true,enc e.key,e.val]) (setBlock w1 r (dC b c (done++[e]))):=by
 have hold:∀x∈(l.map (dG enc)).toArray.toList,x.born<c:=by
  intro x hx;obtain⟨e,he,rfl⟩:=mem_map.1 (by simpa using hx);exact hm.lt e he
 have ht:=FZ hp hm.borns;rcases run_next_at w ty r b c c _ _ c hr hb hold (Nat.le_refl _)with⟨h0,h1⟩|⟨e,he,w1,h2,h3⟩
 ·refine .inl ⟨?_,h1⟩;have:(leftOf (l.map (dG enc)).toArray (done.map (·.born)).toArray).toList.length=0:=by simpa using h0
  rw[KK enc c,length_map]at this;exact length_eq_zero_iff.1 (ht.length_eq ▸ this)
 ·rw[KK enc c]at he;obtain⟨e',he',rfl⟩:=mem_map.1 he;obtain⟨s,t,rfl⟩:=append_of_mem (ht.mem_iff.1 he');refine .inr ⟨e',s++t,w1,perm_middle,h2,?_⟩;rw[h3];simp[dC,dG]
theorem FN{l done todo:List (Ent κ)}{e:Ent κ}{rest:List (Ent κ)}(hp:(done++todo).Perm l)(ht:todo.Perm (e::rest)):((done++[e])++rest).Perm l:=by
 rw[append_assoc];exact((ht.symm.append_left done).trans hp)
theorem uG{P:Program}{enc:κ->Value}{Ok:κ->Prop}{w:World}{r b c:Nat}{l done:List (Ent κ)}{e:Ent κ}(hr:w.heap[r]?=some (dC b c (done++[e])))(hb:w.heap[b]?=some (aQ enc l c))(hm:MapOk Ok l c)(he:e∈l):
  (Instr.entry (.pointer (some ⟨r,0,none⟩))).run P w=.ok (.tuple #[enc e.key,e.val]) w:=by
 have hr':w.heap[r]?=some (.mapIter (some b) c ((done.map (·.born)).toArray.push (dG enc e).born) c):=by rw[hr];simp[dC,dG]
 exact run_entry_at w r b c _ _ c (dG enc e) hr' hb (by simp;exact⟨e,he,rfl⟩) (by simpa[map_map,Function.comp_def,dG]using hm.borns)
theorem EP{P:Program}{enc:κ->Value}{w:World}{o:Oper}{a:Act}{K:Act->World->Prop}{Q:Exit->Act->World->Prop}(m:Operand){t k ev:TypeId}(hop:o.op=.range t m)(ht:P.underlying t=some (.map k ev)){b:Nat}{l:List (Ent κ)}{c:Nat}(hb:w.heap[b]?=some (aQ enc l c))(hmv:a.eval m=.map (some b))(hK:K (a.put o.dst (.pointer (some ⟨w.heap.size,0,none⟩))) (w.alloc (dC b c ([]:List (Ent κ))))):o.wp P a w K Q:=by
 refine m9 (v:=.pointer (some ⟨w.heap.size,0,none⟩)) (w':=w.alloc (dC b c ([]:List (Ent κ)))) ?_ hK;have:=run_range_map (P:=P) w t k ev b _ c ht hb;simp[execOp,hop,hmv,this,Result.andThen,dC]
end
end
section
open Go.RowKit Go.Maps
open Go.ChangeMaps (setBlock)
section
variable {P:Program} {o:Oper} {a:Act} {w:World} {K:Act->World->Prop} {Q:Exit->Act->World->Prop} {F G:HF} {a0:World}
theorem iI{κ:Type}[DecidableEq κ]{k t ev:TypeId}{enc:κ->Value}{Ok:κ->Prop}(E:EncOk P k enc Ok)(m x:Operand)(hop:o.op=.lookup t m x true)(ht:P.underlying t=some (.map k ev)){b:Nat}{l:List (Ent κ)}{c:Nat}(hb:w.heap[b]?=some (aQ enc l c))(hm:MapOk Ok l c){z:Value}(hz:(zeroValue ev).run P w=.ok z w)(key:κ)(hmv:a.eval m=.map (some b))(hx:a.eval x=enc key)(hk:Ok key)(hK:K (a.put o.dst (.tuple #[(dB l key).getD z,.bool (ix l key)])) w):o.wp P a w K Q:=by
 refine m9 (v:=.tuple #[(dB l key).getD z,.bool (ix l key)]) (w':=w) ?_ hK;simp[execOp,hop,hmv,hx,uI E ht hb hm hz hk,Result.andThen]
end
def jb(id:Nat):Code->Option Code
 | .region i ops d=>if i=id then some (.region i ops d)else none
 | .seq a b=>match jb id a with|some r=>some r|none=>jb id b
 | .cond _ a b=>match jb id a with|some r=>some r|none=>jb id b
 | .block _ c=>jb id c
 | .scope c=>jb id c
 | .loop c=>jb id c
 | .rangeFunc _ _ a b=>match jb id a with|some r=>some r|none=>jb id b
 | _=>none
noncomputable def I4(id:Nat)(f:Func):Code:=(f.body.bind (jb id)).getD .skip
theorem J5:(Tryz.prog.info? 38).map (fun i=>(i.zero,i.size,i.bytes))=some (some (.slice none 0 0),1,24):=by kernel_rfl
theorem qp{o:Oper}{a:Act}{w a0:World}{K:Act->World->Prop}{Q:Exit->Act->World->Prop}{F G:HF}(s x:Operand)(hop:o.op=.call { callee:=.builtin .append,args:=#[s,x],argTypes:=#[61,61] })(v:Value)(l:List Value)(hs:a.eval s=v)(hT:Turns F (bN 38 1 v l.length l++G) a0 w)(hok:eE 1 v l.length l)(n:Nat)(u:Value)(hx:a.eval x=.slice (some ⟨n,0,none⟩) 1 1)(hu:u.oneCell'=true)(hc:w.cell? ⟨n,0,none⟩=some u)(hb:l.length<=1000000)(hk:∀v' w',eE 1 v' (l++[u]).length (l++[u])->Turns F (bN 38 1 v' (l++[u]).length (l++[u])++G) a0 w'->K (a.put o.dst v') w'):o.wp Tryz.prog a w K Q:=by
 obtain⟨i0,hi0,hz1,hz2,hz3⟩:=info_parts J5;refine cI s x 61 38 i0 (.slice none 0 0) 1 24 hop Tryz.underlying61 hi0 hz1 hz2 hz3 rfl (by decide) v l.length l hs hT hok (some ⟨n,0,none⟩) 1 1 hx [u] rfl (fun _=>⟨_,rfl,fun j y hj=>?_⟩) (fun y hy=>by simp at hy;subst hy;exact hu) (by unfold maxLen;omega) (by omega) (fun v' w' h1 h2 _=>?_)
 ·cases j with
  | zero=>simp only[getElem?_cons_zero,Option.some.injEq]at hj;subst hj;rw[Addr.add_lit,Nat.zero_add];exact hc
  | succ j=>simp at hj
 ·exact hk v' w' (by rw[length_append];exact h1) (by rw[length_append];exact h2)
end
section
open Go.RowKit Go.Maps
structure RVer where
 path:Bs
 num:Int
 cont:Bs
 cv:Value
 held:Int
structure RTag where
 name:Bs
 path:Bs
 num:Int
structure RefL where
 blk:Nat
 vv:Value
 vs:List RVer
 tv:Value
 ts:List RTag
 quota:Int
 closed:Bool
def ls(v:RVer):List Value:=[str v.path,.int .i64 v.num,v.cv,.int .i64 v.held]
def bA(l:List RVer):List Value:=l.flatMap ls
def om(t:RTag):List Value:=[str t.name,str t.path,.int .i64 t.num]
def cK(l:List RTag):List Value:=l.flatMap om
theorem bq(l:List RVer):(bA l).length=l.length*4:=by
 induction l with
 | nil=>rfl
 | cons a r ih=>simp only[bA,flatMap_cons,length_append,length_cons]at ih ⊢;rw[ih];simp[ls];omega
theorem cq(l:List RTag):(cK l).length=l.length*3:=by
 induction l with
 | nil=>rfl
 | cons a r ih=>simp only[cK,flatMap_cons,length_append,length_cons]at ih ⊢;rw[ih];simp[om];omega
theorem jh(l m:List RVer):bA (l++m)=bA l++bA m:=by simp[bA]
theorem jf(l m:List RTag):cK (l++m)=cK l++cK m:=by simp[cK]
def eu(v:Value)(l:List RVer):HF:=bN 193 4 v l.length (bA l)
def lV(v:Value)(l:List RVer):Prop:=eE 4 v l.length (bA l)
def fc(v:Value)(l:List RTag):HF:=bN 237 3 v l.length (cK l)
def DC(v:Value)(l:List RTag):Prop:=eE 3 v l.length (cK l)
def dk(R:RefL):Array Value:=#[R.vv,R.tv,.int .i64 R.quota,.bool R.closed]
def jH(R:RefL):Obj:=.cells (dk R) 60 (0,0)
def aN(R:RefL):HF:=(R.blk,Is (jH R))::(eu R.vv R.vs++fc R.tv R.ts)
structure RefOk (R:RefL):Prop where
 vs:lV R.vv R.vs
 ts:DC R.tv R.ts
abbrev dE:=List (Value×Bs)
def bh(P:dE):HF:=P.flatMap fun p=>aI p.1 p.2
def gO(P:dE):Prop:=∀p∈P,bOk p.1 p.2
def gY(P:dE)(R:RefL):Prop:=∀v∈R.vs,(v.cv,v.cont)∈P
theorem Dl{P:dE}(h:gO P){w:World}(hs:Sat w (bh P)){v:Value}{l:Bs}(hm:(v,l)∈P):∃sl cap,v=.slice sl l.length cap/\l.length<=cap/\al w sl (l.map am)/\(∀x,sl=some x->x.block∈dom (bh P)):=by
 have h1:Sat w (aI v l):=Sat.flat (f:=fun p:Value×Bs=>aI p.1 p.2) hs hm;obtain⟨a,c,e,-,h3,h4,h5⟩:=aP (dr h1 (h _ hm));refine⟨a,c,e,h3,h4,fun x hx=>?_⟩;have hb:x.block∈dom (aI v l):=(ff _ _ _ _ _ _).2 (h5 x hx);obtain⟨p,hp,hpe⟩:=mem_map.1 hb;exact mem_map.2 ⟨p,mem_flatMap.2 ⟨_,hm,hp⟩,hpe⟩
theorem dl{w:World}{e size n:Nat}{v:Value}{xs:List Value}(hs:Sat w (bN e size v n xs))(h:eE size v n xs):v.oneCell'=true/\v.cells=#[v]/\∃a cap,v=.slice a n cap/\n<=cap/\cap<=9223372036854775807:=by
 rcases(aR hs h).2 with⟨rfl,rfl⟩|⟨g,cap,cur,rfl,_,_,h1,h2,_,_⟩
 ·exact⟨rfl,rfl,none,0,rfl,Nat.le_refl _,by omega⟩
 ·exact⟨rfl,rfl,_,cap,rfl,h1,by unfold maxLen at h2;omega⟩
theorem bC{w:World}{e size n:Nat}{v:Value}{xs:List Value}(hs:Sat w (bN e size v n xs))(h:eE size v n xs)(_:0<size):∃a cap,v=.slice a n cap/\n<=cap/\cap<=9223372036854775807/\al w a xs/\(∀x,a=some x->v.ownBlock=some x.block):=by
 obtain⟨hl,hc⟩:=aR hs h;rcases hc with⟨rfl,rfl⟩|⟨g,cap,cur,rfl,_,hg,h1,h2,h3,h4⟩
 ·refine⟨none,0,rfl,Nat.le_refl _,by omega,fun hp=>?_,fun x hx=>by cases hx⟩;rw[hl]at hp;simp at hp
 ·refine⟨_,cap,rfl,h1,by unfold maxLen at h2;omega,fun hp=>⟨g,0,rfl,fun j hj=>?_⟩,fun x hx=>by obtain rfl:=Option.some.inj hx;rfl⟩;rw[Nat.zero_add];refine aa hg j ?_;rw[<- Array.getElem?_toList];have e1:(cur.toList.take (n*size))[j]?=cur.toList[j]?:=by rw[getElem?_take];rw[if_pos (by omega)]
  rw[<- e1,h4];exact getElem?_eq_getElem hj
theorem ID:(Tryz.prog.info? 193).map (fun i=>(i.zero,i.size,i.bytes))=some (some (.agg #[str [],.int .i64 0,.slice none 0 0,.int .i64 0]),4,56):=by kernel_rfl
theorem IC:(Tryz.prog.info? 237).map (fun i=>(i.zero,i.size,i.bytes))=some (some (.agg #[str [],str [],.int .i64 0]),3,40):=by kernel_rfl
theorem Gk{l:List RVer}(h:∀v∈l,v.cv.oneCell'=true):∀u∈bA l,u.oneCell'=true:=fun u hu=>by
 obtain⟨v,hv,hx⟩:=mem_flatMap.1 hu
 simp only[ls,mem_cons,not_mem_nil,or_false]at hx
 rcases hx with rfl|rfl|rfl|rfl
 ·rfl
 ·rfl
 ·exact h v hv
 ·rfl
theorem Gh(l:List RTag):∀u∈cK l,u.oneCell'=true:=fun u hu=>by
 obtain⟨v,hv,hx⟩:=mem_flatMap.1 hu
 simp only[om,mem_cons,not_mem_nil,or_false]at hx
 rcases hx with rfl|rfl|rfl<;>rfl
theorem ik{o:Oper}{a:Act}{w a0:World}{K:Act->World->Prop}{Q:Exit->Act->World->Prop}{F G:HF}(s x:Operand)(hop:o.op=.call { callee:=.builtin .append,args:=#[s,x],argTypes:=#[57,57] })(v:Value)(l:List RVer)(hs:a.eval s=v)(hT:Turns F (eu v l++G) a0 w)(hok:lV v l)(sa:Option Addr)(m c:Nat)(hx:a.eval x=.slice sa m c)(r:List RVer)(hm:m=r.length)(hc:al w sa (bA r))(h1:∀v∈r,v.cv.oneCell'=true)(hb:l.length+r.length<=1000000)(hk:∀v' w',lV v' (l++r)->Turns F (eu v' (l++r)++G) a0 w'->K (a.put o.dst v') w'):o.wp Tryz.prog a w K Q:=by
 obtain⟨i0,hi0,hz1,hz2,hz3⟩:=info_parts ID;refine cI s x 57 193 i0 (.agg #[str [],.int .i64 0,.slice none 0 0,.int .i64 0]) 4 56 hop Tryz.underlying57 hi0 hz1 hz2 hz3 rfl (by decide) v l.length (bA l) hs hT hok sa m c hx (bA r) (by rw[bq,hm]) (fun hp=>?_) (Gk h1) (by unfold maxLen;omega) (by omega) (fun v' w' k1 k2 _=>hk v' w' (by unfold lV;rw[length_append,jh,<- hm];exact k1) (by unfold eu;rw[length_append,jh,<- hm];exact k2));obtain⟨g,off,e,hcc⟩:=hc (by rw[bq];omega);exact⟨_,e,fun j u hu=>by obtain⟨hj,rfl⟩:=List.getElem?_eq_some_iff.1 hu;rw[Addr.add_lit];exact hcc j hj⟩
theorem ij{o:Oper}{a:Act}{w a0:World}{K:Act->World->Prop}{Q:Exit->Act->World->Prop}{F G:HF}(s x:Operand)(hop:o.op=.call { callee:=.builtin .append,args:=#[s,x],argTypes:=#[58,58] })(v:Value)(l:List RTag)(hs:a.eval s=v)(hT:Turns F (fc v l++G) a0 w)(hok:DC v l)(sa:Option Addr)(m c:Nat)(hx:a.eval x=.slice sa m c)(r:List RTag)(hm:m=r.length)(hc:al w sa (cK r))(hb:l.length+r.length<=1000000)(hk:∀v' w',DC v' (l++r)->Turns F (fc v' (l++r)++G) a0 w'->K (a.put o.dst v') w'):o.wp Tryz.prog a w K Q:=by
 obtain⟨i0,hi0,hz1,hz2,hz3⟩:=info_parts IC;refine cI s x 58 237 i0 (.agg #[str [],str [],.int .i64 0]) 3 40 hop Tryz.underlying58 hi0 hz1 hz2 hz3 rfl (by decide) v l.length (cK l) hs hT hok sa m c hx (cK r) (by rw[cq,hm]) (fun hp=>?_) (Gh _) (by unfold maxLen;omega) (by omega) (fun v' w' k1 k2 _=>hk v' w' (by unfold DC;rw[length_append,jf,<- hm];exact k1) (by unfold fc;rw[length_append,jf,<- hm];exact k2));obtain⟨g,off,e,hcc⟩:=hc (by rw[cq];omega);exact⟨_,e,fun j u hu=>by obtain⟨hj,rfl⟩:=List.getElem?_eq_some_iff.1 hu;rw[Addr.add_lit];exact hcc j hj⟩
def zf(R:RefL)(w:World)(e:Ending)(w':World):Prop :=
 ∃b' vv' tv',e=.returned (.pointer (some ⟨b',0,none⟩))/\RefOk { R with blk:=b',vv:=vv',tv:=tv',closed:=false }/\Turns (aN R) (aN { R with blk:=b',vv:=vv',tv:=tv',closed:=false }++aN R) w w'
theorem vj(R:RefL)(w:World)(h:Sat w (aN R))(hok:RefOk R)(h1:∀v∈R.vs,v.cv.oneCell'=true)(hl:R.vs.length<=1000000/\R.ts.length<=1000000):
  Calls Tryz.prog 37 #[.pointer (some ⟨R.blk,0,none⟩)] w (zf R w):=by
 obtain⟨-,-,sl,cap,e1,-,-⟩:=dl h.tail.left hok.vs;obtain⟨-,-,tl,tcap,e2,-,-⟩:=dl h.tail.right hok.ts;have c2:w.cell? ⟨R.blk,2,none⟩=some (.int .i64 R.quota):=aa h.Q5 2 rfl;have hbl:=ac h.Q5;have HH:=Hq6 h hok h1 hl e1 e2;clear h hok h1 hl e1 e2;go_enter Tryz.func37,Tryz.ntmps37;go_wp2_with fail;obtain⟨cb,hcb⟩:∃cb,cb=w.heap.size:=⟨_,rfl⟩;rw[<- hcb];obtain⟨CC,hCC⟩:∃CC:Array Value,CC=#[.slice none 0 0,.slice none 0 0,.int .i64 R.quota,.bool false]:=⟨_,rfl⟩
 have k0:Turns (aN R) (eu (.slice none 0 0) []++((cb,Is (.cells CC 60 (0,0)))::(R.blk,Is (jH R))::(eu R.vv R.vs++fc R.tv R.ts))) w (w.alloc (.cells #[.slice none 0 0,.slice none 0 0,.int .i64 R.quota,.bool false] 60)):=by
  rw[hcb,hCC];exact(Turns.refl HH.a).Q8 _
 have HK:=qqH k0;have HC:=qqH hCC;clear k0 hcb hCC;refine cL [([0,1,2,3,4,5,6,7,8],9,[0]),([10,11],12,[])] [] HM.out (by kernel_rfl) fun W tW=>?_
 simp only[Mix,map_cons,map_nil,nth,QG,QF];have k0:=tW HK.out;clear tW;have g0:W.cell? ⟨cb,0,none⟩=some (.slice none 0 0):=aa (HC.out ▸ k0.sat.Q5) 0 rfl;have g1:W.cell? ⟨R.blk,0,none⟩=some (.slice sl R.vs.length cap):=aa (k0.sat.Q7 (b:=R.blk) (o:=jH R) (by simp)) 0 (by rw[<- HH.e];rfl);repeat still_step
 obtain⟨a',c',e1,-,-,hc,-⟩:=bC (k0.sat.sub (G:=eu R.vv R.vs) bS) HH.b.vs (by decide);rw[HH.e]at e1;simp only[Value.slice.injEq]at e1;obtain⟨rfl,-,-⟩:=e1;refine wpStill_nil (ik (.tmp 14) (.tmp 18) rfl (.slice none 0 0) [] rfl k0 ⟨rfl,fun _=>⟨rfl,rfl⟩⟩ sl R.vs.length cap rfl R.vs rfl hc HH.c (by simpa using HH.d.1) fun vv2 W1 q1 k1=>⟨by(repeat still_step);exact rfl,?_⟩);simp only[Act.put,QA,QB,QC];repeat still_step
 rw[nil_append]at q1 k1;have p1:=dl k1.sat.left q1;refine wpStill_nil (bu 57 (.tmp 21) (.tmp 19) rfl cb 0 CC 60 vv2 (k1.to (H:=(cb,Is (.cells CC 60 (0,0)))::((R.blk,Is (jH R))::(eu vv2 R.vs++(eu R.vv R.vs++fc R.tv R.ts)))) ae) rfl rfl (by rw[HC.out];simp) (by kernel_rfl) p1.1 p1.2.1 fun W2 k2=>⟨rfl,?_⟩);simp only[Act.put];refine wpStill_nil ?_;have HT2:=Hq2 q1 k2;clear k0 g0 g1 hc q1 k1 p1 k2;go_wp2_with fail;refine cL [([0,1,2,3,4,5,6,7,8],9,[0]),([10,11],12,[])] [] HM.out (by kernel_rfl) fun W tW=>?_
 simp only[Mix,map_cons,map_nil,nth,QG,QF];have k0:=tW HT2.z;clear tW;have g0:W.cell? ⟨cb,1,none⟩=some (.slice none 0 0):=aa (HC.out ▸ k0.sat.Q5) 1 rfl;have g1:W.cell? ⟨R.blk,1,none⟩=some (.slice tl R.ts.length tcap):=aa (k0.sat.Q7 (b:=R.blk) (o:=jH R) (by simp)) 1 (by rw[<- HH.v];rfl);repeat still_step
 obtain⟨a',c',e1,-,-,hc,-⟩:=bC (k0.sat.sub (G:=fc R.tv R.ts) bS) HH.b.ts (by decide);rw[HH.v]at e1;simp only[Value.slice.injEq]at e1;obtain⟨rfl,-,-⟩:=e1;refine wpStill_nil (ij (.tmp 26) (.tmp 30) rfl (.slice none 0 0) [] rfl k0 ⟨rfl,fun _=>⟨rfl,rfl⟩⟩ tl R.ts.length tcap rfl R.ts rfl hc (by simpa using HH.d.2) fun tv3 W1 q1 k1=>⟨by(repeat still_step);exact rfl,?_⟩);simp only[Act.put,QA,QB,QC];repeat still_step
 rw[nil_append]at q1 k1;have p1:=dl k1.sat.left q1;refine wpStill_nil (bu 58 (.tmp 33) (.tmp 31) rfl cb 1 (CC.setIfInBounds 0 vv2) 60 tv3 (k1.to (H:=(cb,Is (.cells (CC.setIfInBounds 0 vv2) 60 (0,0)))::((R.blk,Is (jH R))::(fc tv3 R.ts++(eu vv2 R.vs++(eu R.vv R.vs++fc R.tv R.ts))))) ae) rfl rfl (by rw[HC.out];simp) (by kernel_rfl) p1.1 p1.2.1 fun W2 k2=>⟨rfl,?_⟩);simp only[Act.put];refine wpStill_nil ?_;have HT3:=Hq2 q1 k2;clear k0 g0 g1 hc q1 k1 p1 k2;go_wp2_with fail;go_ret;refine ⟨cb,vv2,tv3,rfl,⟨HT2.a,HT3.a⟩,?_⟩;have hT4:=HT3.z;have e4:(CC.setIfInBounds 0 vv2).setIfInBounds 1 tv3=dk { R with blk:=cb,vv:=vv2,tv:=tv3,closed:=false }:=by rw[HC.out];rfl
 rw[e4]at hT4;exact hT4.to (by unfold aN jH;exact ae)
end
section
open Go.RowKit
def nS(u:Nat×Nat):List Value:=[.int .u32 u.1,.int .u32 u.2]
def fN(v:Value)(l:List (Nat×Nat)):HF:=bN 118 2 v l.length (l.flatMap nS)
def xu(v:Value)(l:List (Nat×Nat)):Prop:=eE 2 v l.length (l.flatMap nS)
def fB(us:Nat->Option (Nat×Nat))(k:Nat):List (Nat×Nat):=(range k).filterMap us
def im(e wh:Nat):Obj:=.cells #[.int .u32 e,.int .u32 wh] 118 (0,0)
theorem J6:(Tryz.prog.info? 118).map (fun i=>(i.zero,i.size,i.bytes))=some (some (.agg #[.int .u32 0,.int .u32 0]),2,8):=by kernel_rfl
theorem m0(l:List (Nat×Nat)):(l.flatMap nS).length=l.length*2:=by
 induction l with
 | nil=>rfl
 | cons a r ih=>rw[flatMap_cons,length_append,ih];simp[nS];omega
theorem yN{o:Oper}{a:Act}{w a0:World}{K:Act->World->Prop}{Q:Exit->Act->World->Prop}{F G:HF}(s x:Operand)(hop:o.op=.call { callee:=.builtin .append,args:=#[s,x],argTypes:=#[113,113] })(v:Value)(l:List (Nat×Nat))(hs:a.eval s=v)(hT:Turns F (fN v l++G) a0 w)(hok:xu v l)(sa:Option Addr)(m c:Nat)(hx:a.eval x=.slice sa m c)(r:List (Nat×Nat))(hm:m=r.length)(hc:0<m->∃ad,sa=some ad/\∀j u,(r.flatMap nS)[j]?=some u->w.cell? (ad.add j)=some u)(hb:l.length+r.length<=1000000)(hk:∀v' w',xu v' (l++r)->Turns F (fN v' (l++r)++G) a0 w'->K (a.put o.dst v') w'):o.wp Tryz.prog a w K Q:=by
 obtain⟨i0,hi0,hz1,hz2,hz3⟩:=info_parts J6;refine cI s x 113 118 i0 (.agg #[.int .u32 0,.int .u32 0]) 2 8 hop Tryz.underlying113 hi0 hz1 hz2 hz3 rfl (by decide) v l.length (l.flatMap nS) hs hT hok sa m c hx (r.flatMap nS) (by rw[m0,hm]) hc (fun u hu=>?_) (by unfold maxLen;omega) (by omega) (fun v' w' h1 h2 h3=>?_)
 ·obtain⟨q,-,hq⟩:=mem_flatMap.1 hu;simp only[nS,mem_cons,not_mem_nil,or_false]at hq;rcases hq with rfl|rfl<;>rfl
 ·exact hk v' w' (by unfold xu;rw[length_append,flatMap_append,<- hm];exact h1) (by unfold fN;rw[length_append,flatMap_append,<- hm];exact h2)
theorem wg(a b:Nat)(ha:a*256+b<4294967296)(hb:b<256):bits BinOp.or IntKind.u32 ((a:Int)*256) (b:Int)=((a*256+b:Nat):Int):=by
 have e1:(BitVec.ofInt 32 ((a:Int)*256)).toNat=a*256:=by
  rw[show((a:Int)*256)=((a*256:Nat):Int) by omega,BitVec.ofInt_natCast,BitVec.toNat_ofNat];exact Nat.mod_eq_of_lt (by omega)
 have e2:(BitVec.ofInt 32 (b:Int)).toNat=b:=by rw[BitVec.ofInt_natCast,BitVec.toNat_ofNat];exact Nat.mod_eq_of_lt (by omega)
 show IntKind.u32.wrap ((BitVec.ofInt 32 ((a:Int)*256) ||| BitVec.ofInt 32 (b:Int)).toNat:Int)=_
 have e3:a*256 ||| b=a*256+b:=by
  have:=Nat.two_pow_add_eq_or_of_lt (i:=8) hb a;rw[show(256:Nat)=2 ^ 8 from rfl,Nat.mul_comm];exact this.symm
 rw[BitVec.toNat_or,e1,e2,e3];unfold IntKind.wrap;simp[IntKind.bits,IntKind.signed];omega
theorem KA{P:Program}{w:World}{ops:Array Oper}{Q:Act->Prop}{o:Oper}{r:List Oper}{a:Act}(hg:Region.wanted o (yielded ops a.tmps)=false)(hk:wpStill P ops w Q r (a.put o.dst undef)):wpStill P ops w Q (o::r) a:=by
 unfold wpStill;rw[if_neg (by rw[hg];decide)];exact hk
theorem Ed{o:Oper}{a:Act}{w:World}(b:BinOp)(t:TypeId)(x y:Operand)(ty:TypeId)(ho:o.op=.binOp b t x y ty)(hg:Tryz.prog.eqGuardType Tryz.prog.depth t=false)(A B:Array Value)(v:Value)(hn:(binOp b t (.agg A) (.agg B)).run Tryz.prog w=.ok v w)(hx:a.eval x=.agg A)(hy:a.eval y=.agg B):(execOp a.eval o).run Tryz.prog w=.ok (.value v) w:=by
 unfold execOp;simp only[ho,hx,hy,Sem.run_bind,kV hg,Result.andThen_ok,hn,Sem.run_pure]
theorem wrap_u32{n:Int}(h1:0<=n)(h2:n<4294967296):IntKind.u32.wrap n=n:=by
 unfold IntKind.wrap;simp[show IntKind.u32.bits=32 from rfl,show IntKind.u32.signed=false from rfl];omega
theorem Bh{t:TypeId}(e:Nat)(he:e<4294967296)(w:World):(binOp .rem t (.int .u32 e) (.int .u32 2)).run Tryz.prog w=.ok (.int .u32 ((e%2:Nat):Int)) w:=by
 have h1:(e:Int).tmod 2=((e%2:Nat):Int):=by
  rw[Int.tmod_eq_emod_of_nonneg (by omega)];omega
 have h2:IntKind.u32.wrap ((e:Int).tmod 2)=((e%2:Nat):Int):=by rw[h1,wrap_u32 (by omega) (by omega)]
 simp[binOp,Op.intDiv,h1]
theorem DD(k:Nat)(hk:k<4294967296)(w:World):(convert 3 116 (.int .i64 k)).run Tryz.prog w=.ok (.int .u32 k) w:=by
 simp[convert,run_underlying Tryz.underlying3,run_underlying Tryz.underlying116,Conv.intToInt,wrap_u32 (show(0:Int)<=k by omega) (by omega)]
theorem xd{t:TypeId}(a b:Nat)(w:World):(binOp .eql t (.int .u32 a) (.int .u32 b)).run Tryz.prog w=.ok (.bool (decide (a=b))) w:=by
 simp[binOp,Op.intCmp];rw[Bool.eq_iff_iff];simp;omega
def ey:List (Nat×Nat)->List (Nat×Nat)
 | [u,v]=>if u.1<v.1 then[v,u]else[u,v]
 | l=>l
theorem uU{o:Oper}{a:Act}{w a0:World}{K:Act->World->Prop}{Q:Exit->Act->World->Prop}{F G:HF}(x y:Operand)(ho:o.op=.store 118 x y)(g cap j:Nat)(p q u:Nat×Nat)(hT:Turns F (fN (.slice (some ⟨g,0,none⟩) 2 cap) [p,q]++G) a0 w)(hj:j<2)(hx:a.eval x=.pointer (some ⟨g,j*2,none⟩))(hy:a.eval y=.agg #[.int .u32 u.1,.int .u32 u.2])(hk:∀w',Turns F (fN (.slice (some ⟨g,0,none⟩) 2 cap) ([p,q].set j u)++G) a0 w'->K (a.put o.dst undef) w'):o.wp Tryz.prog a w K Q:=by
 obtain⟨φ,hφ⟩:∃φ:List (Nat×Nat)->Obj->Prop,φ=fun l ob=>∃c cur,Value.slice (some ⟨g,0,none⟩) 2 cap=.slice (some ⟨g,0,none⟩) l.length c/\ob=.cells cur 118 (0,0)/\l.length<=c/\c<=maxLen/\cur.size=c*2/\cur.toList.take (l.length*2)=l.flatMap nS:=⟨_,rfl⟩
 have e:∀l,fN (.slice (some ⟨g,0,none⟩) 2 cap) l=[(g,φ l)]:=fun l=>by rw[hφ];rfl
 rw[e]at hT;have hT:Turns F ((g,φ [p,q])::G) a0 w:=hT;obtain⟨ob,hg,hp⟩:=hT.sat.head;rw[hφ]at hp;obtain⟨c,cur,he,rfl,h1,h2,h3,h4⟩:=hp;obtain⟨C,rfl⟩:∃C:List Value,cur=C.toArray:=⟨cur.toList,by simp⟩;simp only[size_toArray]at h3;have h4:C.take 4=[.int .u32 p.1,.int .u32 p.2,.int .u32 q.1,.int .u32 q.2]:=h4;have h1:2<=c:=h1;obtain⟨q1,q2⟩:=fm hg (j*2) [.int .u32 u.1,.int .u32 u.2] (by simp;omega);refine wp_store_mid 118 x y ho g (j*2) #[.int .u32 u.1,.int .u32 u.2] hx hy (dm hg _ _ (by simp;omega)) (by kernel_rfl) (by simp[Value.oneCell']) (hk _ ?_);rw[e];refine hT.put q2 q1 ?_;have hl:([p,q].set j u).length=2:=by simp
 rw[hφ];show ∃c cur,_/\_/\_/\_/\_/\_;rw[hl];have hC:C=[.int .u32 p.1,.int .u32 p.2,.int .u32 q.1,.int .u32 q.2]++C.drop 4:=by rw[<- h4,take_append_drop]
 refine⟨c,_,he,rfl,h1,h2,?_,?_⟩
 ·rw[<- h3];simp[spl];omega
 ·rw[hC];rcases(by omega:j=0\/j=1)with rfl|rfl<;>simp[spl,nS]
theorem qo{W:World}{g cap:Nat}{p q:Nat×Nat}(h:Sat W (fN (.slice (some ⟨g,0,none⟩) 2 cap) [p,q]))(j:Nat)(v:Value)(hj:j<4)(hv:[Value.int .u32 p.1,.int .u32 p.2,.int .u32 q.1,.int .u32 q.2][j]?=some v):W.cell? ⟨g,j,none⟩=some v:=by
 obtain⟨ob,hg,c,cur,-,rfl,-,-,-,h6⟩:=h.head;have h6:cur.toList.take 4=[.int .u32 p.1,.int .u32 p.2,.int .u32 q.1,.int .u32 q.2]:=h6;refine aa hg j ?_;rw[<- Array.getElem?_toList,<- hv,<- h6,getElem?_take,if_pos hj]
def sZ(us:Nat->Option (Nat×Nat))(z:Bool)(w:World)(e:Ending)(w':World):Prop :=
 ∃v,e=.returned (.tuple #[v,.bool z,.nilIface])/\xu v (ey (fB us 2))/\Turns [] (fN v (ey (fB us 2))) w w'
def JD(us:Nat->Option (Nat×Nat))(now:Bs)(w:World)(l em i:Value)(W:World):Prop :=
 ∃(k:Nat) (J:HF),k<=2/\i=.int .i64 k/\xu l (fB us k)/\em=.bool (cf now k)/\Turns [] (fN l (fB us k)++J) w W
def eO(now:Bs)(us:Nat->Option (Nat×Nat))(k:Nat):Prop :=
 (us k=none/\∀e wh,e<4294967296->wh<4294967296->e%2=k->aC now k≠bi e wh)\/(∃e wh,us k=some (e,wh)/\aC now k=bi e wh/\e%2=k/\e<4294967296/\wh<4294967296)
theorem rk(us:Nat->Option (Nat×Nat))(k:Nat):fB us (k+1)=fB us k++(us k).toList:=by
 unfold fB;rw[range_succ,filterMap_append]
 cases h:us k<;>simp[h]
theorem i4(e wh:Nat):bM (bi e wh)=some (77,br e wh,17):=by
 unfold bi;rw[ge 77 _ _ (by decide) (by rw[bO];omega),bO]
theorem rn(e wh:Nat):bi e wh≠ak 128:=fun h=>by
 have h1:=i4 e wh
 rw[h,ky]at h1
 cases h1
theorem we(x y:UInt8):be (x.toNat*256+y.toNat) 2=[x,y]:=by
 have hx:=UInt8.toNat_lt x;have hy:=UInt8.toNat_lt y;rw[be2];congr 1
 ·refine UInt8.toNat_inj.1 ?_;rw[UInt8.toNat_ofNat'];omega
 ·congr 1;refine UInt8.toNat_inj.1 ?_;rw[UInt8.toNat_ofNat'];omega
theorem mB:∀b:Bs,be (bk b) b.length=b
 | []=>rfl
 | x::r=>by
  have hx:=UInt8.toNat_lt x
  have hr:=fV r
  rw[length_cons,be,oE]
  have e1:UInt8.ofNat ((x.toNat*256 ^ r.length+bk r) / 256 ^ r.length)=x:=by
   rw[Nat.mul_comm,Nat.mul_add_div (Nat.pow_pos (by omega)),Nat.div_eq_of_lt hr,Nat.add_zero];refine UInt8.toNat_inj.1 ?_;rw[UInt8.toNat_ofNat'];omega
  have e2:be (x.toNat*256 ^ r.length+bk r) r.length=be (bk r) r.length:=by
   have key:∀(k a b:Nat),a%256 ^ k=b%256 ^ k->be a k=be b k:=by
    intro k;induction k with
    | zero=>intro a b _;rfl
    | succ k ih =>
     intro a b h;rw[be,be]
     have h1:a%256 ^ k=b%256 ^ k:=by
      have this:a%256 ^ (k+1)%256 ^ k=b%256 ^ (k+1)%256 ^ k:=by rw[h]
      rwa [Nat.mod_mod_of_dvd _ ⟨256,by rw[Nat.pow_succ]⟩,Nat.mod_mod_of_dvd _ ⟨256,by rw[Nat.pow_succ]⟩]at this
     rw[ih a b h1];congr 1;refine UInt8.toNat_inj.1 ?_;rw[UInt8.toNat_ofNat',UInt8.toNat_ofNat'];have h2:∀n,n%256 ^ (k+1)=n%256 ^ k+256 ^ k*(n / 256 ^ k%256):=fun n=>by rw[Nat.pow_succ,Nat.mod_mul]
     rw[h2 a,h2 b,h1]at h;have h3:256 ^ k*(a / 256 ^ k%256)=256 ^ k*(b / 256 ^ k%256):=by omega
     exact Nat.eq_of_mul_eq_mul_left (Nat.pow_pos (by omega)) h3
   refine key _ _ _ ?_;rw[Nat.mul_comm,Nat.mul_add_mod]
  rw[e1,e2,mB r]
theorem GD{s:Bs}{k:Nat}{u:Option (Nat×Nat)}(h:(u=none/\∀e wh,e<4294967296->wh<4294967296->e%2=k->s≠bi e wh)\/(∃e wh,u=some (e,wh)/\s=bi e wh/\e%2=k/\e<4294967296/\wh<4294967296)):
  (u=none/\bM s=none)\/(u=none/\∃k' body n,bM s=some (k',body,n)/\¬(k'=77/\body.length=8)) \/
  (∃e wh b1 b2,bM s=some (77,br e wh,17)/\e<4294967296/\wh<4294967296/\decide (s=bi e wh)=b1/\decide (e%2=k)=b2/\u=if b1&&b2 then some (e,wh)else none):=by
 have hu:∀e wh,bM s=some (77,br e wh,17)->e<4294967296->wh<4294967296->u=if decide (s=bi e wh)&&decide (e%2=k)then some (e,wh)else none:=fun e wh ho he hw=>by
  rcases h with⟨rfl,h1⟩|⟨e2,wh2,rfl,h2,h3,h4,h5⟩
  ·by_cases q1:s=bi e wh
   ·have q2:¬e%2=k:=fun q2=>h1 e wh he hw q2 q1
    simp[q2]
   ·simp[q1]
  ·have h6:=i4 e2 wh2;rw[<- h2,ho]at h6;simp only[Option.some.injEq,Prod.mk.injEq,true_and,and_true]at h6
   have h7:bk (be e 4)=bk (be e2 4)/\bk (be wh 4)=bk (be wh2 4):=by
    have g1:=congrArg (fun l=>bk (l.take 4)) h6;have g2:=congrArg (fun l=>bk (l.drop 4)) h6;simpa[br,bE]using And.intro g1 g2
   rw[gC,gC,gC,gC]at h7;obtain rfl:e=e2:=by omega
   obtain rfl:wh=wh2:=by omega
   simp[h2,h3]
 cases ho:bM s with
 | none =>
  rcases h with⟨rfl,-⟩|⟨e,wh,-,h2,-⟩
  ·exact .inl ⟨rfl,rfl⟩
  ·rw[h2,i4]at ho;cases ho
 | some t =>
  obtain⟨k',body,n⟩:=t;by_cases hk:k'=77/\body.length=8
  ·obtain⟨rfl,hb⟩:=hk;obtain⟨-,hn,-⟩:=dx ho;obtain rfl:n=17:=by omega
   have h4:(body.take 4).length=4:=by rw[length_take];omega
   have h4':(body.drop 4).length=4:=by rw[length_drop];omega
   have he:=fV (body.take 4);have hw:=fV (body.drop 4);rw[h4]at he;rw[h4']at hw
   have hbody:body=br (bk (body.take 4)) (bk (body.drop 4)):=by
    have g1:=mB (body.take 4);have g2:=mB (body.drop 4);rw[h4]at g1;rw[h4']at g2;unfold br;rw[g1,g2,take_append_drop]
   rw[hbody]at ho;exact .inr (.inr ⟨_,_,_,_,congrArg (fun b=>some ((77:UInt8),b,17)) hbody,by omega,by omega,rfl,rfl,hu _ _ ho (by omega) (by omega)⟩)
  ·refine .inr (.inl ⟨?_,k',body,n,rfl,hk⟩);rcases h with⟨rfl,-⟩|⟨e,wh,-,h2,-⟩
   ·rfl
   ·rw[h2,i4]at ho;simp only[Option.some.injEq,Prod.mk.injEq]at ho;obtain⟨rfl,rfl,-⟩:=ho;exact absurd ⟨rfl,bO e wh⟩ hk
def oe(ub:Nat):Obj:=.cells #[.pointer (some ⟨ub,0,none⟩),.pointer (some ⟨ub,1,none⟩)] 208 (0,0)
def y7(G:HF)(ub j x e:Nat)(w:World)(i:Value)(W:World):Prop :=
 ∃m:Nat,m<=4/\i=.int .i64 m/\Turns [] ((ub,Is (if j=0 then im (bk ((be x 4).take m)) 0 else im e (bk ((be x 4).take m))))::G) w W
def G6(G:HF)(ub e wh:Nat)(w:World)(i:Value)(W:World):Prop :=
 ∃j:Nat,j<=2/\i=.int .i64 j/\Turns [] ((ub,Is (im (if j=0 then 0 else e) (if j<=1 then 0 else wh)))::G) w W
theorem pp(us:Nat->Option (Nat×Nat))(k:Nat):(fB us k).length<=k:=by
 have:=length_filterMap_le us (range k);rw[length_range]at this;exact this
theorem DP(d:Nat)(L:DevL)(us:Nat->Option (Nat×Nat))(w:World)(h:Sat w (az d L))(hL:DevOk L)(hn:16<=L.n)(hU:∀k,k<2->eO L.now us k):
  Calls Tryz.prog 50 #[.pointer (some ⟨d,0,none⟩)] w (sZ us (cf L.now 2) w):=by
 have HZ:=qqH nM;have HC:Hid (∀(k:Nat) (W:World),k<2->aX w W->Calls Tryz.prog 17 #[.pointer (some ⟨d,0,none⟩),.int .i64 k] W (jU L k W)):=qqH (fun k W hk hW=>lA d L k W (h.same hW) hL (by omega));have HL:Hid (∀k,k<2->(aC L.now k).length=128):=qqH (fun k hk=>iD hL.nowL (by omega));have HU:=qqH hU;clear h hL hU;go_enter Tryz.func50,Tryz.ntmps50;go_wp2_with fail;go_loopw [2,3,16] (fun l em i wr=>JD us L.now w l em i wr) (fun _ _ i _=>2-(intOf i).toNat)
 case atStart=>exact⟨0,[],by omega,rfl,⟨rfl,fun _=>⟨rfl,rfl⟩⟩,by rw[qv],Turns.refl (Sat.nil w)⟩
 case round =>
  obtain⟨k,J,hk,rfl,hlo,rfl,hT⟩:=hrel;by_cases hlt:k<2
  ·have HR:=qqH (HC.out k wr hlt hT.news);have HL':=qqH (HL.out k hlt);have HZ0:=qqH (sf (l:=L.now) (k:=k));have HZ1:=qqH (vc (l:=L.now) (k:=k));have HUk:=qqH (HU.out k hlt);have hsu:=rk us k;unfold jU at HR;unfold eO at HUk;obtain⟨s,hse⟩:∃s,s=aC L.now k:=⟨_,rfl⟩;obtain⟨z,hz⟩:∃z,z=cf L.now k:=⟨_,rfl⟩;obtain⟨z1,hz1⟩:∃z,z=cf L.now (k+1):=⟨_,rfl⟩;rw[<- hse]at HR HL' HZ0 HZ1 HUk;rw[<- hz,<- hz1]at HZ0;rw[<- hz1]at HZ1;rw[<- hz];have H1:=Hq4 hz1 hlo hT hsu;clear hT hlo HC HL hse hz hz1 hsu;go_wp2_with fail;refine HR.out.mono ?_;rintro e w2 ⟨rfl,hs2⟩;have hb:=aK w2 (.cells (ay (ak 128)) 43);obtain⟨q1,q2⟩:=dJ hb (s:=s) (by rw[HL'.out,an]);have hTs:Turns [] ((w2.heap.size,Is (.cells (ay s) 43 (0,0)))::(fN u2 (fB us k)++J)) w ((w2.alloc (.cells (ay (ak 128)) 43)).setCells w2.heap.size 0 (s.map am)):=((H1.c.Q9 hs2).Q8 (.cells (ay (ak 128)) 43)).Qa q2 q1;have hth:(w2.alloc (.cells (ay (ak 128)) 43)).there w2.heap.size 0 (ay s).size:=by rw[bR,HL'.out];exact fJ hb 0 128 (by rw[an];omega)
   have hrg:((w2.alloc (.cells (ay (ak 128)) 43)).setCells w2.heap.size 0 (s.map am)).rangeAt w2.heap.size 0 (s.map am):=by
    have:=et q1 0 128;rwa [drop_zero,take_of_length_le (by rw[HL'.out];omega)]at this
   have HN:=qqH (fun W=>Ev s (ak 128) HL'.out (an _) W);obtain⟨W4,hW4⟩:∃W,(w2.alloc (.cells (ay (ak 128)) 43)).setCells w2.heap.size 0 (s.map am)=W:=⟨_,rfl⟩;rw[hW4]at q1 hTs hrg;have H3:=Hq3 q1 hTs hrg;have HT:=qqH hth;have HW:=qqH hW4;have hb6l:w2.heap.size<W4.heap.size:=ac q1;clear q1 q2 hb hTs hs2 hth hrg hW4;have hz:=nN
   have hop:Calls Tryz.prog 97 #[.slice (some ⟨w2.heap.size,0,none⟩) 128 128] W4 (dS (some ⟨w2.heap.size,0,none⟩) s W4):=by
    have:=je (some ⟨w2.heap.size,0,none⟩) 128 s W4 (fun hp=>⟨w2.heap.size,0,rfl,fun j hj=>by rw[Nat.zero_add];exact aa H3.a j (by rw[j8 s j (by simpa using hj)];simp)⟩) (by rw[HL'.out];omega) (by rw[HL'.out];omega);rwa [HL'.out]at this
   rcases GD HUk.out with⟨huk,hno⟩|⟨huk,k',body,n',hop2,hkb⟩|⟨e,wh,b1,b2,hop2,he,hwh,hb1,hb2,huk⟩
   ·unfold dS at hop;rw[hno]at hop;have HP:=qqH hop;have HK:=qqH huk;clear hop hno huk;go_wp2_with (first|(refine wpList_store_mid rfl 43 (.tmp 6) (.tmp 23) rfl w2.heap.size 0 (ay s) rfl rfl HT.out (ii HL'.out) (cU _) ?_;change wpList _ _ _ _ _ (World.setCells (w2.alloc (.cells (ay (ak 128)) 43)) w2.heap.size 0 (s.map am));rw[HW.out])|(refine wpList_load_mid rfl 43 (.tmp 6) rfl w2.heap.size 0 rfl (s.map am) _ H3.y Tryz.underlying43 rfl (ig HL'.out) ?_)|(refine bU rfl 43 #[] rfl (ay (ak 128)) HZ.out ?_)|(refine mi rfl .neq 43 (.tmp 28) (.tmp 29) _ rfl ll _ _ (.bool (!decide (s=ak 128))) (HN.out _) rfl rfl ?_))
    all_goals
     first
     | (
      have hne:s≠ak 128:=by
       have:(!decide (s=ak 128))=true:=by assumption
       simpa using this
      have HE:=qqH (HZ1.out hne))
     | (
      have hne:s=ak 128:=by
       have:(!decide (s=ak 128))=false:=by assumption
       simpa using this
      have HE:=qqH (HZ0.out hne))
     clear hne;refine HP.out.mono ?_;rintro e w5 ⟨rfl,hs5⟩;have H5:=qqH (H3.b.Q9 hs5);clear hs5;go_wp2_with fail;go_roundw
     case rel=>exact⟨k+1,(w2.heap.size,Is (.cells (ay s) 43 (0,0)))::J,by omega,by go_num,by rw[H1.x,HK.out];simpa using H1.b,by rw[<- H1.a,HE.out],by rw[H1.x,HK.out];exact H5.out.to (by simp only[Option.toList_none,append_nil];exact ae)⟩
     case measure=>simp[intOf];omega
   ·have hne:s≠ak 128:=fun h=>by rw[h,ky]at hop2;cases hop2
    have HE:=qqH (HZ1.out hne);have HNE:=qqH (show(!decide (s=ak 128))=true by simp[hne]);unfold dS at hop;rw[hop2]at hop;have HP:=qqH hop;have HK:=qqH huk
    have hkb2:¬(k'.toNat:Int)=77\/((k'.toNat:Int)=77/\¬(body.length:Int)=8):=by
     by_cases q:(k'.toNat:Int)=77
     ·refine .inr ⟨q,fun q2=>hkb ⟨UInt8.toNat_inj.1 (by show k'.toNat=77;omega),by omega⟩⟩
     ·exact .inl q
    clear hop hop2 huk hne hkb;go_wp2_with (first|(refine wpList_store_mid rfl 43 (.tmp 6) (.tmp 23) rfl w2.heap.size 0 (ay s) rfl rfl HT.out (ii HL'.out) (cU _) ?_;change wpList _ _ _ _ _ (World.setCells (w2.alloc (.cells (ay (ak 128)) 43)) w2.heap.size 0 (s.map am));rw[HW.out])|(refine wpList_load_mid rfl 43 (.tmp 6) rfl w2.heap.size 0 rfl (s.map am) _ H3.y Tryz.underlying43 rfl (ig HL'.out) ?_)|(refine bU rfl 43 #[] rfl (ay (ak 128)) HZ.out ?_)|(refine mi rfl .neq 43 (.tmp 28) (.tmp 29) _ rfl ll _ _ (.bool true) ((HN.out _).trans (by rw[HNE.out])) rfl rfl ?_));refine HP.out.mono ?_;rintro e5 w5 ⟨a2,rfl,hb2,ha2,hs5⟩;have H5:=qqH (H3.b.Q9 hs5);clear hb2 ha2 hs5;rcases hkb2 with q|⟨q,q2⟩
    all_goals
     go_wp2_with fail;go_roundw
     case rel=>exact⟨k+1,(w2.heap.size,Is (.cells (ay s) 43 (0,0)))::J,by omega,by go_num,by rw[H1.x,HK.out];simpa using H1.b,by rw[<- H1.a,HE.out],by rw[H1.x,HK.out];exact H5.out.to (by simp only[Option.toList_none,append_nil];exact ae)⟩
     case measure=>simp[intOf];omega
   ·have hne:s≠ak 128:=fun h=>by rw[h,ky]at hop2;cases hop2
    have HE:=qqH (HZ1.out hne);have HNE:=qqH (show(!decide (s=ak 128))=true by simp[hne]);unfold dS at hop;rw[hop2]at hop;have HP:=qqH hop;have HK:=Hq3 huk hb1 hb2;have hbl:=bO e wh;clear hop hop2 huk hb1 hb2 hne;go_wp2_with (first|(refine wpList_store_mid rfl 43 (.tmp 6) (.tmp 23) rfl w2.heap.size 0 (ay s) rfl rfl HT.out (ii HL'.out) (cU _) ?_;change wpList _ _ _ _ _ (World.setCells (w2.alloc (.cells (ay (ak 128)) 43)) w2.heap.size 0 (s.map am));rw[HW.out])|(refine wpList_load_mid rfl 43 (.tmp 6) rfl w2.heap.size 0 rfl (s.map am) _ H3.y Tryz.underlying43 rfl (ig HL'.out) ?_)|(refine bU rfl 43 #[] rfl (ay (ak 128)) HZ.out ?_)|(refine mi rfl .neq 43 (.tmp 28) (.tmp 29) _ rfl ll _ _ (.bool true) ((HN.out _).trans (by rw[HNE.out])) rfl rfl ?_));refine HP.out.mono ?_;rintro e5 w5 ⟨a2,rfl,hb2,ha2,hs5⟩;rw[hbl];obtain⟨g2,off2,hg2,hc2⟩:=hb2 (by rw[length_map,hbl];omega);subst hg2;obtain⟨y2,hy2,hgy⟩:=ha2 _ rfl;simp only[Option.some.injEq]at hy2;subst hy2;simp only at hgy;subst hgy;have H5:=Hq2 (H3.b.Q9 hs5) hc2;clear hb2 ha2 hs5 hc2;have hk77:(((77:UInt8).toNat:Nat):Int)=77:=rfl;rw[hk77];go_wp2_with fail;obtain⟨b6,hb6⟩:∃b6,b6=w2.heap.size:=⟨_,rfl⟩
    have hby:∀(q:Nat) (hq:q<8) (W:World),W.heap[b6]?=some (.cells (ay s) 43 (0,0))->W.cell? ⟨b6,off2+q,none⟩=some (.int .u8 (((br e wh)[q]'(by rw[hbl];exact hq)).toNat:Int)):=fun q hq W hW=>by
     have h1:=H5.z q (by rw[length_map,hbl];exact hq);rw[getElem_map]at h1;rw[hb6]at hW ⊢;exact(World.cell?_of_block (hW.trans (H5.a.sat.Q7 (b:=w2.heap.size) (o:=.cells (ay s) 43 (0,0)) (by simp)).symm)).trans h1
    have HBy:=qqH hby
    obtain⟨ub,hub⟩:∃ub,ub=w5.heap.size:=⟨_,rfl⟩;obtain⟨pb,hpb⟩:∃pb,pb=w5.heap.size+1:=⟨_,rfl⟩;obtain⟨G,hG⟩:∃G:HF,G=(pb,Is (oe ub))::(b6,Is (.cells (ay s) 43 (0,0)))::(fN u2 (fB us k)++J):=⟨_,rfl⟩;have HG:=qqH hG
    have hTu:Turns [] ((ub,Is (im 0 0))::G) w ((w5.alloc (im 0 0)).alloc (oe ub)):=by
     have h1:=(H5.a.Q8 (im 0 0)).Q8 (oe ub);rw[World.size_alloc,<- hpb,<- hub]at h1;rw[hG,hb6];exact h1.to ae
    have HTu:=Hq4 hTu hub hpb hb6;clear hby hG hTu;rw[<- hpb,<- hub,<- hb6];clear hpb hub hb6;go_loopw [48] (fun i wr=>G6 G ub e wh w i wr) (fun i _=>2-(intOf i).toNat)
    case atStart =>
     refine⟨0,by omega,rfl,?_⟩;have h1:=HTu.a;rw[HTu.b]at h1 ⊢;exact h1
    case round =>
     obtain⟨j,hj,rfl,hT⟩:=hrel;rcases(show j=0\/j=1\/j=2 by omega)with rfl|rfl|rfl
     ·have hTj:=hT.to (H:=(ub,Is (im 0 0))::G) (Perm.refl _);have p0:wr.cell? ⟨pb,0,none⟩=some (.pointer (some ⟨ub,0,none⟩)):=aa (hTj.sat.Q7 (b:=pb) (o:=oe ub) (by rw[HG.out];simp)) 0 rfl;have hpl:=hTj.sat.lt (b:=pb) (by rw[HG.out];simp);have HTj:=qqH hTj;clear hT hTj;go_wp2_with fail;go_loopw [61] (fun i wr=>y7 G ub 0 e e w i wr) (fun i _=>4-(intOf i).toNat)
      case atStart=>exact⟨0,by omega,rfl,HTj.out⟩
      case round =>
       obtain⟨m,hm,rfl,hT3⟩:=hrel;by_cases hm4:m<4
       ·have hby:=HBy.out (m) (by omega) wr (hT3.sat.Q7 (by rw[HG.out];simp));obtain⟨x8,hx8⟩:∃x8,x8=((br e wh)[m]'(by rw[hbl];omega)).toNat:=⟨_,rfl⟩;have hx8l:x8<256:=by rw[hx8];exact UInt8.toNat_lt _
        rw[<- hx8]at hby
        have hql:bk ((be e 4).take m)<16777216:=by
         have h1:=fV ((be e 4).take m);have h2:((be e 4).take m).length<=3:=by simp;omega
         have h3:(256:Nat) ^ ((be e 4).take m).length<=256 ^ 3:=Nat.pow_le_pow_right (by omega) h2;omega
        have hnx:bk ((be e 4).take (m+1))=bk ((be e 4).take m)*256+x8:=by
         rw[QH (by rw[bE];exact hm4),oG,hx8];congr 2;simp only[br];rw[getElem_append_left (by rw[bE];exact hm4)]
        obtain⟨q,hq⟩:∃q,q=bk ((be e 4).take m):=⟨_,rfl⟩;rw[<- hq]at hql hnx hT3;have hor:=wg q x8 (by omega) hx8l;have hub3:=hT3.sat.Q5;have c3:wr.cell? ⟨ub,0,none⟩=some (.int .u32 q):=aa hub3 0 rfl;have hul3:=ac hub3;have H6:=Hq2 hnx hT3;have s1:IntKind.u32.wrap ((q:Int)*256)=(q:Int)*256:=wrap_u32 (by omega) (by omega);clear hx8 hq hnx hT3 hub3;go_wp2_with (first|(refine ai rfl (bu 116 (.tmp 73) (.tmp 72) rfl ub 0 #[.int .u32 q,.int .u32 0] 118 (.int .u32 ((q*256+x8:Nat):Int)) H6.z rfl rfl (by simp) (by kernel_rfl) rfl rfl ?_);intro w7 hT7;have HT7:=qqH hT7;clear hT7;simp only[Act.put])|fail);go_roundw
        case rel=>exact⟨m+1,by omega,by go_num,by rw[H6.a];exact HT7.out⟩
        case measure=>simp[intOf];omega
       ·obtain rfl:m=4:=by omega
        have hx4:bk ((be e 4).take 4)=e:=by rw[take_of_length_le (by rw[bE];omega),gC];exact Nat.mod_eq_of_lt (by omega)
        rw[hx4]at hT3;have HT3:=qqH hT3;clear hT3 hx4;go_wp2_with fail;go_roundw
        case rel=>exact⟨0+1,by omega,by go_num,HT3.out⟩
        case measure=>simp[intOf]
     ·have hTj:=hT.to (H:=(ub,Is (im e 0))::G) (Perm.refl _);have p0:wr.cell? ⟨pb,1,none⟩=some (.pointer (some ⟨ub,1,none⟩)):=aa (hTj.sat.Q7 (b:=pb) (o:=oe ub) (by rw[HG.out];simp)) 1 rfl;have hpl:=hTj.sat.lt (b:=pb) (by rw[HG.out];simp);have HTj:=qqH hTj;clear hT hTj;go_wp2_with fail;go_loopw [61] (fun i wr=>y7 G ub 1 wh e w i wr) (fun i _=>4-(intOf i).toNat)
      case atStart=>exact⟨0,by omega,rfl,HTj.out⟩
      case round =>
       obtain⟨m,hm,rfl,hT3⟩:=hrel;by_cases hm4:m<4
       ·have hby:=HBy.out (4+m) (by omega) wr (hT3.sat.Q7 (by rw[HG.out];simp));obtain⟨x8,hx8⟩:∃x8,x8=((br e wh)[4+m]'(by rw[hbl];omega)).toNat:=⟨_,rfl⟩;have hx8l:x8<256:=by rw[hx8];exact UInt8.toNat_lt _
        rw[<- hx8]at hby
        rw[<- Nat.add_assoc]at hby
        have hql:bk ((be wh 4).take m)<16777216:=by
         have h1:=fV ((be wh 4).take m);have h2:((be wh 4).take m).length<=3:=by simp;omega
         have h3:(256:Nat) ^ ((be wh 4).take m).length<=256 ^ 3:=Nat.pow_le_pow_right (by omega) h2;omega
        have hnx:bk ((be wh 4).take (m+1))=bk ((be wh 4).take m)*256+x8:=by
         rw[QH (by rw[bE];exact hm4),oG,hx8];congr 2;simp only[br];rw[getElem_append_right (by rw[bE];omega)];simp[bE]
        obtain⟨q,hq⟩:∃q,q=bk ((be wh 4).take m):=⟨_,rfl⟩;rw[<- hq]at hql hnx hT3;have hor:=wg q x8 (by omega) hx8l;have hub3:=hT3.sat.Q5;have c3:wr.cell? ⟨ub,1,none⟩=some (.int .u32 q):=aa hub3 1 rfl;have hul3:=ac hub3;have H6:=Hq2 hnx hT3;have s1:IntKind.u32.wrap ((q:Int)*256)=(q:Int)*256:=wrap_u32 (by omega) (by omega);clear hx8 hq hnx hT3 hub3;go_wp2_with (first|(refine ai rfl (bu 116 (.tmp 73) (.tmp 72) rfl ub 1 #[.int .u32 e,.int .u32 q] 118 (.int .u32 ((q*256+x8:Nat):Int)) H6.z rfl rfl (by simp) (by kernel_rfl) rfl rfl ?_);intro w7 hT7;have HT7:=qqH hT7;clear hT7;simp only[Act.put])|fail);go_roundw
        case rel=>exact⟨m+1,by omega,by go_num,by rw[H6.a];exact HT7.out⟩
        case measure=>simp[intOf];omega
       ·obtain rfl:m=4:=by omega
        have hx4:bk ((be wh 4).take 4)=wh:=by rw[take_of_length_le (by rw[bE];omega),gC];exact Nat.mod_eq_of_lt (by omega)
        rw[hx4]at hT3;have HT3:=qqH hT3;clear hT3 hx4;go_wp2_with fail;go_roundw
        case rel=>exact⟨1+1,by omega,by go_num,HT3.out⟩
        case measure=>simp[intOf]
     ·have HT9:=qqH (show Turns [] ((ub,Is (im e wh))::G) w wr from hT);clear hT;go_upto_region 22 with(fail);have hT9:=HT9.out.to (H:=(b6,Is (.cells (ay s) 43 (0,0)))::(ub,Is (im e wh))::((pb,Is (oe ub))::(fN u2 (fB us k)++J))) (by rw[HG.out];exact ae);have HT9:=qqH hT9;have hsl:=HL'.out;refine cL [([0,1],2,[0])] [3,4,5,6,7,8,9,10,11] HM.out (by kernel_rfl) fun W tW=>?_
      simp only[Mix,map_cons,map_nil,nth,QG,QF];have k0:=tW HT9.out;clear tW;have gs:∀{W:World},W.heap[b6]?=some (.cells (ay s) 43 (0,0))->W.rangeAt b6 0 (s.map am):=fun h=>by have:=et h 0 128;rwa [drop_zero,take_of_length_le (by omega)]at this
      refine iL 43 (.tmp 6) rfl rfl b6 0 rfl (s.map am) _ (gs (k0.sat.Q7 (by simp))) Tryz.underlying43 rfl (ig hsl) ?_;refine iL 118 (.tmp 11) rfl rfl ub 0 rfl [.int .u32 e,.int .u32 wh] _ (fun j v hv=>aa (k0.sat.Q7 (b:=ub) (o:=im e wh) (by simp)) (0+j) (by rw[Nat.zero_add,<- Array.getElem?_toList];exact hv)) Tryz.underlying118 rfl (by kernel_rfl) (wpStill_nil ?_);refine bw (by kernel_rfl) (lX e wh he hwh W) ?_;rintro e3 w9 ⟨rfl,hs3⟩;have hTA:=k0.Q9 hs3;refine⟨_,rfl,iL 43 (.tmp 6) rfl rfl b6 0 rfl (s.map am) _ (gs (hTA.sat.Q7 (by simp))) Tryz.underlying43 rfl (ig hsl) rfl,?_⟩
      cases b1
      ·refine cD rfl (Ed .eql 43 (.tmp 76) (.tmp 78) _ rfl ll (ay s) (ay (bi e wh)) (.bool false) (by rw[Ej s _ hsl (bZ e wh),HK.b]) rfl rfl) ?_;simp only[Act.put,QA,QB,QC];clear k0 gs hs3;have HTA:=qqH hTA;clear hT9 hTA;still_step
       iterate 6
        refine KA rfl ?_;simp only[Act.put,QA,QB,QC]
       still_step;refine wpStill_nil ?_;go_wp2_with fail;go_roundw
       case rel=>exact⟨k+1,(b6,Is (.cells (ay s) 43 (0,0)))::(ub,Is (im e wh))::((pb,Is (oe ub))::J),by omega,by go_num,by rw[H1.x,HK.a];simpa using H1.b,by rw[<- H1.a,HE.out],by rw[H1.x,HK.a];exact HTA.out.to (by simp only[Bool.false_and,Bool.false_eq_true,if_false,Option.toList_none,append_nil];exact ae)⟩
       case measure=>simp[intOf];omega
      ·refine cD rfl (Ed .eql 43 (.tmp 76) (.tmp 78) _ rfl ll (ay s) (ay (bi e wh)) (.bool true) (by rw[Ej s _ hsl (bZ e wh),HK.b]) rfl rfl) ?_;simp only[Act.put,QA,QB,QC];have g0:w9.cell? ⟨ub,0,none⟩=some (.int .u32 e):=aa (hTA.sat.Q7 (b:=ub) (o:=im e wh) (by simp)) 0 rfl;iterate 3 still_step
       refine qu rfl (v:=.int .u32 ((e%2:Nat):Int)) (by simp[execOp,eqGuard,Bh e he,Act.eval]) ?_;simp only[Act.put,QA,QB,QC];still_step;refine qu rfl (v:=.int .u32 k) (by simp[execOp,DD k (by omega),Act.eval]) ?_
       cases b2
       ·refine qu rfl (v:=.bool false) (by have q:=xd (t:=116) (e%2) k w9;rw[HK.y]at q;simp only[Int.natCast_emod,Int.cast_ofNat_Int]at q;simp[execOp,eqGuard,q,Act.eval,Act.put]) ?_;simp only[Act.put,QA,QB,QC];still_step;refine wpStill_nil ?_;have HTA:=qqH hTA;clear k0 gs g0 hs3 hT9 hTA;go_wp2_with fail;go_roundw
        case rel=>exact⟨k+1,(b6,Is (.cells (ay s) 43 (0,0)))::(ub,Is (im e wh))::((pb,Is (oe ub))::J),by omega,by go_num,by rw[H1.x,HK.a];simpa using H1.b,by rw[<- H1.a,HE.out],by rw[H1.x,HK.a];exact HTA.out.to (by simp only[Bool.and_false,Bool.false_eq_true,if_false,Option.toList_none,append_nil];exact ae)⟩
        case measure=>simp[intOf];omega
       ·refine qu rfl (v:=.bool true) (by have q:=xd (t:=116) (e%2) k w9;rw[HK.y]at q;simp only[Int.natCast_emod,Int.cast_ofNat_Int]at q;simp[execOp,eqGuard,q,Act.eval,Act.put]) ?_;simp only[Act.put,QA,QB,QC];still_step;refine wpStill_nil ?_;clear k0 gs g0 hs3;have hu9:=hTA.sat.Q7 (b:=ub) (o:=im e wh) (by simp);have f0:w9.cell? ⟨ub,0,none⟩=some (.int .u32 e):=aa hu9 0 rfl;have f1:w9.cell? ⟨ub,1,none⟩=some (.int .u32 wh):=aa hu9 1 rfl;have hul9:=ac hu9;have hTA2:=hTA.to (H:=fN u2 (fB us k)++((b6,Is (.cells (ay s) 43 (0,0)))::(ub,Is (im e wh))::((pb,Is (oe ub))::J))) ae;have HTA:=qqH hTA2;have hul:=pp us k;clear hT9 hTA hTA2 hu9;go_wp2_with (first|(at_builtin;refine ai rfl ?_;refine yN (.tmp 88) (.tmp 90) rfl _ (fB us k) rfl (HTA.out.alloc _) H1.b _ 1 1 rfl [(e,wh)] rfl (fun _=>⟨_,rfl,fun j u hu=>iU _ _ _ j u (by simpa[nS]using hu)⟩) (by simp;omega) ?_;intro v10 w10 hok10 hT10;have H10:=Hq2 hok10 hT10;clear hok10 hT10)|fail);go_roundw
        case rel=>exact⟨k+1,(b6,Is (.cells (ay s) 43 (0,0)))::(ub,Is (im e wh))::((pb,Is (oe ub))::J),by omega,by go_num,by rw[H1.x,HK.a];exact H10.a,by rw[<- H1.a,HE.out],by rw[H1.x,HK.a];exact H10.z⟩
        case measure=>simp[intOf];omega
  ·obtain rfl:k=2:=by omega
   have hl2:=pp us 2;obtain⟨l,hl⟩:∃l,l=fB us 2:=⟨_,rfl⟩;have HG:Hid (∀(e:Ending) (w':World),(∃v,e=.returned (.tuple #[v,.bool (cf L.now 2),.nilIface])/\xu v (ey l)/\Turns [] (fN v (ey l)) w w')->sZ us (cf L.now 2) w e w'):=qqH (fun e w' h=>by unfold sZ;rw[<- hl];exact h);rw[<- hl]at hlo hT hl2;have HS:=Hq2 hlo hT;clear hlo hT HC HL hl;by_cases h2:l.length=2
   ·obtain⟨p,q,rfl⟩:∃p q,l=[p,q]:=by
     match l,h2 with
     | [p,q],_=>exact⟨p,q,rfl⟩
    rcases(aR HS.z.sat.left HS.a).2 with⟨-,h0⟩|⟨g,cap,cur,hv,-,hg,h3,h4,h5,h6⟩
    ·exact absurd h0 (by simp)
    have h6:cur.toList.take 4=[.int .u32 p.1,.int .u32 p.2,.int .u32 q.1,.int .u32 q.2]:=h6;have hv:u2=.slice (some ⟨g,0,none⟩) 2 cap:=hv
    have hat:∀(W:World),W.heap[g]?=some (.cells cur 118 (0,0))->∀j v,j<4->[Value.int .u32 p.1,.int .u32 p.2,.int .u32 q.1,.int .u32 q.2][j]?=some v->W.cell? ⟨g,j,none⟩=some v:=fun W hW j v hj h=>by
     refine aa hW j ?_;rw[<- Array.getElem?_toList,<- h,<- h6,getElem?_take,if_pos hj]
    have c0:wr.cell? ⟨g,0,none⟩=some (.int .u32 p.1):=hat wr hg 0 _ (by decide) rfl;have c2:wr.cell? ⟨g,2,none⟩=some (.int .u32 q.1):=hat wr hg 2 _ (by decide) rfl;have hgl:=ac hg;have HSo:=HS.out;rw[hv]at HSo;subst hv;have hc2:(2:Nat)<=cap:=h3;have hc3:cap<=9223372036854775807:=by unfold maxLen at h4;omega
    have HS:=qqH HSo;clear hg h3 h4 h5 h6 hat HSo h2 hl2;by_cases hlt:p.1<q.1
    ·have hlt2:((p.1:Int)<(q.1:Int)):=by omega
     go_wp2_with fail;go_quiet (fail);go_upto_region 26 with(fail);refine cL [([0,1,2,3,4,5,6,7,8],9,[1]),([10],11,[])] [] HM.out (by kernel_rfl) fun W tW=>?_
     simp only[Mix,map_cons,map_nil,nth,QG,QF];have hT:=tW (HS.z.drewN _);clear tW;have k0:W.cell? ⟨g,0,none⟩=some (.int .u32 p.1):=qo hT.sat.left 0 _ (by decide) rfl;have k1:W.cell? ⟨g,1,none⟩=some (.int .u32 p.2):=qo hT.sat.left 1 _ (by decide) rfl;have k2:W.cell? ⟨g,2,none⟩=some (.int .u32 q.1):=qo hT.sat.left 2 _ (by decide) rfl;have k3:W.cell? ⟨g,3,none⟩=some (.int .u32 q.2):=qo hT.sat.left 3 _ (by decide) rfl;repeat still_step
     refine wpStill_nil (uU (.tmp 115) (.tmp 111) rfl g cap 0 p q q hT (by decide) rfl rfl fun W1 hT1=>⟨by((repeat still_step);exact rfl),?_⟩);simp only[Act.put];clear k0 k1 k2 k3 hT;repeat still_step
     refine wpStill_nil (uU (.tmp 116) (.tmp 114) rfl g cap 1 q q p hT1 (by decide) rfl rfl fun W2 hT2=>⟨rfl,?_⟩);simp only[Act.put];clear hT1;refine wpStill_nil ?_;have H2:=qqH (Turns.drop (H:=fN (.slice (some ⟨g,0,none⟩) 2 cap) [q,p]) (show Turns [] (fN (.slice (some ⟨g,0,none⟩) 2 cap) [q,p]++J) w W2 from hT2) (fun x=>by simp only[ah];omega));clear hT2;go_wp2_with fail;go_ret3;exact HG.out _ _ ⟨.slice (some ⟨g,0,none⟩) 2 cap,rfl,⟨by simp[ey,hlt,nS],fun h=>by simp[Value.ownBlock]at h⟩,by simpa[ey,hlt]using H2.out⟩
    ·have hlt2:¬((p.1:Int)<(q.1:Int)):=by omega
     go_wp2_with fail;go_quiet (fail);go_wp2_with fail;go_ret3;exact HG.out _ _ ⟨.slice (some ⟨g,0,none⟩) 2 cap,rfl,by simpa[ey,hlt]using HS.a,by simpa[ey,hlt]using(HS.z.drewN _).drop (fun x=>by simp only[ah];omega)⟩
   ·have ho:ey l=l:=by
     match l,h2 with
     | [],_=>rfl
     | [p],_=>rfl
     | p::q::r::t,_=>rfl
    obtain⟨-,-,sl,cap,e1,-,-⟩:=dl HS.z.sat.left HS.a;obtain⟨m,hm⟩:∃m,m=l.length:=⟨_,rfl⟩;rw[<- hm]at e1 hl2 h2;have hne:((m:Int)==2)=false:=by simp;omega
    have hne2:¬((m:Int)=2):=by omega
    have HM:=Hq3 hm e1 ho;clear hm ho h2;subst e1;go_wp2_with fail;go_quiet (fail);go_wp2_with fail;go_ret3;rw[HM.y]at HG;exact HG.out _ _ ⟨.slice sl m cap,rfl,HS.a,(HS.z.drewN _).drop (fun x=>by simp only[ah];omega)⟩
def uR(l:Bs)(bad:Bool):Nat:=db l bad 1
def lu(l:Bs)(bad:Bool):Bs:=eR (eR l bad 1) (fa l bad 1) (uR l bad)
def kE(l:Bs)(bad:Bool):Bool:=fa (eR l bad 1) (fa l bad 1) (uR l bad)
def gn(l:Bs)(bad:Bool):Bs:=if fa l bad 1=true\/(eR l bad 1).length<uR l bad then[]else(eR l bad 1).take (uR l bad)
def vP(rb:Nat)(l:Bs)(bad:Bool)(w:World)(e:Ending)(w':World):Prop :=
 e=.returned (str (gn l bad))/\Rd w' rb (lu l bad) (kE l bad)/\Mods (fun k=>k=rb) w w'
theorem gk(l:Bs)(bad:Bool)(n:Nat):(eR l bad n).length<=l.length:=by
 unfold eR;split<;>simp
theorem A6(l:Bs)(bad:Bool):db l bad 1<=255:=by
 unfold db;split
 ·omega
 ·have:=fV (l.take 1);have h2:(l.take 1).length<=1:=by simp;omega
  have h3:256 ^ (l.take 1).length<=256 ^ 1:=Nat.pow_le_pow_right (by omega) h2;omega
theorem iG(l:Bs)(bad:Bool):(lu l bad).length<=l.length:=Nat.le_trans (gk _ _ _) (gk _ _ _)
theorem ma(l:Bs)(bad:Bool):(gn l bad).length<=255:=by
 unfold gn;split
 ·simp
 ·rw[length_take];have:=A6 l bad;unfold uR;omega
theorem mV(rb:Nat)(l:Bs)(bad:Bool)(w:World)(h:Rd w rb l bad)(hl:l.length<=1099511627776):
  Calls Tryz.prog 142 #[.pointer (some ⟨rb,0,none⟩)] w (vP rb l bad w):=by
 have HN:=qqH (dd rb l bad 1 w h hl (by omega));clear h;go_enter Tryz.func142,Tryz.ntmps142;go_wp2_with fail;refine HN.out.mono ?_;rintro e w1 ⟨rfl,hR,hm,-⟩;have h2:=A6 l bad;have h3:=gk l bad 1;have HB:=qqH (rA rb (eR l bad 1) (fa l bad 1) (db l bad 1) w1 hR (by omega) (by omega));have H1:=qqH hm;clear hR hm;go_wp2_with fail;refine HB.out.mono ?_;intro e w2 hp;obtain⟨a,cap,bs,rfl,hc,-,hbs,hR2,hm2,-⟩:=nW hp;have hs:=jN cap hc;have H2:=Hq3 hbs hR2 hm2;clear hp hc hbs hR2 hm2;go_wp2_with fail;go_ret;refine ⟨?_,H2.b,H1.out.trans H2.y⟩;rw[H2.a];rfl
def iB(l:Bs):List Int:=(range (l.length / 4)).map fun i=>((bk ((l.drop (4*i)).take 4):Nat):Int)
theorem iZ(l:Bs):(iB l).length=l.length / 4:=by simp[iB]
theorem Da{l:Bs}{k:Nat}(h:k<l.length / 4):(iB l).take (k+1)=(iB l).take k++[((bk ((l.drop (4*k)).take 4):Nat):Int)]:=by
 rw[QH (by rw[iZ];exact h)];simp[iB]
def Ln:Value->Nat
 | .slice _ n _=>n
 | _=>0
theorem J1{v:Value}{l:List Int}{w:World}(hs:Sat w (cA v l))(h:iOk v l):Ln v=l.length:=by
 obtain⟨av,cv,rfl,-⟩:=aP (aR hs h);rfl
def rbF(rb:Nat):HF:=[(rb,fun _=>True)]
def BV(l:Bs)(bad:Bool)(ns:List Int)(l':Bs)(b':Bool):Prop :=
 (b'=false/\bad=false/\∃k,k<=l.length / 4/\l'=l.drop (4*k)/\ns=(iB l).take k)\/(b'=true/\(bad=true\/l.length%4≠0)/\ns.length<=l.length+1)
def Hb(rb:Nat)(l:Bs)(bad:Bool)(w:World)(v:Value)(W:World):Prop :=
 ∃ns l' b',iOk v ns/\Turns (rbF rb) (cA v ns++rbF rb) w W/\Rd W rb l' b'/\BV l bad ns l' b'
def E1(rb:Nat)(l:Bs)(bad:Bool)(w:World)(e:Ending)(w':World):Prop :=
 ∃v ns l' b',e=.returned v/\iOk v ns/\Turns (rbF rb) (cA v ns++rbF rb) w w'/\Rd w' rb l' b'/\((b'=false/\bad=false/\l.length%4=0/\l'=[]/\ns=iB l)\/(b'=true/\(bad=true\/l.length%4≠0)/\ns.length<=l.length+1))
theorem I0{rb:Nat}{w w':World}(hm:Mods (fun k=>k=rb) w w'){F G:HF}{A:World}{o:Obj}(h:Turns F (G++rbF rb) A w)(ho:w'.heap[rb]?=some o):Turns F (G++[(rb,Is o)]) A w' :=
 ((h.to (H:=(rb,fun _=>True)::G) (by unfold rbF;exact perm_append_comm)).put hm ho Is.rfl).to (perm_append_comm (l₁:=[(rb,Is o)]))
theorem Dy{rb:Nat}{w:World}{F G:HF}{A:World}{o:Obj}(h:Turns F (G++[(rb,Is o)]) A w):Turns F (G++rbF rb) A w:=by
 have h1:=h.to (H:=(rb,Is o)::G) perm_append_comm;exact(h1.put (Mods.refl _ _) h1.sat.Q5 (ψ:=fun _=>True) trivial).to (by unfold rbF;exact perm_append_comm (l₁:=[(rb,fun _=>True)]))
theorem Rd.via{rb:Nat}{l:Bs}{b:Bool}{w0 W w':World}(h:Rd W rb l b)(h1:Mods (fun k=>k∈dom (rbF rb)) w0 W)(h2:Mods (fun k=>k∈dom (rbF rb)) w0 w')(hr:rb<w0.heap.size)(he:w'.heap[rb]?=W.heap[rb]?):Rd w' rb l b:=by
 obtain⟨a,cap,e1,e2,e3,e4⟩:=h;refine⟨a,cap,?_,e2,fun hp=>?_,e4⟩
 ·unfold sV at e1 ⊢;rw[he];exact e1
 ·obtain⟨g,off,ha,hc⟩:=e3 hp;have hg:g<rb:=e4 _ ha;have hS:¬(g∈dom (rbF rb)):=by simp[rbF,dom];omega
  refine⟨g,off,ha,fun j hj=>?_⟩;rw[<- hc j hj];exact World.cell?_of_block ((h2.block g (by omega) hS).trans (h1.block g (by omega) hS).symm)
theorem AN{l l':Bs}{bad:Bool}{ns:List Int}(h:BV l bad ns l' false)(hne:l'≠[]):BV l bad (ns++[((db l' false 4:Nat):Int)]) (eR l' false 4) (fa l' false 4)/\ns.length<=l.length:=by
 rcases h with⟨-,hb,k,hk,rfl,rfl⟩|⟨h,-,-⟩
 ·have hl:(l.drop (4*k)).length=l.length-4*k:=length_drop;have hl2:((iB l).take k).length=k:=by rw[length_take,iZ];omega
  have hpos:0<l.length-4*k:=by rw[<- hl];exact length_pos_iff.2 hne
  refine⟨?_,by omega⟩;by_cases h4:(l.drop (4*k)).length<4
  ·refine .inr ⟨by simp[fa];omega,.inr (by omega),?_⟩;rw[length_append,hl2];simp;omega
  ·refine .inl ⟨by simp[fa];omega,hb,k+1,by omega,?_,?_⟩
   ·unfold eR;rw[if_neg (by simp;omega),drop_drop];congr 1
   ·unfold db;rw[if_neg (by simp;omega),Da (by omega)]
 ·cases h
theorem n9(rb:Nat)(l:Bs)(bad:Bool)(w:World)(h:Rd w rb l bad)(hl:l.length<=70000):
  Calls Tryz.prog 143 #[.pointer (some ⟨rb,0,none⟩)] w (E1 rb l bad w):=by
 have hrl:rb<w.heap.size:=by obtain⟨a,cap,h1,-⟩:=h;exact ac h1
 have HH:=qqH h;clear h;go_enter Tryz.func143,Tryz.ntmps143;go_wp2_with fail;go_loopw [3] (fun v wr=>Hb rb l bad w v wr) (fun v _=>l.length+2-Ln v)
 case atStart =>
  refine⟨[],l,bad,sA,?_,HH.out,?_⟩
  ·rw[Am];obtain⟨a,cap,h1,-⟩:=HH.out;exact Turns.refl (Sat.one h1 trivial)
  ·cases bad with
   | false=>exact .inl ⟨rfl,rfl,0,Nat.zero_le _,rfl,rfl⟩
   | true=>exact .inr ⟨rfl,.inl rfl,by simp⟩
 case round =>
  obtain⟨ns,l',b',hio,hT,hR,hN⟩:=hrel;obtain⟨a',cap',e1,e2,e3,e4⟩:=hR;have c0:wr.cell? ⟨rb,0,none⟩=some (.slice a' l'.length cap'):=aa e1 0 rfl;have c1:wr.cell? ⟨rb,1,none⟩=some (.bool b'):=aa e1 1 rfl;have hlv:=J1 hT.sat.left hio;have HR:=Hq4 hio hT (show Rd wr rb l' b' from⟨a',cap',e1,e2,e3,e4⟩) hN;clear hio hT hN e1 e2 e3 e4;by_cases h0:l'=[]
  ·have hd:l'.length=0:=by rw[h0];rfl
   rw[hd]at c0;go_wp2_with fail;go_ret;refine ⟨u3,ns,l',b',rfl,HR.a,HR.b,HR.c,?_⟩;rcases HR.x with⟨h1,h2,k,h3,h4,h5⟩|h
   ·refine .inl ⟨h1,h2,?_,h0,?_⟩
    ·have:=congrArg length h4;rw[h0,length_drop]at this;simp at this;omega
    ·rw[h5,take_of_length_le];rw[iZ];have:=congrArg length h4;rw[h0,length_drop]at this;simp at this;omega
   ·exact .inr h
  ·have hp:0<l'.length:=length_pos_iff.2 h0
   cases b' with
   | true =>
    go_wp2_with fail;go_ret;refine ⟨u3,ns,l',true,rfl,HR.a,HR.b,HR.c,?_⟩;rcases HR.x with⟨h1,-⟩|h
    ·cases h1
    ·exact .inr h
   | false =>
    have hnx:=AN HR.x h0;have HN:=qqH (dd rb l' false 4 wr HR.c (by rcases HR.x with⟨-,-,k,-,rfl,-⟩|⟨h,-⟩<;>first|(rw[length_drop];omega)|cases h) (by omega));have HX:=Hq2 hnx.1 hlv;have hnl:=hnx.2;clear hnx hlv;go_wp2_with fail;refine HN.out.mono ?_;rintro e w1 ⟨rfl,hR1,hm1,-⟩;obtain⟨o,ho⟩:∃o,w1.heap[rb]?=some o:=by obtain⟨a,c,h1,-⟩:=hR1;exact⟨_,h1⟩
    have hT1:=I0 hm1 HR.b ho;obtain⟨x,hx⟩:∃x,x=db l' false 4:=⟨_,rfl⟩;rw[<- hx]at HX ⊢;have H1:=Hq3 hR1 ho hT1;clear hR1 hm1 ho hT1 hx c0 c1;go_wp2_with ((at_builtin;refine ai rfl ?_;refine mh (.tmp 17) (.tmp 20) rfl _ ns rfl (H1.y.alloc _) HR.a _ 1 1 rfl [(x:Int)] rfl (fun _=>⟨_,rfl,fun j u hu=>iU _ _ _ j u hu⟩) (by simp;omega) ?_;intro av cv w5 hok5 hT5;have H5:=Hq2 hok5 hT5;clear hok5 hT5));go_roundw
    case rel =>
     have h5:=H5.z;have hR5:=Rd.via H1.a (H1.y.mods) h5.mods hrl ((h5.sat.Q7 (b:=rb) (by simp)).trans H1.b.symm);refine⟨_,_,_,?_,Dy (o:=o) ?_,hR5,HX.a⟩
     ·have:=H5.a;rw[length_append]at this;exact this
     ·rw[length_append]at h5;exact h5
    case measure=>rw[HX.z];simp[Ln];omega
end
end Go.Proofs.YtdhobpbngkainaaGreatDoor
