/- Ours. A part of the proof, made small by a program. -/
import Derived.Test.YtdhobpbngkainaaGreatDoorKq02
set_option maxRecDepth 100000
set_option maxHeartbeats 4000000
namespace Go.Proofs.YtdhobpbngkainaaGreatDoor
section
open Go.RowKit Go.Maps
structure VerL where
 blk:Nat
 num:Nat
 size:Nat
 cv:Value
 chs:List (Nat×Nat)
 held:Int
def fW(V:VerL):Array Value:=#[.int .i64 V.num,.int .i64 V.size,V.cv,.int .i64 V.held]
def dy(V:VerL):Obj:=.cells (fW V) 152 (0,0)
def qy(p:Nat×Nat):List Value:=[.int .i64 p.1,.int .i64 p.2]
def cV(l:List (Nat×Nat)):List Value:=l.flatMap qy
def aQ(v:Value)(l:List (Nat×Nat)):HF:=bN 161 2 v l.length (cV l)
def bQ(v:Value)(l:List (Nat×Nat)):Prop:=dj 2 v l.length (cV l)
def bT(V:VerL):HF:=(V.blk,Is (dy V))::aQ V.cv V.chs
def dz(V:VerL):Value:=.pointer (some ⟨V.blk,0,none⟩)
abbrev bl:=GE (List VerL)
def c8(v:Value)(l:List VerL):HF:=bN 149 1 v l.length (l.map dz)
def et(v:Value)(l:List VerL):Prop:=dj 1 v l.length (l.map dz)
def er(v:Value)(g:List VerL):HF:=c8 v g++g.flatMap bT
def J6(p:bl):Prop:=et p.val p.g/\∀V∈p.g,bQ V.cv V.chs
def aU(pm:Nat)(ps:List bl)(c:Nat):HF:=(pm,Is (aR str (ps.map aN) c))::fU er ps
def OkS(l:Bs):Prop:=l.length<=1000000
structure PathsOk (ps:List bl) (c:Nat):Prop where
 map:MapOk OkS (ps.map aN) c
 rows:∀p∈ps,J6 p
theorem DC:∀a b:Bs,str a=str b->a=b:=fun a b h=>by
 simp only[str,Value.string.injEq,ByteArray.mk.injEq]at h
 simpa using congrArg Array.toList h
theorem eB:EncOk Tryz.prog 9 str OkS where
 keyed:=string_keyed Tryz.underlying9
 inj:=DC
 key:=fun a h=>⟨_,Go.WideMaps.keyOf_string_mk Tryz.underlying9 (by
  simp only[ByteArray.size]
  unfold OkS at h
  unfold maxLen
  simp
  omega)⟩
def ai(ps:List bl)(l:Bs):List VerL:=gOf [] ps l
theorem Sat.flat{α:Type}{w:World}{f:α->HF}:∀{l:List α},Sat w (l.flatMap f)->∀{x:α},x∈l->Sat w (f x)
 | [],_,_,hx=>by simp at hx
 | a::r,h,x,hx=>by
  rw[List.flatMap_cons]at h
  rcases List.mem_cons.1 hx with rfl|hx
  ·exact h.left
  ·exact Sat.flat h.right hx
theorem gM{w:World}{pm c:Nat}{ps:List bl}(h:Sat w (aU pm ps c))(hok:PathsOk ps c)(l:Bs):
  ∃sl cap,eE (.slice none 0 0) ps l=.slice sl (ai ps l).length cap/\(ai ps l).length<=cap/\cap<=9223372036854775807/\ak w sl ((ai ps l).map dz)/\(∀V∈ai ps l,w.heap[V.blk]?=some (dy V))/\(dom ((ai ps l).flatMap bT)).Nodup:=by
 unfold ai eE gOf
 cases hf:ps.find? (fun p=>decide (p.key=l))with
 | none=>exact⟨none,0,rfl,Nat.le_refl _,by omega,fun h=>by simp at h,fun V hV=>by simp at hV,List.nodup_nil⟩
 | some p =>
  have hm:=List.mem_of_find?_eq_some hf;have hp:Sat w (er p.val p.g):=Sat.flat (f:=fun p:bl=>er p.val p.g) h.tail hm;have hok2:=hok.rows p hm;obtain⟨sl,cap,e1,e2,e3,e5,e4,_⟩:=oK (aW hp.left hok2.1);refine⟨sl,cap,by simpa using e1,e3,e5,e4,fun V hV=>?_,?_⟩
  ·have:Sat w (bT V):=Sat.flat hp.right hV;exact this.Q5
  ·exact hp.right.nodup
def ik:List VerL->Int->Option VerL
 | [],_=>none
 | v::r,n=>if(v.num:Int)=n\/(n=0/\r=[])then some v else ik r n
def xZ(X:ArchL)(ps:List bl)(l:Bs)(n:Int)(w:World)(e:Ending)(w':World):Prop :=
 e=.returned (if X.closed then .tuple #[.pointer none,cC 9]else if aA l then(match ik (ai ps l) n with|some V=>.tuple #[dz V,.nilIface]|none=>.tuple #[.pointer none,cC 3])else .tuple #[.pointer none,cC 1])/\aX w w'
theorem Iy:∀{vs:List VerL},(dom (vs.flatMap bT)).Nodup->∀{i j:Nat} (hi:i<vs.length) (hj:j<vs.length),vs[i].blk=vs[j].blk↔i=j:=by
 have key:∀{vs:List VerL},(dom (vs.flatMap bT)).Nodup->∀{i j:Nat} (hj:j<vs.length) (hij:i<j),vs[i].blk≠vs[j].blk:=by
  intro vs;induction vs with
  | nil=>intro _ i j hj;simp at hj
  | cons v r ih =>
   intro h i j hj hij e;rw[List.flatMap_cons,cT,List.nodup_append]at h
   cases j with
   | zero=>omega
   | succ j =>
    cases i with
    | zero =>
     simp only[List.getElem_cons_zero,List.getElem_cons_succ]at e;have h1:v.blk∈dom (bT v):=by simp[bT]
     have hjr:j<r.length:=by simpa using hj
     have h2:v.blk∈dom (r.flatMap bT):=by
      rw[e];refine List.mem_map.2 ⟨(r[j].blk,Is (dy r[j])),List.mem_flatMap.2 ⟨r[j],List.getElem_mem hjr,by simp[bT]⟩,rfl⟩
     exact h.2.2 _ h1 _ h2 rfl
    | succ i =>
     simp only[List.getElem_cons_succ]at e;exact ih h.2.1 (by simpa using hj) (by omega) e
 intro vs h i j hi hj;refine⟨fun e=>?_,fun e=>by subst e;rfl⟩;rcases Nat.lt_trichotomy i j with hl|hl|hl
 ·exact absurd e (key h hj hl)
 ·exact hl
 ·exact absurd e.symm (key h hi hl)
theorem IG{w:World}{U V:VerL}(hu:w.heap[U.blk]?=some (dy U))(hv:w.heap[V.blk]?=some (dy V)):
  (binOp .eql 149 (.pointer (some ⟨U.blk,0,none⟩)) (.pointer (some ⟨V.blk,0,none⟩))).run Tryz.prog w=.ok (.bool (decide (U.blk=V.blk))) w:=by
 have hs:(Tryz.prog.info? 152).map (·.size)=some 4:=by kernel_rfl
 obtain⟨j,hj,hsz⟩:=Option.map_eq_some_iff.1 hs;by_cases h:U.blk=V.blk
 ·rw[<- h,decide_eq_true rfl];exact run_eql_ptr_same w _ Tryz.underlying149 hj
 ·rw[decide_eq_false h];exact run_eql_ptr_other w Tryz.underlying149 hj (by rw[hsz];decide) (fun e=>h (congrArg Addr.block e)) hu hv
theorem fX{κ:Type}[DecidableEq κ]{P:Program}{k t ev:TypeId}{enc:κ->Value}{Ok:κ->Prop}(E:EncOk P k enc Ok){w:World}{ops:Array Oper}{rest:List Oper}{o:Oper}{a:Act}{Q:Exit->Act->World->Prop}(hg:o.guard=none)(m x:Operand)(hop:o.op=.lookup t m x false)(ht:P.underlying t=some (.map k ev)){b:Nat}{l:List (Ent κ)}{c:Nat}(hb:w.heap[b]?=some (aR enc l c))(hm:MapOk Ok l c){z:Value}(hz:(zeroValue ev).run P w=.ok z w)(key:κ)(hmv:a.eval m=.map (some b))(hx:a.eval x=enc key)(hk:Ok key)(hK:wpList P ops Q rest (a.put o.dst ((dW l key).getD z)) w):wpList P ops Q (o::rest) a w:=by
 refine al hg (am (v:=(dW l key).getD z) (w':=w) ?_ hK);simp[execOp,hop,hmv,hx,tN E ht hb hm hz hk,Result.andThen]
theorem gd(w:World):(zeroValue 153).run Tryz.prog w=.ok (.slice none 0 0) w:=by kernel_rfl
def wD(vs:List VerL)(n:Int)(w:World)(i:Value)(wr:World):Prop:=∃k:Nat,k<=vs.length/\i=.int .i64 k/\aX w wr/\ik vs n=ik (vs.drop k) n
theorem iJ(a:Nat)(X:ArchL)(ps:List bl)(c:Nat)(l:Bs)(n:Int)(w:World)(h:w.heap[a]?=some (aO X))(hp:Sat w (aU X.pm ps c))(hok:PathsOk ps c):
  Calls Tryz.prog 85 #[.pointer (some ⟨a,0,none⟩),str l,.int .i64 n] w (xZ X ps l n w):=by
 have hal:=ah h
 have HB:=qqH (fun W (hW:aX w W) (hc:W.cell? ⟨w.heap.size,0,none⟩=some (str l))=>kh a X (some ⟨w.heap.size,0,none⟩) 1 [l] W (hW.at h id) (fun _=>⟨_,_,rfl,fun j hj=>by
  obtain rfl:j=0:=by simp at hj;omega
  exact hc⟩) (by simp))
 have HC:=Hq3 h hp hok;clear h hp hok;go_enter Tryz.func85,Tryz.ntmps85;go_wp2_with fail;refine(HB.out _ ((Mods.refl _ w).alloc _) (aa (aM w _) 0 rfl)).mono ?_;rintro e w1 ⟨rfl,hs1⟩;have hs2:aX w w1:=((Mods.refl _ w).alloc _).trans hs1;obtain⟨cl,hcl⟩:∃cl,cl=X.closed:=⟨_,rfl⟩;obtain⟨pb,hpb⟩:∃pb,pb=aA l:=⟨_,rfl⟩;have e1:([l].all aA)=pb:=by simp[hpb]
 rw[e1,<- hcl];have HD:=Hq3 hcl hpb hs2;clear hcl hpb hs2 hs1 e1
 cases cl with
 | true =>
  simp only[if_true];go_wp2_with fail;refine bodyPost_ret (results_tmp2 rfl _ _ _) rfl ⟨?_,HD.y⟩;rw[<- HD.a];rfl
 | false =>
  cases pb with
  | false =>
   simp only[Bool.false_eq_true,if_false];go_wp2_with fail;refine bodyPost_ret (results_tmp2 rfl _ _ _) rfl ⟨?_,HD.y⟩;rw[<- HD.a,<- HD.b];rfl
  | true =>
   obtain⟨sl,cap,hl1,hl2,hl6,hl3,hl4,hl5⟩:=gM (HC.b.same HD.y) HC.y l;have b0:w1.cell? ⟨a,0,none⟩=some (.map (some X.pm)):=aa (HD.y.at HC.a id) 0 rfl;have hal1:a<w1.heap.size:=Nat.lt_of_lt_of_le hal HD.y.size;obtain⟨vs,hvs⟩:∃vs,vs=ai ps l:=⟨_,rfl⟩;rw[<- hvs]at hl1 hl2 hl3 hl4 hl5;have HG:=Hq5 hl1 hl3 hl4 hl5 hvs;clear hl1 hl3 hl4 hl5 hvs;have hmo:=(HC.b.same HD.y).Q5;have HM:=qqH hmo;clear hmo
   have hlen:OkS l:=by
    have:=HD.b;unfold aA at this;have h2:=this.symm;simp only[Bool.and_eq_true,decide_eq_true_eq]at h2;unfold OkS;have:=h2.1.2;omega
   have HL:=qqH hlen;clear hlen;simp only[Bool.false_eq_true,if_false,if_true];go_wp2_with (at_lookup;refine fX eB rfl _ _ rfl Tryz.underlying119 HM.out HC.y.map (gd _) l rfl rfl HL.out ?_;rw[de,HG.a]);go_loopw [28] (fun v wr=>wD vs n w1 v wr) (fun v _=>vs.length-(intOf v).toNat)
   case atStart=>exact⟨0,Nat.zero_le _,rfl,Mods.refl _ _,rfl⟩
   case round =>
    obtain⟨k,hk,rfl,hs,hfi⟩:=hrel;have HR:=Hq2 hs hfi;clear hs hfi;by_cases hlt:k<vs.length
    ·obtain⟨g,off,hg,hcell⟩:=HG.b.keep HR.a (fun _ _ _=>id) (by simpa using(by omega:0<vs.length));subst hg;obtain⟨V,hV⟩:∃V,V=vs[k]:=⟨_,rfl⟩;obtain⟨z,hz⟩:∃z,vs.length=z+1:=⟨vs.length-1,by omega⟩;obtain⟨Z,hZ⟩:∃Z,Z=vs[z]:=⟨_,rfl⟩;have hw:wrap64 ((vs.length:Int)-1)=(z:Int):=by rw[IntWalk.wrap64_in _ (by omega)];omega
     have hzl:(z:Int)<(vs.length:Int):=by omega
     have hz1:z<vs.length:=by omega
     have hz2:¬vs.length<=z:=by omega
     have hck:wr.cell? ⟨g,off+k,none⟩=some (dz V):=by rw[hcell k (by simpa using hlt)];simp[hV]
     have hcz:wr.cell? ⟨g,off+(vs.length-1),none⟩=some (dz Z):=by rw[show vs.length-1=z by omega,hcell z (by simp;omega)];simp[hZ]
     have hvo:=HR.a.at (HG.c V (hV ▸ List.getElem_mem hlt)) id;have v0:wr.cell? ⟨V.blk,0,none⟩=some (.int .i64 V.num):=aa hvo 0 rfl;have hdr:vs.drop k=V::vs.drop (k+1):=by rw[hV];exact List.drop_eq_getElem_cons hlt
     have hzk:V.blk=Z.blk↔k=z:=by
      rw[hV,hZ];exact Iy HG.d hlt hz1
     have hpe:=IG hvo (HR.a.at (HG.c Z (hZ ▸ List.getElem_mem hz1)) id);have HV:=Hq3 hdr hzk hz;clear hcell hvo hdr hzk hV hZ hz;unfold dz at hck hcz;by_cases c1:(V.num:Int)=n
     ·go_wp2_with fail;refine bodyPost_ret (results_tmp2 rfl _ _ _) rfl ⟨?_,HD.y.trans HR.a⟩;rw[<- HD.a,<- HD.b,<- HG.w,HR.z,HV.a];simp only[ik,c1,true_or,if_true];rfl
     ·by_cases c2:n=0
      ·subst c2;by_cases c3:V.blk=Z.blk
       ·rw[decide_eq_true c3]at hpe;have C3:=qqH c3;clear c3;go_wp2_with fail;refine bodyPost_ret (results_tmp2 rfl _ _ _) rfl ⟨?_,HD.y.trans HR.a⟩;have hlast:vs.drop (k+1)=[]:=List.drop_of_length_le (by have:=HV.b.1 C3.out;have:=HV.y;omega);rw[<- HD.a,<- HD.b,<- HG.w,HR.z,HV.a,hlast];simp only[ik,and_self,or_true,if_true];rfl
       ·rw[decide_eq_false c3]at hpe
        have hrel:wD vs 0 w1 (.int .i64 ((k:Int)+1)) wr:=by
         refine⟨k+1,by omega,by go_num,HR.a,?_⟩;rw[HR.z,HV.a];have:¬vs.drop (k+1)=[]:=fun h=>c3 (HV.b.2 (by have:=congrArg List.length h;rw[List.length_drop]at this;have h3:=HV.y;simp only[List.length_nil]at this;omega))
         simp only[ik,c1,this,and_false,or_false,if_false]
        have HREL:=qqH hrel;clear hrel;go_wp2_with fail;go_roundw
        case rel=>exact HREL.out
        case measure=>simp[intOf];omega
      ·have hrel:wD vs n w1 (.int .i64 ((k:Int)+1)) wr:=by
        refine⟨k+1,by omega,by go_num,HR.a,?_⟩;rw[HR.z,HV.a];simp[ik,c1,c2]
       have HREL:=qqH hrel;clear hrel;go_wp2_with fail;go_roundw
       case rel=>exact HREL.out
       case measure=>simp[intOf];omega
    ·obtain rfl:k=vs.length:=by omega
     go_wp2_with fail;refine bodyPost_ret (results_tmp2 rfl _ _ _) rfl ⟨?_,HD.y.trans HR.a⟩;rw[<- HD.a,<- HD.b,<- HG.w,HR.z];simp[ik]
end
section
open Go.RowKit
theorem Al(l:Bs):(⟨l.toArray⟩:ByteArray).size=l.length:=by simp[ByteArray.size]
theorem Fe(l:Bs)(size:Nat):(Builtin.firstCells size l.length (str l))=pure (l.map ao).toArray:=by
 simp only[Builtin.firstCells];congr 1
 have:(⟨l.toArray⟩:ByteArray).extract 0 l.length=⟨l.toArray⟩:=by
  apply ByteArray.ext;simp
 rw[this];simp[ao]
section
variable {P : Program} (w : World)
theorem tK(t u ty e:TypeId)(i:TypeInfo)(z:Value)(bytes:Nat)(ht:P.underlying t=some (.slice e))(hu:P.underlying u=some .string)(hi:P.info? e=some i)(hz:i.zero=some z)(hsize:i.size=1)(hby:i.bytes=bytes)(hzs:z.cells.size=1)(v:Value)(n:Nat)(xs:List Value)(hown:w.ownsRow 0 e 1 v n xs)(r:Bs)(h63:n+r.length<=maxLen)(hbytes:(n+r.length)*bytes<=140737488355328):
  ∃v' w',(Builtin.append_ #[t,u] ty #[v,str r]).run P w=.ok v' w'/\w'.ownsRow 0 e 1 v' (n+r.length) (xs++r.map ao)/\w.grownBy w' v.ownBlock/\(∀g,v'.ownBlock=some g->v.ownBlock=some g\/w.heap.size<=g)/\(v'=.slice none 0 0↔v=.slice none 0 0/\r.length=0):=by
 have hl:(r.map ao).length=r.length*i.size:=by simp[hsize]
 subst hby
 have hsmall:n+r.length<=9223372036854775807:=by simp only[maxLen]at h63;omega
 have hlen:(xs++r.map ao).length=(n+r.length)*1:=by rw[List.length_append,hown.1];simp
 have hsz:=Al r;have hfc:=Fe r i.size
 have grown:∀(old:Nat),old<n+r.length->∀(row:Option Nat),
   (w.drew.alloc (.cells (xs.toArray++(r.map ao).toArray++Builtin.zeroCells z.cells (grownCap w (n+r.length) old e-(n+r.length))) e)).ownsRow 0 e 1
    (.slice (some ⟨w.heap.size,0,none⟩) (n+r.length) (grownCap w (n+r.length) old e)) (n+r.length) (xs++r.map ao) /\
   w.grownBy (w.drew.alloc (.cells (xs.toArray++(r.map ao).toArray++Builtin.zeroCells z.cells (grownCap w (n+r.length) old e-(n+r.length))) e)) row:=by
  intro old ho row;have hge:=grownCap_ge w (n+r.length) old e;have hcm:grownCap w (n+r.length) old e<=maxLen:=grownCap_le_maxLen w (n+r.length) old e h63;refine⟨⟨hlen,.inr ⟨w.heap.size,_,_,rfl,Nat.zero_le _,World.alloc_heap_new w.drew _,hge,hcm,?_,?_⟩⟩,⟨rfl,rfl,rfl,by simp,fun k hk _=>dV (w:=w.drew) hk⟩⟩
  ·simp only[Array.size_append,List.size_toArray,size_zeroCells,hzs,hown.1,List.length_map];omega
  ·simp only[Array.toList_append,List.append_assoc];rw[<- List.append_assoc,<- hlen];exact List.take_left
 rcases hown.2 with⟨rfl,rfl⟩|⟨g,cap,cur,rfl,hbg,hg,hnc,hcm,hcs,htake⟩
 ·have hx:xs=[]:=List.eq_nil_of_length_eq_zero (by simpa using hown.1);subst hx;by_cases hm:r.length=0
  ·obtain rfl:r=[]:=List.eq_nil_of_length_eq_zero hm;refine⟨.slice none 0 0,w,?_,World.ownsRow_nil w 0 e 1,⟨rfl,rfl,rfl,Nat.le_refl _,fun _ _ _=>rfl⟩,fun g h=>.inl h,by simp⟩;simp[Builtin.append_,run_underlying ht,run_underlying hu,sizeOf,typeInfo,hi,Builtin.lenOf,str,Builtin.firstCells];try rfl
  ·have hn:r.length≠0:=hm;have h63':¬(9223372036854775807<(r.length:Int)):=by omega
   have h48':¬(281474976710656<Builtin.nextslicecap r.length 0*i.bytes):=by rw[nextslicecap_zero (by omega)];simp only[Nat.zero_add]at hbytes;omega
   have hr:(Builtin.append_ #[t,u] ty #[.slice none 0 0,str r]).run P w=.ok (.slice (some ⟨w.heap.size,0,none⟩) r.length (grownCap w r.length 0 e)) (w.drew.alloc (.cells ((r.map ao).toArray++Builtin.zeroCells z.cells (grownCap w r.length 0 e-r.length)) e)):=by
    unfold str at hfc ⊢;simp[Builtin.append_,run_underlying ht,run_underlying hu,sizeOf,typeInfo,zeroValue,hi,hz,Builtin.lenOf,hsz,hn,h63',h48',Question.forced,run_firstCells_none,hfc,newRow,grownCap]
   have hgr:=grown 0 (by omega) (Value.ownBlock (.slice none 0 0));simp only[Nat.zero_add,List.nil_append,Array.empty_append]at hgr ⊢;exact⟨_,_,hr,hgr.1,hgr.2,fun g hg=>by simp[Value.ownBlock]at hg;exact .inr (by omega),by simp[hm]⟩
 ·by_cases hroom:n+r.length<=cap
  ·have hfit:n*i.size+(r.map ao).length<=cur.size:=by rw[hl,hcs,hsize];omega
   have hst:=run_storeCells_at P g (n*i.size) e (r.map ao) 0 cur w hg (by simpa using hfit) (ej r);simp only[Nat.add_zero]at hst
   have hr:(Builtin.append_ #[t,u] ty #[.slice (some ⟨g,0,none⟩) n cap,str r]).run P w=.ok (.slice (some ⟨g,0,none⟩) (n+r.length) cap) (w.setRow g (cur.toList.take (n*i.size)++r.map ao++cur.toList.drop (n*i.size+(r.map ao).length)).toArray):=by
    unfold str at hfc ⊢;simp[Builtin.append_,run_underlying ht,run_underlying hu,sizeOf,typeInfo,hi,Builtin.lenOf,hsz,hroom,hfc,Addr.add_lit];simp only[List.append_assoc,List.length_map]at hst;rw[hst];rfl
   rw[hsize]at hr;refine⟨_,_,hr,⟨hlen,.inr ⟨g,cap,_,rfl,hbg,setRow_heap w g cur _ e _ hg,hroom,hcm,?_,?_⟩⟩,⟨rfl,rfl,rfl,by simp,fun k _ hk=>setRow_other w g k _ (fun e=>hk (by simp[Value.ownBlock,e]))⟩,fun g' hg'=>.inl hg',by simp⟩
   ·simp only[List.size_toArray,List.length_append,List.length_take,List.length_drop,Array.length_toList,List.length_map];omega
   ·rw[htake,<- hlen];exact List.take_left
  ·have holds:∀j u,xs[j]?=some u->w.cell? ((⟨g,0,none⟩:Addr).add j)=some u:=hown.cells (g:=g) rfl;have hn:¬(n+r.length<=cap):=hroom;have h63':¬(9223372036854775807<((n:Int)+(r.length:Int))):=by omega
   have h48':¬(281474976710656<Builtin.nextslicecap (n+r.length) cap*i.bytes):=by have:=growslice_fits (need:=n+r.length) (old:=cap) (by omega) hbytes;omega
   have hfo:=run_firstCells_some (P:=P) w.drew i.size n ⟨g,0,none⟩ n cap xs (by rw[hown.1,hsize]) (by simpa using holds)
   have hr:(Builtin.append_ #[t,u] ty #[.slice (some ⟨g,0,none⟩) n cap,str r]).run P w=.ok (.slice (some ⟨w.heap.size,0,none⟩) (n+r.length) (grownCap w (n+r.length) cap e)) (w.drew.alloc (.cells (xs.toArray++(r.map ao).toArray++Builtin.zeroCells z.cells (grownCap w (n+r.length) cap e-(n+r.length))) e)):=by
    unfold str at hfc ⊢;simp[Builtin.append_,run_underlying ht,run_underlying hu,sizeOf,typeInfo,zeroValue,hi,hz,Builtin.lenOf,hsz,hn,h63',h48',Question.forced,hfc,hfo,newRow,grownCap];try (congr 2;apply Array.ext';simp[List.append_assoc])
   have hgr:=grown cap (by omega) (Value.ownBlock (.slice (some ⟨g,0,none⟩) n cap));exact⟨_,_,hr,hgr.1,hgr.2,fun g hg=>by simp[Value.ownBlock]at hg;exact .inr (by omega),by simp⟩
end
theorem CK{o:Oper}{a:Act}{w a0:World}{K:Act->World->Prop}{Q:Exit->Act->World->Prop}{F G:HF}(s x:Operand)(hop:o.op=.call { callee:=.builtin .append,args:=#[s,x],argTypes:=#[38,9] })(v:Value)(l:Bs)(hs:a.eval s=v)(hT:Turns F (aK v l++G) a0 w)(hok:bOk v l)(r:Bs)(hx:a.eval x=str r)(hb:l.length+r.length<=137438953472)(hk:∀av cv w',bOk (.slice av (l++r).length cv) (l++r)->Turns F (aK (.slice av (l++r).length cv) (l++r)++G) a0 w'->K (a.put o.dst (.slice av (l++r).length cv)) w'):o.wp Tryz.prog a w K Q:=by
 obtain⟨i0,hi0,hz1,hz2,hz3⟩:=info_parts jm;obtain⟨v',w',hr,r1,r2,r3,r4⟩:=tK (P:=Tryz.prog) w 38 9 o.type 5 i0 (.int .u8 0) 1 Tryz.underlying38 Tryz.underlying9 hi0 hz1 hz2 hz3 rfl v l.length (l.map ao) (dX hT.sat.left hok) r (by unfold maxLen;omega) (by omega);have hh:=jt hT rfl r1 r2 r3;unfold Oper.wp execOp;simp only[hop,resolve,invoke,builtin,Sem.run_bind,Sem.run_pure,Result.andThen_ok,List.map_toArray,List.map_cons,List.map_nil,hs,hx,hr];obtain⟨av,cv,rfl,-,-,-,-⟩:=aV (dX hh.2.sat.left hh.1);exact hk av cv w' hh.1 hh.2
def cP(s:Bs):Bs:=UInt8.ofNat s.length::s
theorem lS(v:Value)(l s:Bs)(w:World)(h:Sat w (aK v l))(hok:bOk v l)(hl:l.length<=1000000)(hs:s.length<=255):
  Calls Tryz.prog 218 #[v,str s] w (jq v l (l++cP s) w):=by
 have hsz:=Al s;have HC:=Hq4 h hok hl hs;have e1:(s.length:Int)%256=s.length:=by omega
 clear h hok;go_enter Tryz.func218,Tryz.ntmps218;have hT0:Turns (aK v l) (aK v l++[]) w (w.alloc (.cells #[.int .u8 s.length] 5)):=by rw[List.append_nil];exact(Turns.refl HC.a).alloc _
 have hc0:ak (w.alloc (.cells #[.int .u8 s.length] 5)) (some ⟨w.heap.size,0,none⟩) (([UInt8.ofNat s.length]:Bs).map ao):=fun _=>⟨_,_,rfl,fun j hj=>by
  obtain rfl:j=0:=by simp at hj;omega
  rw[aa (aM w _) 0 rfl];simp[ao];omega⟩
 have HT:=Hq2 hT0 hc0;clear hT0 hc0
 go_wp2_with ((at_builtin;first
  | (refine al rfl ?_;refine iY (.tmp 5) (.tmp 9) rfl v l rfl HT.a HC.b _ 1 1 rfl [UInt8.ofNat s.length] rfl HT.z (by simp;omega) ?_;intro av cv w2 hok2 hT2 _;simp only[List.length_append,List.length_singleton]at hok2 hT2;have H2:=Hq2 hok2 hT2;clear hok2 hT2)
  | (refine al rfl ?_;refine CK (.tmp 10) (.tmp 11) rfl _ (l++[UInt8.ofNat s.length]) rfl H2.z H2.a s rfl (by simp;omega) ?_;intro av2 cv2 w3 hok3 hT3;simp only[List.length_append,List.length_singleton]at hok3 hT3;have H3:=Hq2 hok3 hT3;clear hok3 hT3)))
 have e2:l++[UInt8.ofNat s.length]++s=l++cP s:=by simp[cP]
 have H4:=H3.out;rw[e2,List.append_nil,Nat.add_assoc,Nat.add_comm 1]at H4;refine bodyPost_ret (results_tmp rfl _ _ _) rfl ?_;exact⟨_,rfl,H4.1,H4.2⟩
end
section
open Go.RowKit
def kd(bx:Nat)(O:Obj)(l:Bs)(w:World)(v:Value)(W:World):Prop:=bOk v l/\Turns [] (aK v l++[(bx,Is O)]) w W
theorem jK{bx:Nat}{O:Obj}{l l':Bs}{w W W':World}{v:Value}{e:Ending}(h:kd bx O l w v W)(k:jq v l l' W e W'):∃v',e=.returned v'/\kd bx O l' w v' W':=by
 obtain⟨v',he,hok,hT⟩:=k;exact⟨v',he,hok,h.2.step (List.Perm.refl _) hT⟩
theorem qC{bx:Nat}{O:Obj}{l':Bs}{w W W':World}{e:Ending}(h:Turns [] [(bx,Is O)] w W)(k:jq (.slice none 0 0) [] l' W e W'):∃v',e=.returned v'/\kd bx O l' w v' W':=by
 obtain⟨v',he,hok,hT⟩:=k;exact⟨v',he,hok,h.step (List.Perm.refl _) hT⟩
theorem fq{bx:Nat}{O:Obj}{l:Bs}{w W:World}{v:Value}(h:kd bx O l w v W):W.heap[bx]?=some O:=h.2.sat.Q7 (by simp)
theorem jL{bx:Nat}{O:Obj}{l:Bs}{w W:World}{v:Value}(h:kd bx O l w v W):Sat W (aK v l):=h.2.sat.left
def dS(l:List Int):Bs:=l.flatMap (beI · 4)
theorem ti(l:List Int)(n:Int):dS (l++[n])=dS l++beI n 4:=by simp[dS]
theorem cy(l:List Int):(dS l).length=4*l.length:=by
 induction l with
 | nil=>rfl
 | cons a r ih=>simp only[dS,List.flatMap_cons,List.length_append,bW,List.length_cons]at ih ⊢;omega
theorem bF(p:Bs):(cP p).length=p.length+1:=by simp[cP]
def eF(p:Bs)(num size:Int)(ats:List Int):Bs:=cP p++beI num 4++beI size 2++dS ats
def dI(p:Bs)(nums:List Int):Bs:=cP p++dS nums
def fN(p name:Bs)(num:Int):Bs:=cP p++cP name++beI num 4
def I64(n:Int):Prop:=-9223372036854775808<=n/\n<=9223372036854775807
def CV(bx:Nat)(O:Obj)(b:Bs)(ats:List Int)(w:World)(v i:Value)(wr:World):Prop:=∃k:Nat,k<=ats.length/\i=.int .i64 k/\kd bx O (b++dS (ats.take k)) w v wr
theorem uV(k:UInt8)(p:Bs)(num size:Int)(sl:Option Addr)(cap:Nat)(ats:List Int)(w:World)(hc:ak w sl (ats.map dq))(hp:p.length<=255)(hnum:I64 num)(hsize:I64 size)(hat:∀n∈ats,I64 n)(hl:ats.length<=100000):
  Calls Tryz.prog 217 #[.agg #[.int .u8 k.toNat,str p,.int .i64 num,.int .i64 size,.slice sl ats.length cap]] w (eH (eF p num size ats) w):=by
 obtain⟨bx,hbx⟩:∃bx,bx=w.heap.size:=⟨_,rfl⟩;obtain⟨O,hO⟩:∃O:Obj,O=.cells #[.int .u8 k.toNat,str p,.int .i64 num,.int .i64 size,.slice sl ats.length cap] 173 (0,0):=⟨_,rfl⟩;have hT0:Turns [] [(bx,Is O)] w (w.alloc (.cells #[.int .u8 k.toNat,str p,.int .i64 num,.int .i64 size,.slice sl ats.length cap] 173)):=by rw[<- hO,hbx];exact(Turns.refl (Sat.nil w)).Q8 O
 have HM:=qqH (show Tryz.prog.follows .mixedOrders=true by kernel_rfl);have HP:=Hq5 hp hnum hsize hat hc;have HT:=Hq2 hT0 hO;clear hp hnum hsize hat hc hT0;go_enter Tryz.func217,Tryz.ntmps217;go_wp2_with fail;rw[<- hbx];clear hbx
 refine bK (A:=?A) (hA:=?hA) HM.out (iT [fun v=>v=.pointer (some ⟨bx,0,none⟩),fun v=>v=.pointer (some ⟨bx,1,none⟩),fun v=>v=str p,fun _=>True,fun v=>v=.pointer (some ⟨bx,2,none⟩),fun v=>v=.int .i64 num,fun _=>True,fun v=>v=.pointer (some ⟨bx,3,none⟩),fun v=>v=.int .i64 size,fun _=>True,fun _=>True])
  (fun vs W=>match vs with
  | []=>Turns [] [(bx,Is O)] w W
  | [v]=>kd bx O (cP p) w v W
  | [_,v]=>kd bx O (cP p++beI num 4) w v W
  | [_,_,v]=>kd bx O (cP p++beI num 4++beI size 2) w v W
  | [_,_,u,v]=>v=u/\kd bx O (cP p++beI num 4++beI size 2) w v W
  | _=>False)
  (fun W=>W.heap[bx]?=some (.cells #[.int .u8 k.toNat,str p,.int .i64 num,.int .i64 size,.slice sl ats.length cap] 173 (0,0))) [3,6,9,10] ?hC (by kernel_rfl) (by kernel_rfl) (by decide) (by decide) ?h0 ?hs ?he
 case hA=>intro x;simp only[aw,Act.put,List.setIfInBounds_toArray,List.set_cons_zero,List.set_cons_succ,Nat.reduceAdd];rfl
 case hs =>
  refine⟨ac rfl rfl (fun x wq hd hC K hK hKw=>?_),ac rfl rfl (fun x wq hd hC K hK hKw=>?_),ac rfl rfl (fun x wq hd hC K hK hKw=>?_),au 0 rfl rfl (fun x wq hd hS K hK=>?_),ac rfl rfl (fun x wq hd hC K hK hKw=>?_),ac rfl rfl (fun x wq hd hC K hK hKw=>?_),au 1 rfl rfl (fun x wq hd hS K hK=>?_),ac rfl rfl (fun x wq hd hC K hK hKw=>?_),ac rfl rfl (fun x wq hd hC K hK hKw=>?_),au 2 rfl rfl (fun x wq hd hS K hK=>?_),au 3 rfl rfl (fun x wq hd hS K hK=>?_),trivial⟩
  ·exact am (by kernel_rfl) (hK _ rfl)
  ·have h0:x 0=.pointer (some ⟨bx,0,none⟩):=ae hd 0 (by kernel_rfl);exact am (by rw[h0];kernel_rfl) (hK _ rfl)
  ·have h1:x 1=.pointer (some ⟨bx,1,none⟩):=ae hd 1 (by kernel_rfl);exact bD Tryz.underlying9 rfl rfl (by rw[h1];rfl) (aa hC 1 rfl) (hK _ rfl)
  ·have h2:x 2=str p:=ae hd 2 (by kernel_rfl);refine bd (by rw[h2];kernel_rfl) (lS (.slice none 0 0) [] p wq (Sat.nil _) fA (by simp) HP.a) ?_;intro e w3 hp;obtain⟨v3,rfl,hr⟩:=qC hS hp;exact⟨_,rfl,hK _ _ trivial hr⟩
  ·exact am (by kernel_rfl) (hK _ rfl)
  ·have h4:x 4=.pointer (some ⟨bx,2,none⟩):=ae hd 4 (by kernel_rfl);exact bD Tryz.underlying3 rfl rfl (by rw[h4];rfl) (aa hC 2 rfl) (hK _ rfl)
  ·have h5:x 5=.int .i64 num:=ae hd 5 (by kernel_rfl);refine bd (by rw[h5];kernel_rfl) (ek (x 3) (cP p) num 4 wq (by omega) (by rw[bF];have:=HP.a;omega) HP.b.1 HP.b.2 (jL hS) hS.1) ?_;intro e w3 hp;obtain⟨v3,rfl,hr⟩:=jK hS hp;exact⟨_,rfl,hK _ _ trivial hr⟩
  ·exact am (by kernel_rfl) (hK _ rfl)
  ·have h7:x 7=.pointer (some ⟨bx,3,none⟩):=ae hd 7 (by kernel_rfl);exact bD Tryz.underlying3 rfl rfl (by rw[h7];rfl) (aa hC 3 rfl) (hK _ rfl)
  ·have h8:x 8=.int .i64 size:=ae hd 8 (by kernel_rfl);refine bd (by rw[h8];kernel_rfl) (ek (x 6) (cP p++beI num 4) size 2 wq (by omega) (by rw[List.length_append,bF,bW];have:=HP.a;omega) HP.c.1 HP.c.2 (jL hS) hS.1) ?_;intro e w3 hp;obtain⟨v3,rfl,hr⟩:=jK hS hp;exact⟨_,rfl,hK _ _ trivial hr⟩
  ·exact am (by kernel_rfl) (hK _ _ trivial ⟨rfl,hS⟩)
 case hC =>
  intro vs W hS;match vs,hS with
  | [],hT=>exact(HT.z ▸ hT.sat.Q5)
  | [_],hT=>exact(HT.z ▸ fq hT)
  | [_,_],hT=>exact(HT.z ▸ fq hT)
  | [_,_,_],hT=>exact(HT.z ▸ fq hT)
  | [_,_,_,_],hT=>exact(HT.z ▸ fq hT.2)
 case h0=>exact HT.a.drew
 case he =>
  intro x w3 hφ hS;obtain⟨he,hS⟩:=hS;simp only[he];obtain⟨v3,hv3⟩:∃v3,v3=x 9:=⟨_,rfl⟩;rw[he,<- hv3]at hS;rw[<- hv3];have HS:=qqH hS;have hbo:=fq hS;rw[hO]at hbo;have b4:w3.cell? ⟨bx,4,none⟩=some (.slice sl ats.length cap):=aa hbo 4 rfl;have hbl:=ah hbo;clear hS he hφ hbo hv3 hO;go_wp2_with fail;go_loopw [3,19] (fun v i wr=>CV bx O (cP p++beI num 4++beI size 2) ats w v i wr) (fun _ i _=>ats.length-(intOf i).toNat)
  case atStart=>exact⟨0,Nat.zero_le _,rfl,by simpa[dS]using HS.out⟩
  case round =>
   obtain⟨j,hj,rfl,hR⟩:=hrel;have HR:=qqH hR;clear hR;by_cases hlt:j<ats.length
   ·obtain⟨g,off,hg,hcell⟩:=HP.w.keep HR.z.mods (fun g off e hh=>by simp at hh) (by simpa using(by omega:0<ats.length));subst hg;obtain⟨n,hn⟩:∃n,n=ats[j]:=⟨_,rfl⟩;have hck:wr.cell? ⟨g,off+j,none⟩=some (.int .i64 n):=by rw[hcell j (by simpa using hlt)];simp[hn,dq]
    have htk:dS (ats.take (j+1))=dS (ats.take j)++beI n 4:=by rw[List.take_succ_eq_append_getElem hlt,ti,hn]
    have hnI:=HP.d n (hn ▸ List.getElem_mem hlt);have HN:=qqH (ek _ (cP p++beI num 4++beI size 2++dS (ats.take j)) n 4 wr (by omega) (by simp only[List.length_append,bF,bW,cy,List.length_take];have:=HP.a;omega) hnI.1 hnI.2 (jL HR.out) HR.a);have HK:=qqH htk;clear hcell hn htk hnI;go_wp2_with fail;refine HN.out.mono ?_;rintro e w4 hp4;obtain⟨v4,rfl,hr4⟩:=jK HR.out hp4;rw[List.append_assoc,<- HK.out]at hr4;have HR4:=qqH hr4;clear hr4 hp4;go_wp2_with fail;go_roundw
    case rel=>exact⟨j+1,by omega,by go_num,HR4.out⟩
    case measure=>simp[intOf];omega
   ·obtain rfl:j=ats.length:=by omega
    have hR:=HR.out;rw[List.take_length]at hR;go_wp2_with fail;refine bodyPost_ret (results_tmp rfl _ _ _) rfl ?_;exact⟨_,rfl,hR.1,hR.2.left⟩
theorem uw(k:UInt8)(p name:Bs)(num:Int)(w:World)(hp:p.length<=255)(hn:name.length<=255)(hnum:I64 num):
  Calls Tryz.prog 222 #[.agg #[.int .u8 k.toNat,str p,str name,.int .i64 num]] w (eH (fN p name num) w):=by
 obtain⟨bx,hbx⟩:∃bx,bx=w.heap.size:=⟨_,rfl⟩;obtain⟨O,hO⟩:∃O:Obj,O=.cells #[.int .u8 k.toNat,str p,str name,.int .i64 num] 233 (0,0):=⟨_,rfl⟩;have hT0:Turns [] [(bx,Is O)] w (w.alloc (.cells #[.int .u8 k.toNat,str p,str name,.int .i64 num] 233)):=by rw[<- hO,hbx];exact(Turns.refl (Sat.nil w)).Q8 O
 have HM:=qqH (show Tryz.prog.follows .mixedOrders=true by kernel_rfl);have HP:=Hq3 hp hn hnum;have HT:=Hq2 hT0 hO;clear hp hnum hn hT0 hO;go_enter Tryz.func222,Tryz.ntmps222;go_wp2_with fail;rw[<- hbx];clear hbx
 refine bK (A:=?A) (hA:=?hA) HM.out (iT [fun v=>v=.pointer (some ⟨bx,0,none⟩),fun v=>v=.pointer (some ⟨bx,1,none⟩),fun v=>v=str p,fun _=>True,fun v=>v=.pointer (some ⟨bx,2,none⟩),fun v=>v=str name,fun _=>True,fun v=>v=.pointer (some ⟨bx,3,none⟩),fun v=>v=.int .i64 num,fun _=>True,fun _=>True])
  (fun vs W=>match vs with
  | []=>Turns [] [(bx,Is O)] w W
  | [v]=>kd bx O (cP p) w v W
  | [_,v]=>kd bx O (cP p++cP name) w v W
  | [_,_,v]=>kd bx O (cP p++cP name++beI num 4) w v W
  | [_,_,u,v]=>v=u/\kd bx O (cP p++cP name++beI num 4) w v W
  | _=>False)
  (fun W=>W.heap[bx]?=some (.cells #[.int .u8 k.toNat,str p,str name,.int .i64 num] 233 (0,0))) [3,6,9,10] ?hC (by kernel_rfl) (by kernel_rfl) (by decide) (by decide) ?h0 ?hs ?he
 case hA=>intro x;simp only[aw,Act.put,List.setIfInBounds_toArray,List.set_cons_zero,List.set_cons_succ,Nat.reduceAdd];rfl
 case hs =>
  refine⟨ac rfl rfl (fun x wq hd hC K hK hKw=>?_),ac rfl rfl (fun x wq hd hC K hK hKw=>?_),ac rfl rfl (fun x wq hd hC K hK hKw=>?_),au 0 rfl rfl (fun x wq hd hS K hK=>?_),ac rfl rfl (fun x wq hd hC K hK hKw=>?_),ac rfl rfl (fun x wq hd hC K hK hKw=>?_),au 1 rfl rfl (fun x wq hd hS K hK=>?_),ac rfl rfl (fun x wq hd hC K hK hKw=>?_),ac rfl rfl (fun x wq hd hC K hK hKw=>?_),au 2 rfl rfl (fun x wq hd hS K hK=>?_),au 3 rfl rfl (fun x wq hd hS K hK=>?_),trivial⟩
  ·exact am (by kernel_rfl) (hK _ rfl)
  ·have h0:x 0=.pointer (some ⟨bx,0,none⟩):=ae hd 0 (by kernel_rfl);exact am (by rw[h0];kernel_rfl) (hK _ rfl)
  ·have h1:x 1=.pointer (some ⟨bx,1,none⟩):=ae hd 1 (by kernel_rfl);exact bD Tryz.underlying9 rfl rfl (by rw[h1];rfl) (aa hC 1 rfl) (hK _ rfl)
  ·have h2:x 2=str p:=ae hd 2 (by kernel_rfl);refine bd (by rw[h2];kernel_rfl) (lS (.slice none 0 0) [] p wq (Sat.nil _) fA (by simp) HP.a) ?_;intro e w3 hp;obtain⟨v3,rfl,hr⟩:=qC hS hp;exact⟨_,rfl,hK _ _ trivial hr⟩
  ·exact am (by kernel_rfl) (hK _ rfl)
  ·have h4:x 4=.pointer (some ⟨bx,2,none⟩):=ae hd 4 (by kernel_rfl);exact bD Tryz.underlying9 rfl rfl (by rw[h4];rfl) (aa hC 2 rfl) (hK _ rfl)
  ·have h5:x 5=str name:=ae hd 5 (by kernel_rfl);refine bd (by rw[h5];kernel_rfl) (lS (x 3) (cP p) name wq (jL hS) hS.1 (by rw[bF];have:=HP.a;omega) HP.b) ?_;intro e w3 hp;obtain⟨v3,rfl,hr⟩:=jK hS hp;exact⟨_,rfl,hK _ _ trivial hr⟩
  ·exact am (by kernel_rfl) (hK _ rfl)
  ·have h7:x 7=.pointer (some ⟨bx,3,none⟩):=ae hd 7 (by kernel_rfl);exact bD Tryz.underlying3 rfl rfl (by rw[h7];rfl) (aa hC 3 rfl) (hK _ rfl)
  ·have h8:x 8=.int .i64 num:=ae hd 8 (by kernel_rfl);refine bd (by rw[h8];kernel_rfl) (ek (x 6) (cP p++cP name) num 4 wq (by omega) (by rw[List.length_append,bF,bF];have:=HP.a;have:=HP.b;omega) HP.c HP.x (jL hS) hS.1) ?_;intro e w3 hp;obtain⟨v3,rfl,hr⟩:=jK hS hp;exact⟨_,rfl,hK _ _ trivial hr⟩
  ·exact am (by kernel_rfl) (hK _ _ trivial ⟨rfl,hS⟩)
 case hC =>
  intro vs W hS;match vs,hS with
  | [],hT=>exact(HT.z ▸ hT.sat.Q5)
  | [_],hT=>exact(HT.z ▸ fq hT)
  | [_,_],hT=>exact(HT.z ▸ fq hT)
  | [_,_,_],hT=>exact(HT.z ▸ fq hT)
  | [_,_,_,_],hT=>exact(HT.z ▸ fq hT.2)
 case h0=>exact HT.a.drew
 case he =>
  intro x w3 hφ hS;obtain⟨he,hS⟩:=hS;simp only[he];rw[he]at hS;clear he hφ;go_wp2_with fail;refine bodyPost_ret (results_tmp rfl _ _ _) rfl ?_;exact⟨_,rfl,hS.1,hS.2.left⟩
theorem sN(k:UInt8)(p:Bs)(sl:Option Addr)(cap:Nat)(ats:List Int)(w:World)(hc:ak w sl (ats.map dq))(hp:p.length<=255)(hat:∀n∈ats,I64 n)(hl:ats.length<=100000):
  Calls Tryz.prog 234 #[.agg #[.int .u8 k.toNat,str p,.slice sl ats.length cap]] w (eH (dI p ats) w):=by
 obtain⟨bx,hbx⟩:∃bx,bx=w.heap.size:=⟨_,rfl⟩;obtain⟨O,hO⟩:∃O:Obj,O=.cells #[.int .u8 k.toNat,str p,.slice sl ats.length cap] 286 (0,0):=⟨_,rfl⟩;have hT0:Turns [] [(bx,Is O)] w (w.alloc (.cells #[.int .u8 k.toNat,str p,.slice sl ats.length cap] 286)):=by rw[<- hO,hbx];exact(Turns.refl (Sat.nil w)).Q8 O
 have hb0:w.heap.size=bx:=hbx.symm;have HP:=Hq3 hp hat hc;have HT:=Hq2 hT0 hO;clear hp hat hc hT0 hO hb0;go_enter Tryz.func234,Tryz.ntmps234;go_wp2_with fail;refine(lS (.slice none 0 0) [] p _ (Sat.nil _) fA (by simp) HP.a).mono ?_;rintro e w3 hp3;obtain⟨v3,rfl,hS⟩:=qC HT.a hp3;have HS:=qqH hS;have hbo:=fq hS;rw[HT.z]at hbo;have b2:w3.cell? ⟨bx,2,none⟩=some (.slice sl ats.length cap):=aa hbo 2 rfl;have hbl:=ah hbo;rw[<- hbx];clear hS hbo hp3 hbx;go_wp2_with fail;go_loopw [3,13] (fun v i wr=>CV bx O (cP p) ats w v i wr) (fun _ i _=>ats.length-(intOf i).toNat)
 case atStart=>exact⟨0,Nat.zero_le _,rfl,by simpa[dS]using HS.out⟩
 case round =>
  obtain⟨j,hj,rfl,hR⟩:=hrel;have HR:=qqH hR;clear hR;by_cases hlt:j<ats.length
  ·obtain⟨g,off,hg,hcell⟩:=HP.y.keep HR.z.mods (fun g off e hh=>by simp at hh) (by simpa using(by omega:0<ats.length));subst hg;obtain⟨n,hn⟩:∃n,n=ats[j]:=⟨_,rfl⟩;have hck:wr.cell? ⟨g,off+j,none⟩=some (.int .i64 n):=by rw[hcell j (by simpa using hlt)];simp[hn,dq]
   have htk:dS (ats.take (j+1))=dS (ats.take j)++beI n 4:=by rw[List.take_succ_eq_append_getElem hlt,ti,hn]
   have hnI:=HP.b n (hn ▸ List.getElem_mem hlt);have HN:=qqH (ek _ (cP p++dS (ats.take j)) n 4 wr (by omega) (by simp only[List.length_append,bF,cy,List.length_take];have:=HP.a;omega) hnI.1 hnI.2 (jL HR.out) HR.a);have HK:=qqH htk;clear hcell hn htk hnI;go_wp2_with fail;refine HN.out.mono ?_;rintro e w4 hp4;obtain⟨v4,rfl,hr4⟩:=jK HR.out hp4;rw[List.append_assoc,<- HK.out]at hr4;have HR4:=qqH hr4;clear hr4 hp4;go_wp2_with fail;go_roundw
   case rel=>exact⟨j+1,by omega,by go_num,HR4.out⟩
   case measure=>simp[intOf];omega
  ·obtain rfl:j=ats.length:=by omega
   have hR:=HR.out;rw[List.take_length]at hR;go_wp2_with fail;refine bodyPost_ret (results_tmp rfl _ _ _) rfl ?_;exact⟨_,rfl,hR.1,hR.2.left⟩
def Jz(k:UInt8)(w:World)(e:Ending)(w':World):Prop:=e=.returned (.int .u8 k.toNat)/\aX w w'
theorem lH(k:UInt8)(p:Bs)(w:World):Calls Tryz.prog 141 #[.agg #[.int .u8 k.toNat,str p]] w (Jz k w):=by
 go_enter Tryz.func141,Tryz.ntmps141;go_wp2_with fail;refine bodyPost_ret (results_tmp rfl _ _ _) rfl ⟨rfl,(Mods.refl _ w).alloc _⟩
theorem Kz(a b c d e:Value)(w:World):(Go.method 462 173 (.agg #[a,b,c,d,e]) "Of").run Tryz.prog w=.ok (141,.agg #[a,b]) w:=by kernel_rfl
theorem Je(a b c d e:Value)(w:World):(Go.method 462 173 (.agg #[a,b,c,d,e]) "versions/record.body").run Tryz.prog w=.ok (217,.agg #[a,b,c,d,e]) w:=by kernel_rfl
theorem JV(a b c:Value)(w:World):(Go.method 462 286 (.agg #[a,b,c]) "Of").run Tryz.prog w=.ok (141,.agg #[a,b]) w:=by kernel_rfl
theorem Gz(a b c:Value)(w:World):(Go.method 462 286 (.agg #[a,b,c]) "versions/record.body").run Tryz.prog w=.ok (234,.agg #[a,b,c]) w:=by kernel_rfl
theorem Ks(a b c d:Value)(w:World):(Go.method 462 233 (.agg #[a,b,c,d]) "Of").run Tryz.prog w=.ok (141,.agg #[a,b]) w:=by kernel_rfl
theorem IW(a b c d:Value)(w:World):(Go.method 462 233 (.agg #[a,b,c,d]) "versions/record.body").run Tryz.prog w=.ok (222,.agg #[a,b,c,d]) w:=by kernel_rfl
theorem eH.frame{k:UInt8}{body:Bs}{w w1 w2:World}{v:Value}(hs:aX w w1)(hT:Turns [] (aK v body) w1 w2){e:Ending}{w3:World}(h:eH (frame k body) w2 e w3):eH (frame k body) w e w3:=by
 obtain⟨v',he,hok,hT'⟩:=h;have h1:Turns [] [] w w2:=(Turns.same (Sat.nil w) hs).trans (hT.drop (by intro x;simp[cnt]));exact⟨v',he,hok,h1.trans hT'⟩
theorem kH{l:Bs}{w w':World}{e:Ending}(h:eH l w e w'):∃av cv,e=.returned (.slice av l.length cv)/\ak w' av (l.map ao)/\Turns [] (aK (.slice av l.length cv) l) w w':=by
 obtain⟨v',he,hok,hT⟩:=h;obtain⟨av,cv,rfl,-,-,hc,-⟩:=aV (dX hT.sat hok);exact⟨av,cv,he,hc,hT⟩
theorem uf(k:UInt8)(p:Bs)(num size:Int)(sl:Option Addr)(cap:Nat)(ats:List Int)(w:World)(hc:ak w sl (ats.map dq))(hp:p.length<=255)(hnum:I64 num)(hsize:I64 size)(hat:∀n∈ats,I64 n)(hl:ats.length<=100000):
  Calls Tryz.prog 80 #[.iface 173 (.agg #[.int .u8 k.toNat,str p,.int .i64 num,.int .i64 size,.slice sl ats.length cap])] w (eH (frame k (eF p num size ats)) w):=by
 have HB:=qqH (fun W (hW:aX w W)=>uV k p num size sl cap ats W (hc.keep hW (fun _ _ _=>id)) hp hnum hsize hat hl);have hl0:(eF p num size ats).length<=1000000:=by simp only[eF,List.length_append,bF,bW,cy];omega
 have HL:=qqH hl0;have h1:=fun W=>Kz (.int .u8 k.toNat) (str p) (.int .i64 num) (.int .i64 size) (.slice sl ats.length cap) W
 have h2:=fun W=>Je (.int .u8 k.toNat) (str p) (.int .i64 num) (.int .i64 size) (.slice sl ats.length cap) W
 clear hc hp hnum hsize hat hl0;go_enter Tryz.func80,Tryz.ntmps80;go_wp2_with fail;refine(lH k p _).mono ?_;rintro e w1 ⟨rfl,hs1⟩;have HS1:=qqH hs1;clear hs1;go_wp2_with fail;refine(HB.out _ HS1.out).mono ?_;rintro e w2 hb2;obtain⟨av,cv,rfl,hc2,hT2⟩:=kH hb2;have H2:=Hq2 hc2 hT2;obtain⟨n2,hn2⟩:∃n2,n2=(eF p num size ats).length:=⟨_,rfl⟩;rw[<- hn2];have HN:=qqH hn2;clear hb2 hc2 hT2 hn2;go_wp2_with fail;rw[HN.out];refine(je k av cv (eF p num size ats) _ H2.a (by have:=HL.out;omega)).mono ?_;rintro e w3 hp3;have h3:=eH.frame HS1.out H2.z hp3;obtain⟨v3,rfl,hok3,hT3⟩:=h3;have H3:=Hq2 hok3 hT3;clear hp3 hok3 hT3;go_wp2_with fail;refine bodyPost_ret (results_tmp rfl _ _ _) rfl ?_;exact⟨_,rfl,H3.a,H3.z⟩
theorem rG(k:UInt8)(p:Bs)(sl:Option Addr)(cap:Nat)(ats:List Int)(w:World)(hc:ak w sl (ats.map dq))(hp:p.length<=255)(hat:∀n∈ats,I64 n)(hl:ats.length<=100000):
  Calls Tryz.prog 80 #[.iface 286 (.agg #[.int .u8 k.toNat,str p,.slice sl ats.length cap])] w (eH (frame k (dI p ats)) w):=by
 have HB:=qqH (fun W (hW:aX w W)=>sN k p sl cap ats W (hc.keep hW (fun _ _ _=>id)) hp hat hl);have hl0:(dI p ats).length<=1000000:=by simp only[dI,List.length_append,bF,cy];omega
 have HL:=qqH hl0;have h1:=fun W=>JV (.int .u8 k.toNat) (str p) (.slice sl ats.length cap) W
 have h2:=fun W=>Gz (.int .u8 k.toNat) (str p) (.slice sl ats.length cap) W
 clear hc hp hat hl0;go_enter Tryz.func80,Tryz.ntmps80;go_wp2_with fail;refine(lH k p _).mono ?_;rintro e w1 ⟨rfl,hs1⟩;have HS1:=qqH hs1;clear hs1;go_wp2_with fail;refine(HB.out _ HS1.out).mono ?_;rintro e w2 hb2;obtain⟨av,cv,rfl,hc2,hT2⟩:=kH hb2;have H2:=Hq2 hc2 hT2;obtain⟨n2,hn2⟩:∃n2,n2=(dI p ats).length:=⟨_,rfl⟩;rw[<- hn2];have HN:=qqH hn2;clear hb2 hc2 hT2 hn2;go_wp2_with fail;rw[HN.out];refine(je k av cv (dI p ats) _ H2.a (by have:=HL.out;omega)).mono ?_;rintro e w3 hp3;have h3:=eH.frame HS1.out H2.z hp3;obtain⟨v3,rfl,hok3,hT3⟩:=h3;have H3:=Hq2 hok3 hT3;clear hp3 hok3 hT3;go_wp2_with fail;refine bodyPost_ret (results_tmp rfl _ _ _) rfl ?_;exact⟨_,rfl,H3.a,H3.z⟩
theorem mZ(k:UInt8)(p name:Bs)(num:Int)(w:World)(hp:p.length<=255)(hn:name.length<=255)(hnum:I64 num):
  Calls Tryz.prog 80 #[.iface 233 (.agg #[.int .u8 k.toNat,str p,str name,.int .i64 num])] w (eH (frame k (fN p name num)) w):=by
 have HB:=qqH (fun W (hW:aX w W)=>uw k p name num W hp hn hnum);have hl0:(fN p name num).length<=1000000:=by simp only[fN,List.length_append,bF,bW];omega
 have HL:=qqH hl0;have h1:=fun W=>Ks (.int .u8 k.toNat) (str p) (str name) (.int .i64 num) W
 have h2:=fun W=>IW (.int .u8 k.toNat) (str p) (str name) (.int .i64 num) W
 clear hp hn hnum hl0;go_enter Tryz.func80,Tryz.ntmps80;go_wp2_with fail;refine(lH k p _).mono ?_;rintro e w1 ⟨rfl,hs1⟩;have HS1:=qqH hs1;clear hs1;go_wp2_with fail;refine(HB.out _ HS1.out).mono ?_;rintro e w2 hb2;obtain⟨av,cv,rfl,hc2,hT2⟩:=kH hb2;have H2:=Hq2 hc2 hT2;obtain⟨n2,hn2⟩:∃n2,n2=(fN p name num).length:=⟨_,rfl⟩;rw[<- hn2];have HN:=qqH hn2;clear hb2 hc2 hT2 hn2;go_wp2_with fail;rw[HN.out];refine(je k av cv (fN p name num) _ H2.a (by have:=HL.out;omega)).mono ?_;rintro e w3 hp3;have h3:=eH.frame HS1.out H2.z hp3;obtain⟨v3,rfl,hok3,hT3⟩:=h3;have H3:=Hq2 hok3 hT3;clear hp3 hok3 hT3;go_wp2_with fail;refine bodyPost_ret (results_tmp rfl _ _ _) rfl ?_;exact⟨_,rfl,H3.a,H3.z⟩
theorem Km:(Tryz.prog.info? 3).map (fun i=>(i.zero,i.size,i.bytes))=some (some (.int .i64 0),1,8):=by kernel_rfl
def bZ(v:Value)(l:List Int):HF:=bN 3 1 v l.length (l.map dq)
def iOk(v:Value)(l:List Int):Prop:=dj 1 v l.length (l.map dq)
theorem zo:bZ (.slice none 0 0) []=[]:=rfl
theorem lJ:iOk (.slice none 0 0) []:=⟨rfl,fun _=>⟨rfl,rfl⟩⟩
theorem j8{o:Oper}{a:Act}{w a0:World}{K:Act->World->Prop}{Q:Exit->Act->World->Prop}{F G:HF}(s x:Operand)(hop:o.op=.call { callee:=.builtin .append,args:=#[s,x],argTypes:=#[171,171] })(v:Value)(l:List Int)(hs:a.eval s=v)(hT:Turns F (bZ v l++G) a0 w)(hok:iOk v l)(sa:Option Addr)(m c:Nat)(hx:a.eval x=.slice sa m c)(r:List Int)(hm:m=r.length)(hc:0<m->∃ad,sa=some ad/\∀j u,(r.map dq)[j]?=some u->w.cell? (ad.add j)=some u)(hb:l.length+r.length<=1000000)(hk:∀av cv w',iOk (.slice av (l++r).length cv) (l++r)->Turns F (bZ (.slice av (l++r).length cv) (l++r)++G) a0 w'->K (a.put o.dst (.slice av (l++r).length cv)) w'):o.wp Tryz.prog a w K Q:=by
 obtain⟨i0,hi0,hz1,hz2,hz3⟩:=info_parts Km;refine cY s x 171 3 i0 (.int .i64 0) 1 8 hop Tryz.underlying171 hi0 hz1 hz2 hz3 rfl (by decide) v l.length (l.map dq) hs hT hok sa m c hx (r.map dq) (by simp[hm]) hc (fun u hu=>by obtain⟨y,_,rfl⟩:=List.mem_map.1 hu;rfl) (by unfold maxLen;omega) (by omega) (fun v' w' h1 h2 h3=>?_);have k1:iOk v' (l++r):=by unfold iOk;rw[List.length_append,List.map_append,<- hm];exact h1
 have k2:Turns F (bZ v' (l++r)++G) a0 w':=by unfold bZ;rw[List.length_append,List.map_append,<- hm];exact h2
 obtain⟨av,cv,rfl,-,-,-,-⟩:=aV (aW k2.sat.left k1);exact hk av cv w' k1 k2
def oM(k:UInt8)(p:Bs)(num size:Int)(v:Value):Obj:=.cells #[.int .u8 k.toNat,str p,.int .i64 num,.int .i64 size,v] 173 (0,0)
def bC(l:List (Nat×Nat)):List Int:=l.map (fun q=>(q.1:Int))
def AZ(p:Bs)(V:VerL)(w:World)(e:Ending)(w':World):Prop :=
 ∃av cv,e=.returned (.agg #[.int .u8 2,str p,.int .i64 V.num,.int .i64 V.size,.slice av (bC V.chs).length cv])/\ak w' av ((bC V.chs).map dq)/\aX w w'
def KF(c r:Nat)(p:Bs)(V:VerL)(w:World)(i:Value)(W:World):Prop :=
 ∃(k:Nat) (v:Value),k<=V.chs.length/\i=.int .i64 k/\iOk v ((bC V.chs).take k)/\Turns [] (((c,Is (oM 2 p V.num V.size v))::bZ v ((bC V.chs).take k))++[(r,Is (oM 0 [] 0 0 (.slice none 0 0)))]) w W
theorem gW{w:World}{v:Value}{l:List (Nat×Nat)}(h:Sat w (aQ v l))(hok:bQ v l):∃sl cap,v=.slice sl l.length cap/\l.length<=cap/\cap<=9223372036854775807/\ak w sl (cV l):=by
 have hown:=aW h hok;rcases hown.2 with⟨rfl,h0⟩|⟨g,cap,cur,rfl,hbg,hg,hnc,hcm,hcs,htake⟩
 ·have hl:l=[]:=List.eq_nil_of_length_eq_zero h0;subst hl;exact⟨none,0,rfl,Nat.le_refl _,by omega,fun h=>by simp[cV]at h⟩
 ·refine⟨some ⟨g,0,none⟩,cap,rfl,hnc,by unfold maxLen at hcm;omega,fun hp=>⟨g,0,rfl,fun j hj=>?_⟩⟩;have:=hown.cells (g:=g) rfl j _ (List.getElem?_eq_getElem hj);rwa [Addr.add_lit]at this
theorem Bo(w:World)(o:Obj)(xs:List Value)(t:TypeId):∀j u,xs[j]?=some u->((w.alloc o).alloc (.cells xs.toArray t)).cell? ((⟨w.heap.size+1,0,none⟩:Addr).add j)=some u:=fun j u hu=>by
 have:=gQ (w.alloc o) xs t j u hu
 simpa using this
theorem fO(l:List (Nat×Nat)):(cV l).length=2*l.length:=by
 induction l with
 | nil=>rfl
 | cons a r ih=>simp only[cV,List.flatMap_cons,List.length_append,qy,List.length_cons,List.length_nil]at ih ⊢;omega
theorem Cg:∀(l:List (Nat×Nat)) (k:Nat) (hk:k<l.length),(cV l)[2*k]?=some (.int .i64 l[k].1)/\(cV l)[2*k+1]?=some (.int .i64 l[k].2):=by
 intro l;induction l with
 | nil=>intro k hk;simp at hk
 | cons a r ih =>
  intro k hk
  cases k with
  | zero=>simp[cV,qy]
  | succ k =>
   have:=ih k (by simpa using hk);simp only[cV,List.flatMap_cons,qy]at this ⊢;rw[show 2*(k+1)=2*k+2 by omega,show 2*k+2+1=(2*k+1)+2 by omega,List.getElem?_append_right (by simp),List.getElem?_append_right (by simp)];simpa using this
theorem pJ{w:World}{g off:Nat}{l:List (Nat×Nat)}(h:∀j (h:j<(cV l).length),w.cell? ⟨g,off+j,none⟩=some ((cV l)[j]'h)){k:Nat}(hk:k<l.length):
  w.cell? ⟨g,off+k*2,none⟩=some (.int .i64 l[k].1)/\w.cell? ⟨g,off+k*2+1,none⟩=some (.int .i64 l[k].2):=by
 obtain⟨h1,h2⟩:=Cg l k hk;obtain⟨p1,e1⟩:=List.getElem?_eq_some_iff.1 h1;obtain⟨p2,e2⟩:=List.getElem?_eq_some_iff.1 h2;rw[Nat.add_assoc,Nat.mul_comm k 2];exact⟨by rw[h _ p1,e1],by rw[h _ p2,e2]⟩
theorem nI(p:Bs)(V:VerL)(w:World)(hV:Sat w (bT V))(hok:bQ V.cv V.chs)(hl:V.chs.length<=100000):
  Calls Tryz.prog 81 #[str p,dz V] w (AZ p V w):=by
 obtain⟨r,hr⟩:∃r,r=w.heap.size:=⟨_,rfl⟩;obtain⟨Z,hZ⟩:∃Z:Obj,Z=oM 0 [] 0 0 (.slice none 0 0):=⟨_,rfl⟩;have hT0:Turns [] [(r,Is Z)] w (w.alloc Z):=by rw[hr];exact(Turns.refl (Sat.nil w)).Q8 Z
 obtain⟨sl,cap,hcv,hcl,hcm,hcells⟩:=gW hV.tail hok;have HM:=qqH (show Tryz.prog.follows .mixedOrders=true by kernel_rfl);have HV:=Hq4 hV.Q5 hcells hcv hl;have HT:=Hq2 hT0 hZ;clear hV hok hT0 hZ hcells hcv;unfold dz;go_enter Tryz.func81,Tryz.ntmps81;go_wp2_with fail;rw[<- hr];have hwe:w.alloc (.cells #[.int .u8 0,.string { data:=#[] },.int .i64 0,.int .i64 0,.slice none 0 0] 173)=w.alloc Z:=by rw[HT.z];rfl
 rw[hwe];clear hwe hr
 refine bK (A:=?A) (hA:=?hA) HM.out (iT [fun v=>v=str p,fun v=>v=.agg #[.int .u8 2,str p],fun v=>v=.pointer (some ⟨V.blk,0,none⟩),fun v=>v=.pointer (some ⟨V.blk,0,none⟩),fun v=>v=.pointer (some ⟨V.blk,0,none⟩),fun v=>v=.int .i64 V.num,fun v=>v=.pointer (some ⟨V.blk,0,none⟩),fun v=>v=.pointer (some ⟨V.blk,0,none⟩),fun v=>v=.pointer (some ⟨V.blk,1,none⟩),fun v=>v=.int .i64 V.size,fun v=>v=.agg #[.int .u8 2,str p,.int .i64 V.num,.int .i64 V.size,.slice none 0 0],fun _=>True,fun _=>True])
  (fun vs W=>match vs with
  | []=>Turns [] [(r,Is Z)] w W
  | [v]=>∃c:Nat,v=.pointer (some ⟨c,0,none⟩)/\Turns [] [(c,Is (oM 0 [] 0 0 (.slice none 0 0))),(r,Is Z)] w W
  | [v,_]=>∃c:Nat,v=.pointer (some ⟨c,0,none⟩)/\Turns [] [(c,Is (oM 2 p V.num V.size (.slice none 0 0))),(r,Is Z)] w W
  | _=>False)
  (fun W=>W.heap[V.blk]?=some (dy V)) [11,12] ?hC (by kernel_rfl) (by kernel_rfl) (by decide) (by decide) ?h0 ?hs ?he
 case hA=>intro x;simp only[aw,Act.put,List.setIfInBounds_toArray,List.set_cons_zero,List.set_cons_succ,Nat.reduceAdd];rfl
 case hs =>
  refine⟨ac rfl rfl (fun x wq hd hC K hK hKw=>?_),ac rfl rfl (fun x wq hd hC K hK hKw=>?_),ac rfl rfl (fun x wq hd hC K hK hKw=>?_),ac rfl rfl (fun x wq hd hC K hK hKw=>?_),ac rfl rfl (fun x wq hd hC K hK hKw=>?_),ac rfl rfl (fun x wq hd hC K hK hKw=>?_),ac rfl rfl (fun x wq hd hC K hK hKw=>?_),ac rfl rfl (fun x wq hd hC K hK hKw=>?_),ac rfl rfl (fun x wq hd hC K hK hKw=>?_),ac rfl rfl (fun x wq hd hC K hK hKw=>?_),ac rfl rfl (fun x wq hd hC K hK hKw=>?_),au 0 rfl rfl (fun x wq hd hS K hK=>?_),au 1 rfl rfl (fun x wq hd hS K hK=>?_),trivial⟩
  ·exact am (by kernel_rfl) (hK _ rfl)
  ·have h0:x 0=str p:=ae hd 0 (by kernel_rfl);exact am (by rw[h0];kernel_rfl) (hK _ rfl)
  ·exact am (by kernel_rfl) (hK _ rfl)
  ·have h2:x 2=.pointer (some ⟨V.blk,0,none⟩):=ae hd 2 (by kernel_rfl);exact am (by rw[h2];kernel_rfl) (hK _ rfl)
  ·have h3:x 3=.pointer (some ⟨V.blk,0,none⟩):=ae hd 3 (by kernel_rfl);exact am (by rw[h3];kernel_rfl) (hK _ rfl)
  ·have h4:x 4=.pointer (some ⟨V.blk,0,none⟩):=ae hd 4 (by kernel_rfl);exact bD Tryz.underlying3 rfl rfl (by rw[h4];rfl) (aa hC 0 rfl) (hK _ rfl)
  ·exact am (by kernel_rfl) (hK _ rfl)
  ·have h6:x 6=.pointer (some ⟨V.blk,0,none⟩):=ae hd 6 (by kernel_rfl);exact am (by rw[h6];kernel_rfl) (hK _ rfl)
  ·have h7:x 7=.pointer (some ⟨V.blk,0,none⟩):=ae hd 7 (by kernel_rfl);exact am (by rw[h7];kernel_rfl) (hK _ rfl)
  ·have h8:x 8=.pointer (some ⟨V.blk,1,none⟩):=ae hd 8 (by kernel_rfl);exact bD Tryz.underlying3 rfl rfl (by rw[h8];rfl) (aa hC 1 rfl) (hK _ rfl)
  ·have h1:x 1=.agg #[.int .u8 2,str p]:=ae hd 1 (by kernel_rfl);have h5:x 5=.int .i64 V.num:=ae hd 5 (by kernel_rfl);have h9:x 9=.int .i64 V.size:=ae hd 9 (by kernel_rfl);exact am (by rw[h1,h5,h9];kernel_rfl) (hK _ rfl)
  ·exact am (by kernel_rfl) (hK _ _ trivial ⟨_,rfl,Turns.Q8 hS (oM 0 [] 0 0 (.slice none 0 0))⟩)
  ·have h10:x 10=.agg #[.int .u8 2,str p,.int .i64 V.num,.int .i64 V.size,.slice none 0 0]:=ae hd 10 (by kernel_rfl);obtain⟨c,ec,hT⟩:=hS;refine wp_store_mid 173 (.tmp 5) (.tmp 18) rfl c 0 #[.int .u8 2,str p,.int .i64 V.num,.int .i64 V.size,.slice none 0 0] (by rw[ec];rfl) (by rw[h10];rfl) (dL (C:=#[.int .u8 0,str [],.int .i64 0,.int .i64 0,.slice none 0 0]) hT.sat.Q5 0 5 (by simp)) (by kernel_rfl) (by simp[Value.oneCell']) ?_;obtain⟨q1,q2⟩:=du hT.sat.Q5 [.int .u8 2,str p,.int .i64 V.num,.int .i64 V.size,.slice none 0 0] (by simp);exact hK _ _ trivial ⟨c,ec,hT.Qa q2 q1⟩
 case hC =>
  intro vs W hS;match vs,hS with
  | [],hT=>exact hT.news.at HV.a id
  | [_],⟨c,_,hT⟩=>exact hT.news.at HV.a id
  | [_,_],⟨c,_,hT⟩=>exact hT.news.at HV.a id
 case h0=>exact HT.a.drew
 case he =>
  intro x w3 hφ hS;obtain⟨c,ec,hT⟩:=hS;simp only[ec];have HT3:=qqH hT;have hvo:=hT.news.at HV.a id;have b2:w3.cell? ⟨V.blk,2,none⟩=some (.slice sl V.chs.length cap):=by rw[<- HV.c];exact aa hvo 2 rfl
  have hbl:=ah hvo;clear hφ hT hvo ec;go_wp2_with fail;go_loopw [24] (fun i wr=>KF c r p V w i wr) (fun i _=>V.chs.length-(intOf i).toNat)
  case atStart=>exact⟨0,.slice none 0 0,Nat.zero_le _,rfl,by simpa using lJ,by
   have:=HT3.out;rw[HT.z]at this;simpa[zo]using this⟩
  case round =>
   obtain⟨k,v,hk,rfl,hok,hT⟩:=hrel;have HR:=Hq2 hok hT;have hrec:=hT.sat.Q5;clear hok hT;by_cases hlt:k<V.chs.length
   ·obtain⟨g,off,hg,hcell⟩:=HV.b.keep HR.z.mods (fun g off e hh=>by simp at hh) (by rw[fO];omega);subst hg;obtain⟨hc1,hc2⟩:=pJ hcell hlt;obtain⟨q,hq⟩:∃q,q=V.chs[k]:=⟨_,rfl⟩;rw[<- hq]at hc1 hc2;have c3:wr.cell? ⟨c,4,none⟩=some v:=aa hrec 4 rfl;have hcl2:=ah hrec;have HQ:=qqH hq;clear hcell hq
    have hat:(bC V.chs).take (k+1)=(bC V.chs).take k++[(q.1:Int)]:=by
     rw[List.take_succ_eq_append_getElem (by simp[bC];omega)];simp[bC,HQ.out]
    have htl:((bC V.chs).take k).length=k:=by simp[bC];omega
    have hfr:=aZ hrec 4;have HA:=Hq2 hat htl;have HTp:Turns [] (bZ v ((bC V.chs).take k)++[(c,Is (oM 2 p V.num V.size v)),(r,Is (oM 0 [] 0 0 (.slice none 0 0)))]) w wr:=HR.z.to af;have HT5:=qqH HTp;clear hat htl hrec HTp;go_wp2_with ((at_builtin;refine al rfl ?_;refine j8 (.tmp 29) (.tmp 32) rfl v _ rfl ((HT5.out.alloc _).alloc _) HR.a _ 1 1 rfl [(q.1:Int)] rfl (fun _=>⟨_,rfl,fun j u hu=>Bo _ _ _ _ j u hu⟩) (by rw[HA.z];simp;omega) ?_;intro av cv w5 hok5 hT5;simp only[List.length_append,HA.z,List.length_singleton]at hok5 hT5;have hb5:w5.heap[c]?=some (oM 2 p V.num V.size v):=hT5.sat.Q7 (by simp);have c5:=aa (v:=v) hb5 4 rfl;have f5:=aZ hb5 4;have H5:=Hq3 hok5 hT5 hb5;clear hok5 hT5 hb5 hfr c3 hc1 hc2));have hmin:min k (bC V.chs).length+1=k+1:=by have:=HA.z;rw[List.length_take]at this;omega
    rw[hmin];refine⟨⟨k+1,.slice av (k+1) cv,by omega,by go_num,by rw[HA.a];exact H5.a,?_⟩,by simp[intOf];omega⟩;have hq:=(H5.b.to (H:=(c,Is (oM 2 p V.num V.size v))::(bZ (.slice av (k+1) cv) ((bC V.chs).take k++[(q.1:Int)])++[(r,Is (oM 0 [] 0 0 (.slice none 0 0)))])) af).Qa (o:=oM 2 p V.num V.size (.slice av (k+1) cv)) ((Mods.refl (fun k=>k=c) w5).set1 (i:=4) (.slice av (k+1) cv)) (bt H5.y 4 _);rw[HA.a];exact hq.to af
   ·obtain rfl:k=V.chs.length:=by omega
    have c0:wr.cell? ⟨c,0,none⟩=some (.int .u8 2):=aa hrec 0 rfl;have c1:wr.cell? ⟨c,1,none⟩=some (str p):=aa hrec 1 rfl;have c2:wr.cell? ⟨c,2,none⟩=some (.int .i64 V.num):=aa hrec 2 rfl;have c3:wr.cell? ⟨c,3,none⟩=some (.int .i64 V.size):=aa hrec 3 rfl;have c4:wr.cell? ⟨c,4,none⟩=some v:=aa hrec 4 rfl;have hrr:wr.heap[r]?=some (oM 0 [] 0 0 (.slice none 0 0)):=HR.z.sat.Q7 (by simp);have hth:=dL (C:=#[.int .u8 0,str [],.int .i64 0,.int .i64 0,.slice none 0 0]) hrr 0 5 (by simp);have ho1:=HR.a;have hT1:=HR.z;have hle:(bC V.chs).take V.chs.length=bC V.chs:=List.take_of_length_le (by simp[bC]);rw[hle]at ho1 hT1;have hTi:Turns [] (bZ v (bC V.chs)++[(c,Is (oM 2 p V.num V.size v)),(r,Is (oM 0 [] 0 0 (.slice none 0 0)))]) w wr:=hT1.to af;obtain⟨av,cv,rfl,-,-,hca,hbl2⟩:=aV (aW hTi.sat.left ho1);obtain⟨q1,q2⟩:=du hrr [.int .u8 2,str p,.int .i64 V.num,.int .i64 V.size,.slice av (bC V.chs).length cv] (by simp);have hse:aX w (wr.setCells r 0 [.int .u8 2,str p,.int .i64 V.num,.int .i64 V.size,.slice av (bC V.chs).length cv]):=hTi.news.trans' q2 (fun i hi=>.inr (hi ▸ hTi.Qo (by simp)))
    have hck:ak (wr.setCells r 0 [.int .u8 2,str p,.int .i64 V.num,.int .i64 V.size,.slice av (bC V.chs).length cv]) av ((bC V.chs).map dq):=hca.keep q2 (fun g off e hh=>by
     have h1:=hbl2 _ e;have h2:=hTi.sat.Qh (b:=g) (by unfold bZ;rw[ga];exact h1);exact h2 (by simp[hh]))
    have HF1:=Hq4 q1 hse hck hth;clear q1 q2 hse hck hth hTi hT1 ho1 hca hbl2 hle hrr hrec;go_wp2_with ((refine wpList_store_mid rfl 173 (.tmp 4) (.tmp 36) rfl r 0 #[.int .u8 2,str p,.int .i64 V.num,.int .i64 V.size,.slice av (bC V.chs).length cv] rfl rfl HF1.x (by kernel_rfl) (by simp[Value.oneCell']) ?_;simp only[Act.put]));refine bodyPost_ret (results_cell_row rfl _ _ r 173 _ (0,0) _ rfl HF1.a Tryz.underlying173 rfl (by kernel_rfl)) rfl ?_;exact⟨av,cv,rfl,HF1.c,HF1.b⟩
def C0(ops:Array Oper)(s:Nat->Option Value)(i:Nat):Prop :=
 ∃L:Nat->Prop,(∀k,s k≠none->L k)/\(∀k o',L k->ops[k]?=some o'->∀e∈o'.after.toList,Region.binds .any e=true->L e.on)/\¬L i
def qF(P:Program)(Q:Exit->Act->World->Prop)(ops:Array Oper)(a0:Act)(φ:Nat->Value->Prop)(J:(Nat->Option Value)->World->Prop)(noisy:List Nat)(i:Nat)(o:Oper):Prop :=
 ∀(x:Nat->Value) (s:Nat->Option Value) (w:World),kG φ x s noisy o.after.toList->(∀k v,s k=some v->x k=v)->s i=none->C0 ops s i->J s w ->
  if Region.wanted o (yielded ops (aw x 0 ops.toList a0).tmps)then
   ∀K:Act->World->Prop,(∀v w',φ i v->J (if noisy.contains i then fy s i v else s) w'->K ((aw x 0 ops.toList a0).put o.dst v) w')->o.wp P (aw x 0 ops.toList a0) w K Q
  else φ i undef/\J (if noisy.contains i then fy s i undef else s) w
def j6(P:Program)(Q:Exit->Act->World->Prop)(ops:Array Oper)(a0:Act)(φ:Nat->Value->Prop)(J:(Nat->Option Value)->World->Prop)(noisy:List Nat):Nat->List Oper->Prop
 | _,[]=>True
 | i,o::r=>qF P Q ops a0 φ J noisy i o/\j6 P Q ops a0 φ J noisy (i+1) r
theorem uQ{P:Program}{Q:Exit->Act->World->Prop}{ops:Array Oper}{a0:Act}{φ:Nat->Value->Prop}{J:(Nat->Option Value)->World->Prop}{noisy:List Nat}:
  ∀(l:List Oper) (i:Nat),j6 P Q ops a0 φ J noisy i l->∀(j:Nat) (o:Oper),l[j]?=some o->qF P Q ops a0 φ J noisy (i+j) o:=by
 intro l;induction l with
 | nil=>intro i _ j o h;simp at h
 | cons o' r ih =>
  intro i h j o hj
  cases j with
  | zero=>simp only[List.getElem?_cons_zero,Option.some.injEq]at hj;subst hj;exact h.1
  | succ j=>have:=ih _ h.2 j o (by simpa using hj);rwa [Nat.add_right_comm,Nat.add_assoc]at this
theorem uR{P:Program}{Q:Exit->Act->World->Prop}{ops:Array Oper}{a0:Act}{φ:Nat->Value->Prop}{J:(Nat->Option Value)->World->Prop}{noisy:List Nat}:
  ∀(l:List Oper) (i:Nat),(∀(j:Nat) (o:Oper),l[j]?=some o->qF P Q ops a0 φ J noisy (i+j) o)->j6 P Q ops a0 φ J noisy i l:=by
 intro l;induction l with
 | nil=>intro i _;trivial
 | cons o r ih =>
  intro i h;exact⟨h 0 o rfl,ih (i+1) (fun j o' hj=>by have:=h (j+1) o' (by simpa using hj);rwa [show i+(j+1)=i+1+j by omega]at this)⟩
theorem AC{P:Program}{Q:Exit->Act->World->Prop}{ops:Array Oper}{a0:Act}(φ:Nat->Value->Prop)(J:(Nat->Option Value)->World->Prop)(noisy:List Nat)(hok:dB a0.tmps.size 0 ops.toList []=true)(hsteps:j6 P Q ops a0 φ J noisy 0 ops.toList)(hend:∀x w,fF φ x 0 ops.size->J (fun k=>if k<ops.size/\noisy.contains k=true then some (x k)else none) w->Q .normal (aw x 0 ops.toList a0) w):
  ∀(fuel:Nat) (listed:Array Bool) (x:Nat->Value) (w:World),listed.size=ops.size->cX listed=fuel->(∀k,listed.getD k false=true->φ k (x k))->(∀k o',listed.getD k false=true->ops[k]?=some o'->∀e∈o'.after.toList,Region.binds .any e=true->listed.getD e.on false=true)->J (a8 noisy listed x) w ->
   wpAny P .any ops Q fuel listed (aw x 0 ops.toList a0) w:=by
 have hn:=(lA ops.toList 0 [] hok).1
 have fin:∀(listed:Array Bool) (x:Nat->Value) (w:World),listed.size=ops.size->cX listed=0->(∀k,listed.getD k false=true->φ k (x k))->J (a8 noisy listed x) w->Q .normal (aw x 0 ops.toList a0) w:=by
  intro listed x w hs hu hφ hJ
  have hall:∀k,listed.getD k false=true↔k<ops.size:=fun k=>by
   rcases Nat.lt_or_ge k listed.size with h'|h'
   ·have:=ft hu h';simp only[Array.getD_eq_getD_getElem?,Array.getElem?_eq_getElem h',Option.getD_some]at this ⊢;exact⟨fun _=>by omega,fun _=>this⟩
   ·simp only[Array.getD_eq_getD_getElem?,Array.getElem?_eq_none h',Option.getD_none];exact⟨fun h=>Bool.noConfusion h,fun h=>by omega⟩
  refine hend x w (qc _ _ (fun k _ h2=>hφ k ((hall k).2 (by omega)))) ?_
  have e:a8 noisy listed x=fun k=>if k<ops.size/\noisy.contains k=true then some (x k)else none:=by
   funext k;unfold a8;simp only[hall k]
  rw[<- e];exact hJ
 intro fuel;induction fuel with
 | zero =>
  intro listed x w hs hu hφ hcl hJ;refine⟨?_,fin listed x w hs hu hφ hJ⟩;apply Classical.byContradiction;intro hne;obtain⟨i,hi⟩:=List.exists_mem_of_ne_nil _ hne;obtain⟨h1,h2,_⟩:=jJ hi;have:=ft hu (i:=i) (by omega);rw[this]at h2;cases h2
 | succ fuel ih =>
  intro listed x w hs hu hφ hcl hJ;refine⟨fun hnil=>?_,fun i hi=>?_⟩
  ·obtain⟨i,hi,hl⟩:=lT (listed:=listed) (by omega);exact absurd hnil (tC hok hs (by omega) hl)
  ·obtain⟨h1,h2,o,ho,hdeps⟩:=jJ hi;have hlt:i<listed.size:=by omega
   have hf:listed.getD i false=false:=by
    simp only[Array.getD_eq_getD_getElem?,Array.getElem?_eq_getElem hlt,Option.getD_some]at h2 ⊢;exact h2
   have hol:ops.toList[i]?=some o:=by simpa using ho
   have hst:=uQ ops.toList 0 hsteps i o hol;rw[Nat.zero_add]at hst
   have hst:=hst x (a8 noisy listed x) w (qn _ (fun e he hb=>⟨hφ _ (hdeps e he hb),fun hc=>by unfold a8;rw[if_pos ⟨hdeps e he hb,hc⟩]⟩)) (fun k v hk=>by unfold a8 at hk;split at hk<;>simp_all) (by unfold a8;rw[if_neg (by simp[hf])]) ⟨fun k=>listed.getD k false=true,fun k hk=>by
     unfold a8 at hk;split at hk
     ·rename_i h;exact h.1
     ·exact absurd rfl hk,hcl,fun h=>Bool.false_ne_true (hf.symm.trans h)⟩ hJ
   have hsz':(listed.setIfInBounds i true).size=ops.size:=by simpa using hs
   have hu':cX (listed.setIfInBounds i true)=fuel:=by have:=lU h2;omega
   have next:∀v w',φ i v->J (if noisy.contains i then fy (a8 noisy listed x) i v else a8 noisy listed x) w'->wpAny P .any ops Q fuel (listed.setIfInBounds i true) ((aw x 0 ops.toList a0).put o.dst v) w':=by
    intro v w' hv hJ';rw[sH i v ops.toList 0 a0 o hn (Nat.zero_le _) (by simpa using hol)]
    have hgd:∀k,(listed.setIfInBounds i true).getD k false=if k=i then true else listed.getD k false:=fun k=>by
     simp only[Array.getD_eq_getD_getElem?,Array.getElem?_setIfInBounds];by_cases hk:k=i
     ·subst hk;simp[hlt]
     ·rw[if_neg (Ne.symm hk),if_neg hk]
    refine ih _ _ w' hsz' hu' (fun k hk=>?_) (fun k o' hk ho' e he hb=>?_) ?_
    ·rw[hgd k]at hk;by_cases hki:k=i
     ·subst hki;rw[if_pos rfl];exact hv
     ·rw[if_neg hki]at hk ⊢;exact hφ k hk
    ·rw[hgd]at hk ⊢;by_cases hei:e.on=i
     ·rw[if_pos hei]
     ·rw[if_neg hei];by_cases hki:k=i
      ·subst hki;have:o'=o:=by rw[ho]at ho';exact(Option.some.inj ho').symm
       subst this;exact hdeps e he hb
      ·rw[if_neg hki]at hk;exact hcl k o' hk ho' e he hb
    ·have e:a8 noisy (listed.setIfInBounds i true) (fun j=>if j=i then v else x j)=(if noisy.contains i then fy (a8 noisy listed x) i v else a8 noisy listed x):=by
      funext k;unfold a8;rw[hgd k];by_cases hki:k=i
      ·subst hki
       cases hc:noisy.contains k with
       | true=>simp only[and_self,fy,↓reduceIte]
       | false=>simp only[Bool.false_eq_true,and_false,↓reduceIte,hc]
      ·simp only[if_neg hki]
       cases hc:noisy.contains i with
       | true=>simp only[fy,if_neg hki,↓reduceIte]
       | false=>simp only[Bool.false_eq_true,↓reduceIte]
     rw[e];exact hJ'
   unfold wpOp;rw[ho];simp only;split
   ·rename_i hw;rw[if_pos hw]at hst;exact .inl (hst _ next)
   ·rename_i hw;rw[if_neg hw]at hst;exact next undef w hst.1 hst.2
theorem qf{P:Program}{Q:Exit->Act->World->Prop}{ops:Array Oper}{a0:Act}{w:World}(φ:Nat->Value->Prop)(J:(Nat->Option Value)->World->Prop)(noisy:List Nat)(hok:dB a0.tmps.size 0 ops.toList []=true)(h0:J (fun _=>none) w.drew)(hsteps:j6 P Q ops a0 φ J noisy 0 ops.toList)(hend:∀x w,fF φ x 0 ops.size->J (fun k=>if k<ops.size/\noisy.contains k=true then some (x k)else none) w->Q .normal (aw x 0 ops.toList a0) w):
  wpAny P .any ops Q ops.size (Array.replicate ops.size false) a0 w.drew:=by
 have hx:∃x:Nat->Value,aw x 0 ops.toList a0=a0:=by
  have key:∀(l:List Oper) (k:Nat) (x:Nat->Value),(∀j o d,l[j]?=some o->o.dst=some d->d<a0.tmps.size->x (k+j)=a0.tmps.getD d undef)->aw x k l a0=a0:=by
   intro l;induction l with
   | nil=>intro k x _;rfl
   | cons o r ih =>
    intro k x h;simp only[aw]
    have e:a0.put o.dst (x k)=a0:=by
     cases hd:o.dst with
     | none=>rfl
     | some d =>
      simp only[Act.put];by_cases hlt:d<a0.tmps.size
      ·have:=h 0 o d (by simp) hd hlt;rw[Nat.add_zero]at this;rw[this];obtain⟨t,df⟩:=a0;simp only[Act.mk.injEq,and_true];have hlt':d<t.size:=hlt;apply Array.ext_getElem?;intro j;rw[Array.getElem?_setIfInBounds];by_cases hj:d=j
       ·subst hj;simp[hlt']
       ·rw[if_neg hj]
      ·obtain⟨t,df⟩:=a0;simp only[Act.mk.injEq,and_true];have hle:t.size<=d:=Nat.le_of_not_lt hlt;exact Array.setIfInBounds_eq_of_size_le hle
    rw[e];exact ih (k+1) x (fun j o' d hj hd hl=>by have:=h (j+1) o' d (by simpa using hj) hd hl;rwa [show k+(j+1)=k+1+j by omega]at this)
  refine⟨fun j=>((ops.toList[j]?).bind (·.dst)).elim undef (fun d=>a0.tmps.getD d undef),key ops.toList 0 _ (fun j o d hj hd _=>?_)⟩;simp[hj,hd]<;>simp_all
 obtain⟨x,hx⟩:=hx
 have h:=AC (P:=P) (Q:=Q) φ J noisy hok hsteps hend ops.size (Array.replicate ops.size false) x w.drew (by simp) (j7 _) (fun k hk=>by
   simp only[Array.getD_eq_getD_getElem?,Array.getElem?_replicate]at hk;split at hk<;>simp at hk) (fun k o' hk=>by
   simp only[Array.getD_eq_getD_getElem?,Array.getElem?_replicate]at hk;split at hk<;>simp at hk) (by
   have e:a8 noisy (Array.replicate ops.size false) x=fun _=>none:=by
    funext k;unfold a8;rw[if_neg];simp only[Array.getD_eq_getD_getElem?,Array.getElem?_replicate];split<;>simp
   rw[e];exact h0)
 rw[hx]at h;exact h
def Gq(ops:Array Oper)(S:List Nat):List Nat:=S.flatMap fun k=>match ops[k]? with|some o=>(o.after.toList.filter (Region.binds .any)).map (·.on)|none=>[]
def reach(ops:Array Oper):Nat->List Nat->List Nat
 | 0,S=>S
 | n+1,S=>S++reach ops n (Gq ops S)
theorem G2{ops:Array Oper}{L:Nat->Prop}(hL:∀k o',L k->ops[k]?=some o'->∀e∈o'.after.toList,Region.binds .any e=true->L e.on):∀(n:Nat) (S:List Nat),(∀k∈S,L k)->∀k∈reach ops n S,L k:=by
 intro n;induction n with
 | zero=>intro S h;exact h
 | succ n ih =>
  intro S h k hk;simp only[reach,List.mem_append]at hk;rcases hk with hk|hk
  ·exact h k hk
  ·refine ih _ (fun j hj=>?_) k hk;unfold Gq at hj;obtain⟨q,hq,hj⟩:=List.mem_flatMap.1 hj
   cases ho:ops[q]? with
   | none=>rw[ho]at hj;simp at hj
   | some o =>
    rw[ho]at hj;obtain⟨e,he,rfl⟩:=List.mem_map.1 hj;obtain⟨he1,he2⟩:=List.mem_filter.1 he;exact hL q o (h q hq) ho e he1 he2
def sZ(ops:Array Oper)(ns:List Nat):Bool :=
 match ns.getLast? with
 | none=>false
 | some l=>(List.range ops.size).all fun i=>ns.contains i || (reach ops 3 [l]).contains i
theorem EE{ops:Array Oper}{ns:List Nat}{s:Nat->Option Value}{vs:List Value}{i:Nat}{o:Oper}(h:sZ ops ns=true)(hvl:vs.length<=ns.length)(hvs:∀(j i:Nat),ns[j]?=some i->s i=vs[j]?)(hni:¬i∈ns)(ho:ops.toList[i]?=some o)(hcl:C0 ops s i):vs.length<ns.length:=by
 rcases Nat.lt_or_ge vs.length ns.length with h'|h'
 ·exact h'
 exfalso;unfold sZ at h;obtain⟨L,hs0,hL,hi0⟩:=hcl
 cases hl:ns.getLast? with
 | none=>rw[hl]at h;cases h
 | some l =>
  rw[hl]at h;simp only[List.all_eq_true,List.mem_range]at h
  have hil:i<ops.size:=by
   have:=(List.getElem?_eq_some_iff.1 ho).1;simpa using this
  have h2:=h i hil
  have hnc:ns.contains i=false:=by
   cases hc:ns.contains i with
   | false=>rfl
   | true=>exact absurd (List.contains_iff_mem.1 hc) hni
  rw[hnc,Bool.false_or]at h2;have hne:ns≠[]:=by rintro rfl;cases hl
  have hlast:ns[ns.length-1]?=some l:=by rw[<- List.getLast?_eq_getElem?];exact hl
  have hs:=hvs _ _ hlast;have hpos:0<ns.length:=List.length_pos_iff.2 hne
  have hsome:s l≠none:=by
   rw[hs,List.getElem?_eq_getElem (by omega)];simp
  exact hi0 (G2 hL 3 [l] (fun k hk=>by simp only[List.mem_singleton]at hk;subst hk;exact hs0 _ hsome) i (List.contains_iff_mem.1 h2))
theorem kg{P:Program}{Q:Exit->Act->World->Prop}{ops:Array Oper}{a0:Act}{w:World}(A:(Nat->Value)->Act)(hA:∀x,aw x 0 ops.toList a0=A x)(φ:Nat->Value->Prop)(St:List Value->World->Prop)(C:World->Prop)(ns:List Nat)(hC:∀vs w,vs.length<ns.length->St vs w->C w)(hok:dB a0.tmps.size 0 ops.toList []=true)(hch:km ops ns=true)(hlo:sZ ops ns=true)(hnd:ns.Nodup)(hlt:∀i∈ns,i<ops.size)(h0:St [] w.drew)(hsteps:gJ P Q ops A φ St C ns 0 ops.toList)(hend:∀x w,fF φ x 0 ops.size->St (ns.map x) w->Q .normal (A x) w):
  wpAny P .any ops Q ops.size (Array.replicate ops.size false) a0 w.drew:=by
 let J:(Nat->Option Value)->World->Prop:=fun s w=>∃vs:List Value,vs.length<=ns.length/\(∀(j i:Nat),ns[j]?=some i->s i=vs[j]?)/\St vs w
 refine qf φ J ns hok ⟨[],by simp,fun j i _=>by simp,h0⟩ (uR _ _ (fun i o ho=>?_)) (fun x w hφ hJ=>?_)
 ·rw[Nat.zero_add];have hg:=nP ops.toList 0 hsteps i o ho;rw[Nat.zero_add]at hg;intro x s w hd hsx hs hclo hJ;obtain⟨hd',hdn⟩:=gl _ hd;obtain⟨vs,hvl,hvs,hSt⟩:=hJ;rw[hA];unfold fi at hg
  cases hi:ns.idxOf? i with
  | none =>
   rw[hi]at hg;have hni:=sU hi;have hvlt:vs.length<ns.length:=EE hlo hvl hvs (by rw[<- List.contains_iff_mem];simpa using hni) ho hclo;have hg:=hg x w hd' (hC _ _ hvlt hSt);split
   ·rename_i hw;rw[if_pos hw]at hg;intro K hK;refine hg K (fun v hv=>hK v w hv ?_) (fun v w' hv hst=>hK v w' hv ?_)
    ·rw[hni];exact⟨vs,hvl,hvs,hSt⟩
    ·rw[hni];exact⟨vs,hvl,hvs,hst _ hSt⟩
   ·rename_i hw;rw[if_neg hw]at hg;refine⟨hg,?_⟩;rw[hni];exact⟨vs,hvl,hvs,hSt⟩
  | some j =>
   rw[hi]at hg;have hji:=sV hi;have hjl:j<ns.length:=(List.getElem?_eq_some_iff.1 hji).1;have hci:ns.contains i=true:=by rw[List.contains_iff_mem];exact List.mem_of_getElem? hji
   have hle:vs.length<=j:=by
    rcases Nat.lt_or_ge j vs.length with h'|h'
    ·have:=hvs j i hji;rw[hs,List.getElem?_eq_getElem h']at this;cases this
    ·exact h'
   have hge:j<=vs.length:=by
    cases j with
    | zero=>exact Nat.zero_le _
    | succ j =>
     have hj':j<ns.length:=by omega
     have ha:ns[j]?=some ns[j]:=List.getElem?_eq_getElem hj';obtain⟨o',e,ho',he,hb,hon⟩:=so ns hch j _ i ha hji
     have:o'=o:=by
      have h1:ops[i]?=some o:=by simpa using ho
      rw[h1]at ho';exact(Option.some.inj ho').symm
     subst this;have hsn:=hdn e he hb (by rw[hon,List.contains_iff_mem];exact List.getElem_mem hj');have:=hvs j _ ha;rw[<- hon,hsn]at this;have:=(List.getElem?_eq_some_iff.1 this.symm).1;omega
   have hlen:vs.length=j:=by omega
   have hx':vs=iW ns x j:=by
    apply List.ext_getElem?;intro k;unfold iW;rw[List.getElem?_map,List.getElem?_take];rcases Nat.lt_or_ge k j with hk|hk
    ·rw[if_pos hk];have hkn:k<ns.length:=by omega
     rw[List.getElem?_eq_getElem hkn];have:=hvs k _ (List.getElem?_eq_getElem hkn);have hkv:k<vs.length:=by omega
     rw[List.getElem?_eq_getElem hkv]at this ⊢;simp[hsx _ _ this]
    ·rw[if_neg (by omega),List.getElem?_eq_none (by omega)];rfl
   rw[hx']at hSt;have hg:=hg x w hd' hSt
   have next:∀v,(∀(j' i':Nat),ns[j']?=some i'->fy s i v i'=(iW ns x j++[v])[j']?):=by
    intro v j' i' hj';rw[<- hx'];have hj'l:j'<ns.length:=(List.getElem?_eq_some_iff.1 hj').1;unfold fy;rcases Nat.lt_trichotomy j' j with h1|h1|h1
    ·rw[if_neg (fun e=>by
      subst e;have:=pF hnd hj' hji;omega),hvs j' i' hj',List.getElem?_append_left (by omega)]
    ·subst h1;rw[hji]at hj';simp only[Option.some.injEq]at hj';rw[if_pos hj'.symm,List.getElem?_append_right (by omega),hlen,Nat.sub_self];rfl
    ·rw[if_neg (fun e=>by
      subst e;have:=pF hnd hj' hji;omega),hvs j' i' hj',List.getElem?_eq_none (by omega),List.getElem?_eq_none (by simp;omega)]
   have hl':∀v:Value,(iW ns x j++[v]).length<=ns.length:=fun v=>by rw[<- hx'];simp;omega
   split
   ·rename_i hw;rw[if_pos hw]at hg;intro K hK;exact hg K (fun v w' hv hst=>hK v w' hv ⟨_,hl' v,next v,hst⟩)
   ·rename_i hw;rw[if_neg hw]at hg;refine⟨hg.1,?_⟩;exact⟨_,hl' _,next _,hg.2⟩
 ·rw[hA];refine hend x w hφ ?_;obtain⟨vs,hvl,hvs,hSt⟩:=hJ
  have e:vs=ns.map x:=by
   apply List.ext_getElem?;intro k;rw[List.getElem?_map];rcases Nat.lt_or_ge k ns.length with hk|hk
   ·have:=hvs k _ (List.getElem?_eq_getElem hk);simp only at this;rw[if_pos ⟨hlt _ (List.getElem_mem hk),by rw[List.contains_iff_mem];exact List.getElem_mem hk⟩]at this;rw[<- this,List.getElem?_eq_getElem hk];rfl
   ·rw[List.getElem?_eq_none (by omega),List.getElem?_eq_none hk];rfl
  rw[<- e];exact hSt
theorem cB{P:Program}{Q:Exit->Act->World->Prop}{id:Nat}{ops:Array Oper}{a0:Act}{w:World}(A:(Nat->Value)->Act)(hA:∀x,aw x 0 ops.toList a0=A x)(hm:P.follows .mixedOrders=true)(φ:Nat->Value->Prop)(St:List Value->World->Prop)(C:World->Prop)(ns:List Nat)(hC:∀vs w,vs.length<ns.length->St vs w->C w)(hok:dB a0.tmps.size 0 ops.toList []=true)(hch:km ops ns=true)(hlo:sZ ops ns=true)(hnd:ns.Nodup)(hlt:∀i∈ns,i<ops.size)(h0:St [] w.drew)(hsteps:gJ P Q ops A φ St C ns 0 ops.toList)(hend:∀x w,fF φ x 0 ops.size->St (ns.map x) w->Q .normal (A x) w):
  (Code.region id ops true).wp P Q a0 w :=
 wp_region_any hm (kg A hA φ St C ns hC hok hch hlo hnd hlt h0 hsteps hend)
def nx(o:Oper):Bool:=match o.op with|.defer _=>false|_=>true
theorem yJ{l n:Nat}{P:Program}{f:FuncId}{args:Array Value}{w:World}{R:Ending->World->Prop}(h:Calls P f args w R):CallsIn (Fence.wide.inRound l) n P f args w R :=
 ⟨trivial,fun cs _=>(callsIn_wide (n:=n).2 h).2 cs (room_wide _)⟩
theorem I5{l n:Nat}{P:Program}{r:String}{args:Array Value}{w:World}{R:Value->World->Prop}(h:Rows P r args w R):RowsIn (Fence.wide.inRound l) n P r args w R :=
 fun c cs _=>let ⟨v,w',r,s⟩:=h c cs;⟨v,w',r,stepsIn_wide.2 s⟩
theorem Dr{l n:Nat}{P:Program}{o:Oper}{a:Act}{w:World}{K:Act->World->Prop}{Q:Exit->Act->World->Prop}(hd:nx o=true)(h:o.wp P a w K Q):o.wpIn (Fence.wide.inRound l) n P a w K Q:=by
 refine⟨fun _ _=>trivial,?_⟩;have e:Oper.semAt (Fence.wide.inRound l).round a.eval o=execOp a.eval o:=Oper.semAt_eq _ _ _ (fun c hc=>by simp[nx,hc]at hd);rw[e];unfold Oper.wp at h;generalize (execOp a.eval o).run P w=r at h ⊢;have hdp:(Fence.wide.inRound l).depth.isSome=true->1<=n:=fun hx=>by simp[Fence.wide]at hx
 cases r with
 | ok x w' =>
  cases x with
  | enter f args=>exact⟨hdp,(yJ h).mono (fun e w'' he=>by cases e<;>exact he)⟩
  | row r args=>exact⟨hdp,(I5 h).mono (fun _ _ he=>he)⟩
  | value v=>exact h
  | skip=>exact h
  | defer d=>exact h
  | _=>exact h.elim
 | halt x w' =>
  cases x with
  | panic v=>exact h
  | _=>exact h.elim
theorem mX{l n:Nat}{P:Program}{ops:Array Oper}{rest:List Oper}{o:Oper}{a:Act}{w:World}{Q:Exit->Act->World->Prop}(hg:o.guard=none)(hd:nx o=true)(h:o.wp P a w (wpListIn (Fence.wide.inRound l) n P ops Q rest) Q):
  wpListIn (Fence.wide.inRound l) n P ops Q (o::rest) a w:=wpListIn_plain hg fun _ hK=>Oper.wpIn_mono hK (Dr hd h)
theorem Ho{l n:Nat}{P:Program}{md:Region.Mode}{ops:Array Oper}{Q:Exit->Act->World->Prop}(hn:ops.all nx=true)(hQ:¬LetsOut Q):
  ∀(fuel:Nat) (listed:Array Bool) (a:Act) (w:World),wpAny P md ops Q fuel listed a w->wpAnyIn (Fence.wide.inRound l) n P md ops Q fuel listed a w:=by
 intro fuel;induction fuel with
 | zero=>exact fun _ _ _ h=>h
 | succ fuel ih =>
  intro listed a w h;refine⟨h.1,fun i hi=>?_⟩;have h2:=h.2 i hi;unfold wpOp at h2;unfold wpOpIn
  cases ho:ops[i]? with
  | none=>rw[ho]at h2;exact ih _ _ _ h2
  | some o =>
   rw[ho]at h2;simp only at h2 ⊢
   have hd:nx o=true:=by
    obtain⟨hlt,rfl⟩:=Array.getElem?_eq_some_iff.1 ho;exact Array.all_eq_true.1 hn i hlt
   split
   ·rename_i hw;rw[if_pos hw]at h2;rcases h2 with h2|⟨_,h2⟩
    ·exact Oper.wpIn_mono (fun a w h=>ih _ _ _ h) (Dr hd h2)
    ·exact absurd h2 hQ
   ·rename_i hw;rw[if_neg hw]at h2;exact⟨fun _ _=>trivial,ih _ _ _ h2⟩
theorem gO{l n:Nat}{P:Program}{Q:Exit->Act->World->Prop}{id:Nat}{ops:Array Oper}{a0:Act}{w:World}(A:(Nat->Value)->Act)(hA:∀x,aw x 0 ops.toList a0=A x)(hm:P.follows .mixedOrders=true)(hn:ops.all nx=true)(hQ:¬LetsOut Q)(φ:Nat->Value->Prop)(St:List Value->World->Prop)(C:World->Prop)(ns:List Nat)(hC:∀vs w,vs.length<ns.length->St vs w->C w)(hok:dB a0.tmps.size 0 ops.toList []=true)(hch:km ops ns=true)(hlo:sZ ops ns=true)(hnd:ns.Nodup)(hlt:∀i∈ns,i<ops.size)(h0:St [] w.drew)(hsteps:gJ P Q ops A φ St C ns 0 ops.toList)(hend:∀x w,fF φ x 0 ops.size->St (ns.map x) w->Q .normal (A x) w):
  (Code.region id ops true).wpIn (Fence.wide.inRound l) n P Q a0 w :=
 wpIn_region_any hm (Ho hn hQ _ _ _ _ (kg A hA φ St C ns hC hok hch hlo hnd hlt h0 hsteps hend))
theorem Hp{n:Int}(h1 : -9223372036854775808<=n)(h2:n<=9223372036854775807):IntKind.i64.wrap n=n:=by
 unfold IntKind.wrap;simp only[show IntKind.i64.bits=64 from rfl,show IntKind.i64.signed=true from rfl,Bool.true_and,decide_eq_true_eq];split<;>omega
theorem G6{P:Program}{t:TypeId}{a b:Int}(h1 : -9223372036854775808<=a+b)(h2:a+b<=9223372036854775807)(w:World):(binOp .add t (.int .i64 a) (.int .i64 b)).run P w=.ok (.int .i64 (a+b)) w:=by
 simp[binOp,Op.intArith,Hp h1 h2]
theorem Jt{P:Program}{o:Oper}{a:Act}{w:World}{K:Act->World->Prop}{Q:Exit->Act->World->Prop}(op:BinOp)(tx ty:TypeId)(x y:Operand){u v r:Value}(ho:o.op=.binOp op tx x y ty)(hx:a.eval x=u)(hy:a.eval y=v)(h:(binOp op tx u v).run P w=.ok r w)(hs:(match op with|.shl|.shr|.eql|.neq=>false|_=>true)=true)(hk:K (a.put o.dst r) w):o.wp P a w K Q:=by
 refine am (v:=r) (w':=w) ?_ hk
 have:execOp a.eval o=(do let v <- binOp op tx u v;pure (.value v)):=by
  unfold execOp;rw[ho]
  cases op<;>simp[eqGuard]at hs ⊢<;>simp[hx,hy]
 rw[this];simp[h]
theorem Hl{P:Program}{o:Oper}{a:Act}{w:World}{K:Act->World->Prop}{Q:Exit->Act->World->Prop}(t e:TypeId)(x i:Operand)(ho:o.op=.indexAddr t x i)(ht:P.underlying t=some (.slice e)){sz:Nat}(hsz:(P.info? e).map (·.size)=some sz){g off n c:Nat}{k:Int}(hx:a.eval x=.slice (some ⟨g,off,none⟩) n c)(hi:a.eval i=.int .i64 k)(h0:0<=k)(h1:k<n)(hk:K (a.put o.dst (.pointer (some ⟨g,off+k.toNat*sz,none⟩))) w):o.wp P a w K Q:=by
 have he:P.elem t=e:=by simp[Program.elem,ht]
 obtain⟨j,hj,hjs⟩:=Option.map_eq_some_iff.1 hsz;refine am (v:=.pointer (some ⟨g,off+k.toNat*sz,none⟩)) (w':=w) ?_ hk;have hr:=run_indexAt_slice (P:=P) w t ⟨g,off,none⟩ n c .i64 k (by rw[he];exact ht);rw[if_pos ⟨h0,h1⟩,he]at hr;have hso:(sizeOf e).run P w=.ok sz w:=by simp[sizeOf,typeInfo,hj,hjs]
 rw[hso]at hr;simp only[execOp,ho,hx,hi];simp only[Sem.run_bind,hr,Result.andThen_ok,Sem.run_pure,Addr.add_lit]
end
section
open Go.RowKit Go.Maps
open Go.ChangeMaps (setBlock)
structure ContIs (C:Array Value) (pm tm cm:Nat) (sc sb used:Int):Prop where
 c0:C[0]?=some (.map (some pm))
 c1:C[1]?=some (.map (some tm))
 c2:C[2]?=some (.map (some cm))
 c3:C[3]?=some (.int .i64 sc)
 c4:C[4]?=some (.int .i64 sb)
 c5:C[5]?=some (.int .i64 used)
def mn(ps:List bl)(c:Nat)(l:Bs)(v:Value)(V:VerL):List bl:=eO ps c l v (ai ps l++[V])
def dP(ps:List bl)(l:Bs):HF:=fU er (bI ps l)++(ai ps l).flatMap bT
theorem kw{ps:List bl}(l:Bs)(h:(ps.map (·.key)).Nodup):(fU er ps).Perm (c8 (eE (.slice none 0 0) ps l) (ai ps l)++dP ps l):=by
 have:=tG er (.slice none 0 0) [] rfl ps l h;unfold er at this;rw[List.append_assoc]at this;exact this.trans (List.Perm.append_left _ List.perm_append_comm)
theorem vU{ps:List bl}(c:Nat)(l:Bs)(v:Value)(V:VerL)(h:(ps.map (·.key)).Nodup):(fU er (mn ps c l v V)).Perm (c8 v (ai ps l++[V])++(dP ps l++bT V)):=by
 have:=tF er ps c l v (ai ps l++[V]) h;unfold er at this;rw[List.append_assoc]at this;refine this.trans (List.Perm.append_left _ ?_);rw[List.flatMap_append];unfold dP;simp only[List.flatMap_cons,List.flatMap_nil,List.append_nil];rw[List.append_assoc (fU er (bI ps l))];exact List.perm_append_comm
theorem tu{ps:List bl}{c:Nat}(hok:PathsOk ps c)(l:Bs):et (eE (.slice none 0 0) ps l) (ai ps l):=by
 unfold eE ai gOf
 cases hf:ps.find? (fun p=>decide (p.key=l))with
 | none=>exact⟨rfl,fun _=>⟨rfl,rfl⟩⟩
 | some p=>exact(hok.rows p (List.mem_of_find?_eq_some hf)).1
theorem GG:(Tryz.prog.info? 149).map (fun i=>(i.zero,i.size,i.bytes))=some (some (.pointer none),1,8):=by kernel_rfl
theorem CJ{o:Oper}{a:Act}{w a0:World}{K:Act->World->Prop}{Q:Exit->Act->World->Prop}{F G:HF}(s x:Operand)(hop:o.op=.call { callee:=.builtin .append,args:=#[s,x],argTypes:=#[153,153] })(v:Value)(l:List VerL)(hs:a.eval s=v)(hT:Turns F (c8 v l++G) a0 w)(hok:et v l)(sa:Option Addr)(m c:Nat)(hx:a.eval x=.slice sa m c)(r:List VerL)(hm:m=r.length)(hc:0<m->∃ad,sa=some ad/\∀j u,(r.map dz)[j]?=some u->w.cell? (ad.add j)=some u)(hb:l.length+r.length<=1000000)(hk:∀v' w',et v' (l++r)->Turns F (c8 v' (l++r)++G) a0 w'->K (a.put o.dst v') w'):o.wp Tryz.prog a w K Q:=by
 obtain⟨i0,hi0,hz1,hz2,hz3⟩:=info_parts GG;refine cY s x 153 149 i0 (.pointer none) 1 8 hop Tryz.underlying153 hi0 hz1 hz2 hz3 rfl (by decide) v l.length (l.map dz) hs hT hok sa m c hx (r.map dz) (by simp[hm]) hc (fun u hu=>by obtain⟨y,_,rfl⟩:=List.mem_map.1 hu;rfl) (by unfold maxLen;omega) (by omega) (fun v' w' h1 h2 h3=>?_);exact hk v' w' (by unfold et;rw[List.length_append,List.map_append,<- hm];exact h1) (by unfold c8;rw[List.length_append,List.map_append,<- hm];exact h2)
theorem Hm{κ:Type}[DecidableEq κ]{P:Program}{k t ev:TypeId}{enc:κ->Value}{Ok:κ->Prop}(E:EncOk P k enc Ok){w:World}{o:Oper}{a:Act}{K:Act->World->Prop}{Q:Exit->Act->World->Prop}(m x:Operand)(hop:o.op=.lookup t m x false)(ht:P.underlying t=some (.map k ev)){b:Nat}{l:List (Ent κ)}{c:Nat}(hb:w.heap[b]?=some (aR enc l c))(hm:MapOk Ok l c){z:Value}(hz:(zeroValue ev).run P w=.ok z w)(key:κ)(hmv:a.eval m=.map (some b))(hx:a.eval x=enc key)(hk:Ok key)(hK:K (a.put o.dst ((dW l key).getD z)) w):o.wp P a w K Q:=by
 refine am (v:=(dW l key).getD z) (w':=w) ?_ hK;simp[execOp,hop,hmv,hx,tN E ht hb hm hz hk,Result.andThen]
theorem DD{κ:Type}[DecidableEq κ]{P:Program}{k t ev:TypeId}{enc:κ->Value}{Ok:κ->Prop}(E:EncOk P k enc Ok){w:World}{o:Oper}{a:Act}{K:Act->World->Prop}{Q:Exit->Act->World->Prop}(m x y:Operand)(hop:o.op=.mapUpdate t m x y)(ht:P.underlying t=some (.map k ev)){b:Nat}{l:List (Ent κ)}{c:Nat}(hb:w.heap[b]?=some (aR enc l c))(hm:MapOk Ok l c)(key:κ)(v:Value)(hmv:a.eval m=.map (some b))(hx:a.eval x=enc key)(hy:a.eval y=v)(hk:Ok key)(hK:K (a.put o.dst undef) (setBlock w b (aR enc (gA l c key v) (cD l c key)))):o.wp P a w K Q:=by
 unfold Oper.wp execOp;simp only[hop,hmv,hx,hy,Sem.run_bind,E2 E ht hb hm hk v,Result.andThen_ok,Sem.run_pure];exact hK
theorem AA{P:Program}{o:Oper}{a:Act}{w:World}{K:Act->World->Prop}{Q:Exit->Act->World->Prop}{ty:TypeId}(x y:Operand)(hs:(P.info? ty).map (·.size)=some 1)(ho:o.op=.store ty x y){b i:Nat}{C:Array Value}{t:TypeId}{v u:Value}(hb:w.heap[b]?=some (.cells C t (0,0)))(hi:C[i]?=some u)(hx:a.eval x=.pointer (some ⟨b,i,none⟩))(hy:a.eval y=v)(h1:v.oneCell'=true)(hvc:v.cells=#[v])(hK:K (a.put o.dst undef) (w.setCell ⟨b,i,none⟩ v)):o.wp P a w K Q:=by
 have hc:w.cell? ⟨b,i,none⟩=some u:=aa hb i hi;have hf:=aZ hb i
 have hst:=run_storeCells_cells (P:=P) b i [v] 0 w (fun j hj=>by
  obtain rfl:j=0:=by simp at hj;omega
  simp[hc]) (fun j hj=>by
   obtain rfl:j=0:=by simp at hj;omega
   simpa using hf) (fun q hq=>by simp at hq;subst hq;exact h1)
 have hsv:(storeVar ty ⟨b,i,none⟩ v).run P w=.ok () (w.setCell ⟨b,i,none⟩ v):=by
  cases hq:P.info? ty with
  | none=>simp[hq]at hs
  | some j =>
   have hj:j.size=1:=by simpa[hq]using hs
   simp only[Nat.add_zero]at hst;simp[storeVar,sizeOf,typeInfo,hq,hvc,hj,hst,World.setCells]
 unfold Oper.wp execOp;simp only[ho,hx,hy,Instr.storeAt,Instr.sureAddr,Sem.run_bind,Sem.run_pure,Result.andThen_ok,hsv];exact hK
def Fw(b pm c:Nat)(ps:List bl)(l:Bs)(V:VerL)(C:Array Value)(ty:TypeId)(used:Int)(w:World)(e:Ending)(w':World):Prop :=
 ∃v',e=.returned (.tuple #[])/\et v' (ai ps l++[V]) /\
  Turns ((b,Is (.cells C ty (0,0)))::(aU pm ps c++bT V)) ((b,Is (.cells (C.setIfInBounds 5 (.int .i64 (used+V.size))) ty (0,0)))::aU pm (mn ps c l v' V) (cD (ps.map aN) c l)) w w'
theorem vh(b pm tm cm c:Nat)(sc sb used:Int)(ps:List bl)(l:Bs)(V:VerL)(C:Array Value)(ty:TypeId)(w:World)(h:Sat w ((b,Is (.cells C ty (0,0)))::(aU pm ps c++bT V)))(hC:ContIs C pm tm cm sc sb used)(hok:PathsOk ps c)(hl:OkS l)(hlen:(ai ps l).length<=100000)(hus : -4611686018427387904<=used/\used+V.size<=4611686018427387904)(hvs:V.size<=4611686018427387904):
  Calls Tryz.prog 84 #[.pointer (some ⟨b,0,none⟩),str l,dz V] w (Fw b pm c ps l V C ty used w):=by
 obtain⟨O,hO⟩:∃O:Obj,O=.cells C ty (0,0):=⟨_,rfl⟩;rw[<- hO]at h
 have hT0:Turns ((b,Is O)::(aU pm ps c++bT V)) (c8 (eE (.slice none 0 0) ps l) (ai ps l)++((b,Is O)::(pm,Is (aR str (ps.map aN) c))::(dP ps l++bT V))) w w:=by
  refine(Turns.refl h).to ?_;have hp:=kw l (by rw[<- eL];exact hok.map.nodup);unfold aU;refine((List.Perm.cons _ (List.Perm.cons _ (hp.append_right _)))).trans ?_;refine(List.perm_append_comm (l₁:=[(b,Is O),(pm,Is (aR str (ps.map aN) c))]) (l₂:=c8 (eE (.slice none 0 0) ps l) (ai ps l)++dP ps l++bT V)).trans ?_;simp only[List.append_assoc];refine List.Perm.append_left _ ?_;rw[<- List.append_assoc];exact List.perm_append_comm
 obtain⟨v0,hv0⟩:∃v0,v0=eE (.slice none 0 0) ps l:=⟨_,rfl⟩;obtain⟨vs,hvs0⟩:∃vs,vs=ai ps l:=⟨_,rfl⟩
 have hok0:et v0 vs:=by
  rw[hv0,hvs0];exact tu hok l
 obtain⟨R1,hR1⟩:∃R1,R1=dP ps l++bT V:=⟨_,rfl⟩;obtain⟨F0,hF0⟩:∃F0,F0=(b,Is O)::(aU pm ps c++bT V):=⟨_,rfl⟩;obtain⟨M,hM⟩:∃M,M=aR str (ps.map aN) c:=⟨_,rfl⟩;rw[<- hv0,<- hvs0,<- hR1,<- hF0,<- hM]at hT0;have HM:=qqH (show Tryz.prog.follows .mixedOrders=true by kernel_rfl);have HH:=qqH (And.intro hT0 (And.intro hO (And.intro hM (And.intro hv0 (And.intro hvs0 (And.intro hR1 (And.intro hF0 (And.intro hok0 (And.intro hok (And.intro hl hC))))))))));have HL:=Hq2 (hvs0 ▸ hlen) hus;have HW:=qqH (show IntKind.i64.wrap (used+V.size)=used+V.size from IntWalk.i64_in _ (by omega));clear h hT0 hO hM hv0 hvs0 hR1 hF0 hok0 hok hl hC hus hlen hvs;unfold dz;go_enter Tryz.func84,Tryz.ntmps84;go_wp2_with fail
 refine cB (A:=?A) (hA:=?hA) HM.out (iT [fun v=>v=.pointer (some ⟨b,0,none⟩),fun v=>v=.pointer (some ⟨b,0,none⟩),fun v=>v=.pointer (some ⟨b,0,none⟩),fun v=>v=.map (some pm),fun v=>v=str l,fun v=>v=.pointer (some ⟨b,0,none⟩),fun v=>v=.pointer (some ⟨b,0,none⟩),fun v=>v=.pointer (some ⟨b,0,none⟩),fun v=>v=.map (some pm),fun v=>v=str l,fun v=>v=v0,fun v=>v=.pointer (some ⟨V.blk,0,none⟩),fun _=>True,fun _=>True,fun _=>True])
  (fun vs1 W=>match vs1 with
  | []=>Turns F0 (c8 v0 vs++((b,Is O)::(pm,Is M)::R1)) w W
  | [v]=>∃n:Nat,v=.slice (some ⟨n,0,none⟩) 1 1/\W.cell? ⟨n,0,none⟩=some (.pointer (some ⟨V.blk,0,none⟩))/\Turns F0 (c8 v0 vs++((b,Is O)::(pm,Is M)::R1)) w W
  | [_,v]=>et v (vs++[V])/\Turns F0 (c8 v (vs++[V])++((b,Is O)::(pm,Is M)::R1)) w W
  | [_,v,_]=>et v (vs++[V])/\Turns F0 (c8 v (vs++[V])++((b,Is O)::(pm,Is (aR str (gA (ps.map aN) c l v) (cD (ps.map aN) c l)))::R1)) w W
  | _=>False)
  (fun W=>W.heap[b]?=some O/\W.heap[pm]?=some M) [12,13,14] ?hC (by kernel_rfl) (by kernel_rfl) (by kernel_rfl) (by decide) (by decide) ?h0 ?hs ?he
 case hA=>intro x;simp only[aw,Act.put,List.setIfInBounds_toArray,List.set_cons_zero,List.set_cons_succ,Nat.reduceAdd];rfl
 case hs =>
  refine⟨ac rfl rfl (fun x wq hd hC K hK hKw=>?_),ac rfl rfl (fun x wq hd hC K hK hKw=>?_),ac rfl rfl (fun x wq hd hC K hK hKw=>?_),ac rfl rfl (fun x wq hd hC K hK hKw=>?_),ac rfl rfl (fun x wq hd hC K hK hKw=>?_),ac rfl rfl (fun x wq hd hC K hK hKw=>?_),ac rfl rfl (fun x wq hd hC K hK hKw=>?_),ac rfl rfl (fun x wq hd hC K hK hKw=>?_),ac rfl rfl (fun x wq hd hC K hK hKw=>?_),ac rfl rfl (fun x wq hd hC K hK hKw=>?_),ac rfl rfl (fun x wq hd hC K hK hKw=>?_),ac rfl rfl (fun x wq hd hC K hK hKw=>?_),au 0 rfl rfl (fun x wq hd hS K hK=>?_),au 1 rfl rfl (fun x wq hd hS K hK=>?_),au 2 rfl rfl (fun x wq hd hS K hK=>?_),trivial⟩
  ·exact am (by kernel_rfl) (hK _ rfl)
  ·have h0:x 0=.pointer (some ⟨b,0,none⟩):=ae hd 0 (by kernel_rfl);exact am (by rw[h0];kernel_rfl) (hK _ rfl)
  ·have h1:x 1=.pointer (some ⟨b,0,none⟩):=ae hd 1 (by kernel_rfl);exact am (by rw[h1];kernel_rfl) (hK _ rfl)
  ·have h2:x 2=.pointer (some ⟨b,0,none⟩):=ae hd 2 (by kernel_rfl);exact bD Tryz.underlying119 rfl rfl (by rw[h2];rfl) (aa (HH.b ▸ hC.1) 0 HH.out.2.2.2.2.2.2.2.2.2.2.c0) (hK _ rfl)
  ·exact am (by kernel_rfl) (hK _ rfl)
  ·exact am (by kernel_rfl) (hK _ rfl)
  ·have h5:x 5=.pointer (some ⟨b,0,none⟩):=ae hd 5 (by kernel_rfl);exact am (by rw[h5];kernel_rfl) (hK _ rfl)
  ·have h6:x 6=.pointer (some ⟨b,0,none⟩):=ae hd 6 (by kernel_rfl);exact am (by rw[h6];kernel_rfl) (hK _ rfl)
  ·have h7:x 7=.pointer (some ⟨b,0,none⟩):=ae hd 7 (by kernel_rfl);exact bD Tryz.underlying119 rfl rfl (by rw[h7];rfl) (aa (HH.b ▸ hC.1) 0 HH.out.2.2.2.2.2.2.2.2.2.2.c0) (hK _ rfl)
  ·exact am (by kernel_rfl) (hK _ rfl)
  ·have h8:x 8=.map (some pm):=ae hd 8 (by kernel_rfl);have h9:x 9=str l:=ae hd 9 (by kernel_rfl);refine Hm eB (.tmp 14) (.tmp 15) rfl Tryz.underlying119 (HH.c ▸ hC.2) HH.out.2.2.2.2.2.2.2.2.1.map (gd _) l (by rw[h8];rfl) (by rw[h9];rfl) HH.out.2.2.2.2.2.2.2.2.2.1 ?_;rw[de,<- HH.d];exact hK _ rfl
  ·exact am (by kernel_rfl) (hK _ rfl)
  ·have h11:x 11=.pointer (some ⟨V.blk,0,none⟩):=ae hd 11 (by kernel_rfl);exact am (by rw[h11];kernel_rfl) (hK _ _ trivial ⟨_,rfl,aa (aM wq (.cells #[.pointer (some ⟨V.blk,0,none⟩)] 149)) 0 rfl,Turns.alloc hS _⟩)
  ·have h10:x 10=v0:=ae hd 10 (by kernel_rfl);obtain⟨n,en,hcn,hT⟩:=hS
   exact CJ (.tmp 16) (.tmp 18) rfl v0 vs (by rw[h10];rfl) hT HH.h (some ⟨n,0,none⟩) 1 1 (by rw[en];rfl) [V] rfl (fun _=>⟨_,rfl,fun j u hu=>by
     cases j with
     | zero=>simp only[List.map_cons,List.getElem?_cons_zero,Option.some.injEq]at hu;rw[<- hu,Addr.add_lit];exact hcn
     | succ j=>simp at hu⟩) (by have:=HL.a;simp;omega) (fun v1 w1 h1 h2=>hK _ _ trivial ⟨h1,h2⟩)
  ·have h3:x 3=.map (some pm):=ae hd 3 (by kernel_rfl);have h4:x 4=str l:=ae hd 4 (by kernel_rfl);have hT:=hS.2;have hmp:=hT.sat.Q7 (b:=pm) (o:=M) (by simp);refine DD eB (.tmp 9) (.tmp 10) (.tmp 19) rfl Tryz.underlying119 (HH.c ▸ hmp) HH.out.2.2.2.2.2.2.2.2.1.map l (x 13) (by rw[h3];rfl) (by rw[h4];rfl) rfl HH.out.2.2.2.2.2.2.2.2.2.1 ?_;refine hK _ _ trivial ⟨hS.1,?_⟩;have hq:=(hT.to (H:=(pm,Is M)::(c8 (x 13) (vs++[V])++(b,Is O)::R1)) af).Qa (o:=aR str (gA (ps.map aN) c l (x 13)) (cD (ps.map aN) c l)) (cQ wq pm _) (dU hmp);exact hq.to af
 case hC =>
  intro vs1 W hlt hS;match vs1,hS,hlt with
  | [],hT,_=>exact⟨hT.sat.Q7 (by simp),hT.sat.Q7 (by simp)⟩
  | [_],⟨_,_,_,hT⟩,_=>exact⟨hT.sat.Q7 (by simp),hT.sat.Q7 (by simp)⟩
  | [_,_],⟨_,hT⟩,_=>exact⟨hT.sat.Q7 (by simp),hT.sat.Q7 (by simp)⟩
  | [_,_,_],_,hlt=>exact absurd hlt (Nat.lt_irrefl _)
 case h0=>exact HH.a.drew
 case he =>
  intro x w3 hφ hS;obtain⟨hok3,hT3⟩:=hS;obtain⟨v3,hv3⟩:∃v3,v3=x 13:=⟨_,rfl⟩;rw[<- hv3]at hok3 hT3;have HT3:=Hq2 hok3 hT3;clear hφ hok3 hT3 hv3;go_wp2_with fail
  refine cB (A:=?A2) (hA:=?hA2) HM.out (iT [fun v=>v=.pointer (some ⟨b,0,none⟩),fun v=>v=.pointer (some ⟨b,0,none⟩),fun v=>v=.pointer (some ⟨b,5,none⟩),fun v=>v=.int .i64 used,fun v=>v=.pointer (some ⟨V.blk,0,none⟩),fun v=>v=.pointer (some ⟨V.blk,0,none⟩),fun v=>v=.pointer (some ⟨V.blk,1,none⟩),fun v=>v=.int .i64 V.size,fun v=>v=.int .i64 (used+V.size),fun v=>v=.pointer (some ⟨b,0,none⟩),fun v=>v=.pointer (some ⟨b,5,none⟩),fun _=>True])
   (fun vs1 W=>match vs1 with
   | []=>Turns F0 (c8 v3 (vs++[V])++((b,Is O)::(pm,Is (aR str (gA (ps.map aN) c l v3) (cD (ps.map aN) c l)))::R1)) w W
   | [_]=>Turns F0 (c8 v3 (vs++[V])++((b,Is (.cells (C.setIfInBounds 5 (.int .i64 (used+V.size))) ty (0,0)))::(pm,Is (aR str (gA (ps.map aN) c l v3) (cD (ps.map aN) c l)))::R1)) w W
   | _=>False)
   (fun W=>W.heap[b]?=some O/\W.heap[V.blk]?=some (dy V)) [11] ?hC2 (by kernel_rfl) (by kernel_rfl) (by kernel_rfl) (by decide) (by decide) ?h02 ?hs2 ?he2
  case hA2=>intro x;simp only[aw,Act.put,List.setIfInBounds_toArray,List.set_cons_zero,List.set_cons_succ,Nat.reduceAdd];rfl
  case hs2 =>
   refine⟨ac rfl rfl (fun x wq hd hC K hK hKw=>?_),ac rfl rfl (fun x wq hd hC K hK hKw=>?_),ac rfl rfl (fun x wq hd hC K hK hKw=>?_),ac rfl rfl (fun x wq hd hC K hK hKw=>?_),ac rfl rfl (fun x wq hd hC K hK hKw=>?_),ac rfl rfl (fun x wq hd hC K hK hKw=>?_),ac rfl rfl (fun x wq hd hC K hK hKw=>?_),ac rfl rfl (fun x wq hd hC K hK hKw=>?_),ac rfl rfl (fun x wq hd hC K hK hKw=>?_),ac rfl rfl (fun x wq hd hC K hK hKw=>?_),ac rfl rfl (fun x wq hd hC K hK hKw=>?_),au 0 rfl rfl (fun x wq hd hS K hK=>?_),trivial⟩
   ·exact am (by kernel_rfl) (hK _ rfl)
   ·have h0:x 0=.pointer (some ⟨b,0,none⟩):=ae hd 0 (by kernel_rfl);exact am (by rw[h0];kernel_rfl) (hK _ rfl)
   ·have h1:x 1=.pointer (some ⟨b,0,none⟩):=ae hd 1 (by kernel_rfl);exact am (by rw[h1];kernel_rfl) (hK _ rfl)
   ·have h2:x 2=.pointer (some ⟨b,5,none⟩):=ae hd 2 (by kernel_rfl);exact bD Tryz.underlying3 rfl rfl (by rw[h2];rfl) (aa (HH.b ▸ hC.1) 5 HH.out.2.2.2.2.2.2.2.2.2.2.c5) (hK _ rfl)
   ·exact am (by kernel_rfl) (hK _ rfl)
   ·have h4:x 4=.pointer (some ⟨V.blk,0,none⟩):=ae hd 4 (by kernel_rfl);exact am (by rw[h4];kernel_rfl) (hK _ rfl)
   ·have h5:x 5=.pointer (some ⟨V.blk,0,none⟩):=ae hd 5 (by kernel_rfl);exact am (by rw[h5];kernel_rfl) (hK _ rfl)
   ·have h6:x 6=.pointer (some ⟨V.blk,1,none⟩):=ae hd 6 (by kernel_rfl);exact bD Tryz.underlying3 rfl rfl (by rw[h6];rfl) (aa hC.2 1 rfl) (hK _ rfl)
   ·have h3:x 3=.int .i64 used:=ae hd 3 (by kernel_rfl);have h7:x 7=.int .i64 V.size:=ae hd 7 (by kernel_rfl);refine am (v:=.int .i64 (used+V.size)) ?_ (hK _ rfl);rw[<- HW.out];rw[h3,h7];kernel_rfl
   ·have h0:x 0=.pointer (some ⟨b,0,none⟩):=ae hd 0 (by kernel_rfl);exact am (by rw[h0];kernel_rfl) (hK _ rfl)
   ·have h9:x 9=.pointer (some ⟨b,0,none⟩):=ae hd 9 (by kernel_rfl);exact am (by rw[h9];kernel_rfl) (hK _ rfl)
   ·have h10:x 10=.pointer (some ⟨b,5,none⟩):=ae hd 10 (by kernel_rfl);have h8:x 8=.int .i64 (used+V.size):=ae hd 8 (by kernel_rfl);have hT:=hS;have hbo:=hT.sat.Q7 (b:=b) (o:=O) (by simp);rw[HH.b]at hbo;refine AA (v:=.int .i64 (used+V.size)) (.tmp 30) (.tmp 28) (ty:=3) (by kernel_rfl) rfl hbo HH.out.2.2.2.2.2.2.2.2.2.2.c5 (by rw[h10];rfl) (by rw[h8];rfl) (by simp[Value.oneCell']) rfl ?_;have hq:=(hT.to (H:=(b,Is O)::(c8 v3 (vs++[V])++(pm,Is (aR str (gA (ps.map aN) c l v3) (cD (ps.map aN) c l)))::R1)) af).Qa ((Mods.refl (fun k=>k=b) wq).set1 (i:=5) (.int .i64 (used+V.size))) (bt hbo 5 _);exact hK _ _ trivial (hq.to af)
  case hC2 =>
   intro vs1 W hlt hS;match vs1,hS,hlt with
   | [],hT,_ =>
    refine⟨hT.sat.Q7 (by simp),hT.sat.Q7 ?_⟩;rw[HH.f];simp[bT]
   | [_],_,hlt=>exact absurd hlt (Nat.lt_irrefl _)
  case h02=>exact HT3.z.drew
  case he2 =>
   intro y w4 hφ hT4;have hT5:=qqH hT4;clear hφ hT4;go_wp2_with fail;refine bodyPost_end (results_none rfl _ _ _) rfl ?_;have hT6:Turns F0 (c8 v3 (vs++[V])++((b,Is (.cells (C.setIfInBounds 5 (.int .i64 (used+V.size))) ty (0,0)))::(pm,Is (aR str (gA (ps.map aN) c l v3) (cD (ps.map aN) c l)))::R1)) w w4:=hT5.out;refine⟨v3,rfl,by rw[<- HH.e];exact HT3.a,?_⟩;rw[<- HH.b,<- HH.g];refine hT6.to ?_;have hp:=vU c l v3 V (by rw[<- eL];exact HH.out.2.2.2.2.2.2.2.2.1.map.nodup);rw[<- HH.e,<- HH.f]at hp;unfold aU mn;rw[iv,<- HH.e];have h1:=(List.Perm.cons (b,Is (.cells (C.setIfInBounds 5 (.int .i64 (used+V.size))) ty (0,0))) (List.Perm.cons (pm,Is (aR str (gA (ps.map aN) c l v3) (cD (ps.map aN) c l))) hp)).symm;unfold mn at h1;rw[<- HH.e]at h1;refine List.Perm.trans ?_ h1;exact(af)
end
section
open Go.RowKit
def FU(A:AreaL)(w:World)(e:Ending)(w':World):Prop:=e=.returned (.int .i64 ((A.count:Int)*128-A.end_))/\aX w w'
theorem AU(ab d:Nat)(A:AreaL)(w:World)(h:Sat w (ay ab d A))(h1:A.count<=1073741824)(h2:A.end_<=128*A.count):
  Calls Tryz.prog 119 #[.pointer (some ⟨ab,0,none⟩)] w (FU A w):=by
 have hab:=h.Q5;have a2:=aa hab 2 (rI d A);have a3:=aa hab 3 (nh d A);have e1:IntKind.i64.wrap ((A.count:Int)*128)=(A.count:Int)*128:=IntWalk.i64_in _ (by omega);have e2:IntKind.i64.wrap ((A.count:Int)*128-(A.end_:Int))=(A.count:Int)*128-(A.end_:Int):=IntWalk.i64_in _ (by omega);clear h hab;go_enter Tryz.func119,Tryz.ntmps119;go_wp2_with fail;go_quiet (fail);go_wp2_with fail;go_ret;exact⟨rfl,(Mods.refl _ w).drewN _⟩
def Hy(b:Bs)(w:World)(e:Ending)(w':World):Prop:=e=.returned (.agg (az (be (cJ 1 b) 4)))/\aX w w'
theorem qY(a:Option Addr)(cap:Nat)(b:Bs)(w:World)(h:ak w a (b.map ao))(hl:b.length<=1099511627776):
  Calls Tryz.prog 126 #[.slice a b.length cap] w (Hy b w):=by
 have HS:=qqH (fun W (hW:aX w W)=>jB a cap 1 b W (h.keep hW (fun _ _ _=>id)) hl);have hs:=mT 1 b;obtain⟨s,hse⟩:∃s,s=cJ 1 b:=⟨_,rfl⟩;rw[<- hse]at hs;have HE:=qqH hse;clear h hl hse;go_enter Tryz.func126,Tryz.ntmps126;go_wp2_with fail;refine(HS.out _ ((Mods.refl _ w).alloc _)).mono ?_;rintro e w1 ⟨rfl,hs1⟩;rw[<- HE.out];have hn:=hs1.at (aM w (.cells #[.int .u8 0,.int .u8 0,.int .u8 0,.int .u8 0] 251)) id;have hth:=dL hn 0 4 (by simp);obtain⟨q1,q2⟩:=du hn ((be s 4).map ao) (by simp[ck]);have hq:=sj s hs;rw[hq]at q1 q2;have hsz:aX w (w1.setCells w.heap.size 0 [.int .u8 ((s:Int) / 16777216),.int .u8 ((s:Int) / 65536%256),.int .u8 ((s:Int) / 256%256),.int .u8 ((s:Int)%256)]):=(((Mods.refl _ w).alloc _).trans hs1).trans' q2 (fun i hi=>.inr (by omega));have H:=Hq4 hth q1 hsz hq;clear hn hth q1 q2 hs1 hq hsz;go_wp2_with ((refine wpList_store_mid rfl 251 (.tmp 2) (.tmp 17) rfl w.heap.size 0 #[.int .u8 ((s:Int) / 16777216),.int .u8 ((s:Int) / 65536%256),.int .u8 ((s:Int) / 256%256),.int .u8 ((s:Int)%256)] rfl rfl H.a (by kernel_rfl) (by simp[Value.oneCell']) ?_;simp only[Act.put]));refine bodyPost_ret (results_cell_row rfl _ _ w.heap.size 251 _ (0,0) _ rfl H.b Tryz.underlying251 rfl (by kernel_rfl)) rfl ⟨?_,H.c⟩;unfold az;rw[<- HE.out,H.x]
end
section
open Go.RowKit Go.Maps
open Go.ChangeMaps (setBlock)
def nF(k:Bs):Value:=.agg (az k)
def Ok4(k:Bs):Prop:=k.length=4
theorem Gs:∀{a b:Bs},a.map ao=b.map ao->a=b:=by
 intro a;induction a with
 | nil=>intro b h;cases b with
  | nil=>rfl
  | cons y r=>simp at h
 | cons x r ih =>
  intro b h
  cases b with
  | nil=>simp at h
  | cons y q =>
   simp only[List.map_cons,List.cons.injEq,ao,Value.int.injEq,true_and]at h;obtain⟨h1,h2⟩:=h;rw[ih h2,UInt8.toNat_inj.1 (show x.toNat=y.toNat by omega)]
theorem BU:EncOk Tryz.prog 251 nF Ok4 where
 keyed:=Keyed.of_law (deep_law_laid (m:=2) (by kernel_rfl) (by decide) (of_decide_eq_true (by kernel_rfl)) (by kernel_rfl) (by kernel_rfl))
 inj:=fun a b h=>by
  simp only[nF,Value.agg.injEq,az]at h
  have h2:a.map ao=b.map ao:=by simpa using h
  exact Gs h2
 key:=fun a ha=>by
  refine⟨.string (keyBytes (a.map fun x=>Lit.int .u8 x.toNat)),?_⟩
  have ht:Tryz.prog.underlying 251=some (.array 4 5):=Tryz.underlying251
  have hc:Tryz.prog.cellsOf 251=4:=by kernel_rfl
  have hk2:Tryz.prog.keyType 251=true:=by kernel_rfl
  have hsz:Tryz.prog.types.size+1=362+1:=by kernel_rfl
  unfold keyOf nF
  rw[ht]
  have ha:a.length=4:=ha
  simp only[hk2,Value.formed,ht,hc,bU,ha,beq_self_eq_true,Bool.and_self,if_true]
  rw[hsz]
  show(Tryz.prog.keyLits (362-1+2) 251 (az a).toList).map _=_
  rw[show(az a).toList=a.map ao from rfl,pg ht hc _ a ha]
  rfl
abbrev ll:=GE (List (Nat×Nat))
def bm(cm:Nat)(cs:List ll)(c:Nat):HF:=(cm,Is (aR nF (cs.map aN) c))::fU aQ cs
structure ChunksOk (cs:List ll) (c:Nat):Prop where
 map:MapOk Ok4 (cs.map aN) c
 rows:∀p∈cs,bQ p.val p.g
def aY(cs:List ll)(k:Bs):List (Nat×Nat):=gOf [] cs k
theorem oX(w:World):(zeroValue 150).run Tryz.prog w=.ok (.slice none 0 0) w:=by kernel_rfl
theorem EA:(Tryz.prog.info? 161).map (fun i=>(i.zero,i.size,i.bytes))=some (some (.agg #[.int .i64 0,.int .i64 0]),2,16):=by kernel_rfl
theorem mW{o:Oper}{a:Act}{w a0:World}{K:Act->World->Prop}{Q:Exit->Act->World->Prop}{F G:HF}(s x:Operand)(hop:o.op=.call { callee:=.builtin .append,args:=#[s,x],argTypes:=#[150,150] })(v:Value)(l:List (Nat×Nat))(hs:a.eval s=v)(hT:Turns F (aQ v l++G) a0 w)(hok:bQ v l)(sa:Option Addr)(m c:Nat)(hx:a.eval x=.slice sa m c)(r:List (Nat×Nat))(hm:m=r.length)(hc:0<m->∃ad,sa=some ad/\∀j u,(cV r)[j]?=some u->w.cell? (ad.add j)=some u)(hb:l.length+r.length<=1000000)(hk:∀v' w',bQ v' (l++r)->Turns F (aQ v' (l++r)++G) a0 w'->K (a.put o.dst v') w'):o.wp Tryz.prog a w K Q:=by
 obtain⟨i0,hi0,hz1,hz2,hz3⟩:=info_parts EA;have hpv:cV (l++r)=cV l++cV r:=by simp[cV]
 refine cY s x 150 161 i0 (.agg #[.int .i64 0,.int .i64 0]) 2 16 hop Tryz.underlying150 hi0 hz1 hz2 hz3 rfl (by decide) v l.length (cV l) hs hT hok sa m c hx (cV r) (by rw[fO,hm];omega) hc (fun u hu=>?_) (by unfold maxLen;omega) (by omega) (fun v' w' h1 h2 h3=>?_)
 ·obtain⟨p,_,hp⟩:=List.mem_flatMap.1 hu;simp only[qy,List.mem_cons,List.not_mem_nil,or_false]at hp;rcases hp with rfl|rfl<;>rfl
 ·exact hk v' w' (by unfold bQ;rw[List.length_append,hpv,<- hm];exact h1) (by unfold aQ;rw[List.length_append,hpv,<- hm];exact h2)
theorem Jg{κ:Type}[DecidableEq κ]{P:Program}{k t ev:TypeId}{enc:κ->Value}{Ok:κ->Prop}(E:EncOk P k enc Ok){w:World}{o:Oper}{a:Act}{K:Act->World->Prop}{Q:Exit->Act->World->Prop}(m x:Operand)(hop:o.op=.mapEntry t m x)(ht:P.underlying t=some (.map k ev)){b:Nat}{l:List (Ent κ)}{c:Nat}(hb:w.heap[b]?=some (aR enc l c))(hm:MapOk Ok l c){z:Value}(hz:(zeroValue ev).run P w=.ok z w)(key:κ)(hmv:a.eval m=.map (some b))(hx:a.eval x=enc key)(hk:Ok key)(hK:K (a.put o.dst (.tuple #[(dW l key).getD z,.int .i64 (ki l c key)])) (setBlock w b (aR enc (tf l c key z) (cD l c key)))):o.wp P a w K Q:=by
 refine am (v:=.tuple #[(dW l key).getD z,.int .i64 (ki l c key)]) (w':=setBlock w b (aR enc (tf l c key z) (cD l c key))) ?_ hK;simp[execOp,hop,hmv,hx,(wg E ht hb hm hz hk).1,Result.andThen]
theorem xT{κ:Type}[DecidableEq κ]{P:Program}{k t ev:TypeId}{enc:κ->Value}{Ok:κ->Prop}(E:EncOk P k enc Ok){w w0:World}{o:Oper}{a:Act}{K:Act->World->Prop}{Q:Exit->Act->World->Prop}(m s x:Operand)(hop:o.op=.entryStore t m s x)(ht:P.underlying t=some (.map k ev)){b:Nat}{l:List (Ent κ)}{c:Nat}(hb0:w0.heap[b]?=some (aR enc l c))(hm:MapOk Ok l c){z:Value}(hz:(zeroValue ev).run P w0=.ok z w0)(key:κ)(hk:Ok key)(hb:w.heap[b]?=some (aR enc (tf l c key z) (cD l c key)))(v:Value)(hmv:a.eval m=.map (some b))(hs:a.eval s=.int .i64 (ki l c key))(hx:a.eval x=v)(hK:K (a.put o.dst undef) (setBlock w b (aR enc (gA l c key v) (cD l c key)))):o.wp P a w K Q:=by
 unfold Oper.wp execOp;simp only[hop,hmv,hs,hx,Sem.run_bind,(wg E ht hb0 hm hz hk).2 w v hb,Result.andThen_ok,Sem.run_pure];exact hK
def FD(b cm c:Nat)(cs:List ll)(body:Bs)(q:Nat×Nat)(C:Array Value)(ty:TypeId)(sc sb:Int)(w:World)(e:Ending)(w':World):Prop :=
 ∃v',e=.returned (.tuple #[])/\bQ v' (aY cs (be (cJ 1 body) 4)++[q]) /\
  Turns ((b,Is (.cells C ty (0,0)))::bm cm cs c) ((b,Is (.cells ((C.setIfInBounds 3 (.int .i64 (sc+1))).setIfInBounds 4 (.int .i64 (sb+body.length))) ty (0,0)))::bm cm (eO cs c (be (cJ 1 body) 4) v' (aY cs (be (cJ 1 body) 4)++[q])) (cD (cs.map aN) c (be (cJ 1 body) 4))) w w'
theorem Cf{cs:List ll}{c:Nat}(hok:ChunksOk cs c)(k:Bs):bQ (eE (.slice none 0 0) cs k) (aY cs k):=by
 unfold eE aY gOf
 cases hf:cs.find? (fun p=>decide (p.key=k))with
 | none=>exact⟨rfl,fun _=>⟨rfl,rfl⟩⟩
 | some p=>exact hok.rows p (List.mem_of_find?_eq_some hf)
theorem sX(b pm tm cm c:Nat)(sc sb used:Int)(cs:List ll)(body:Bs)(a:Option Addr)(cap:Nat)(q:Nat×Nat)(C:Array Value)(ty:TypeId)(w:World)(h:Sat w ((b,Is (.cells C ty (0,0)))::bm cm cs c))(hC:ContIs C pm tm cm sc sb used)(hok:ChunksOk cs c)(hb:ak w a (body.map ao))(hlen:(aY cs (be (cJ 1 body) 4)).length<=100000)(hbl:body.length<=1000000)(hsc : -4611686018427387904<=sc/\sc<=4611686018427387904)(hsb : -4611686018427387904<=sb/\sb<=4611686018427387904):
  Calls Tryz.prog 83 #[.pointer (some ⟨b,0,none⟩),.slice a body.length cap,.agg #[.int .i64 q.1,.int .i64 q.2]] w (FD b cm c cs body q C ty sc sb w):=by
 obtain⟨k,hk⟩:∃k,k=be (cJ 1 body) 4:=⟨_,rfl⟩;have hk4:Ok4 k:=by rw[hk];exact ck _ _
 obtain⟨O,hO⟩:∃O:Obj,O=.cells C ty (0,0):=⟨_,rfl⟩;obtain⟨M,hM⟩:∃M,M=aR nF (cs.map aN) c:=⟨_,rfl⟩;obtain⟨v0,hv0⟩:∃v0,v0=eE (.slice none 0 0) cs k:=⟨_,rfl⟩;obtain⟨pl,hpl⟩:∃pl,pl=aY cs k:=⟨_,rfl⟩;obtain⟨R1,hR1⟩:∃R1,R1=fU aQ (bI cs k):=⟨_,rfl⟩;have hok0:bQ v0 pl:=by rw[hv0,hpl];exact Cf hok k
 obtain⟨F0,hF0⟩:∃F0,F0=(b,Is O)::bm cm cs c:=⟨_,rfl⟩;rw[<- hO,<- hF0]at h
 have hT0:Turns F0 (aQ v0 pl++((b,Is O)::(cm,Is M)::R1)) w w:=by
  refine(Turns.refl h).to ?_;have hp:=tG aQ (.slice none 0 0) [] rfl cs k (by rw[<- eL];exact hok.map.nodup);rw[<- hv0,<- hR1]at hp;rw[hF0,hM,hpl];unfold bm aY;exact(List.Perm.cons _ (List.Perm.cons _ hp)).trans af
 have HM:=qqH (show Tryz.prog.follows .mixedOrders=true by kernel_rfl);have HB:=qqH (fun W (hW:aX w W)=>qY a cap body W (hb.keep hW (fun _ _ _=>id)) (by omega));have HH:=qqH (And.intro hT0 (And.intro hO (And.intro hM (And.intro hv0 (And.intro hpl (And.intro hR1 (And.intro hF0 (And.intro hok0 (And.intro hok (And.intro hk4 (And.intro hC hk)))))))))));have HL:=qqH (hpl ▸ hk ▸ hlen);clear h hT0 hO hM hv0 hpl hR1 hF0 hok0 hok hk4 hC hb hlen hk;go_enter Tryz.func83,Tryz.ntmps83;go_wp2_with fail;refine(HB.out _ ((Mods.refl _ w).alloc _)).mono ?_;rintro e w1 ⟨rfl,hs1⟩;rw[<- HH.out.2.2.2.2.2.2.2.2.2.2.2];obtain⟨B5,hB5⟩:∃B5,B5=w.heap.size:=⟨_,rfl⟩;obtain⟨B6,hB6⟩:∃B6,B6=w1.heap.size:=⟨_,rfl⟩;obtain⟨PO,hPO⟩:∃PO:Obj,PO=.cells #[.int .i64 q.1,.int .i64 q.2] 161 (0,0):=⟨_,rfl⟩;obtain⟨KO,hKO⟩:∃KO:Obj,KO=.cells (az k) 251 (0,0):=⟨_,rfl⟩
 have hT1:Turns F0 ((B5,Is PO)::(aQ v0 pl++((b,Is O)::(cm,Is M)::R1))) w w1:=by
  rw[hB5,hPO];exact(HH.a.Q8 _).Q9 hs1
 have hk4:k.length=4:=HH.out.2.2.2.2.2.2.2.2.2.1;have hn:=aM w1 (.cells #[.int .u8 0,.int .u8 0,.int .u8 0,.int .u8 0] 251);have hth:(w1.alloc (.cells #[.int .u8 0,.int .u8 0,.int .u8 0,.int .u8 0] 251)).there B6 0 (az k).size:=by rw[hB6,bU,hk4];exact dL hn 0 4 (by simp)
 obtain⟨q1,q2⟩:=du hn (k.map ao) (by simp[hk4])
 have hT2:Turns F0 (aQ v0 pl++((b,Is O)::(cm,Is M)::(B6,Is KO)::(B5,Is PO)::R1)) w ((w1.alloc (.cells #[.int .u8 0,.int .u8 0,.int .u8 0,.int .u8 0] 251)).setCells B6 0 (k.map ao)):=by
  have:=(hT1.Q8 (.cells #[.int .u8 0,.int .u8 0,.int .u8 0,.int .u8 0] 251)).Qa (o:=KO) q2 (by rw[hKO];exact q1);rw[<- hB6]at this;exact this.to af
 have HT2:=Hq6 hT2 hth hPO hKO hk4 hB6;rw[<- hB5];clear hT1 hT2 hth hn q1 q2 hs1 hB5 hPO hKO hk4;go_wp2_with ((rw[<- hB6];refine wpList_store_mid rfl 251 (.tmp 6) (.tmp 8) rfl B6 0 (az k) rfl rfl HT2.b (by rw[bU,HT2.e];kernel_rfl) (db k) ?_;simp only[Act.put]))
 refine cB (A:=?A) (hA:=?hA) HM.out (iT [fun v=>v=.pointer (some ⟨b,0,none⟩),fun v=>v=.pointer (some ⟨b,0,none⟩),fun v=>v=.pointer (some ⟨b,2,none⟩),fun v=>v=.map (some cm),fun v=>v=.agg (az k),fun v=>v=.agg #[.int .i64 q.1,.int .i64 q.2],fun _=>True,fun v=>v=.tuple #[v0,.int .i64 (ki (cs.map aN) c k)],fun v=>v=v0,fun _=>True,fun v=>v=.int .i64 (ki (cs.map aN) c k),fun _=>True])
  (fun vs1 W=>match vs1 with
  | []=>Turns F0 (aQ v0 pl++((b,Is O)::(cm,Is M)::(B6,Is KO)::(B5,Is PO)::R1)) w W
  | [v]=>∃n:Nat,v=.slice (some ⟨n,0,none⟩) 1 1/\Turns F0 (aQ v0 pl++((n,Is PO)::(b,Is O)::(cm,Is M)::(B6,Is KO)::(B5,Is PO)::R1)) w W
  | [v,_]=>∃n:Nat,v=.slice (some ⟨n,0,none⟩) 1 1/\Turns F0 (aQ v0 pl++((n,Is PO)::(b,Is O)::(cm,Is (aR nF (tf (cs.map aN) c k (.slice none 0 0)) (cD (cs.map aN) c k)))::(B6,Is KO)::(B5,Is PO)::R1)) w W
  | [_,_,u]=>∃n:Nat,bQ u (pl++[q])/\Turns F0 (aQ u (pl++[q])++((n,Is PO)::(b,Is O)::(cm,Is (aR nF (tf (cs.map aN) c k (.slice none 0 0)) (cD (cs.map aN) c k)))::(B6,Is KO)::(B5,Is PO)::R1)) w W
  | [_,_,u,_]=>∃n:Nat,bQ u (pl++[q])/\Turns F0 (aQ u (pl++[q])++((n,Is PO)::(b,Is O)::(cm,Is (aR nF (gA (cs.map aN) c k u) (cD (cs.map aN) c k)))::(B6,Is KO)::(B5,Is PO)::R1)) w W
  | _=>False)
  (fun W=>W.heap[b]?=some O/\W.heap[B6]?=some KO/\W.heap[B5]?=some PO) [6,7,9,11] ?hC (by kernel_rfl) (by kernel_rfl) (by kernel_rfl) (by decide) (by decide) ?h0 ?hs ?he
 case hA=>intro x;simp only[aw,Act.put,List.setIfInBounds_toArray,List.set_cons_zero,List.set_cons_succ,Nat.reduceAdd];rfl
 case hs =>
  refine⟨ac rfl rfl (fun x wq hd hC K hK hKw=>?_),ac rfl rfl (fun x wq hd hC K hK hKw=>?_),ac rfl rfl (fun x wq hd hC K hK hKw=>?_),ac rfl rfl (fun x wq hd hC K hK hKw=>?_),ac rfl rfl (fun x wq hd hC K hK hKw=>?_),ac rfl rfl (fun x wq hd hC K hK hKw=>?_),au 0 rfl rfl (fun x wq hd hS K hK=>?_),au 1 rfl rfl (fun x wq hd hS K hK=>?_),ac rfl rfl (fun x wq hd hC K hK hKw=>?_),au 2 rfl rfl (fun x wq hd hS K hK=>?_),ac rfl rfl (fun x wq hd hC K hK hKw=>?_),au 3 rfl rfl (fun x wq hd hS K hK=>?_),trivial⟩
  ·exact am (by kernel_rfl) (hK _ rfl)
  ·have h0:x 0=.pointer (some ⟨b,0,none⟩):=ae hd 0 (by kernel_rfl);exact am (by rw[h0];kernel_rfl) (hK _ rfl)
  ·have h1:x 1=.pointer (some ⟨b,0,none⟩):=ae hd 1 (by kernel_rfl);exact am (by rw[h1];kernel_rfl) (hK _ rfl)
  ·have h2:x 2=.pointer (some ⟨b,2,none⟩):=ae hd 2 (by kernel_rfl);exact bD Tryz.underlying121 rfl rfl (by rw[h2];rfl) (aa (HH.b ▸ hC.1) 2 HH.out.2.2.2.2.2.2.2.2.2.2.1.c2) (hK _ rfl)
  ·have h6:=hC.2.1;rw[HT2.d]at h6;exact wp_load_mid 251 (.tmp 6) rfl B6 0 rfl (k.map ao) _ (fun j v hv=>aa h6 (0+j) (by rw[Nat.zero_add];simpa[az]using hv)) Tryz.underlying251 rfl (by rw[List.length_map,HT2.e];kernel_rfl) (hK _ rfl)
  ·have h5:=hC.2.2;rw[HT2.c]at h5;exact wp_load_mid 161 (.tmp 5) rfl B5 0 rfl [.int .i64 q.1,.int .i64 q.2] _ (fun j v hv=>aa h5 (0+j) (by rw[Nat.zero_add,<- Array.getElem?_toList];exact hv)) Tryz.underlying161 rfl (by kernel_rfl) (hK _ rfl)
  ·have h5:x 5=.agg #[.int .i64 q.1,.int .i64 q.2]:=ae hd 5 (by kernel_rfl);refine am (v:=.slice (some ⟨wq.heap.size,0,none⟩) 1 1) (w':=wq.alloc PO) (by rw[HT2.c];rw[h5];kernel_rfl) (hK _ _ trivial ⟨wq.heap.size,rfl,?_⟩);have h:=Turns.Q8 hS PO;exact h.to af
  ·have h3:x 3=.map (some cm):=ae hd 3 (by kernel_rfl);have h4:x 4=.agg (az k):=ae hd 4 (by kernel_rfl);obtain⟨n,en,hT⟩:=hS;have hmp:=hT.sat.Q7 (b:=cm) (o:=M) (by simp);refine Jg BU (.tmp 12) (.tmp 13) rfl Tryz.underlying121 (HH.c ▸ hmp) HH.out.2.2.2.2.2.2.2.2.1.map (oX _) k (by rw[h3];rfl) (by rw[h4];rfl) HH.out.2.2.2.2.2.2.2.2.2.1 ?_;rw[de,<- HH.d];refine hK _ _ rfl ⟨n,en,?_⟩;have hq:=(hT.to (H:=(cm,Is M)::(aQ v0 pl++((n,Is PO)::(b,Is O)::(B6,Is KO)::(B5,Is PO)::R1))) af).Qa (o:=aR nF (tf (cs.map aN) c k (.slice none 0 0)) (cD (cs.map aN) c k)) (cQ wq cm _) (dU hmp);exact hq.to af
  ·have h7:x 7=.tuple #[v0,.int .i64 (ki (cs.map aN) c k)]:=ae hd 7 (by kernel_rfl);exact am (by rw[h7];kernel_rfl) (hK _ rfl)
  ·have h8:x 8=v0:=ae hd 8 (by kernel_rfl);obtain⟨n,en,hT⟩:=hS;have hno:=hT.sat.Q7 (b:=n) (o:=PO) (by simp);rw[HT2.c]at hno
   exact mW (.tmp 14) (.tmp 16) rfl v0 pl (by rw[h8];rfl) hT HH.h (some ⟨n,0,none⟩) 1 1 (by rw[en];rfl) [q] rfl (fun _=>⟨_,rfl,fun j u hu=>by
     rw[Addr.add_lit,Nat.zero_add];exact aa hno j (by rw[<- Array.getElem?_toList];exact hu)⟩) (by have:=HL.out;simp;omega) (fun v1 w1 h1 h2=>hK _ _ trivial ⟨n,h1,h2⟩)
  ·have h7:x 7=.tuple #[v0,.int .i64 (ki (cs.map aN) c k)]:=ae hd 7 (by kernel_rfl);exact am (by rw[h7];kernel_rfl) (hK _ rfl)
  ·have h3:x 3=.map (some cm):=ae hd 3 (by kernel_rfl);have h10:x 10=.int .i64 (ki (cs.map aN) c k):=ae hd 10 (by kernel_rfl);obtain⟨n,ho,hT⟩:=hS;have hmp:=hT.sat.Q7 (b:=cm) (o:=aR nF (tf (cs.map aN) c k (.slice none 0 0)) (cD (cs.map aN) c k)) (by simp);have hm0:=HH.a.sat.Q7 (b:=cm) (o:=M) (by simp);refine xT BU (w0:=w) (.tmp 12) (.tmp 19) (.tmp 18) rfl Tryz.underlying121 (HH.c ▸ hm0) HH.out.2.2.2.2.2.2.2.2.1.map (oX _) k HH.out.2.2.2.2.2.2.2.2.2.1 hmp (x 9) (by rw[h3];rfl) (by rw[h10];rfl) rfl ?_;refine hK _ _ trivial ⟨n,ho,?_⟩;have hq:=(hT.to (H:=(cm,Is (aR nF (tf (cs.map aN) c k (.slice none 0 0)) (cD (cs.map aN) c k)))::(aQ (x 9) (pl++[q])++((n,Is PO)::(b,Is O)::(B6,Is KO)::(B5,Is PO)::R1))) af).Qa (o:=aR nF (gA (cs.map aN) c k (x 9)) (cD (cs.map aN) c k)) (cQ wq cm _) (dU hmp);exact hq.to af
 case hC =>
  intro vs1 W hlt hS;match vs1,hS,hlt with
  | [],hT,_=>exact⟨hT.sat.Q7 (by simp),hT.sat.Q7 (by simp),hT.sat.Q7 (by simp)⟩
  | [_],⟨_,_,hT⟩,_=>exact⟨hT.sat.Q7 (by simp),hT.sat.Q7 (by simp),hT.sat.Q7 (by simp)⟩
  | [_,_],⟨_,_,hT⟩,_=>exact⟨hT.sat.Q7 (by simp),hT.sat.Q7 (by simp),hT.sat.Q7 (by simp)⟩
  | [_,_,_],⟨_,_,hT⟩,_=>exact⟨hT.sat.Q7 (by simp),hT.sat.Q7 (by simp),hT.sat.Q7 (by simp)⟩
  | [_,_,_,_],_,hlt=>exact absurd hlt (Nat.lt_irrefl _)
 case h0=>exact HT2.a.drew
 case he =>
  intro x w3 hφ hS;obtain⟨n,hok3,hT3⟩:=hS;obtain⟨v3,hv3⟩:∃v3,v3=x 9:=⟨_,rfl⟩;rw[<- hv3]at hok3 hT3;have hbo:=hT3.sat.Q7 (b:=b) (o:=O) (by simp);rw[HH.b]at hbo;have b3:w3.cell? ⟨b,3,none⟩=some (.int .i64 sc):=aa hbo 3 HH.out.2.2.2.2.2.2.2.2.2.2.1.c3;have b4:w3.cell? ⟨b,4,none⟩=some (.int .i64 sb):=aa hbo 4 HH.out.2.2.2.2.2.2.2.2.2.2.1.c4;have f3:=aZ hbo 3;have f4:=aZ hbo 4;have HT3:=Hq3 hok3 hT3 hbo;clear hφ hok3 hT3 hv3 hbo;go_wp2_with fail;refine bodyPost_end (results_none rfl _ _ _) rfl ?_;have s1:=bt HT3.y 3 (.int .i64 (sc+1));have s2:=bt s1 4 (.int .i64 (sb+body.length));have m1:=((Mods.refl (fun k=>k=b) w3).set1 (i:=3) (.int .i64 (sc+1))).set1 (i:=4) (.int .i64 (sb+body.length));have hq:=(HT3.b.to (H:=(b,Is O)::(aQ v3 (pl++[q])++((n,Is PO)::(cm,Is (aR nF (gA (cs.map aN) c k v3) (cD (cs.map aN) c k)))::(B6,Is KO)::(B5,Is PO)::R1))) af).Qa m1 s2;refine⟨v3,rfl,?_,?_⟩
  ·rw[<- HH.out.2.2.2.2.2.2.2.2.2.2.2,<- HH.e];exact HT3.a
  ·rw[<- HH.out.2.2.2.2.2.2.2.2.2.2.2,<- HH.e,<- HH.b,<- HH.g];have hp:=tF aQ cs c k v3 (pl++[q]) (by rw[<- eL];exact HH.out.2.2.2.2.2.2.2.2.1.map.nodup);rw[<- HH.f]at hp;unfold bm;rw[iv];have hd:=hq.drop (H:=(b,Is (.cells ((C.setIfInBounds 3 (.int .i64 (sc+1))).setIfInBounds 4 (.int .i64 (sb+body.length))) ty (0,0)))::(cm,Is (aR nF (gA (cs.map aN) c k v3) (cD (cs.map aN) c k)))::(aQ v3 (pl++[q])++R1)) bw;exact hd.to (List.Perm.cons _ (List.Perm.cons _ hp.symm))
end
section
def mL(x:Bs):Bs:=x++aq ((128-x.length%128)%128)
def dC(x:Bs):Bs:=x.drop (128*(x.length / 128))
def cE(x:Bs):Bs:=dC x++aq (128-x.length%128)
theorem fo(x:Bs):(dC x).length=x.length%128:=by simp[dC];omega
theorem uT(x:Bs):(cE x).length=128:=by simp[cE,fo,ap];omega
theorem jo(x:Bs):(mL x).length=128*((x.length+127) / 128):=by simp[mL,ap];omega
theorem lW(a b:Nat):aq a++aq b=aq (a+b):=by simp[aq,List.replicate_append_replicate]
theorem ui(n k:Nat):(aq n).drop k=aq (n-k):=by simp[aq]
theorem vT{x c:Bs}(h:x.length%128+c.length<=128)(h0:0<c.length):
  mL (x++c)=x.take (128*(x.length / 128))++(dC x++c++aq (128-x.length%128-c.length)):=by
 have e:x=x.take (128*(x.length / 128))++dC x:=by simp[dC]
 unfold mL;conv=>lhs;arg 1;arg 1;rw[e]
 have hz:(128-(x++c).length%128)%128=128-x.length%128-c.length:=by
  rw[List.length_append];omega
 rw[hz];simp[List.append_assoc]
theorem zN{l s1 s2:Bs}{o k:Nat}(h1:k<=s1.length)(h2:s1.length<=k+s2.length)(hf:o+k+s2.length<=l.length):
  bp (bp l o s1) (o+k) s2=bp l o (s1.take k++s2):=by
 unfold bp;have hl:(l.take o++s1++l.drop (o+s1.length)).length=l.length:=by simp;omega
 have ht:(l.take o++s1++l.drop (o+s1.length)).take (o+k)=l.take o++s1.take k:=by
  rw[List.append_assoc,List.take_append,List.take_append,List.length_take];rw[show min o l.length=o by omega,List.take_take,Nat.min_eq_right (by omega),show o+k-o=k by omega,show k-s1.length=0 by omega];simp
 have hd:(l.take o++s1++l.drop (o+s1.length)).drop (o+k+s2.length)=l.drop (o+(s1.take k++s2).length):=by
  rw[List.append_assoc,List.drop_append,List.drop_append,List.length_take];rw[show min o l.length=o by omega,List.drop_of_length_le (by simp;omega),List.drop_of_length_le (by omega),List.drop_drop];simp only[List.nil_append,List.length_append,List.length_take];congr 1;omega
 rw[ht,hd];simp only[List.append_assoc]
theorem Ck{l x c:Bs}{o:Nat}(h:x.length%128+c.length<=128)(h0:0<c.length)(hf:o+(mL (x++c)).length<=l.length):
  bp (bp l o (mL x)) (o+128*(x.length / 128)) (dC x++c++aq (128-x.length%128-c.length))=bp l o (mL (x++c)):=by
 have e1:=vT h h0;have hlen:(dC x++c++aq (128-x.length%128-c.length)).length=128:=by simp[fo,ap];omega
 have hp:=jo x;have hp2:=jo (x++c);rw[List.length_append]at hp2;rw[zN (by omega) (by omega) (by omega),e1];congr 2;unfold mL;rw[List.take_append_of_le_length (by omega)]
theorem zM{l x c:Bs}{o:Nat}(h:x.length<128)(h1:x.length+c.length<=128)(h0:0<c.length):
  bp l o (x++c++aq (128-x.length-c.length))=bp l o (mL (x++c)):=by
 have e1:=vT (x:=x) (c:=c) (by omega) h0;have e2:x.length / 128=0:=by omega
 have e3:x.length%128=x.length:=by omega
 rw[e1];simp only[dC,e2,e3,Nat.mul_zero,List.take_zero,List.drop_zero,List.nil_append]
theorem zy{x:Bs}{k:Nat}(h:128*k<=x.length):dC (x.drop (128*k))=dC x:=by
 unfold dC;rw[List.drop_drop,List.length_drop];congr 1;omega
theorem IZ{x c:Bs}(h:x.length%128+c.length<=128):bp (cE x) (x.length%128) c=dC x++c++aq (128-x.length%128-c.length):=by
 have hl:=fo x;unfold bp cE;rw[List.take_left' hl,<- hl,List.drop_append,List.drop_of_length_le (by omega),ui];simp only[List.nil_append];congr 2;omega
theorem Aw{x c:Bs}(h:x.length%128+c.length<128):cE (x++c)=dC x++c++aq (128-x.length%128-c.length):=by
 unfold cE dC;have e1:(x++c).length / 128=x.length / 128:=by rw[List.length_append];omega
 have e2:(x++c).length%128=x.length%128+c.length:=by rw[List.length_append];omega
 rw[e1,e2,List.drop_append_of_le_length (by omega)];congr 2;omega
theorem Av{x:Bs}(h:x.length%128=0):cE x=aq 128:=by
 have:dC x=[]:=List.eq_nil_of_length_eq_zero (by rw[fo,h]);unfold cE;rw[this,h];rfl
theorem Iq{l data bj c:Bs}{first q:Nat}(hq:q=(data++bj).length / 128)(h:(data++bj).length%128+c.length<=128)(h0:0<c.length)(hf:128*(first+q)+128<=l.length):
  bp (if bj=[]then l else bp l (128*(first+data.length / 128)) (mL ((data++bj).drop (128*(data.length / 128))))) (128*(first+q)) (dC (data++bj)++c++aq (128-(data++bj).length%128-c.length)) =
   bp l (128*(first+data.length / 128)) (mL ((data++bj++c).drop (128*(data.length / 128)))):=by
 have hx:128*(data.length / 128)<=(data++bj).length:=by rw[List.length_append];omega
 rw[List.drop_append_of_le_length (l₁:=data++bj) hx,<- zy hx];obtain⟨y,hy⟩:∃y,y=(data++bj).drop (128*(data.length / 128)):=⟨_,rfl⟩;have hyl:y.length=(data++bj).length-128*(data.length / 128):=by rw[hy,List.length_drop]
 have em:(data++bj).length%128=y.length%128:=by omega
 rw[<- hy,em];rw[em]at h;split
 ·rename_i hb;subst hb;have hy1:y.length<128:=by rw[hyl,List.append_nil];omega
  have hq2:q=data.length / 128:=by rw[hq,List.append_nil]
  rw[hq2];have e3:y.length%128=y.length:=by omega
  have e4:dC y=y:=by unfold dC;rw[show y.length / 128=0 by omega];rfl
  rw[e3,e4];exact zM hy1 (by omega) h0
 ·have hq2:128*(first+q)=128*(first+data.length / 128)+128*(y.length / 128):=by omega
  rw[hq2];refine Ck h h0 ?_;have:=jo (y++c);rw[List.length_append]at this;omega
end
section
open Go.RowKit
theorem yv(d:Nat)(A:AreaL)(o:Nat)(s:Bs)(hs:o+s.length<=A.tail.length):(splice (aG d A).toList (4+o) (s.map ao)).toArray=aG d { A with tail:=bp A.tail o s }:=by
 apply Array.ext';rw[cS];show splice _ (4+o) _=_;generalize hh:[Value.pointer (some ⟨d,0,none⟩),Value.int .i64 A.first,Value.int .i64 A.count,Value.int .i64 A.end_]=hd;have hl:hd.length=4:=by rw[<- hh];rfl
 unfold splice;rw[List.take_append,List.take_of_length_le (by omega),hl,show 4+o-4=o by omega,List.take_append_of_le_length (by simp;omega),List.drop_append,List.drop_of_length_le (by omega),hl];rw[show 4+o+(s.map ao).length-4=o+s.length by simp;omega,List.drop_append_of_le_length (by simp;omega)];rw[cS];simp[bp,hh]
def lenOf:Value->Nat
 | .slice _ n _=>n
 | _=>0
def AD(ab d:Nat)(A:AreaL)(L:DevL)(data b:Bs)(g off:Nat)(w:World)(v:Value)(wr:World):Prop :=
 ∃(j:Nat) (aj:Option Addr) (cj:Nat) (L':DevL),j<=b.length/\v=.slice aj (b.length-j) cj/\b.length-j<=cj/\cj<=9223372036854775807/\(0<b.length-j->aj=some ⟨g,off+j,none⟩) /\
  Turns (ay ab d A++aE d L) (ay ab d { A with end_:=data.length+j,tail:=cE (data++b.take j) }++aE d L') w wr/\DevOk L'/\L'.n=L.n /\
  L'.now=(if j=0 then L.now else bp L.now (128*(A.first+data.length / 128)) (mL ((data++b.take j).drop (128*(data.length / 128)))))/\L'.chs.length<=L.chs.length+j
def Fs(ab d:Nat)(A:AreaL)(L:DevL)(data b:Bs)(w:World)(e:Ending)(w':World):Prop :=
 e=.returned .nilIface/\∃L',Turns (ay ab d A++aE d L) (ay ab d { A with end_:=(data++b).length,tail:=cE (data++b) }++aE d L') w w'/\DevOk L'/\L'.n=L.n /\
  L'.now=(if b=[]then L.now else bp L.now (128*(A.first+data.length / 128)) (mL ((data++b).drop (128*(data.length / 128)))))/\L'.chs.length<=L.chs.length+b.length
theorem wz(ab d:Nat)(A:AreaL)(L:DevL)(data b:Bs)(a:Option Addr)(cap:Nat)(w:World)(h:Sat w (ay ab d A++aE d L))(hL:DevOk L)(hA:A.first+A.count<=L.n)(hn:L.n<=1073741824)(he:A.end_=data.length)(ht:A.tail=cE data)(hfit:data.length+b.length<=128*A.count)(hb:ak w a (b.map ao))(hcap:b.length<=cap)(hcap2:cap<=9223372036854775807)(hne:∀x,a=some x->x.block∉dom (ay ab d A++aE d L))(hch:L.chs.length+b.length<=137438953472):
  Calls Tryz.prog 129 #[.pointer (some ⟨ab,0,none⟩),.slice a b.length cap] w (Fs ab d A L data b w):=by
 obtain⟨g,off,hgo⟩:∃g off,0<b.length->a=some ⟨g,off,none⟩:=by
  rcases Nat.eq_zero_or_pos b.length with h0|h0
  ·exact⟨0,0,fun h=>by omega⟩
  ·obtain⟨g,off,e,_⟩:=hb (by simpa using h0);exact⟨g,off,fun _=>e⟩
 have hst:AD ab d A L data b g off w (.slice a b.length cap) w:=by
  refine⟨0,a,cap,L,Nat.zero_le _,rfl,hcap,hcap2,fun h=>by rw[hgo h];rfl,?_,hL,rfl,by rw[if_pos rfl],Nat.le_add_right _ _⟩;have e:({ A with end_:=data.length+0,tail:=cE (data++b.take 0) }:AreaL)=A:=by rw[List.take_zero,List.append_nil,<- ht,Nat.add_zero,<- he]
  rw[e];exact Turns.refl h
 have H:=Hq9 h hA hn hfit hb hne hch hgo hL;have HST:=qqH hst;clear h hL hA hn he ht hfit hb hcap hcap2 hne hch hst hgo;go_enter Tryz.func129,Tryz.ntmps129;go_wp2_with fail;go_loopw [1] (fun v wr=>AD ab d A L data b g off w v wr) (fun v _=>lenOf v)
 case atStart=>exact HST.out
 case round =>
  obtain⟨j,aj,cj,L',hj,rfl,hcj,hcj2,haj,hT,hL',hn',hnow,hch'⟩:=hrel;by_cases hlt:j<b.length
  ·obtain⟨e,hee⟩:∃e,e=data.length+j:=⟨_,rfl⟩;obtain⟨T,hTT⟩:∃T,T=cE (data++b.take j):=⟨_,rfl⟩;rw[<- hee,<- hTT]at hT;have hTl:T.length=128:=by rw[hTT,uT]
   obtain⟨t,htt⟩:∃t,t=e%128:=⟨_,rfl⟩;obtain⟨r,hr⟩:∃r,r=b.length-j:=⟨_,rfl⟩;have hab:=ic hT.sat;have a0:=aa hab 0 (lr d _);have a1:=aa hab 1 (lu d _);have a3:=aa hab 3 (nh d _);have f3:=aZ hab 3;simp only at a1 a3;have haj:=haj (by omega);subst haj;have hrp:0<r:=by omega
   have het:(e:Int)%128=(t:Int):=by omega
   have ht1:(t:Int)<=128:=by omega
   have ht2:¬t=128:=by omega
   have hal:ab<wr.heap.size:=ah hab;have HT:=Hq8 hT hL' hn' hnow hch' hab hTl hTT;have HE:=Hq3 hee htt hr;have he0:(e:Int)<=1099511627776:=by have:=H.d;have:=H.b;have:=H.c;omega
   rw[<- hr];clear hT hL' hn' hnow hch' hab hTl hTT hee htt hr HST hj hlt;obtain⟨c,hc⟩:∃c,c=(b.drop j).take (min r (128-t)):=⟨_,rfl⟩;have hcl:c.length=min r (128-t):=by rw[hc,List.length_take,List.length_drop,<- HE.y];omega
   have hsrc:∀i v,(c.map ao)[i]?=some v->wr.cell? ((⟨g,off+j,none⟩:Addr).add i)=some v:=fun i v hv=>by
    have hbw:=H.e.keep (w':=wr) HT.a.mods (fun g' off' e hin=>H.f _ e hin);obtain⟨g',off',e',hcl'⟩:=hbw (by rw[List.length_map];have:=HE.y;omega);have e2:=H.h (by have:=HE.y;omega);rw[e2]at e';simp only[Option.some.injEq,Addr.mk.injEq,and_true]at e';obtain⟨rfl,rfl⟩:=e';obtain⟨hi,rfl⟩:=List.getElem?_eq_some_iff.1 hv;have hi':i<c.length:=by simpa using hi
    rw[Addr.add_mid,show off+j+i=off+(j+i) by omega];refine(hcl' (j+i) (by rw[List.length_map];have:=HE.y;omega)).trans ?_;simp[hc]
   have HS8:=qqH (show(Tryz.prog.info? 5).map (·.size)=some 1 by kernel_rfl);have HCP:=Hq3 hc hcl hsrc;clear hc hcl hsrc;go_upto_region 4 with(refine iy rfl (.tmp 20) (.tmp 21) 38 38 rfl 5 Tryz.underlying38 HS8.out _ _ _ _ _ _ rfl rfl ab (4+t) (aG d { A with end_:=e,tail:=T }).toList 157 (by rw[Array.toArray_toList];exact HT.f) (c.map ao) (by rw[List.length_map];exact HCP.b) (fun _=>⟨rfl,_,rfl,HCP.y⟩) (by rw[List.length_map,HCP.b,Array.length_toList,jR];simp only;rw[HT.g];omega) (ej _) ?_;intro w4 hh hm4 hz4;rw[yv d _ t c (by simp only;rw[HT.g,HCP.b];omega)]at hh;have H4:=Hq3 hh hm4 hz4;clear hh hm4 hz4);obtain⟨T2,hT2⟩:∃T2,T2=bp T t c:=⟨_,rfl⟩;obtain⟨q,hq⟩:∃q,q=e / 128:=⟨_,rfl⟩;have hab4:w4.heap[ab]?=some (.cells (aG d { A with end_:=e,tail:=T2 }) 157 (0,0)):=by rw[hT2];exact H4.a
   have hT4:Turns (ay ab d A++aE d L) (ay ab d { A with end_:=e,tail:=T2 }++aE d L') w w4:=HT.a.trans (kS HT.a.sat H4.b hab4 rfl rfl);have hT2l:T2.length=128:=by rw[hT2,jx];exact HT.g;rw[HT.g,HCP.b];omega
   have b0:=aa hab4 0 (lr d _);have b1:=aa hab4 1 (lu d _);have b3:=aa hab4 3 (nh d _);simp only at b1 b3;have hrT:=oe hab4;simp only at hrT;have hfq:A.first+q<L'.n:=by have:=H.d;have:=H.b;have:=HT.c;have:=HE.a;have:=HE.y;omega
   have HQ2:=qqH (show wrap64 ((A.first:Int)+(e:Int) / 128)=(A.first:Int)+(q:Int) by rw[show(e:Int) / 128=(q:Int) by omega];exact IntWalk.wrap64_in _ (by have:=H.c;have:=HT.c;omega))
   have HWr:Hid (∀W,Sat W (aE d L')->Calls Tryz.prog 18 #[.pointer (some ⟨d,0,none⟩),.int .i64 ((A.first:Int)+q),.agg (T2.map ao).toArray] W (jC d L' (A.first+q) T2 W)):=qqH (fun W hW=>by
    have:=kf d L' (A.first+q) T2 W hW HT.b hfq hT2l (by have:=HT.e;have:=H.g;have:=HE.y;omega);exact this)
   have HM:=qqH (show Tryz.prog.follows .mixedOrders=true by kernel_rfl);have H5:=Hq7 hT4 hT2l hrT hT2 hq hfq hab4;clear hT4 hT2l hrT hT2 hq hfq hab4 a0 a1 a3 f3 haj hal;refine wp_region_still_tail 18 HM.out (by kernel_rfl) ?_;simp only[List.take_succ_cons,List.take_zero,List.drop_succ_cons,List.drop_zero];iterate 17 still_step
   refine cA rfl 43 (.tmp 39) rfl ab 4 rfl (T2.map ao) _ H5.c Tryz.underlying43 rfl (iE H5.b) ?_;refine wpStill_nil ?_;simp only[Act.put,List.setIfInBounds_toArray,List.set_cons_zero,List.set_cons_succ];change wpList _ _ _ _ _ w4.drew;go_wp2_with fail;rw[HQ2.out];refine(HWr.out _ (by exact(H5.a.drew.sat.right))).mono ?_;rintro ev w5 ⟨rfl,L2,hW,hL2,hn2,hnow2,hch2⟩;have hx:(data++b.take j).length=e:=by rw[List.length_append,List.length_take];have:=HE.a;have:=HE.y;omega
   have hbt:b.take (j+c.length)=b.take j++c:=by
    rw[List.take_add];congr 1;rw[HCP.a,List.length_take,List.length_drop];rw[List.take_eq_take_iff,List.length_drop];omega
   have hT2e:T2=dC (data++b.take j)++c++aq (128-e%128-c.length):=by
    rw[H5.d,HT.t,HE.b,<- hx];exact IZ (by have:=HCP.b;have:=HE.b;omega)
   have hnow3:L2.now=bp L.now (128*(A.first+data.length / 128)) (mL ((data++b.take (j+c.length)).drop (128*(data.length / 128)))):=by
    rw[hnow2,hT2e,hbt,<- List.append_assoc,<- Iq (l:=L.now) (first:=A.first) (q:=q) (bj:=b.take j) (by rw[hx];exact H5.e) (by rw[hx];have:=HCP.b;have:=HE.b;omega) (by have:=HCP.b;have:=HE.b;omega) ?_,hx]
    ·congr 1;rw[HT.d];by_cases hj0:j=0
     ·subst hj0;simp
     ·rw[if_neg hj0,if_neg (fun h=>hj0 (by have h1:=congrArg List.length h;rw[List.length_take]at h1;have:=HE.y;simp only[List.length_nil]at h1;omega))]
    ·rw[H.out.2.2.2.2.2.2.2.2.nowL];have:=H5.f;have:=HT.c;omega
   have hT5:Turns (ay ab d A++aE d L) (ay ab d { A with end_:=e,tail:=T2 }++aE d L2) w w5:=(H5.a.drew.step af hW).to List.perm_append_comm;have hab5:=ic hT5.sat;have b3:=aa hab5 3 (nh d _);have f3:=aZ hab5 3;simp only at b3
   have hset:(w5.setCell ⟨ab,3,none⟩ (.int .i64 ((e:Int)+(c.length:Int)))).heap[ab]?=some (.cells (aG d { A with end_:=e+c.length,tail:=T2 }) 157 (0,0)):=by
    rw[bt hab5 3,show((e:Int)+(c.length:Int))=((e+c.length:Nat):Int) by omega,sd]
   have hT6:Turns (ay ab d A++aE d L) (ay ab d { A with end_:=e+c.length,tail:=T2 }++aE d L2) w (w5.setCell ⟨ab,3,none⟩ (.int .i64 ((e:Int)+(c.length:Int)))) :=
    hT5.trans (kS hT5.sat ((Mods.refl (fun k=>k=ab) w5).set1 (i:=3) _) hset rfl rfl)
   have hth:(w5.setCell ⟨ab,3,none⟩ (.int .i64 ((e:Int)+(c.length:Int)))).there ab 4 (az (aq 128)).size:=by
    rw[bU,ap];exact dL hset 4 128 (by rw[jR];simp only;rw[H5.b];omega)
   have hcm:c.length<=r:=by have:=HCP.b;omega
   have hcr:r<=cj:=by rw[HE.y];exact hcj
   have hc0:(0:Int)<=(c.length:Int):=by omega
   have hcr2:(c.length:Int)<=(r:Int):=by omega
   have hcr3:(r:Int)<=(cj:Int):=by omega
   have HN3:=Hq7 hL2 (hn2.trans HT.c) hnow3 hch2 hx hbt hT2e;have H6:=Hq3 hT6 hset hth;clear hL2 hn2 hnow3 hch2 hx hbt hT2e hT5 hab5 hT6 hset hth hW hnow2 hcj hcm hcr
   have hrel:∀(W:World) (tl:Bs) (aj2:Option Addr) (n2 cj2:Nat),n2=r-c.length->Turns (ay ab d A++aE d L) (ay ab d { A with end_:=e+c.length,tail:=tl }++aE d L2) w W->tl=cE (data++b.take (j+c.length))->r-c.length<=cj2->cj2<=9223372036854775807->(0<r-c.length->aj2=some ⟨g,off+j+c.length,none⟩) ->
     AD ab d A L data b g off w (.slice aj2 n2 cj2) W:=fun W tl aj2 n2 cj2 hn2 hTW htl h1 h2 h3=>by
    subst hn2;subst htl;refine⟨j+c.length,aj2,cj2,L2,?_,?_,?_,h2,?_,?_,HN3.a,HN3.b,?_,?_⟩
    ·have:=HCP.b;have:=HE.y;omega
    ·rw[show b.length-(j+c.length)=r-c.length by have:=HE.y;omega]
    ·have:=HE.y;omega
    ·intro h4;rw[h3 (by have:=HE.y;omega),Nat.add_assoc]
    ·rw[show data.length+(j+c.length)=e+c.length by have:=HE.a;omega];exact hTW
    ·rw[if_neg (by have:=HCP.b;omega)];exact HN3.c
    ·have:=HN3.d;have:=HT.e;have:=HCP.b;omega
   have hlen2:(data++b.take (j+c.length)).length=e+c.length:=by rw[HN3.f,<- List.append_assoc,List.length_append,HN3.e]
   have hc0p:0<c.length:=by have:=HCP.b;omega
   have hc128:(c.length:Int)<=128:=by have:=HCP.b;omega
   by_cases hfull:t+c.length=128
   ·have hz:((e:Int)+(c.length:Int))%128=0:=by omega
    have htf:=Av (x:=data++b.take (j+c.length)) (by rw[hlen2];omega);have hsz3:(aG d { A with end_:=e+c.length,tail:=T2 }).toList.length=133:=by rw[Array.length_toList,jR];simp only;rw[H5.b]
    obtain⟨q1,q2⟩:=iu (C:=(aG d { A with end_:=e+c.length,tail:=T2 }).toList) (by rw[Array.toArray_toList];exact H6.b) 4 ((aq 128).map ao) (by rw[List.length_map,ap,hsz3];omega);rw[qg d { A with end_:=e+c.length,tail:=T2 } (aq 128) (by rw[ap];simp only;rw[H5.b];omega)]at q1;have hp0:bp T2 0 (aq 128)=aq 128:=by unfold bp;rw[List.take_zero,List.nil_append,List.drop_of_length_le (by rw[ap,H5.b];omega),List.append_nil]
    simp only[hp0]at q1;have hT7:=H6.a.trans (kS H6.a.sat q2 q1 rfl rfl);have HZ:=qqH nB;have HX:=Hq4 hT7 htf q1 hrel;clear hT7 htf q1 q2 hp0 hlen2 hrel;by_cases hcc:cj=c.length
    ·obtain rfl:r=c.length:=by omega
     subst hcc;go_wp2_with (first|(refine b5 rfl 43 #[] rfl (az (aq 128)) HZ.out ?_)|(refine wpList_store_mid rfl 43 (.tmp 65) (.tmp 63) rfl ab 4 (az (aq 128)) rfl rfl H6.y (ir (ap 128)) (db _) ?_;simp only[Act.put]))
     all_goals
      go_roundw
      case rel=>exact HX.x _ _ (some ⟨g,off+j,none⟩) 0 0 (by omega) HX.a HX.b.symm (by omega) (by omega) (by omega)
      case measure=>simp[lenOf];omega
    ·go_wp2_with (first|(refine b5 rfl 43 #[] rfl (az (aq 128)) HZ.out ?_)|(refine wpList_store_mid rfl 43 (.tmp 65) (.tmp 63) rfl ab 4 (az (aq 128)) rfl rfl H6.y (ir (ap 128)) (db _) ?_;simp only[Act.put]))
     all_goals
      go_roundw
      case rel=>exact HX.x _ _ (some ⟨g,off+j+c.length,none⟩) (r-c.length) (cj-c.length) rfl HX.a HX.b.symm (by omega) (by omega) (fun _=>rfl)
      case measure=>simp[lenOf];omega
   ·have hz:¬((e:Int)+(c.length:Int))%128=0:=by have:=HCP.b;omega
    have htn:T2=cE (data++b.take (j+c.length)):=by
     rw[HN3.u,HN3.f,<- List.append_assoc,Aw (by rw[HN3.e];have:=HCP.b;omega),HN3.e]
    have HX:=Hq2 htn hrel;clear htn hlen2 hrel;by_cases hcc:cj=c.length
    ·obtain rfl:r=c.length:=by omega
     subst hcc;go_wp2_with fail
     all_goals
      go_roundw
      case rel=>exact HX.z _ _ (some ⟨g,off+j,none⟩) 0 0 (by omega) H6.a HX.a (by omega) (by omega) (by omega)
      case measure=>simp[lenOf];omega
    ·go_wp2_with fail
     all_goals
      go_roundw
      case rel=>exact HX.z _ _ (some ⟨g,off+j+c.length,none⟩) (r-c.length) (cj-c.length) rfl H6.a HX.a (by omega) (by omega) (fun _=>rfl)
      case measure=>simp[lenOf];omega
  ·obtain rfl:j=b.length:=by omega
   have HR:=Hq5 hT hL' hn' hnow hch';clear hT hL' hn' hnow hch' haj HST;simp only[Nat.sub_self];go_wp2_with fail;go_ret;refine⟨rfl,L',?_,HR.b,HR.c,?_,HR.w⟩
   ·have:=HR.a;rw[List.take_length]at this;rw[List.length_append];exact this
   ·rw[HR.d,List.take_length];rcases b with _|⟨x,r⟩
    ·rfl
    ·simp
def gf(l:Bs)(first count:Nat)(data:Bs):Prop:=aP l first count=data++aq (128*count-data.length)/\data.length<=128*count
theorem Cj{l s:Bs}{a o:Nat}(h:a+o+s.length<=l.length):(bp l (a+o) s).drop a=bp (l.drop a) o s:=by
 unfold bp;rw[List.append_assoc,List.drop_append_of_le_length (by rw[List.length_take];omega),List.drop_take,List.drop_drop,show a+o-a=o by omega,List.append_assoc,show a+(o+s.length)=a+o+s.length by omega]
theorem Cm{l s:Bs}{o n:Nat}(h:o+s.length<=n)(hn:n<=l.length):(bp l o s).take n=bp (l.take n) o s:=by
 unfold bp;rw[List.take_append,List.take_of_length_le (by simp;omega),List.take_take,Nat.min_eq_left (by omega),List.drop_take];congr 2;simp;omega
theorem zk{l s:Bs}{first count q:Nat}(h:128*q+s.length<=128*count)(hl:128*(first+count)<=l.length):aP (bp l (128*(first+q)) s) first count=bp (aP l first count) (128*q) s:=by
 unfold aP;rw[Nat.mul_add,Cj (by omega),Cm h (by rw[List.length_drop];omega)]
theorem oH{l s:Bs}{first count q f2 c2:Nat}(h:128*q+s.length<=128*count)(hl:128*(first+count)<=l.length)(hd:f2+c2<=first\/first+count<=f2):aP (bp l (128*(first+q)) s) f2 c2=aP l f2 c2:=by
 unfold aP bp;rcases hd with hd|hd
 ·apply List.ext_getElem?;intro i;rw[List.getElem?_take,List.getElem?_take];split
  ·rw[List.getElem?_drop,List.getElem?_drop,List.append_assoc,List.getElem?_append_left (by rw[List.length_take];omega),List.getElem?_take,if_pos (by omega)]
  ·rfl
 ·congr 1;rw[List.drop_append,List.drop_of_length_le (by simp;omega),List.nil_append,List.drop_drop];congr 1;simp only[List.length_append,List.length_take];omega
theorem Bu{l:Bs}{first count:Nat}{data b:Bs}(h:gf l first count data)(hl:128*(first+count)<=l.length)(hfit:data.length+b.length<=128*count)(hb:b≠[]):
  gf (bp l (128*(first+data.length / 128)) (mL ((data++b).drop (128*(data.length / 128))))) first count (data++b):=by
 have hbl:0<b.length:=List.length_pos_iff.2 hb;have hdl:((data++b).drop (128*(data.length / 128))).length=data.length%128+b.length:=by rw[List.length_drop,List.length_append];omega
 have hpl:=jo ((data++b).drop (128*(data.length / 128)));rw[hdl]at hpl;refine⟨?_,by rw[List.length_append];exact hfit⟩;rw[zk (by omega) hl,h.1];unfold bp;rw[hpl];have hd:(data++b).drop (128*(data.length / 128))=dC data++b:=List.drop_append_of_le_length (by omega);have e:data=data.take (128*(data.length / 128))++dC data:=by simp[dC]
 rw[hd,List.take_append_of_le_length (by omega),List.drop_append (l₁:=data),List.drop_of_length_le (by omega),List.nil_append,ui];unfold mL;rw[List.length_append,fo];simp only[List.append_assoc];rw[lW,<- List.append_assoc (data.take _),<- e,List.length_append];congr 3;omega
theorem Bt{L L':DevL}{A:AreaL}{data b:Bs}(h:gf L.now A.first A.count data)(hl:L.now.length=128*L.n)(hA:A.first+A.count<=L.n)(hfit:data.length+b.length<=128*A.count)(hn:L'.now=(if b=[]then L.now else bp L.now (128*(A.first+data.length / 128)) (mL ((data++b).drop (128*(data.length / 128)))))):
  gf L'.now A.first A.count (data++b)/\∀f2 c2,(f2+c2<=A.first\/A.first+A.count<=f2)->aP L'.now f2 c2=aP L.now f2 c2:=by
 by_cases hb:b=[]
 ·subst hb;rw[if_pos rfl]at hn;rw[hn];exact⟨by rw[List.append_nil];exact h,fun _ _ _=>rfl⟩
 ·rw[if_neg hb]at hn;rw[hn];refine⟨Bu h (by omega) hfit hb,fun f2 c2 hd=>oH ?_ (by omega) hd⟩;have hdl:((data++b).drop (128*(data.length / 128))).length=data.length%128+b.length:=by rw[List.length_drop,List.length_append];omega
  rw[jo,hdl];omega
def Kg(D:List Nat)(w:World)(v:Value)(l:Bs):Prop:=∃a cap,v=.slice a l.length cap/\l.length<=cap/\cap<=9223372036854775807/\ak w a (l.map ao)/\∀x,a=some x->x.block∉D/\x.block<w.heap.size
def fx(rs:List Bs):Nat:=(rs.map List.length).sum
theorem kz(rs:List Bs):rs.flatten.length=fx rs:=by simp[fx,List.length_flatten]
theorem mS{rs:List Bs}{k:Nat}(h:k<rs.length):fx (rs.take (k+1))=fx (rs.take k)+rs[k].length:=by
 unfold fx;rw[List.take_succ_eq_append_getElem h,List.map_append,List.sum_append];rfl
theorem nA(rs:List Bs)(k:Nat):fx (rs.take k)<=fx rs:=by
 unfold fx;have:rs.map List.length=(rs.take k).map List.length++(rs.drop k).map List.length:=by rw[<- List.map_append,List.take_append_drop]
 rw[this,List.sum_append];omega
def Hz(rs:List Bs)(w:World)(n i:Value)(wr:World):Prop:=∃k:Nat,k<=rs.length/\i=.int .i64 k/\n=.int .i64 (fx (rs.take k))/\aX w wr
def xU(ab d:Nat)(A:AreaL)(L:DevL)(data b:Bs)(w w':World):Prop :=
 ∃L',Turns (ay ab d A++aE d L) (ay ab d { A with end_:=(data++b).length,tail:=cE (data++b) }++aE d L') w w'/\DevOk L'/\L'.n=L.n/\gf L'.now A.first A.count (data++b) /\
  (∀f2 c2,(f2+c2<=A.first\/A.first+A.count<=f2)->aP L'.now f2 c2=aP L.now f2 c2)/\L'.chs.length<=L.chs.length+b.length
def Ke(ab d:Nat)(A:AreaL)(L:DevL)(data:Bs)(rs:List Bs)(w:World)(i:Value)(wr:World):Prop:=∃k:Nat,k<=rs.length/\i=.int .i64 k/\xU ab d A L data (rs.take k).flatten w wr
def AF(ab d:Nat)(A:AreaL)(L:DevL)(data:Bs)(rs:List Bs)(w:World)(e:Ending)(w':World):Prop :=
 (128*A.count<data.length+fx rs/\e=.returned (cC 8)/\aX w w')\/(data.length+fx rs<=128*A.count/\e=.returned .nilIface/\xU ab d A L data rs.flatten w w')
theorem pp(a:Nat)(X:ArchL)(ab d:Nat)(hab:ab=X.ab)(A:AreaL)(L:DevL)(data:Bs)(rs:List Bs)(rvs:List Value)(sl:Option Addr)(cap:Nat)(w:World)(h:Sat w ((a,Is (aO X))::(ay ab d A++aE d L)))(hbr:X.broken=.nilIface)(hL:DevOk L)(hA:A.first+A.count<=L.n)(hn:L.n<=1073741824)(he:A.end_=data.length)(ht:A.tail=cE data)(hd:gf L.now A.first A.count data)(hlen:rvs.length=rs.length)(hl:rs.length<=1000000)(hs:fx rs<=1099511627776)(hch:L.chs.length+fx rs<=137438953472)(hrv:ak w sl rvs)(hsl:∀x,sl=some x->x.block∉dom (ay ab d A++aE d L))(hr:∀k (h1:k<rvs.length) (h2:k<rs.length),Kg (dom (ay ab d A++aE d L)) w rvs[k] rs[k]):
  Calls Tryz.prog 82 #[.pointer (some ⟨a,0,none⟩),.slice sl rs.length cap] w (AF ab d A L data rs w):=by
 have hao:=h.Q5;have a11:w.cell? ⟨a,11,none⟩=some .nilIface:=by rw[<- hbr];exact aa hao 11 rfl
 have a7:w.cell? ⟨a,7,none⟩=some (.pointer (some ⟨ab,0,none⟩)):=by rw[hab];exact aa hao 7 rfl
 have hal:=ah hao;have HAB:=qqH hab;have H:=qqH (And.intro h (And.intro hL (And.intro hA (And.intro hn (And.intro he (And.intro ht (And.intro hd (And.intro hrv (And.intro hsl (And.intro hr (And.intro hch (And.intro hlen hao))))))))))));clear h hL hA hn he ht hd hrv hsl hr hch hao hbr hab;go_enter Tryz.func82,Tryz.ntmps82;go_wp2_with fail;go_loopw [5,22] (fun n i wr=>Hz rs w n i wr) (fun _ i _=>rs.length-(intOf i).toNat)
 case atStart=>exact⟨0,Nat.zero_le _,rfl,rfl,Mods.refl _ _⟩
 case round =>
  obtain⟨k,hk,rfl,rfl,hs1⟩:=hrel;have HS:=qqH hs1;by_cases hlt:k<rs.length
  ·obtain⟨g,off,hg,hcell⟩:=H.h.keep hs1 (fun _ _ _=>id) (by have:=H.out.2.2.2.2.2.2.2.2.2.2.2.1;omega);have hlt2:k<rvs.length:=by have:=H.out.2.2.2.2.2.2.2.2.2.2.2.1;omega
   obtain⟨ra,rc,hrv,-⟩:=H.out.2.2.2.2.2.2.2.2.2.1 k hlt2 hlt;have hck:wr.cell? ⟨g,off+k,none⟩=some (.slice ra rs[k].length rc):=by rw[hcell k hlt2,hrv]
   have htk:=mS hlt;obtain⟨m,hm⟩:∃m,m=rs[k].length:=⟨_,rfl⟩;rw[<- hm]at hck htk;obtain⟨n,hn⟩:∃n,n=fx (rs.take k):=⟨_,rfl⟩;rw[<- hn]at htk ⊢;have hb:n+m<=1099511627776:=by have:=nA rs (k+1);omega
   subst hg;have HK:=qqH htk;clear hcell hrv htk hm hn hs1;go_wp2_with fail;go_roundw
   case rel=>exact⟨k+1,by omega,by go_num,by rw[HK.out];go_num,HS.out⟩
   case measure=>simp[intOf];omega
  ·obtain rfl:k=rs.length:=by omega
   rw[List.take_length];have b7:wr.cell? ⟨a,7,none⟩=some (.pointer (some ⟨ab,0,none⟩)):=gP hs1 a7;have hal2:a<wr.heap.size:=Nat.lt_of_lt_of_le hal hs1.size;have HR:=qqH (AU ab d A wr ((H.a.tail.left).same hs1) (by have:=H.c;have:=H.d;omega) (by rw[H.e];exact H.g.2));obtain⟨n,hn⟩:∃n,n=fx rs:=⟨_,rfl⟩;rw[<- hn]at hs ⊢;have HN:=qqH hn;clear hn hs1;go_wp2_with fail;refine HR.out.mono ?_;rintro e w2 ⟨rfl,hs2⟩;have HS2:=qqH (HS.out.trans hs2);have b7:w2.cell? ⟨a,7,none⟩=some (.pointer (some ⟨ab,0,none⟩)):=gP hs2 b7;have hal2:a<w2.heap.size:=Nat.lt_of_lt_of_le hal2 hs2.size;clear hs2 HS HR;obtain⟨rm,hrm⟩:∃rm:Int,rm=(A.count:Int)*128-A.end_:=⟨_,rfl⟩;rw[<- hrm];by_cases hfit:data.length+n<=128*A.count
   ·have hf:¬rm<(n:Int):=by have:=H.e;omega
    have HF1:=Hq2 hrm hfit;clear hrm hfit;go_wp2_with fail
    have hst:xU ab d A L data (rs.take 0).flatten w w2:=by
     have e:({ A with end_:=(data++(rs.take 0).flatten).length,tail:=cE (data++(rs.take 0).flatten) }:AreaL)=A:=by simp[<- H.e,<- H.f]
     refine⟨L,?_,H.b,rfl,by simpa using H.g,fun _ _ _=>rfl,by simp⟩;rw[e];exact Turns.same H.a.tail HS2.out
    have HST:=qqH hst;clear hst;go_loopw [41] (fun i wr=>Ke ab d A L data rs w i wr) (fun i _=>rs.length-(intOf i).toNat)
    case atStart=>exact⟨0,Nat.zero_le _,rfl,HST.out⟩
    case round =>
     obtain⟨k,hk,rfl,hm⟩:=hrel;have HMd:=qqH hm;clear hm;by_cases hlt:k<rs.length
     ·obtain⟨L',hT,hL',hn',hdat,hoth,hch'⟩:=HMd.out;have hlt2:k<rvs.length:=by have:=H.out.2.2.2.2.2.2.2.2.2.2.2.1;omega
      obtain⟨g,off,hg,hcell⟩:=(H.h.Qc hT H.out.2.2.2.2.2.2.2.2.1) (by omega);obtain⟨ra,rc,hrv,hrc1,hrc2,hrcell,hrne⟩:=H.out.2.2.2.2.2.2.2.2.2.1 k hlt2 hlt;have hao2:=hT.old H.out.2.2.2.2.2.2.2.2.2.2.2.2 H.a.notMem
      have c7:wr.cell? ⟨a,7,none⟩=some (.pointer (some ⟨ab,0,none⟩)):=by
       rw[HAB.out];exact aa hao2 7 rfl
      have hck:wr.cell? ⟨g,off+k,none⟩=some (.slice ra rs[k].length rc):=by rw[hcell k hlt2,hrv]
      have hpre:data.length+(rs.take k).flatten.length+rs[k].length<=128*A.count:=by
       have h1:=mS hlt;have h2:=nA rs (k+1);have h3:=HN.out;have h4:=HF1.z;rw[kz];omega
      have hsl2:=nA rs k
      have hAp:=wz ab d { A with end_:=(data++(rs.take k).flatten).length,tail:=cE (data++(rs.take k).flatten) } L' (data++(rs.take k).flatten) rs[k] ra rc wr hT.sat hL' (by rw[hn'];exact H.c) (by rw[hn'];exact H.d) rfl rfl
       (by rw[List.length_append];exact hpre) (hrcell.Qc hT (fun x hx=>(hrne x hx).1)) hrc1 hrc2
       (fun x hx hin=>by
        rcases hT.fresh _ hin with h'|h'
        ·exact(hrne x hx).1 h'
        ·have:=(hrne x hx).2;omega)
       (by have h1:=mS hlt;have h2:=nA rs (k+1);have h3:=H.out.2.2.2.2.2.2.2.2.2.2.1;rw[kz]at hch';omega)
      have hAp2:∃Pq:Ending->World->Prop,Calls Tryz.prog 129 #[.pointer (some ⟨ab,0,none⟩),.slice ra rs[k].length rc] wr Pq/\∀e W,Pq e W->e=.returned .nilIface/\xU ab d A L data (rs.take (k+1)).flatten w W:=by
       refine⟨_,hAp,?_⟩;rintro e0 W ⟨he0,L2,hT2,hL2,hn2,hnow2,hch2⟩;have e:(rs.take (k+1)).flatten=(rs.take k).flatten++rs[k]:=by rw[List.take_succ_eq_append_getElem hlt,List.flatten_append,List.flatten_singleton]
       rw[e];unfold xU;rw[<- List.append_assoc];obtain⟨d1,d2⟩:=Bt (A:=A) hdat hL'.nowL (by rw[hn'];exact H.c) (by rw[List.length_append];exact hpre) hnow2;exact⟨he0,L2,hT.trans hT2,hL2,hn2.trans hn',d1,fun f2 c2 hh=>(d2 f2 c2 hh).trans (hoth f2 c2 hh),by rw[List.length_append];omega⟩
      obtain⟨Pq,hq1,hq2⟩:=hAp2;have HAp:=qqH hq1;have HNX:=qqH hq2;clear hq1 hq2;obtain⟨m,hm⟩:∃m,m=rs[k].length:=⟨_,rfl⟩;rw[<- hm]at hck HAp;have HM2:=qqH hm;clear hm;subst hg;have hal3:a<wr.heap.size:=ah hao2;clear hcell hrv hrc1 hrc2 hrcell hrne hT hL' hn' hdat hoth hch' hao2 hpre hAp hsl2 b7 hal2;go_wp2_with fail;refine HAp.out.mono ?_;intro e w5 hp5;obtain⟨rfl,hr5⟩:=HNX.out e w5 hp5;have HR5:=qqH hr5;clear hp5 hr5;go_wp2_with fail;go_roundw
      case rel=>exact⟨k+1,by omega,by go_num,HR5.out⟩
      case measure=>simp[intOf];omega
     ·obtain rfl:k=rs.length:=by omega
      go_wp2_with fail;refine bodyPost_end (results_tmp rfl _ _ _) rfl ?_;refine .inr ⟨by rw[<- HN.out];exact HF1.z,rfl,?_⟩;have:=HMd.out;rwa [List.take_length]at this
   ·have hf:rm<(n:Int):=by have:=H.e;omega
    have HF1:=Hq2 hrm hfit;clear hrm hfit;go_wp2_with fail;refine bodyPost_ret (results_tmp rfl _ _ _) rfl ?_;refine .inl ⟨by rw[<- HN.out];have:=HF1.z;omega,rfl,HS2.out⟩
end
section
open Go.RowKit Go.Maps
theorem jE{w:World}{sl:Option Addr}{l:Bs}(cap:Nat)(h:ak w sl (l.map ao)):(convert 38 9 (.slice sl l.length cap)).run Tryz.prog w=.ok (str l) w:=by
 by_cases h0:l=[]
 ·subst h0
  cases sl with
  | none=>exact run_convert_bytes_nil w 38 5 Tryz.underlying38 Tryz.underlying5 _ _ _ Tryz.underlying9
  | some x =>
   rw[run_convert_bytes_string w 38 9 5 _ _ _ Tryz.underlying38 Tryz.underlying5 Tryz.underlying9];simp[Conv.bytesToString,loadCells,loadCellsFrom,str];try rfl
 ·have hp:0<(l.map ao).length:=by simpa using List.length_pos_iff.2 h0
  obtain⟨g,off,rfl,hc⟩:=h hp
  have:=run_convert_bytes_arg (P:=Tryz.prog) w 38 5 Tryz.underlying38 Tryz.underlying5 g off l.length cap (l.map fun x=>(x.toNat:Int)) (by simp) (fun i hi=>by
   rw[hc i (by simpa using hi)];simp[ao,List.getD,hi]) 9 Tryz.underlying9
  have e:strOfNums (l.map fun x=>(x.toNat:Int))=⟨l.toArray⟩:=by
   unfold strOfNums;rw[List.map_map];have:(fun x:UInt8=>x)=(fun n:Int=>UInt8.ofNat n.toNat) ∘ fun x:UInt8=>(x.toNat:Int):=by funext x;simp
   rw[<- this,List.map_id']
  rw[this,e]
def mh(H:Bs)(p:Nat×Nat)(b:Bs):Prop:=p.2=b.length/\lm H p.1 b
def DM(ab d:Nat)(A:AreaL)(L:DevL)(R0:HF)(pl:List (Nat×Nat))(b:Bs)(w:World)(e:Ending)(w':World):Prop :=
 (∃sp,AreaOk { A with spare:=sp }/\Turns (ay ab d A++R0) (ay ab d { A with spare:=sp }++R0) w w') /\
 (
  (∃p∈pl,mh (aP L.now A.first A.count) p b/\e=.returned (.tuple #[.agg #[.int .i64 p.1,.int .i64 p.2],.bool true,.nilIface])) \/
  ((∀p∈pl,¬mh (aP L.now A.first A.count) p b)/\e=.returned (.tuple #[.agg #[.int .i64 0,.int .i64 0],.bool false,.nilIface])))
theorem mp{H:Bs}{at_:Nat}{a b:Bs}(ha:lm H at_ a)(hb:lm H at_ b)(h:a.length=b.length):a=b:=by
 have h1:=ha.2;have h2:=hb.2;rw[h]at h1;rw[h1]at h2;simpa using h2
theorem yO{w:World}{cm c:Nat}{cs:List ll}(h:Sat w (bm cm cs c))(hok:ChunksOk cs c)(k:Bs):∃sl cap,eE (.slice none 0 0) cs k=.slice sl (aY cs k).length cap/\(aY cs k).length<=cap/\cap<=9223372036854775807/\ak w sl (cV (aY cs k)):=by
 unfold aY eE gOf
 cases hf:cs.find? (fun p=>decide (p.key=k))with
 | none=>exact⟨none,0,rfl,Nat.le_refl _,by omega,fun h=>by simp[cV]at h⟩
 | some p =>
  have hm:=List.mem_of_find?_eq_some hf;have hp:Sat w (aQ p.val p.g):=Sat.flat (f:=fun p:ll=>aQ p.val p.g) h.tail hm;exact gW hp (hok.rows p hm)
theorem lh{P:Program}{fn:Func}{p q s:Tmp}{ty:TypeId}(h:fn.results=#[.cell p ty,.tmp q,.tmp s])(tmps:Array Value)(w:World)(g:Nat)(t:TypeId)(cs:Array Value)(fr:Nat×Nat)(d:TypeDesc)(hp:tmps.getD p undef=.pointer (some ⟨g,0,none⟩))(hg:w.heap[g]?=some (.cells cs t fr))(hu:P.underlying ty=some d)(hd:(match d with|.struct _|.array _ _=>true|_=>false)=true)(hi:(P.info? ty).map (·.size)=some cs.size):
  (results fn tmps).run P w=.ok (.tuple #[.agg cs,tmps.getD q undef,tmps.getD s undef]) w:=by
 have hp':tmps[p]?.getD undef=.pointer (some ⟨g,0,none⟩):=by simpa using hp
 simp[results,h,hp',asAddr,run_loadVar_row w g t ty cs fr d hg hu hd hi]
def aJ(p:Nat×Nat):Obj:=.cells #[.int .i64 p.1,.int .i64 p.2] 161 (0,0)
def FE(ab d r:Nat)(A:AreaL)(L:DevL)(R0:HF)(pl:List (Nat×Nat))(b:Bs)(w:World)(i:Value)(W:World):Prop :=
 ∃(j:Nat) (sp:List (Nat×Nat×Nat)),j<=pl.length/\i=.int .i64 j/\AreaOk { A with spare:=sp }/\Turns (ay ab d A++R0) ((r,Is (aJ (0,0)))::(ay ab d { A with spare:=sp }++R0)) w W /\
  ∀t (h:t<pl.length),t<j->¬mh (aP L.now A.first A.count) pl[t] b
theorem zx(a:Nat)(X:ArchL)(ab d:Nat)(hab:ab=X.ab)(A:AreaL)(L:DevL)(cs:List ll)(c:Nat)(b:Bs)(sl:Option Addr)(cap:Nat)(R0:HF)(w:World)(h:Sat w (ay ab d A++R0))(hsub:∀x,cnt x ((a,Is (aO X))::(aE d L++bm X.cm cs c))<=cnt x R0)(hL:DevOk L)(hA:AreaOk A)(hAn:A.first+A.count<=L.n)(hn:L.n<=1073741824)(hok:ChunksOk cs c)(hb:ak w sl (b.map ao))(hbs:∀x,sl=some x->x.block∉dom (ay ab d A++R0))(hbl:b.length<=1000000)(hpl:(aY cs (be (cJ 1 b) 4)).length<=1000000)(hch:∀p∈aY cs (be (cJ 1 b) 4),∃body,p.2=body.length/\lm (aP L.now A.first A.count) p.1 body):
  Calls Tryz.prog 77 #[.pointer (some ⟨a,0,none⟩),.slice sl b.length cap] w (DM ab d A L R0 (aY cs (be (cJ 1 b) 4)) b w):=by
 obtain⟨k,hk⟩:∃k,k=be (cJ 1 b) 4:=⟨_,rfl⟩;have hk4:Ok4 k:=by rw[hk];exact ck _ _
 rw[<- hk]at hpl hch ⊢;obtain⟨pl,hple⟩:∃pl,pl=aY cs k:=⟨_,rfl⟩;rw[<- hple]at hpl hch ⊢;obtain⟨r,hr⟩:∃r,r=w.heap.size:=⟨_,rfl⟩;obtain⟨F0,hF0⟩:∃F0,F0=ay ab d A++R0:=⟨_,rfl⟩
 have hsubC:∀{W:World} {F:HF},Sat W (F++R0)->W.heap[a]?=some (aO X)/\Sat W (aE d L)/\Sat W (bm X.cm cs c):=fun hs=>by
  have h1:=hs.right.sub hsub;exact⟨h1.Q5,h1.tail.left,h1.tail.right⟩
 obtain⟨psl,pcap,e1,e2,e3,_⟩:=yO (hsubC h).2.2 hok k;rw[<- hple]at e1 e2;have hT0:Turns F0 ((r,Is (aJ (0,0)))::(ay ab d A++R0)) w (w.alloc (aJ (0,0))):=by rw[hr,hF0];exact(Turns.refl h).Q8 _
 have HM:=qqH (show Tryz.prog.follows .mixedOrders=true by kernel_rfl);have HK:=qqH (fun(W:World) (hW:ak W sl (b.map ao))=>qY sl cap b W hW (by omega));have HH:=qqH (And.intro hT0 (And.intro hab (And.intro hL (And.intro hA (And.intro hAn (And.intro hn (And.intro hok (And.intro hb (And.intro hbs (And.intro hch (And.intro hk4 (And.intro hk (And.intro hple (And.intro e1 hF0))))))))))))));have HS:=Hq2 hsub @hsubC;clear hT0 hab hL hA hAn hn hok hb hbs hch hk4 hk hple e1 hF0 hsub hsubC h;go_enter Tryz.func77,Tryz.ntmps77;go_wp2_with fail;rw[<- hr];have hw0:w.alloc (.cells #[.int .i64 0,.int .i64 0] 161)=w.alloc (aJ (0,0)):=rfl;rw[hw0];clear hw0 hr
 refine bK (A:=?A) (hA:=?hA) HM.out (iT [fun v=>v=.pointer (some ⟨a,0,none⟩),fun v=>v=.pointer (some ⟨a,0,none⟩),fun v=>v=.pointer (some ⟨a,0,none⟩),fun v=>v=.pointer (some ⟨a,2,none⟩),fun v=>v=.map (some X.cm),fun v=>v=.slice sl b.length cap,fun v=>v=nF k,fun v=>v=.slice psl pl.length pcap,fun v=>v=.int .i64 pl.length,fun v=>v=.int .i64 0])
  (fun vs1 W=>match vs1 with
  | []=>Turns F0 ((r,Is (aJ (0,0)))::(ay ab d A++R0)) w W
  | _=>False)
  (fun W=>Turns F0 ((r,Is (aJ (0,0)))::(ay ab d A++R0)) w W) [] ?hC (by kernel_rfl) (by kernel_rfl) (by decide) (by decide) ?h0 ?hs ?he
 case hA=>intro x;simp only[aw,Act.put,List.setIfInBounds_toArray,List.set_cons_zero,List.set_cons_succ,Nat.reduceAdd];rfl
 case hs =>
  refine⟨ac rfl rfl (fun x wq hd hC K hK hKw=>?_),ac rfl rfl (fun x wq hd hC K hK hKw=>?_),ac rfl rfl (fun x wq hd hC K hK hKw=>?_),ac rfl rfl (fun x wq hd hC K hK hKw=>?_),ac rfl rfl (fun x wq hd hC K hK hKw=>?_),ac rfl rfl (fun x wq hd hC K hK hKw=>?_),ac rfl rfl (fun x wq hd hC K hK hKw=>?_),ac rfl rfl (fun x wq hd hC K hK hKw=>?_),ac rfl rfl (fun x wq hd hC K hK hKw=>?_),ac rfl rfl (fun x wq hd hC K hK hKw=>?_),trivial⟩
  ·exact am (by kernel_rfl) (hK _ rfl)
  ·have h0:x 0=.pointer (some ⟨a,0,none⟩):=ae hd 0 (by kernel_rfl);exact am (by rw[h0];kernel_rfl) (hK _ rfl)
  ·have h1:x 1=.pointer (some ⟨a,0,none⟩):=ae hd 1 (by kernel_rfl);exact am (by rw[h1];kernel_rfl) (hK _ rfl)
  ·have h2:x 2=.pointer (some ⟨a,0,none⟩):=ae hd 2 (by kernel_rfl);exact am (by rw[h2];kernel_rfl) (hK _ rfl)
  ·have h3:x 3=.pointer (some ⟨a,2,none⟩):=ae hd 3 (by kernel_rfl);exact bD Tryz.underlying121 rfl rfl (by rw[h3];rfl) (aa (HS.z (F:=(r,Is (aJ (0,0)))::ay ab d A) hC.sat).1 2 rfl) (hK _ rfl)
  ·exact am (by kernel_rfl) (hK _ rfl)
  ·have h5:x 5=.slice sl b.length cap:=ae hd 5 (by kernel_rfl);refine bd (by rw[h5];kernel_rfl) (HK.out wq (HH.h.Qc hC (HH.out.2.2.2.2.2.2.2.2.2.2.2.2.2.2.symm ▸ HH.out.2.2.2.2.2.2.2.2.1))) ?_;rintro e w3 ⟨rfl,hs3⟩;refine⟨_,rfl,hKw _ _ (by rw[<- HH.out.2.2.2.2.2.2.2.2.2.2.2.1];rfl) ?_⟩;intro vs hvs;match vs,hvs with
   | [],hT=>exact hT.Q9 hs3
  ·have h4:x 4=.map (some X.cm):=ae hd 4 (by kernel_rfl);have h6:x 6=nF k:=ae hd 6 (by kernel_rfl);have hcm:=(HS.z (F:=(r,Is (aJ (0,0)))::ay ab d A) hC.sat).2.2.Q5;refine Hm BU (.tmp 15) (.tmp 17) rfl Tryz.underlying121 hcm HH.g.map (oX _) k (by rw[h4];rfl) (by rw[h6];rfl) HH.out.2.2.2.2.2.2.2.2.2.2.1 ?_;rw[de,HH.out.2.2.2.2.2.2.2.2.2.2.2.2.2.1];exact hK _ rfl
  ·have h7:x 7=.slice psl pl.length pcap:=ae hd 7 (by kernel_rfl);exact am (by rw[h7];kernel_rfl) (hK _ rfl)
  ·exact am (by kernel_rfl) (hK _ rfl)
 case hC =>
  intro vs1 W hS;match vs1,hS with
  | [],hT=>exact hT
 case h0=>exact HH.a.drew
 case he =>
  intro x w3 hφ hT3;have e7:x 7=.slice psl pl.length pcap:=fG hφ 7 (by decide) (by decide);have e8:x 8=.int .i64 pl.length:=fG hφ 8 (by decide) (by decide);have e9:x 9=.int .i64 0:=fG hφ 9 (by decide) (by decide);simp only[e7,e8,e9];have hT3':Turns F0 ((r,Is (aJ (0,0)))::(ay ab d A++R0)) w w3:=hT3;have HT3:=qqH hT3';clear hφ hT3 hT3' e7 e8 e9;go_wp2_with fail;rw[HH.out.2.2.2.2.2.2.2.2.2.2.2.2.2.2]at HT3;go_loopw [20] (fun i wr=>FE ab d r A L R0 pl b w i wr) (fun i _=>pl.length-(intOf i).toNat)
  case atStart=>exact⟨0,A.spare,Nat.zero_le _,rfl,HH.d,HT3.out,fun t h h0=>by omega⟩
  case round =>
   obtain⟨j,sp,hj,rfl,hAo,hT,hno⟩:=hrel;have HR:=Hq3 hAo hT hno;clear hAo hT hno;by_cases hlt:j<pl.length
   ·obtain⟨psl2,pcap2,f1,f2,f3,f4⟩:=yO (HS.z (F:=(r,Is (aJ (0,0)))::ay ab d { A with spare:=sp }) HR.b.sat).2.2 HH.g k;rw[HH.out.2.2.2.2.2.2.2.2.2.2.2.2.2.1,<- HH.out.2.2.2.2.2.2.2.2.2.2.2.2.1]at f1;simp only[Value.slice.injEq,true_and]at f1;obtain⟨rfl,rfl⟩:=f1;rw[<- HH.out.2.2.2.2.2.2.2.2.2.2.2.2.1]at f4;obtain⟨g,off,hg,hcell⟩:=f4 (by rw[fO];omega);subst hg;obtain⟨hc1,hc2⟩:=pJ hcell hlt;obtain⟨q,hq⟩:∃q,q=pl[j]:=⟨_,rfl⟩;rw[<- hq]at hc1 hc2;obtain⟨body,hq2,hbody⟩:=HH.out.2.2.2.2.2.2.2.2.2.1 q (hq ▸ List.getElem_mem hlt);obtain⟨B8,hB8⟩:∃B8,B8=wr.heap.size:=⟨_,rfl⟩
    have hT8:Turns (ay ab d A++R0) (ay ab d { A with spare:=sp }++((B8,Is (aJ q))::(r,Is (aJ (0,0)))::R0)) w (wr.alloc (aJ q)):=by
     rw[hB8];exact(HR.b.Q8 (aJ q)).to af
    have HLd:=qqH (oJ a X ab d HH.b { A with spare:=sp } L q.1 body ((B8,Is (aJ q))::(r,Is (aJ (0,0)))::R0) (wr.alloc (aJ q)) hT8.sat (fun x=>by have:=HS.a x;simp only[aB,an]at this ⊢;omega) HH.c HR.a HH.e HH.f hbody);rw[<- hq2]at HLd;have HQ:=Hq5 hq hq2 hbody hT8 hB8;clear hcell hq hq2 hbody hT8 hB8 f2 f3;go_wp2_with fail;refine HLd.out.mono ?_;rintro e w4 ⟨av,cv,sp2,rfl,hok4,hAo4,hT4⟩;have hT5:=HQ.d.trans hT4;obtain⟨av',cv',hev,-,-,hav,-⟩:=aV (dX hT4.sat.left hok4);simp only[Value.slice.injEq,true_and]at hev;obtain⟨rfl,rfl⟩:=hev;rw[<- HQ.w];have h8:w4.heap[B8]?=some (aJ q):=hT4.sat.Q7 (by simp);have hrr:w4.heap[r]?=some (aJ (0,0)):=hT4.sat.Q7 (by simp);have c80:w4.cell? ⟨B8,0,none⟩=some (.int .i64 q.1):=aa h8 0 rfl;have c81:w4.cell? ⟨B8,1,none⟩=some (.int .i64 q.2):=aa h8 1 rfl;have hcv1:=jE cv hav;have hbw4:ak w4 sl (b.map ao):=HH.h.Qc hT5 HH.out.2.2.2.2.2.2.2.2.1;have hcv2:=jE cap hbw4;have hth:=dL (C:=#[.int .i64 0,.int .i64 0]) hrr 0 2 (by simp);obtain⟨q1,q2⟩:=du hrr [.int .i64 q.1,.int .i64 q.2] (by simp);have H4:=Hq6 hok4 hAo4 hT5 hth q1 q2;have hbl4:=ah h8;clear hok4 hAo4 hT4 hT5 hav h8 hrr hbw4 hth q1 q2 hc1 hc2;by_cases hbb:body=b
    ·subst hbb;go_wp2_with ((refine wpList_store_mid rfl 161 (.tmp 4) (.tmp 39) rfl r 0 #[.int .i64 q.1,.int .i64 q.2] rfl rfl H4.d (by kernel_rfl) (by simp[Value.oneCell']) ?_;simp only[Act.put]));refine bodyPost_ret (lh rfl _ _ r 161 _ (0,0) _ rfl H4.e Tryz.underlying161 rfl (by kernel_rfl)) rfl ?_;refine⟨⟨sp2,H4.b,?_⟩,.inl ⟨q,HQ.a ▸ List.getElem_mem hlt,⟨HQ.b,HQ.c⟩,rfl⟩⟩;have hq5:=(H4.c.to (H:=(r,Is (aJ (0,0)))::(aK (.slice av body.length cv) body++(ay ab d { A with spare:=sp2 }++((B8,Is (aJ q))::R0)))) af).Qa (o:=aJ q) H4.v H4.e;exact hq5.drop bw
    ·have HNB:=qqH hbb;have hsn:(body==b)=false:=by simpa using hbb
     clear hbb;go_wp2_with fail;go_roundw
     case rel =>
      refine⟨j+1,sp2,by omega,by go_num,H4.b,H4.c.drop bw,fun t ht htj=>?_⟩;rcases Nat.lt_or_ge t j with h'|h'
      ·exact HR.y t ht h'
      ·obtain rfl:t=j:=by omega
       intro hc;rw[<- HQ.a]at hc;exact HNB.out (mp HQ.c hc.2 (HQ.b.symm.trans hc.1))
     case measure=>simp[intOf];omega
   ·obtain rfl:j=pl.length:=by omega
    have hrr:=HR.b.sat.Q5;have hth:=dL (C:=#[.int .i64 0,.int .i64 0]) hrr 0 2 (by simp);obtain⟨q1,q2⟩:=du hrr [.int .i64 0,.int .i64 0] (by simp);have hTe:=HR.b.Qa (o:=aJ (0,0)) q2 q1;have HE:=Hq3 q1 hTe hth;clear hrr hth q1 q2 hTe;go_wp2_with ((refine wpList_store_mid rfl 161 (.tmp 4) (.tmp 41) rfl r 0 #[.int .i64 0,.int .i64 0] rfl rfl HE.y (by kernel_rfl) (by simp[Value.oneCell']) ?_;simp only[Act.put]));refine bodyPost_ret (lh rfl _ _ r 161 _ (0,0) _ rfl HE.a Tryz.underlying161 rfl (by kernel_rfl)) rfl ?_;refine⟨⟨sp,HR.a,HE.b.drop bw⟩,.inr ⟨fun p hp=>?_,rfl⟩⟩;obtain⟨t,ht,rfl⟩:=List.mem_iff_getElem.1 hp;exact HR.y t ht ht
abbrev ib:=GE (Bs×Int)
def qI(n:Bs)(g:Bs×Int):Value:=.agg #[str n,str g.1,.int .i64 g.2]
def dm(tm:Nat)(ts:List ib)(tc:Nat):HF:=[(tm,Is (aR str (ts.map aN) tc))]
structure TagsOk (ts:List ib) (tc:Nat):Prop where
 map:MapOk OkS (ts.map aN) tc
 val:∀p∈ts,p.val=qI p.key p.g
def ff(body:Bs):Bs:=be (cJ 1 body) 4
structure AS where
 a:Nat
 X:ArchL
 A:AreaL
 L:DevL
 ps:List bl
 pc:Nat
 cs:List ll
 cc:Nat
 ts:List ib
 tc:Nat
 data:Bs
 K:List (Bs×Nat×Nat)
def arF(S:AS):HF:=(S.a,Is (aO S.X))::(ay S.X.ab S.X.d S.A++(aE S.X.d S.L++(aU S.X.pm S.ps S.pc++(dm S.X.tm S.ts S.tc++bm S.X.cm S.cs S.cc))))
def ex(data:Bs)(at_:Nat)(body:Bs):Prop:=at_+(body.length+9)<=data.length/\cG ((data.drop at_).take (body.length+9))=some (1,body,body.length+9)
theorem ex.more{data more body:Bs}{at_:Nat}(h:ex data at_ body):ex (data++more) at_ body:=by
 refine⟨by have:=h.1;simp;omega,?_⟩;rw[List.drop_append_of_le_length (by have:=h.1;omega),List.take_append_of_le_length (by rw[List.length_drop];have:=h.1;omega)];exact h.2
theorem ex.frame{data body rest:Bs}(hl:body.length<65536):ex (data++frame 1 body++rest) data.length body:=by
 refine⟨by simp[bL],?_⟩;rw[List.append_assoc,List.drop_left,List.take_append_of_le_length (by rw[bL];omega),List.take_of_length_le (by rw[bL];omega)];have:=ku 1 body [] (by decide) hl;rwa [List.append_nil]at this
theorem ex.Qe{l data body:Bs}{first count at_:Nat}(h:ex data at_ body)(hd:gf l first count data):lm (aP l first count) at_ body:=by
 rw[hd.1];refine⟨by have:=h.1;simp;omega,?_⟩;rw[List.drop_append_of_le_length (by have:=h.1;omega),List.take_append_of_le_length (by rw[List.length_drop];have:=h.1;omega)];exact h.2
structure ArOk (S:AS):Prop where
 dev:DevOk S.L
 n16:16<=S.L.n
 nmax:S.L.n<=1073741824
 area:AreaOk S.A
 first:S.A.first=2+S.X.ep%2*aD S.L.n
 count:S.A.count=aD S.L.n
 end_:S.A.end_=S.data.length
 tail:S.A.tail=cE S.data
 dat:gf S.L.now S.A.first S.A.count S.data
 paths:PathsOk S.ps S.pc
 tags:TagsOk S.ts S.tc
 chunks:ChunksOk S.cs S.cc
 kin:∀k,(aY S.cs k).Perm ((S.K.filter (fun e=>decide (ff e.1=k))).map (·.2))
 kat:∀e∈S.K,e.2.2=e.1.length/\ex S.data e.2.1 e.1
 vers:∀p∈S.ps,∀V∈p.g,(∀q∈V.chs,∃e∈S.K,e.2=q)/\V.size=(V.chs.map (·.2)).sum
 some:∀p∈S.ps,p.g≠[]
 sound:S.X.broken=.nilIface
 ep:S.X.ep<4294967296
structure ArB (S:AS) (b:Nat):Prop where
 K:S.K.length<=b
 np:S.ps.length<=b
 nt:S.ts.length<=b
 vers:∀p∈S.ps,p.key.length<=255/\p.g.length<=b/\∀V∈p.g,V.num<=4294967296+b/\V.chs.length<=b/\V.size<=65536*b/\V.held.natAbs<=b
 tags:∀p∈S.ts,p.key.length<=255/\p.g.1.length<=255/\p.g.2.natAbs<=4294967296+b
 used:S.X.used.natAbs<=65536*b
 sc:S.X.sc.natAbs<=b
 sb:S.X.sb.natAbs<=65536*b
 quota:S.X.quota.natAbs<=9223372036854775807
 chs:S.L.chs.length<=262144*b
theorem ArOk.fits{S:AS}(h:ArOk S):S.A.first+S.A.count<=S.L.n:=by
 rw[h.first,h.count];have:=h.n16;unfold aD;rcases Nat.mod_two_eq_zero_or_one S.X.ep with e|e<;>rw[e]<;>omega
theorem Ch{S:AS}(h:ArOk S)(k:Bs):(aY S.cs k).length<=S.K.length:=by
 rw[(h.kin k).length_eq,List.length_map];exact List.length_filter_le _ _
theorem oL{S:AS}(h:ArOk S){k:Bs}{q:Nat×Nat}:q∈aY S.cs k↔∃e∈S.K,ff e.1=k/\e.2=q:=by
 rw[(h.kin k).mem_iff];simp only[List.mem_map,List.mem_filter,decide_eq_true_eq];exact⟨fun⟨e,⟨h1,h2⟩,h3⟩=>⟨e,h1,h2,h3⟩,fun⟨e,h1,h2,h3⟩=>⟨e,⟨h1,h2⟩,h3⟩⟩
theorem zJ{S:AS}(h:ArOk S){k:Bs}:∀q∈aY S.cs k,∃body,q.2=body.length/\lm (aP S.L.now S.A.first S.A.count) q.1 body:=fun q hq=>by
 obtain⟨e,he,_,rfl⟩:=(oL h).1 hq
 exact⟨e.1,(h.kat e he).1,(h.kat e he).2.Qe h.dat⟩
theorem JW{S:AS}(h:ArOk S){b:Bs}{q:Nat×Nat}(hq:q∈aY S.cs (ff b))(hc:mh (aP S.L.now S.A.first S.A.count) q b):(b,q)∈S.K:=by
 obtain⟨e,he,_,rfl⟩:=(oL h).1 hq;have:=mp ((h.kat e he).2.Qe h.dat) hc.2 ((h.kat e he).1.symm.trans hc.1);rw[<- this];exact he
theorem JX{S:AS}(h:ArOk S){b:Bs}{q:Nat×Nat}(he:(b,q)∈S.K):q∈aY S.cs (ff b)/\mh (aP S.L.now S.A.first S.A.count) q b :=
 ⟨(oL h).2 ⟨_,he,rfl,rfl⟩,(h.kat _ he).1,(h.kat _ he).2.Qe h.dat⟩
def dc:List Nat->Bs->List Bs
 | [],_=>[]
 | n::r,d=>d.take n::dc r (d.drop n)
def co(has:List Bs):List Bs->List Bs->List Bs
 | acc,[]=>acc
 | acc,c::r=>if c∈has\/c∈acc then co has acc r else co has (acc++[c]) r
def cz:Nat->List Bs->List (Bs×Nat×Nat)
 | _,[]=>[]
 | at_,c::r=>(c,at_,c.length)::cz (at_+c.length+9) r
def bh(l:List Bs):Nat:=(l.map fun c=>c.length+9).sum
theorem ux(l m:List Bs):∀at_,cz at_ (l++m)=cz at_ l++cz (at_+bh l) m:=by
 induction l with
 | nil=>intro a;simp[cz,bh]
 | cons c r ih =>
  intro a;simp only[List.cons_append,cz,ih,bh,List.map_cons,List.sum_cons];rw[show a+c.length+9+(r.map fun c=>c.length+9).sum=a+(c.length+9+(r.map fun c=>c.length+9).sum) by omega]
theorem cF:∀(l:List Nat) (d:Bs),(dc l d).length=l.length
 | [],_=>rfl
 | _::r,d=>by simp[dc,cF r]
theorem i6:∀(l:List Nat) (d:Bs) (i:Nat) (h:i<l.length),(dc l d)[i]'(by rw[cF];exact h)=(d.drop (l.take i).sum).take l[i]
 | n::r,d,0,_=>by simp[dc]
 | n::r,d,i+1,h=>by
  simp only[dc,List.getElem_cons_succ]
  rw[i6 r _ i (by simpa using h),List.drop_drop]
  simp
end
section
open Go.RowKit Go.Maps
open Go.ChangeMaps (setBlock)
section
variable {κ : Type}
def dR(b c:Nat)(done:List (Ent κ)):Obj:=.mapIter (some b) c (done.map (·.born)).toArray c
theorem Jo{l done:List (Ent κ)}(enc:κ->Value)(_:Nat):(leftOf (l.map (dM enc)).toArray (done.map (·.born)).toArray).toList=(l.filter (fun e => !(done.map (·.born)).contains e.born)).map (dM enc):=by
 unfold leftOf;rw[Array.toList_filter,List.filter_map];congr 1;apply List.filter_congr;intro e _;simp[dM];exact decide_eq_decide.2 Iff.rfl
theorem EG{l done todo:List (Ent κ)}(hp:(done++todo).Perm l)(hn:(l.map (·.born)).Nodup):(l.filter (fun e => !(done.map (·.born)).contains e.born)).Perm todo:=by
 have hn2:((done++todo).map (·.born)).Nodup:=(hp.map _).nodup_iff.2 hn;refine(hp.symm.filter _).trans ?_;rw[List.filter_append]
 have h1:done.filter (fun e => !(done.map (·.born)).contains e.born)=[]:=by
  rw[List.filter_eq_nil_iff];intro e he;simp only[Bool.not_eq_true',Bool.not_eq_false,List.contains_iff_mem];simp;exact⟨e,he,rfl⟩
 have h2:todo.filter (fun e => !(done.map (·.born)).contains e.born)=todo:=by
  rw[List.filter_eq_self];intro e he;rw[List.map_append,List.nodup_append]at hn2;simp only[Bool.not_eq_true'];rw[<- Bool.not_eq_true,List.contains_iff_mem];intro hm;exact hn2.2.2 e.born hm e.born (List.mem_map.2 ⟨e,he,rfl⟩) rfl
 rw[h1,h2];exact List.Perm.refl _
theorem wi{P:Program}{enc:κ->Value}{Ok:κ->Prop}{w:World}{ty:TypeId}{r b c:Nat}{l done todo:List (Ent κ)}(hr:w.heap[r]?=some (dR b c done))(hb:w.heap[b]?=some (aR enc l c))(hm:MapOk Ok l c)(hp:(done++todo).Perm l):
  (todo=[]/\(Instr.next (.pointer (some ⟨r,0,none⟩)) false ty).run P w=.ok (.tuple #[.bool false]) w) \/
  ∃e rest w1,todo.Perm (e::rest)/\(w1=w\/w1=w.drew)/\(Instr.next (.pointer (some ⟨r,0,none⟩)) false ty).run P w=.ok (.tuple #[.bool true,enc e.key,e.val]) (setBlock w1 r (dR b c (done++[e]))):=by
 have hold:∀x∈(l.map (dM enc)).toArray.toList,x.born<c:=by
  intro x hx;obtain⟨e,he,rfl⟩:=List.mem_map.1 (by simpa using hx);exact hm.lt e he
 have ht:=EG hp hm.borns;rcases run_next_at w ty r b c c _ _ c hr hb hold (Nat.le_refl _)with⟨h0,h1⟩|⟨e,he,w1,h2,h3⟩
 ·refine .inl ⟨?_,h1⟩;have:(leftOf (l.map (dM enc)).toArray (done.map (·.born)).toArray).toList.length=0:=by simpa using h0
  rw[Jo enc c,List.length_map]at this;exact List.length_eq_zero_iff.1 (ht.length_eq ▸ this)
 ·rw[Jo enc c]at he;obtain⟨e',he',rfl⟩:=List.mem_map.1 he;obtain⟨s,t,rfl⟩:=List.append_of_mem (ht.mem_iff.1 he');refine .inr ⟨e',s++t,w1,List.perm_middle,h2,?_⟩;rw[h3];simp[dR,dM]
theorem EB{l done todo:List (Ent κ)}{e:Ent κ}{rest:List (Ent κ)}(hp:(done++todo).Perm l)(ht:todo.Perm (e::rest)):((done++[e])++rest).Perm l:=by
 rw[List.append_assoc];exact((ht.symm.append_left done).trans hp)
theorem tL{P:Program}{enc:κ->Value}{Ok:κ->Prop}{w:World}{r b c:Nat}{l done:List (Ent κ)}{e:Ent κ}(hr:w.heap[r]?=some (dR b c (done++[e])))(hb:w.heap[b]?=some (aR enc l c))(hm:MapOk Ok l c)(he:e∈l):
  (Instr.entry (.pointer (some ⟨r,0,none⟩))).run P w=.ok (.tuple #[enc e.key,e.val]) w:=by
 have hr':w.heap[r]?=some (.mapIter (some b) c ((done.map (·.born)).toArray.push (dM enc e).born) c):=by rw[hr];simp[dR,dM]
 exact run_entry_at w r b c _ _ c (dM enc e) hr' hb (by simp;exact⟨e,he,rfl⟩) (by simpa[List.map_map,Function.comp_def,dM]using hm.borns)
theorem DE{P:Program}{enc:κ->Value}{w:World}{o:Oper}{a:Act}{K:Act->World->Prop}{Q:Exit->Act->World->Prop}(m:Operand){t k ev:TypeId}(hop:o.op=.range t m)(ht:P.underlying t=some (.map k ev)){b:Nat}{l:List (Ent κ)}{c:Nat}(hb:w.heap[b]?=some (aR enc l c))(hmv:a.eval m=.map (some b))(hK:K (a.put o.dst (.pointer (some ⟨w.heap.size,0,none⟩))) (w.alloc (dR b c ([]:List (Ent κ))))):o.wp P a w K Q:=by
 refine am (v:=.pointer (some ⟨w.heap.size,0,none⟩)) (w':=w.alloc (dR b c ([]:List (Ent κ)))) ?_ hK;have:=run_range_map (P:=P) w t k ev b _ c ht hb;simp[execOp,hop,hmv,this,Result.andThen,dR]
end
end
section
open Go.RowKit Go.Maps
open Go.ChangeMaps (setBlock)
section
variable {P : Program} {o : Oper} {a : Act} {w : World} {K : Act -> World -> Prop} {Q : Exit -> Act -> World -> Prop} {F G : HF} {a0 : World}
theorem Hn(ty:TypeId)(x y:Operand)(ho:o.op=.store ty x y)(b:Nat)(old cells:Array Value)(t:TypeId)(hT:Turns F ((b,Is (.cells old t (0,0)))::G) a0 w)(hx:a.eval x=.pointer (some ⟨b,0,none⟩))(hy:a.eval y=.agg cells)(hsz:cells.size=old.size)(hi:(P.info? ty).map (·.size)=some cells.size)(h1:cells.all (·.oneCell')=true)(hk:∀w',Turns F ((b,Is (.cells cells t (0,0)))::G) a0 w'->K (a.put o.dst undef) w'):o.wp P a w K Q:=by
 have hb:=hT.sat.Q5;obtain⟨q1,q2⟩:=du hb cells.toList (by simpa using hsz);refine wp_store_mid ty x y ho b 0 cells hx hy (dL hb 0 _ (by omega)) hi h1 (hk _ (hT.Qa q2 (by simpa using q1)))
theorem bi(ty:TypeId)(x y:Operand)(ho:o.op=.store ty x y)(b i:Nat)(C:Array Value)(t:TypeId)(v:Value)(hT:Turns F ((b,Is (.cells C t (0,0)))::G) a0 w)(hx:a.eval x=.pointer (some ⟨b,i,none⟩))(hy:a.eval y=v)(hiC:i<C.size)(hi:(P.info? ty).map (·.size)=some 1)(h1:v.oneCell'=true)(hvc:v.cells=#[v])(hk:∀w',Turns F ((b,Is (.cells (C.setIfInBounds i v) t (0,0)))::G) a0 w'->K (a.put o.dst undef) w'):o.wp P a w K Q:=by
 have hb:=hT.sat.Q5;exact AA x y hi ho hb (Array.getElem?_eq_getElem hiC) hx hy h1 hvc (hk _ (hT.Qa ((Mods.refl (fun k=>k=b) w).set1 v) (bt hb i v)))
theorem pY{κ:Type}[DecidableEq κ]{k t ev:TypeId}{enc:κ->Value}{Ok:κ->Prop}(E:EncOk P k enc Ok)(m x y:Operand)(ho:o.op=.mapUpdate t m x y)(ht:P.underlying t=some (.map k ev))(b:Nat)(l:List (Ent κ))(c:Nat)(hT:Turns F ((b,Is (aR enc l c))::G) a0 w)(hm:MapOk Ok l c)(key:κ)(v:Value)(hmv:a.eval m=.map (some b))(hx:a.eval x=enc key)(hy:a.eval y=v)(hk:Ok key)(hK:∀w',Turns F ((b,Is (aR enc (gA l c key v) (cD l c key)))::G) a0 w'->K (a.put o.dst undef) w'):o.wp P a w K Q:=by
 have hb:=hT.sat.Q5;refine DD E m x y ho ht hb hm key v hmv hx hy hk ?_;exact hK _ (hT.Qa (cQ _ _ _) (dU hb))
theorem t7(t:TypeId)(ho:o.op=.makeMap t none)(hT:Turns F G a0 w)(hk:∀n w',Turns F ((n,Is (.map #[] 0))::G) a0 w'->K (a.put o.dst (.map (some n))) w'):o.wp P a w K Q:=by
 refine am (v:=.map (some w.heap.size)) (w':=w.alloc (.map #[] 0)) ?_ (hk _ _ (hT.Q8 _));simp[execOp,ho,run_makeMap,Result.andThen]
theorem j9{κ:Type}[DecidableEq κ]{k t ev:TypeId}{enc:κ->Value}{Ok:κ->Prop}(E:EncOk P k enc Ok)(m x:Operand)(hop:o.op=.lookup t m x true)(ht:P.underlying t=some (.map k ev)){b:Nat}{l:List (Ent κ)}{c:Nat}(hb:w.heap[b]?=some (aR enc l c))(hm:MapOk Ok l c){z:Value}(hz:(zeroValue ev).run P w=.ok z w)(key:κ)(hmv:a.eval m=.map (some b))(hx:a.eval x=enc key)(hk:Ok key)(hK:K (a.put o.dst (.tuple #[(dW l key).getD z,.bool (jk l key)])) w):o.wp P a w K Q:=by
 refine am (v:=.tuple #[(dW l key).getD z,.bool (jk l key)]) (w':=w) ?_ hK;simp[execOp,hop,hmv,hx,tP E ht hb hm hz hk,Result.andThen]
end
def i7(id:Nat):Code->Option Code
 | .region i ops d=>if i=id then some (.region i ops d)else none
 | .seq a b=>match i7 id a with|some r=>some r|none=>i7 id b
 | .cond _ a b=>match i7 id a with|some r=>some r|none=>i7 id b
 | .block _ c=>i7 id c
 | .scope c=>i7 id c
 | .loop c=>i7 id c
 | .rangeFunc _ _ a b=>match i7 id a with|some r=>some r|none=>i7 id b
 | _=>none
noncomputable def iq(id:Nat)(f:Func):Code:=(f.body.bind (i7 id)).getD .skip
theorem IM:(Tryz.prog.info? 38).map (fun i=>(i.zero,i.size,i.bytes))=some (some (.slice none 0 0),1,24):=by kernel_rfl
theorem lV{o:Oper}{a:Act}{w a0:World}{K:Act->World->Prop}{Q:Exit->Act->World->Prop}{F G:HF}(s x:Operand)(hop:o.op=.call { callee:=.builtin .append,args:=#[s,x],argTypes:=#[61,61] })(v:Value)(l:List Value)(hs:a.eval s=v)(hT:Turns F (bN 38 1 v l.length l++G) a0 w)(hok:dj 1 v l.length l)(n:Nat)(u:Value)(hx:a.eval x=.slice (some ⟨n,0,none⟩) 1 1)(hu:u.oneCell'=true)(hc:w.cell? ⟨n,0,none⟩=some u)(hb:l.length<=1000000)(hk:∀v' w',dj 1 v' (l++[u]).length (l++[u])->Turns F (bN 38 1 v' (l++[u]).length (l++[u])++G) a0 w'->K (a.put o.dst v') w'):o.wp Tryz.prog a w K Q:=by
 obtain⟨i0,hi0,hz1,hz2,hz3⟩:=info_parts IM;refine cY s x 61 38 i0 (.slice none 0 0) 1 24 hop Tryz.underlying61 hi0 hz1 hz2 hz3 rfl (by decide) v l.length l hs hT hok (some ⟨n,0,none⟩) 1 1 hx [u] rfl (fun _=>⟨_,rfl,fun j y hj=>?_⟩) (fun y hy=>by simp at hy;subst hy;exact hu) (by unfold maxLen;omega) (by omega) (fun v' w' h1 h2 _=>?_)
 ·cases j with
  | zero=>simp only[List.getElem?_cons_zero,Option.some.injEq]at hj;subst hj;rw[Addr.add_lit,Nat.zero_add];exact hc
  | succ j=>simp at hj
 ·exact hk v' w' (by rw[List.length_append];exact h1) (by rw[List.length_append];exact h2)
end
end Go.Proofs.YtdhobpbngkainaaGreatDoor
