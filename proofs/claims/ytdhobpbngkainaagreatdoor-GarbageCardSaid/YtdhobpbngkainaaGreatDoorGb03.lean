/- Ours. A part of the proof, made small by a program. -/
import Derived.Test.YtdhobpbngkainaaGreatDoorGb02
set_option maxRecDepth 100000
set_option maxHeartbeats 16000000
namespace Go.Proofs.YtdhobpbngkainaaGreatDoor
open List Go.Proofs.Tryz
section
open Go.RowKit Go.Maps
structure Oe where
 blk:Nat
 num:Nat
 size:Nat
 cv:Value
 N8:List (Nat×Nat)
 held:Int
def fA(V:Oe):Array Value:=#[.int .i64 V.num,.int .i64 V.size,V.cv,.int .i64 V.held]
def dB(V:Oe):Obj:=.cells (fA V) 152 (0,0)
def rz(p:Nat×Nat):List Value:=[.int .i64 p.1,.int .i64 p.2]
def cZ(l:List (Nat×Nat)):List Value:=l.flatMap rz
def aZ(v:Value)(l:List (Nat×Nat)):HF:=bH 161 2 v l.length (cZ l)
def bQ(v:Value)(l:List (Nat×Nat)):Prop:=ei 2 v l.length (cZ l)
def bN(V:Oe):HF:=(V.blk,Is (dB V))::aZ V.cv V.N8
def dN(V:Oe):Value:=.pointer (some ⟨V.blk,0,none⟩)
abbrev bf:=GE (List Oe)
def er(v:Value)(l:List Oe):HF:=bH 149 1 v l.length (l.map dN)
def eP(v:Value)(l:List Oe):Prop:=ei 1 v l.length (l.map dN)
def ee(v:Value)(g:List Oe):HF:=er v g++g.flatMap bN
def Mi(p:bf):Prop:=eP p.val p.g/\∀V∈p.g,bQ V.cv V.N8
def aG(pm:Nat)(ps:List bf)(c:Nat):HF:=(pm,Is (aU str (ps.map aR) c))::gl ee ps
def Py(l:Bs):Prop:=l.length<=1000000
structure OL (ps:List bf) (c:Nat):Prop where
 map:OO Py (ps.map aR) c
 rows:∀p∈ps,Mi p
theorem E7:∀a b:Bs,str a=str b->a=b:=fun a b h=>by
 simp only[str,Value.string.injEq,ByteArray.mk.injEq]at h
 simpa using congrArg Array.toList h
theorem dR:Pz prog 9 str Py where
 keyed:=string_keyed underlying9
 inj:=E7
 key:=fun a h=>⟨_,Go.WideMaps.keyOf_string_mk underlying9 (by
  simp only[ByteArray.size]
  unfold Py at h
  unfold maxLen
  simp
  omega)⟩
def ah(ps:List bf)(l:Bs):List Oe:=Qr [] ps l
theorem Sat.flat{α:Type}{w:World}{f:α->HF}:∀{l:List α},Sat w (l.flatMap f)->∀{x:α},x∈l->Sat w (f x)
 | [],_,_,hx=>by simp at hx
 | a::r,h,x,hx=>by
  rw[flatMap_cons]at h
  rcases mem_cons.1 hx with rfl|hx
  ·exact h.left
  ·exact Sat.flat h.right hx
theorem fk{w:World}{pm c:Nat}{ps:List bf}(h:Sat w (aG pm ps c))(hok:OL ps c)(l:Bs):
  ∃sl cap,eI (.slice none 0 0) ps l=.slice sl (ah ps l).length cap/\(ah ps l).length<=cap/\cap<=9223372036854775807/\ak w sl ((ah ps l).map dN)/\(∀V∈ah ps l,w.heap[V.blk]?=some (dB V))/\(dom ((ah ps l).flatMap bN)).Nodup:=by
 unfold ah eI Qr
 cases hf:ps.find? (fun p=>decide (p.key=l))with
 | none=>exact⟨none,0,rfl,Nat.le_refl _,Nb,fun h=>by simp at h,fun V hV=>by simp at hV,nodup_nil⟩
 | some p =>
  have hm:=mem_of_find?_eq_some hf;have hp:Sat w (ee p.val p.g):=Sat.flat (f:=fun p:bf=>ee p.val p.g) h.tail hm;have hok2:=hok.rows p hm;obtain⟨sl,cap,e1,e2,e3,e5,e4,_⟩:=pw (aW hp.left hok2.1);refine⟨sl,cap,by simpa using e1,e3,e5,e4,fun V hV=>?_,?_⟩
  ·have:Sat w (bN V):=Sat.flat hp.right hV;exact this.Q5
  ·exact hp.right.nodup
def iW:List Oe->Int->Option Oe
 | [],_=>none
 | v::r,n=>if(v.num:Int)=n\/(n=0/\r=[])then some v else iW r n
def zx(X:Om)(ps:List bf)(l:Bs)(n:Int)(w:World)(e:Ending)(w':World):Prop :=
 e=.returned (if X.closed then .tuple #[.pointer none,cr 9]else if az l then(match iW (ah ps l) n with|some V=>.tuple #[dN V,.nilIface]|none=>.tuple #[.pointer none,cr 3])else .tuple #[.pointer none,cr 1])/\aV w w'
theorem Kq:∀{vs:List Oe},(dom (vs.flatMap bN)).Nodup->∀{i j:Nat} (hi:i<vs.length) (hj:j<vs.length),vs[i].blk=vs[j].blk↔i=j:=by
 have key:∀{vs:List Oe},(dom (vs.flatMap bN)).Nodup->∀{i j:Nat} (hj:j<vs.length) (hij:i<j),vs[i].blk≠vs[j].blk:=by
  intro vs;induction vs with
  | nil=>intro _ i j hj;simp at hj
  | cons v r ih =>
   intro h i j hj hij e;rw[flatMap_cons,cM,nodup_append]at h
   cases j with
   | zero=>omega
   | succ j =>
    cases i with
    | zero =>
     simp only[getElem_cons_zero,getElem_cons_succ]at e;have h1:v.blk∈dom (bN v):=by simp[bN]
     have hjr:j<r.length:=by simpa using hj
     have h2:v.blk∈dom (r.flatMap bN):=by
      rw[e];refine mem_map.2 ⟨(r[j].blk,Is (dB r[j])),mem_flatMap.2 ⟨r[j],getElem_mem hjr,by simp[bN]⟩,rfl⟩
     exact h.2.2 _ h1 _ h2 rfl
    | succ i =>
     simp only[getElem_cons_succ]at e;exact ih h.2.1 (by simpa using hj) Nb e
 intro vs h i j hi hj;refine⟨fun e=>?_,fun e=>by subst e;rfl⟩;rcases Nat.lt_trichotomy i j with hl|hl|hl
 ·exact absurd e (key h hj hl)
 ·exact hl
 ·exact absurd e.symm (key h hi hl)
theorem KC{w:World}{U V:Oe}(hu:w.heap[U.blk]?=some (dB U))(hv:w.heap[V.blk]?=some (dB V)):
  (binOp .eql 149 (.pointer (some ⟨U.blk,0,none⟩)) (.pointer (some ⟨V.blk,0,none⟩))).run prog w=.ok (.bool (decide (U.blk=V.blk))) w:=by
 have hs:(prog.info? 152).map (·.size)=some 4:=Nc
 obtain⟨j,hj,hsz⟩:=Option.map_eq_some_iff.1 hs;by_cases h:U.blk=V.blk
 ·rw[<- h,decide_eq_true rfl];exact run_eql_ptr_same w _ underlying149 hj
 ·rw[decide_eq_false h];exact run_eql_ptr_other w underlying149 hj (by rw[hsz];decide) (fun e=>h (congrArg Addr.block e)) hu hv
theorem dY{κ:Type}[DecidableEq κ]{P:Program}{k t ev:TypeId}{enc:κ->Value}{Ok:κ->Prop}(E:Pz P k enc Ok){w:World}{ops:Array Oper}{rest:List Oper}{o:Oper}{a:Act}{Q:Exit->Act->World->Prop}(hg:o.guard=none)(m x:Operand)(hop:o.op=.lookup t m x false)(ht:P.underlying t=some (.map k ev)){b:Nat}{l:List (OT κ)}{c:Nat}(hb:w.heap[b]?=some (aU enc l c))(hm:OO Ok l c){z:Value}(hz:(zeroValue ev).run P w=.ok z w)(key:κ)(hmv:a.eval m=.map (some b))(hx:a.eval x=enc key)(hk:Ok key)(hK:wpList P ops Q rest (a.put o.dst ((dH l key).getD z)) w):wpList P ops Q (o::rest) a w:=by
 refine ai hg (nu (v:=(dH l key).getD z) (w':=w) ?_ hK);simp[execOp,hop,hmv,hx,vd E ht hb hm hz hk,Result.andThen]
theorem fI(w:World):(zeroValue 153).run prog w=.ok (.slice none 0 0) w:=Nc
def x5(vs:List Oe)(n:Int)(w:World)(i:Value)(wr:World):Prop:=∃k:Nat,k<=vs.length/\i=.int .i64 k/\aV w wr/\iW vs n=iW (vs.drop k) n
theorem i6(a:Nat)(X:Om)(ps:List bf)(c:Nat)(l:Bs)(n:Int)(w:World)(h:w.heap[a]?=some (aL X))(hp:Sat w (aG X.pm ps c))(hok:OL ps c):
  Calls prog 85 #[.pointer (some ⟨a,0,none⟩),str l,.int .i64 n] w (zx X ps l n w):=by
 have hal:=ae h
 have HB:=NZ (fun W (hW:aV w W) (hc:W.cell? ⟨w.heap.size,0,none⟩=some (str l))=>kD a X (some ⟨w.heap.size,0,none⟩) 1 [l] W (hW.at h id) (fun _=>⟨_,_,rfl,fun j hj=>by
  obtain rfl:j=0:=by simp at hj;omega
  exact hc⟩) Nh)
 have HC:=Oz h hp hok;clear h hp hok;go_enter func85,ntmps85;go_wp2_with fail;refine(HB.o _ ((N7.refl _ w).alloc _) (aa (aM w _) 0 rfl)).mono ?_;rintro e w1 ⟨rfl,hs1⟩;have hs2:aV w w1:=((N7.refl _ w).alloc _).trans hs1;obtain⟨cl,hcl⟩:=Na X.closed;obtain⟨pb,hpb⟩:=Na (az l);have e1:([l].all az)=pb:=by simp[hpb]
 rw[e1,<- hcl];have HD:=Oz hcl hpb hs2;clear hcl hpb hs2 hs1 e1
 cases cl with
 | true =>
  simp only[if_true];go_wp2_with fail;go_ret2;refine ⟨?_,HD.y⟩;rw[<- HD.a];rfl
 | false =>
  cases pb with
  | false =>
   simp only[Bool.false_eq_true,if_false];go_wp2_with fail;go_ret2;refine ⟨?_,HD.y⟩;rw[<- HD.a,<- HD.b];rfl
  | true =>
   obtain⟨sl,cap,hl1,hl2,hl6,hl3,hl4,hl5⟩:=fk (HC.b.same HD.y) HC.y l;have b0:w1.cell? ⟨a,0,none⟩=some (.map (some X.pm)):=aa (HD.y.at HC.a id) 0 rfl;have hal1:a<w1.heap.size:=Nat.lt_of_lt_of_le hal HD.y.size;obtain⟨vs,hvs⟩:=Na (ah ps l);rw[<- hvs]at hl1 hl2 hl3 hl4 hl5;have HG:=PD hl1 hl3 hl4 hl5 hvs;clear hl1 hl3 hl4 hl5 hvs;have hmo:=(HC.b.same HD.y).Q5;have HM:=NZ hmo;clear hmo
   have hlen:Py l:=by
    have:=HD.b;unfold az at this;have h2:=this.symm;simp only[Bool.and_eq_true,decide_eq_true_eq]at h2;unfold Py;have:=h2.1.2;omega
   have HL:=NZ hlen;clear hlen;simp only[Bool.false_eq_true,if_false,if_true];go_wp2_with (at_lookup;refine dY dR rfl _ _ rfl underlying119 HM.o HC.y.map (fI _) l rfl rfl HL.o ?_;rw[cX,HG.a]);go_loopw [28] (fun v wr=>x5 vs n w1 v wr) (fun v _=>vs.length-(intOf v).toNat)
   case atStart=>exact⟨0,Nat.zero_le _,rfl,N7.refl _ _,rfl⟩
   case round =>
    obtain⟨k,hk,rfl,hs,hfi⟩:=hrel;have HR:=Ob hs hfi;clear hs hfi;by_cases hlt:k<vs.length
    ·obtain⟨g,off,hg,hcell⟩:=HG.b.keep HR.a (fun _ _ _=>id) (by simpa using(by omega:0<vs.length));subst hg;obtain⟨V,hV⟩:=Na (vs[k]);obtain⟨z,hz⟩:∃z,vs.length=z+1:=⟨vs.length-1,Nb⟩;obtain⟨Z,hZ⟩:=Na (vs[z]);have hw:wrap64 ((vs.length:Int)-1)=(z:Int):=by rw[IntWalk.wrap64_in _ Nb];omega
     have hzl:(z:Int)<(vs.length:Int):=Nb
     have hz1:z<vs.length:=Nb
     have hz2:¬vs.length<=z:=Nb
     have hck:wr.cell? ⟨g,off+k,none⟩=some (dN V):=by rw[hcell k (by simpa using hlt)];simp[hV]
     have hcz:wr.cell? ⟨g,off+(vs.length-1),none⟩=some (dN Z):=by rw[show vs.length-1=z by omega,hcell z Nj];simp[hZ]
     have Rt:=HR.a.at (HG.c V (hV ▸ getElem_mem hlt)) id;have v0:wr.cell? ⟨V.blk,0,none⟩=some (.int .i64 V.num):=aa Rt 0 rfl;have hdr:vs.drop k=V::vs.drop (k+1):=by rw[hV];exact drop_eq_getElem_cons hlt
     have hzk:V.blk=Z.blk↔k=z:=by
      rw[hV,hZ];exact Kq HG.d hlt hz1
     have hpe:=KC Rt (HR.a.at (HG.c Z (hZ ▸ getElem_mem hz1)) id);have HV:=Oz hdr hzk hz;clear hcell Rt hdr hzk hV hZ hz;unfold dN at hck hcz;by_cases c1:(V.num:Int)=n
     ·go_wp2_with fail;go_ret2;refine ⟨?_,HD.y.trans HR.a⟩;rw[<- HD.a,<- HD.b,<- HG.w,HR.z,HV.a];simp only[iW,c1,true_or,if_true];rfl
     ·by_cases c2:n=0
      ·subst c2;by_cases c3:V.blk=Z.blk
       ·rw[decide_eq_true c3]at hpe;have C3:=NZ c3;clear c3;go_wp2_with fail;go_ret2;refine ⟨?_,HD.y.trans HR.a⟩;have hlast:vs.drop (k+1)=[]:=drop_of_length_le (by have:=HV.b.1 C3.out;have:=HV.y;omega);rw[<- HD.a,<- HD.b,<- HG.w,HR.z,HV.a,hlast];simp only[iW,and_self,or_true,if_true];rfl
       ·rw[decide_eq_false c3]at hpe
        have hrel:x5 vs 0 w1 (.int .i64 ((k:Int)+1)) wr:=by
         refine⟨k+1,Nb,by go_num,HR.a,?_⟩;rw[HR.z,HV.a];have:¬vs.drop (k+1)=[]:=fun h=>c3 (HV.b.2 (by have:=congrArg length h;rw[NT]at this;have h3:=HV.y;simp only[length_nil]at this;omega))
         simp only[iW,c1,this,and_false,or_false,if_false]
        have SI:=NZ hrel;clear hrel;go_wp2_with fail;go_roundw
        case rel=>exact SI.o
        case measure=>simp[intOf];omega
      ·have hrel:x5 vs n w1 (.int .i64 ((k:Int)+1)) wr:=by
        refine⟨k+1,Nb,by go_num,HR.a,?_⟩;rw[HR.z,HV.a];simp[iW,c1,c2]
       have SI:=NZ hrel;clear hrel;go_wp2_with fail;go_roundw
       case rel=>exact SI.o
       case measure=>simp[intOf];omega
    ·obtain rfl:k=vs.length:=Nb
     go_wp2_with fail;go_ret2;refine ⟨?_,HD.y.trans HR.a⟩;rw[<- HD.a,<- HD.b,<- HG.w,HR.z];simp[iW]
end
section
open Go.RowKit
theorem BX(l:Bs):(⟨l.toArray⟩:ByteArray).size=l.length:=by simp[ByteArray.size]
theorem GS(l:Bs)(size:Nat):(Builtin.firstCells size l.length (str l))=pure (l.map am).toArray:=by
 simp only[Builtin.firstCells];congr 1
 have:(⟨l.toArray⟩:ByteArray).extract 0 l.length=⟨l.toArray⟩:=by
  apply ByteArray.ext;simp
 rw[this];simp[am]
section
variable {P:Program} (w:World)
theorem uX(t u ty e:TypeId)(i:TypeInfo)(z:Value)(bytes:Nat)(ht:P.underlying t=some (.slice e))(hu:P.underlying u=some .string)(hi:P.info? e=some i)(hz:i.zero=some z)(hsize:i.size=1)(hby:i.bytes=bytes)(hzs:z.cells.size=1)(v:Value)(n:Nat)(xs:List Value)(hown:w.ownsRow 0 e 1 v n xs)(r:Bs)(h63:n+r.length<=maxLen)(hbytes:(n+r.length)*bytes<=140737488355328):
  ∃v' w',(Builtin.append_ #[t,u] ty #[v,str r]).run P w=.ok v' w'/\w'.ownsRow 0 e 1 v' (n+r.length) (xs++r.map am)/\w.grownBy w' v.ownBlock/\(∀g,v'.ownBlock=some g->v.ownBlock=some g\/w.heap.size<=g)/\(v'=.slice none 0 0↔v=.slice none 0 0/\r.length=0):=by
 have hl:(r.map am).length=r.length*i.size:=by simp[hsize]
 subst hby
 have hsmall:n+r.length<=9223372036854775807:=by simp only[maxLen]at h63;omega
 have hlen:(xs++r.map am).length=(n+r.length)*1:=by rw[NM,hown.1];simp
 have hsz:=BX r;have hfc:=GS r i.size
 have grown:∀(old:Nat),old<n+r.length->∀(row:Option Nat),
   (w.drew.alloc (.cells (xs.toArray++(r.map am).toArray++Builtin.zeroCells z.cells (grownCap w (n+r.length) old e-(n+r.length))) e)).ownsRow 0 e 1
    (.slice (some ⟨w.heap.size,0,none⟩) (n+r.length) (grownCap w (n+r.length) old e)) (n+r.length) (xs++r.map am) /\
   w.grownBy (w.drew.alloc (.cells (xs.toArray++(r.map am).toArray++Builtin.zeroCells z.cells (grownCap w (n+r.length) old e-(n+r.length))) e)) row:=by
  intro old ho row;have hge:=grownCap_ge w (n+r.length) old e;have hcm:grownCap w (n+r.length) old e<=maxLen:=grownCap_le_maxLen w (n+r.length) old e h63;refine⟨⟨hlen,.inr ⟨w.heap.size,_,_,rfl,Nat.zero_le _,World.alloc_heap_new w.drew _,hge,hcm,?_,?_⟩⟩,⟨rfl,rfl,rfl,Nh,fun k hk _=>dZ (w:=w.drew) hk⟩⟩
  ·simp only[Array.size_append,size_toArray,size_zeroCells,hzs,hown.1,NP];omega
  ·simp only[Array.toList_append,NV];rw[<- NV,<- hlen];exact take_left
 rcases hown.2 with⟨rfl,rfl⟩|⟨g,cap,cur,rfl,hbg,hg,hnc,hcm,hcs,htake⟩
 ·have hx:xs=[]:=eq_nil_of_length_eq_zero (by simpa using hown.1);subst hx;by_cases hm:r.length=0
  ·obtain rfl:r=[]:=eq_nil_of_length_eq_zero hm;refine⟨.slice none 0 0,w,?_,World.ownsRow_nil w 0 e 1,⟨rfl,rfl,rfl,Nat.le_refl _,fun _ _ _=>rfl⟩,fun g h=>.inl h,Nh⟩;simp[Builtin.append_,run_underlying ht,run_underlying hu,sizeOf,typeInfo,hi,Builtin.lenOf,str,Builtin.firstCells];try rfl
  ·have hn:r.length≠0:=hm;have h63':¬(9223372036854775807<(r.length:Int)):=Nb
   have h48':¬(281474976710656<Builtin.nextslicecap r.length 0*i.bytes):=by rw[nextslicecap_zero Nb];simp only[Nat.zero_add]at hbytes;omega
   have hr:(Builtin.append_ #[t,u] ty #[.slice none 0 0,str r]).run P w=.ok (.slice (some ⟨w.heap.size,0,none⟩) r.length (grownCap w r.length 0 e)) (w.drew.alloc (.cells ((r.map am).toArray++Builtin.zeroCells z.cells (grownCap w r.length 0 e-r.length)) e)):=by
    unfold str at hfc ⊢;simp[Builtin.append_,run_underlying ht,run_underlying hu,sizeOf,typeInfo,zeroValue,hi,hz,Builtin.lenOf,hsz,hn,h63',h48',Question.forced,run_firstCells_none,hfc,newRow,grownCap]
   have hgr:=grown 0 Nb (Value.ownBlock (.slice none 0 0));simp only[Nat.zero_add,nil_append,Array.empty_append]at hgr ⊢;exact⟨_,_,hr,hgr.1,hgr.2,fun g hg=>by simp[Value.ownBlock]at hg;exact .inr Nb,by simp[hm]⟩
 ·by_cases hroom:n+r.length<=cap
  ·have hfit:n*i.size+(r.map am).length<=cur.size:=by rw[hl,hcs,hsize];omega
   have hst:=run_storeCells_at P g (n*i.size) e (r.map am) 0 cur w hg (by simpa using hfit) (dF r);simp only[Nat.add_zero]at hst
   have hr:(Builtin.append_ #[t,u] ty #[.slice (some ⟨g,0,none⟩) n cap,str r]).run P w=.ok (.slice (some ⟨g,0,none⟩) (n+r.length) cap) (w.setRow g (cur.toList.take (n*i.size)++r.map am++cur.toList.drop (n*i.size+(r.map am).length)).toArray):=by
    unfold str at hfc ⊢;simp[Builtin.append_,run_underlying ht,run_underlying hu,sizeOf,typeInfo,hi,Builtin.lenOf,hsz,hroom,hfc,Addr.add_lit];simp only[NV,NP]at hst;rw[hst];rfl
   rw[hsize]at hr;refine⟨_,_,hr,⟨hlen,.inr ⟨g,cap,_,rfl,hbg,setRow_heap w g cur _ e _ hg,hroom,hcm,?_,?_⟩⟩,⟨rfl,rfl,rfl,Nh,fun k _ hk=>setRow_other w g k _ (fun e=>hk (by simp[Value.ownBlock,e]))⟩,fun g' hg'=>.inl hg',Nh⟩
   ·simp only[size_toArray,NM,NS,NT,Array.length_toList,NP];omega
   ·rw[htake,<- hlen];exact take_left
  ·have holds:∀j u,xs[j]?=some u->w.cell? ((⟨g,0,none⟩:Addr).add j)=some u:=hown.cells (g:=g) rfl;have hn:¬(n+r.length<=cap):=hroom;have h63':¬(9223372036854775807<((n:Int)+(r.length:Int))):=Nb
   have h48':¬(281474976710656<Builtin.nextslicecap (n+r.length) cap*i.bytes):=by have:=growslice_fits (need:=n+r.length) (old:=cap) Nb hbytes;omega
   have hfo:=run_firstCells_some (P:=P) w.drew i.size n ⟨g,0,none⟩ n cap xs (by rw[hown.1,hsize]) (by simpa using holds)
   have hr:(Builtin.append_ #[t,u] ty #[.slice (some ⟨g,0,none⟩) n cap,str r]).run P w=.ok (.slice (some ⟨w.heap.size,0,none⟩) (n+r.length) (grownCap w (n+r.length) cap e)) (w.drew.alloc (.cells (xs.toArray++(r.map am).toArray++Builtin.zeroCells z.cells (grownCap w (n+r.length) cap e-(n+r.length))) e)):=by
    unfold str at hfc ⊢;simp[Builtin.append_,run_underlying ht,run_underlying hu,sizeOf,typeInfo,zeroValue,hi,hz,Builtin.lenOf,hsz,hn,h63',h48',Question.forced,hfc,hfo,newRow,grownCap];try (congr 2;apply Array.ext';simp)
   have hgr:=grown cap Nb (Value.ownBlock (.slice (some ⟨g,0,none⟩) n cap));exact⟨_,_,hr,hgr.1,hgr.2,fun g hg=>by simp[Value.ownBlock]at hg;exact .inr Nb,Nh⟩
end
theorem Ef{o:Oper}{a:Act}{w a0:World}{K:Act->World->Prop}{Q:Exit->Act->World->Prop}{F G:HF}(s x:Operand)(hop:o.op=.call { callee:=.builtin .append,args:=#[s,x],argTypes:=#[38,9] })(v:Value)(l:Bs)(hs:a.eval s=v)(hT:Turns F (aJ v l++G) a0 w)(hok:PE v l)(r:Bs)(hx:a.eval x=str r)(hb:l.length+r.length<=137438953472)(hk:∀av cv w',PE (.slice av (l++r).length cv) (l++r)->Turns F (aJ (.slice av (l++r).length cv) (l++r)++G) a0 w'->K (a.put o.dst (.slice av (l++r).length cv)) w'):o.wp prog a w K Q:=by
 obtain⟨i0,hi0,hz1,hz2,hz3⟩:=info_parts iD;obtain⟨v',w',hr,r1,r2,r3,r4⟩:=uX (P:=prog) w 38 9 o.type 5 i0 (.int .u8 0) 1 underlying38 underlying9 hi0 hz1 hz2 hz3 rfl v l.length (l.map am) (dh hT.sat.left hok) r (by unfold maxLen;omega) Nb;have hh:=jG hT rfl r1 r2 r3;unfold Oper.wp execOp;simp only[hop,resolve,invoke,builtin,Sem.run_bind,Sem.run_pure,Result.andThen_ok,map_toArray,map_cons,map_nil,hs,hx,hr];obtain⟨av,cv,rfl,-,-,-,-⟩:=aP (dh hh.2.sat.left hh.1);exact hk av cv w' hh.1 hh.2
def eB(s:Bs):Bs:=UInt8.ofNat s.length::s
theorem mr(v:Value)(l s:Bs)(w:World)(h:Sat w (aJ v l))(hok:PE v l)(hl:l.length<=1000000)(hs:s.length<=255):
  Calls prog 218 #[v,str s] w (jF v l (l++eB s) w):=by
 have hsz:=BX s;have HC:=OW h hok hl hs;have e1:(s.length:Int)%256=s.length:=Nb
 clear h hok;go_enter func218,ntmps218;have hT0:Turns (aJ v l) (aJ v l++[]) w (w.alloc (.cells #[.int .u8 s.length] 5)):=by rw[append_nil];exact(Turns.refl HC.a).alloc _
 have hc0:ak (w.alloc (.cells #[.int .u8 s.length] 5)) (some ⟨w.heap.size,0,none⟩) (([UInt8.ofNat s.length]:Bs).map am):=fun _=>⟨_,_,rfl,fun j hj=>by
  obtain rfl:j=0:=by simp at hj;omega
  rw[aa (aM w _) 0 rfl];simp[am];omega⟩
 have HT:=Ob hT0 hc0;clear hT0 hc0
 go_wp2_with ((at_builtin;first
  | (refine ai rfl ?_;refine fu (.tmp 5) (.tmp 9) rfl v l rfl HT.a HC.b _ 1 1 rfl [UInt8.ofNat s.length] rfl HT.z Nj ?_;intro av cv w2 hok2 hT2 _;simp only[NM,length_singleton]at hok2 hT2;have H2:=Ob hok2 hT2;clear hok2 hT2)
  | (refine ai rfl ?_;refine Ef (.tmp 10) (.tmp 11) rfl _ (l++[UInt8.ofNat s.length]) rfl H2.z H2.a s rfl Nj ?_;intro av2 SQ w3 OZ Oa;simp only[NM,length_singleton]at OZ Oa;have H3:=Ob OZ Oa;clear OZ Oa)))
 have e2:l++[UInt8.ofNat s.length]++s=l++eB s:=by simp[eB]
 have H4:=H3.o;rw[e2,append_nil,Nat.add_assoc,Nat.add_comm 1]at H4;go_ret;exact⟨_,rfl,H4.1,H4.2⟩
end
section
open Go.RowKit
def wC(bx:Nat)(O:Obj)(l:Bs)(w:World)(v:Value)(W:World):Prop:=PE v l/\Turns [] (aJ v l++[(bx,Is O)]) w W
theorem jV{bx:Nat}{O:Obj}{l l':Bs}{w W W':World}{v:Value}{e:Ending}(h:wC bx O l w v W)(k:jF v l l' W e W'):∃v',e=.returned v'/\wC bx O l' w v' W':=by
 obtain⟨v',he,hok,hT⟩:=k;exact⟨v',he,hok,h.2.step (Perm.refl _) hT⟩
theorem rD{bx:Nat}{O:Obj}{l':Bs}{w W W':World}{e:Ending}(h:Turns [] [(bx,Is O)] w W)(k:jF (.slice none 0 0) [] l' W e W'):∃v',e=.returned v'/\wC bx O l' w v' W':=by
 obtain⟨v',he,hok,hT⟩:=k;exact⟨v',he,hok,h.step (Perm.refl _) hT⟩
theorem jW{bx:Nat}{O:Obj}{l:Bs}{w W:World}{v:Value}(h:wC bx O l w v W):W.heap[bx]?=some O:=h.2.sat.Q7 Nh
theorem jX{bx:Nat}{O:Obj}{l:Bs}{w W:World}{v:Value}(h:wC bx O l w v W):Sat W (aJ v l):=h.2.sat.left
def ej(l:List Int):Bs:=l.flatMap (Pv · 4)
theorem uJ(l:List Int)(n:Int):ej (l++[n])=ej l++Pv n 4:=by simp[ej]
theorem dL(l:List Int):(ej l).length=4*l.length:=by
 induction l with
 | nil=>rfl
 | cons a r ih=>simp only[ej,flatMap_cons,NM,bU,length_cons]at ih ⊢;omega
theorem bS(p:Bs):(eB p).length=p.length+1:=by simp[eB]
def eC(p:Bs)(num size:Int)(ats:List Int):Bs:=eB p++Pv num 4++Pv size 2++ej ats
def fP(p:Bs)(nums:List Int):Bs:=eB p++ej nums
def eG(p name:Bs)(num:Int):Bs:=eB p++eB name++Pv num 4
def I64(n:Int):Prop:=-9223372036854775808<=n/\n<=9223372036854775807
def Et(bx:Nat)(O:Obj)(b:Bs)(ats:List Int)(w:World)(v i:Value)(wr:World):Prop:=∃k:Nat,k<=ats.length/\i=.int .i64 k/\wC bx O (b++ej (ats.take k)) w v wr
theorem wu(k:UInt8)(p:Bs)(num size:Int)(sl:Option Addr)(cap:Nat)(ats:List Int)(w:World)(hc:ak w sl (ats.map dw))(hp:p.length<=255)(hnum:I64 num)(hsize:I64 size)(hat:∀n∈ats,I64 n)(hl:ats.length<=100000):
  Calls prog 217 #[.agg #[.int .u8 k.toNat,str p,.int .i64 num,.int .i64 size,.slice sl ats.length cap]] w (eK (eC p num size ats) w):=by
 obtain⟨bx,hbx⟩:=Na w.heap.size;obtain⟨O,hO⟩:=Na (.cells #[.int .u8 k.toNat,str p,.int .i64 num,.int .i64 size,.slice sl ats.length cap] 173 (0,0):Obj);have hT0:Turns [] [(bx,Is O)] w (w.alloc (.cells #[.int .u8 k.toNat,str p,.int .i64 num,.int .i64 size,.slice sl ats.length cap] 173)):=by rw[<- hO,hbx];exact(Turns.refl (Sat.nil w)).Q9 O
 have HP:=PD hp hnum hsize hat hc;have HT:=Ob hT0 hO;clear hp hnum hsize hat hc hT0;go_enter func217,ntmps217;go_wp2_with fail;rw[<- hbx];clear hbx;refine cH [([0,1,2,4,5,7,8],3,[4,5,7,8]),([],6,[7,8]),([],9,[])] [10] HM.o Nc fun W tW=>?_
 simp only[Mix,map_cons,map_nil,nth,QG,QF];have hT:=tW HT.a;clear tW;have B:∀{W:World},W.heap[bx]?=some O->W.cell? ⟨bx,1,none⟩=some (str p)/\W.cell? ⟨bx,2,none⟩=some (.int .i64 num)/\W.cell? ⟨bx,3,none⟩=some (.int .i64 size):=fun h=>by rw[HT.z]at h;exact⟨aa h 1 rfl,aa h 2 rfl,aa h 3 rfl⟩
 obtain⟨b1,b2,b3⟩:=B hT.sat.Q5;repeat still_step
 refine wpStill_nil (aO Nc (mr (.slice none 0 0) [] p W (Sat.nil _) go Nh HP.a) ?_);rintro e W1 hp;obtain⟨v1,rfl,h1⟩:=rD hT hp;refine⟨_,rfl,by(obtain⟨b1,b2,b3⟩:=B (jW h1);(repeat still_step);exact rfl),wpStill_nil (aO Nc (eu v1 (eB p) num 4 W1 Nb (by rw[bS];have:=HP.a;omega) HP.b.1 HP.b.2 (jX h1) h1.1) ?_)⟩;rintro e W2 hp;obtain⟨v2,rfl,h2⟩:=jV h1 hp;refine⟨_,rfl,by(obtain⟨b1,b2,b3⟩:=B (jW h2);(repeat still_step);exact rfl),wpStill_nil (aO Nc (eu v2 (eB p++Pv num 4) size 2 W2 Nb (by rw[NM,bS,bU];have:=HP.a;omega) HP.c.1 HP.c.2 (jX h2) h2.1) ?_)⟩;rintro e W3 hp;obtain⟨v3,rfl,h3⟩:=jV h2 hp;refine⟨_,rfl,rfl,?_⟩;repeat still_step
 refine wpStill_nil ?_;have HS:=NZ h3;have OB:=jW h3;rw[HT.z]at OB;have b4:W3.cell? ⟨bx,4,none⟩=some (.slice sl ats.length cap):=aa OB 4 rfl;have hbl:=ae OB;clear hT B b1 b2 b3 h1 h2 h3 OB;go_wp2_with fail;go_loopw [3,19] (fun v i wr=>Et bx O (eB p++Pv num 4++Pv size 2) ats w v i wr) (fun _ i _=>ats.length-(intOf i).toNat)
 case atStart=>exact⟨0,Nat.zero_le _,rfl,by simpa[ej]using HS.o⟩
 case round =>
  obtain⟨j,hj,rfl,hR⟩:=hrel;have HR:=NZ hR;clear hR;by_cases hlt:j<ats.length
  ·obtain⟨g,off,hg,hcell⟩:=HP.w.keep HR.z.mods (fun g off e hh=>by simp at hh) (by simpa using(by omega:0<ats.length));subst hg;obtain⟨n,hn⟩:=Na (ats[j]);have hck:wr.cell? ⟨g,off+j,none⟩=some (.int .i64 n):=by rw[hcell j (by simpa using hlt)];simp[hn,dw]
   have htk:ej (ats.take (j+1))=ej (ats.take j)++Pv n 4:=by rw[QH hlt,uJ,hn]
   have Yk:=HP.d n (hn ▸ getElem_mem hlt);have HN:=NZ (eu _ (eB p++Pv num 4++Pv size 2++ej (ats.take j)) n 4 wr Nb (by simp only[NM,bS,bU,dL,NS];have:=HP.a;omega) Yk.1 Yk.2 (jX HR.o) HR.a);have HK:=NZ htk;clear hcell hn htk Yk;go_wp2_with fail;refine HN.o.mono ?_;rintro e w4 Vs;obtain⟨v4,rfl,hr4⟩:=jV HR.o Vs;rw[NV,<- HK.o]at hr4;have HR4:=NZ hr4;clear hr4 Vs;go_wp2_with fail;go_roundw
   case rel=>exact⟨j+1,Nb,by go_num,HR4.o⟩
   case measure=>simp[intOf];omega
  ·obtain rfl:j=ats.length:=Nb
   have hR:=HR.o;rw[take_length]at hR;go_wp2_with fail;go_ret;exact⟨_,rfl,hR.1,hR.2.left⟩
theorem vZ(k:UInt8)(p name:Bs)(num:Int)(w:World)(hp:p.length<=255)(hn:name.length<=255)(hnum:I64 num):
  Calls prog 222 #[.agg #[.int .u8 k.toNat,str p,str name,.int .i64 num]] w (eK (eG p name num) w):=by
 obtain⟨bx,hbx⟩:=Na w.heap.size;obtain⟨O,hO⟩:=Na (.cells #[.int .u8 k.toNat,str p,str name,.int .i64 num] 233 (0,0):Obj);have hT0:Turns [] [(bx,Is O)] w (w.alloc (.cells #[.int .u8 k.toNat,str p,str name,.int .i64 num] 233)):=by rw[<- hO,hbx];exact(Turns.refl (Sat.nil w)).Q9 O
 have HP:=Oz hp hn hnum;have HT:=Ob hT0 hO;clear hp hnum hn hT0 hO;go_enter func222,ntmps222;go_wp2_with fail;rw[<- hbx];clear hbx;refine cH [([0,1,2,4,5,7,8],3,[4,5,7,8]),([],6,[7,8]),([],9,[])] [10] HM.o Nc fun W tW=>?_
 simp only[Mix,map_cons,map_nil,nth,QG,QF];have hT:=tW HT.a;clear tW;have B:∀{W:World},W.heap[bx]?=some O->W.cell? ⟨bx,1,none⟩=some (str p)/\W.cell? ⟨bx,2,none⟩=some (str name)/\W.cell? ⟨bx,3,none⟩=some (.int .i64 num):=fun h=>by rw[HT.z]at h;exact⟨aa h 1 rfl,aa h 2 rfl,aa h 3 rfl⟩
 obtain⟨b1,b2,b3⟩:=B hT.sat.Q5;repeat still_step
 refine wpStill_nil (aO Nc (mr (.slice none 0 0) [] p W (Sat.nil _) go Nh HP.a) ?_);rintro e W1 hp;obtain⟨v1,rfl,h1⟩:=rD hT hp;refine⟨_,rfl,by(obtain⟨b1,b2,b3⟩:=B (jW h1);(repeat still_step);exact rfl),wpStill_nil (aO Nc (mr v1 (eB p) name W1 (jX h1) h1.1 (by rw[bS];have:=HP.a;omega) HP.b) ?_)⟩;rintro e W2 hp;obtain⟨v2,rfl,h2⟩:=jV h1 hp;refine⟨_,rfl,by(obtain⟨b1,b2,b3⟩:=B (jW h2);(repeat still_step);exact rfl),wpStill_nil (aO Nc (eu v2 (eB p++eB name) num 4 W2 Nb (by rw[NM,bS,bS];have:=HP.a;have:=HP.b;omega) HP.c HP.x (jX h2) h2.1) ?_)⟩;rintro e W3 hp;obtain⟨v3,rfl,h3⟩:=jV h2 hp;refine⟨_,rfl,rfl,?_⟩;repeat still_step
 refine wpStill_nil ?_;go_wp2_with fail;go_ret;exact⟨_,rfl,h3.1,h3.2.left⟩
theorem up(k:UInt8)(p:Bs)(sl:Option Addr)(cap:Nat)(ats:List Int)(w:World)(hc:ak w sl (ats.map dw))(hp:p.length<=255)(hat:∀n∈ats,I64 n)(hl:ats.length<=100000):
  Calls prog 234 #[.agg #[.int .u8 k.toNat,str p,.slice sl ats.length cap]] w (eK (fP p ats) w):=by
 obtain⟨bx,hbx⟩:=Na w.heap.size;obtain⟨O,hO⟩:=Na (.cells #[.int .u8 k.toNat,str p,.slice sl ats.length cap] 286 (0,0):Obj);have hT0:Turns [] [(bx,Is O)] w (w.alloc (.cells #[.int .u8 k.toNat,str p,.slice sl ats.length cap] 286)):=by rw[<- hO,hbx];exact(Turns.refl (Sat.nil w)).Q9 O
 have hb0:w.heap.size=bx:=hbx.symm;have HP:=Oz hp hat hc;have HT:=Ob hT0 hO;clear hp hat hc hT0 hO hb0;go_enter func234,ntmps234;go_wp2_with fail;refine(mr (.slice none 0 0) [] p _ (Sat.nil _) go Nh HP.a).mono ?_;rintro e w3 hp3;obtain⟨v3,rfl,hS⟩:=rD HT.a hp3;have HS:=NZ hS;have OB:=jW hS;rw[HT.z]at OB;have b2:w3.cell? ⟨bx,2,none⟩=some (.slice sl ats.length cap):=aa OB 2 rfl;have hbl:=ae OB;rw[<- hbx];clear hS OB hp3 hbx;go_wp2_with fail;go_loopw [3,13] (fun v i wr=>Et bx O (eB p) ats w v i wr) (fun _ i _=>ats.length-(intOf i).toNat)
 case atStart=>exact⟨0,Nat.zero_le _,rfl,by simpa[ej]using HS.o⟩
 case round =>
  obtain⟨j,hj,rfl,hR⟩:=hrel;have HR:=NZ hR;clear hR;by_cases hlt:j<ats.length
  ·obtain⟨g,off,hg,hcell⟩:=HP.y.keep HR.z.mods (fun g off e hh=>by simp at hh) (by simpa using(by omega:0<ats.length));subst hg;obtain⟨n,hn⟩:=Na (ats[j]);have hck:wr.cell? ⟨g,off+j,none⟩=some (.int .i64 n):=by rw[hcell j (by simpa using hlt)];simp[hn,dw]
   have htk:ej (ats.take (j+1))=ej (ats.take j)++Pv n 4:=by rw[QH hlt,uJ,hn]
   have Yk:=HP.b n (hn ▸ getElem_mem hlt);have HN:=NZ (eu _ (eB p++ej (ats.take j)) n 4 wr Nb (by simp only[NM,bS,dL,NS];have:=HP.a;omega) Yk.1 Yk.2 (jX HR.o) HR.a);have HK:=NZ htk;clear hcell hn htk Yk;go_wp2_with fail;refine HN.o.mono ?_;rintro e w4 Vs;obtain⟨v4,rfl,hr4⟩:=jV HR.o Vs;rw[NV,<- HK.o]at hr4;have HR4:=NZ hr4;clear hr4 Vs;go_wp2_with fail;go_roundw
   case rel=>exact⟨j+1,Nb,by go_num,HR4.o⟩
   case measure=>simp[intOf];omega
  ·obtain rfl:j=ats.length:=Nb
   have hR:=HR.o;rw[take_length]at hR;go_wp2_with fail;go_ret;exact⟨_,rfl,hR.1,hR.2.left⟩
def LL(k:UInt8)(w:World)(e:Ending)(w':World):Prop:=e=.returned (.int .u8 k.toNat)/\aV w w'
theorem lV(k:UInt8)(p:Bs)(w:World):Calls prog 141 #[.agg #[.int .u8 k.toNat,str p]] w (LL k w):=by
 go_enter func141,ntmps141;go_wp2_with fail;go_ret;refine ⟨rfl,(N7.refl _ w).alloc _⟩
theorem MJ(a b c d e:Value)(w:World):(Go.method 462 173 (.agg #[a,b,c,d,e]) "Of").run prog w=.ok (141,.agg #[a,b]) w:=Nc
theorem Lk(a b c d e:Value)(w:World):(Go.method 462 173 (.agg #[a,b,c,d,e]) "versions/record.body").run prog w=.ok (217,.agg #[a,b,c,d,e]) w:=Nc
theorem L9(a b c:Value)(w:World):(Go.method 462 286 (.agg #[a,b,c]) "Of").run prog w=.ok (141,.agg #[a,b]) w:=Nc
theorem I2(a b c:Value)(w:World):(Go.method 462 286 (.agg #[a,b,c]) "versions/record.body").run prog w=.ok (234,.agg #[a,b,c]) w:=Nc
theorem ME(a b c d:Value)(w:World):(Go.method 462 233 (.agg #[a,b,c,d]) "Of").run prog w=.ok (141,.agg #[a,b]) w:=Nc
theorem KW(a b c d:Value)(w:World):(Go.method 462 233 (.agg #[a,b,c,d]) "versions/record.body").run prog w=.ok (222,.agg #[a,b,c,d]) w:=Nc
theorem eK.frame{k:UInt8}{body:Bs}{w w1 w2:World}{v:Value}(hs:aV w w1)(hT:Turns [] (aJ v body) w1 w2){e:Ending}{w3:World}(h:eK (frame k body) w2 e w3):eK (frame k body) w e w3:=by
 obtain⟨v',he,hok,hT'⟩:=h;have h1:Turns [] [] w w2:=(Turns.same (Sat.nil w) hs).trans (hT.drop (by intro x;simp[cnt]));exact⟨v',he,hok,h1.trans hT'⟩
theorem ld{l:Bs}{w w':World}{e:Ending}(h:eK l w e w'):∃av cv,e=.returned (.slice av l.length cv)/\ak w' av (l.map am)/\Turns [] (aJ (.slice av l.length cv) l) w w':=by
 obtain⟨v',he,hok,hT⟩:=h;obtain⟨av,cv,rfl,-,-,hc,-⟩:=aP (dh hT.sat hok);exact⟨av,cv,he,hc,hT⟩
theorem nz(k:UInt8)(p:Bs)(num size:Int)(sl:Option Addr)(cap:Nat)(ats:List Int)(w:World)(hc:ak w sl (ats.map dw))(hp:p.length<=255)(hnum:I64 num)(hsize:I64 size)(hat:∀n∈ats,I64 n)(hl:ats.length<=100000):
  Calls prog 80 #[.iface 173 (.agg #[.int .u8 k.toNat,str p,.int .i64 num,.int .i64 size,.slice sl ats.length cap])] w (eK (frame k (eC p num size ats)) w):=by
 have HB:=NZ (fun W (hW:aV w W)=>wu k p num size sl cap ats W (hc.keep hW (fun _ _ _=>id)) hp hnum hsize hat hl);have hl0:(eC p num size ats).length<=1000000:=by simp only[eC,NM,bS,bU,dL];omega
 have HL:=NZ hl0;have h1:=fun W=>MJ (.int .u8 k.toNat) (str p) (.int .i64 num) (.int .i64 size) (.slice sl ats.length cap) W
 have h2:=fun W=>Lk (.int .u8 k.toNat) (str p) (.int .i64 num) (.int .i64 size) (.slice sl ats.length cap) W
 clear hc hp hnum hsize hat hl0;go_enter func80,ntmps80;go_wp2_with fail;refine(lV k p _).mono ?_;rintro e w1 ⟨rfl,hs1⟩;have Ug:=NZ hs1;clear hs1;go_wp2_with fail;refine(HB.o _ Ug.o).mono ?_;rintro e w2 hb2;obtain⟨av,cv,rfl,hc2,hT2⟩:=ld hb2;have H2:=Ob hc2 hT2;obtain⟨n2,hn2⟩:=Na ((eC p num size ats).length);rw[<- hn2];have HN:=NZ hn2;clear hb2 hc2 hT2 hn2;go_wp2_with fail;rw[HN.o];refine(ic k av cv (eC p num size ats) _ H2.a (by have:=HL.o;omega)).mono ?_;rintro e w3 hp3;have h3:=eK.frame Ug.o H2.z hp3;obtain⟨v3,rfl,OZ,Oa⟩:=h3;have H3:=Ob OZ Oa;clear hp3 OZ Oa;go_wp2_with fail;go_ret;exact⟨_,rfl,H3.a,H3.z⟩
theorem sR(k:UInt8)(p:Bs)(sl:Option Addr)(cap:Nat)(ats:List Int)(w:World)(hc:ak w sl (ats.map dw))(hp:p.length<=255)(hat:∀n∈ats,I64 n)(hl:ats.length<=100000):
  Calls prog 80 #[.iface 286 (.agg #[.int .u8 k.toNat,str p,.slice sl ats.length cap])] w (eK (frame k (fP p ats)) w):=by
 have HB:=NZ (fun W (hW:aV w W)=>up k p sl cap ats W (hc.keep hW (fun _ _ _=>id)) hp hat hl);have hl0:(fP p ats).length<=1000000:=by simp only[fP,NM,bS,dL];omega
 have HL:=NZ hl0;have h1:=fun W=>L9 (.int .u8 k.toNat) (str p) (.slice sl ats.length cap) W
 have h2:=fun W=>I2 (.int .u8 k.toNat) (str p) (.slice sl ats.length cap) W
 clear hc hp hat hl0;go_enter func80,ntmps80;go_wp2_with fail;refine(lV k p _).mono ?_;rintro e w1 ⟨rfl,hs1⟩;have Ug:=NZ hs1;clear hs1;go_wp2_with fail;refine(HB.o _ Ug.o).mono ?_;rintro e w2 hb2;obtain⟨av,cv,rfl,hc2,hT2⟩:=ld hb2;have H2:=Ob hc2 hT2;obtain⟨n2,hn2⟩:=Na ((fP p ats).length);rw[<- hn2];have HN:=NZ hn2;clear hb2 hc2 hT2 hn2;go_wp2_with fail;rw[HN.o];refine(ic k av cv (fP p ats) _ H2.a (by have:=HL.o;omega)).mono ?_;rintro e w3 hp3;have h3:=eK.frame Ug.o H2.z hp3;obtain⟨v3,rfl,OZ,Oa⟩:=h3;have H3:=Ob OZ Oa;clear hp3 OZ Oa;go_wp2_with fail;go_ret;exact⟨_,rfl,H3.a,H3.z⟩
theorem ku(k:UInt8)(p name:Bs)(num:Int)(w:World)(hp:p.length<=255)(hn:name.length<=255)(hnum:I64 num):
  Calls prog 80 #[.iface 233 (.agg #[.int .u8 k.toNat,str p,str name,.int .i64 num])] w (eK (frame k (eG p name num)) w):=by
 have HB:=NZ (fun W (hW:aV w W)=>vZ k p name num W hp hn hnum);have hl0:(eG p name num).length<=1000000:=by simp only[eG,NM,bS,bU];omega
 have HL:=NZ hl0;have h1:=fun W=>ME (.int .u8 k.toNat) (str p) (str name) (.int .i64 num) W
 have h2:=fun W=>KW (.int .u8 k.toNat) (str p) (str name) (.int .i64 num) W
 clear hp hn hnum hl0;go_enter func80,ntmps80;go_wp2_with fail;refine(lV k p _).mono ?_;rintro e w1 ⟨rfl,hs1⟩;have Ug:=NZ hs1;clear hs1;go_wp2_with fail;refine(HB.o _ Ug.o).mono ?_;rintro e w2 hb2;obtain⟨av,cv,rfl,hc2,hT2⟩:=ld hb2;have H2:=Ob hc2 hT2;obtain⟨n2,hn2⟩:=Na ((eG p name num).length);rw[<- hn2];have HN:=NZ hn2;clear hb2 hc2 hT2 hn2;go_wp2_with fail;rw[HN.o];refine(ic k av cv (eG p name num) _ H2.a (by have:=HL.o;omega)).mono ?_;rintro e w3 hp3;have h3:=eK.frame Ug.o H2.z hp3;obtain⟨v3,rfl,OZ,Oa⟩:=h3;have H3:=Ob OZ Oa;clear hp3 OZ Oa;go_wp2_with fail;go_ret;exact⟨_,rfl,H3.a,H3.z⟩
theorem My:(prog.info? 3).map (fun i=>(i.zero,i.size,i.bytes))=some (some (.int .i64 0),1,8):=Nc
def ck(v:Value)(l:List Int):HF:=bH 3 1 v l.length (l.map dw)
def RJ(v:Value)(l:List Int):Prop:=ei 1 v l.length (l.map dw)
theorem AO:ck (.slice none 0 0) []=[]:=rfl
theorem lW:RJ (.slice none 0 0) []:=⟨rfl,fun _=>⟨rfl,rfl⟩⟩
theorem kt{o:Oper}{a:Act}{w a0:World}{K:Act->World->Prop}{Q:Exit->Act->World->Prop}{F G:HF}(s x:Operand)(hop:o.op=.call { callee:=.builtin .append,args:=#[s,x],argTypes:=#[171,171] })(v:Value)(l:List Int)(hs:a.eval s=v)(hT:Turns F (ck v l++G) a0 w)(hok:RJ v l)(sa:Option Addr)(m c:Nat)(hx:a.eval x=.slice sa m c)(r:List Int)(hm:m=r.length)(hc:0<m->∃ad,sa=some ad/\∀j u,(r.map dw)[j]?=some u->w.cell? (ad.add j)=some u)(hb:l.length+r.length<=1000000)(hk:∀av cv w',RJ (.slice av (l++r).length cv) (l++r)->Turns F (ck (.slice av (l++r).length cv) (l++r)++G) a0 w'->K (a.put o.dst (.slice av (l++r).length cv)) w'):o.wp prog a w K Q:=by
 obtain⟨i0,hi0,hz1,hz2,hz3⟩:=info_parts My;refine cL s x 171 3 i0 (.int .i64 0) 1 8 hop underlying171 hi0 hz1 hz2 hz3 rfl Nk v l.length (l.map dw) hs hT hok sa m c hx (r.map dw) (by simp[hm]) hc (fun u hu=>by obtain⟨y,_,rfl⟩:=mem_map.1 hu;rfl) (by unfold maxLen;omega) Nb (fun v' w' h1 h2 h3=>?_);have k1:RJ v' (l++r):=by unfold RJ;rw[NM,NW,<- hm];exact h1
 have k2:Turns F (ck v' (l++r)++G) a0 w':=by unfold ck;rw[NM,NW,<- hm];exact h2
 obtain⟨av,cv,rfl,-,-,-,-⟩:=aP (aW k2.sat.left k1);exact hk av cv w' k1 k2
def qB(k:UInt8)(p:Bs)(num size:Int)(v:Value):Obj:=.cells #[.int .u8 k.toNat,str p,.int .i64 num,.int .i64 size,v] 173 (0,0)
def bB(l:List (Nat×Nat)):List Int:=l.map (fun q=>(q.1:Int))
def CF(p:Bs)(V:Oe)(w:World)(e:Ending)(w':World):Prop :=
 ∃av cv,e=.returned (.agg #[.int .u8 2,str p,.int .i64 V.num,.int .i64 V.size,.slice av (bB V.N8).length cv])/\ak w' av ((bB V.N8).map dw)/\aV w w'
def MY(c r:Nat)(p:Bs)(V:Oe)(w:World)(i:Value)(W:World):Prop :=
 ∃(k:Nat) (v:Value),k<=V.N8.length/\i=.int .i64 k/\RJ v ((bB V.N8).take k)/\Turns [] (((c,Is (qB 2 p V.num V.size v))::ck v ((bB V.N8).take k))++[(r,Is (qB 0 [] 0 0 (.slice none 0 0)))]) w W
theorem fc{w:World}{v:Value}{l:List (Nat×Nat)}(h:Sat w (aZ v l))(hok:bQ v l):∃sl cap,v=.slice sl l.length cap/\l.length<=cap/\cap<=9223372036854775807/\ak w sl (cZ l):=by
 have hown:=aW h hok;rcases hown.2 with⟨rfl,h0⟩|⟨g,cap,cur,rfl,hbg,hg,hnc,hcm,hcs,htake⟩
 ·have hl:l=[]:=eq_nil_of_length_eq_zero h0;subst hl;exact⟨none,0,rfl,Nat.le_refl _,Nb,fun h=>by simp[cZ]at h⟩
 ·refine⟨some ⟨g,0,none⟩,cap,rfl,hnc,by unfold maxLen at hcm;omega,fun hp=>⟨g,0,rfl,fun j hj=>?_⟩⟩;have:=hown.cells (g:=g) rfl j _ (getElem?_eq_getElem hj);rwa [Addr.add_lit]at this
theorem CZ(w:World)(o:Obj)(xs:List Value)(t:TypeId):∀j u,xs[j]?=some u->((w.alloc o).alloc (.cells xs.toArray t)).cell? ((⟨w.heap.size+1,0,none⟩:Addr).add j)=some u:=fun j u hu=>by
 have:=ik (w.alloc o) xs t j u hu
 simpa using this
theorem eO(l:List (Nat×Nat)):(cZ l).length=2*l.length:=by
 induction l with
 | nil=>rfl
 | cons a r ih=>simp only[cZ,flatMap_cons,NM,rz,length_cons,length_nil]at ih ⊢;omega
theorem DH:∀(l:List (Nat×Nat)) (k:Nat) (hk:k<l.length),(cZ l)[2*k]?=some (.int .i64 l[k].1)/\(cZ l)[2*k+1]?=some (.int .i64 l[k].2):=by
 intro l;induction l with
 | nil=>intro k hk;simp at hk
 | cons a r ih =>
  intro k hk
  cases k with
  | zero=>simp[cZ,rz]
  | succ k =>
   have:=ih k (by simpa using hk);simp only[cZ,flatMap_cons,rz]at this ⊢;rw[show 2*(k+1)=2*k+2 by omega,show 2*k+2+1=(2*k+1)+2 by omega,getElem?_append_right Nh,getElem?_append_right Nh];simpa using this
theorem mY{w:World}{g off:Nat}{l:List (Nat×Nat)}(h:∀j (h:j<(cZ l).length),w.cell? ⟨g,off+j,none⟩=some ((cZ l)[j]'h)){k:Nat}(hk:k<l.length):
  w.cell? ⟨g,off+k*2,none⟩=some (.int .i64 l[k].1)/\w.cell? ⟨g,off+k*2+1,none⟩=some (.int .i64 l[k].2):=by
 obtain⟨h1,h2⟩:=DH l k hk;obtain⟨p1,e1⟩:=List.getElem?_eq_some_iff.1 h1;obtain⟨p2,e2⟩:=List.getElem?_eq_some_iff.1 h2;rw[Nat.add_assoc,Nat.mul_comm k 2];exact⟨by rw[h _ p1,e1],by rw[h _ p2,e2]⟩
theorem NI{p:Prop}(h:p:=by rw[eO];omega):p:=h
theorem jE(p:Bs)(V:Oe)(w:World)(hV:Sat w (bN V))(hok:bQ V.cv V.N8)(hl:V.N8.length<=100000):
  Calls prog 81 #[str p,dN V] w (CF p V w):=by
 obtain⟨r,hr⟩:=Na w.heap.size;obtain⟨Z,hZ⟩:=Na (qB 0 [] 0 0 (.slice none 0 0):Obj);have hT0:Turns [] [(r,Is Z)] w (w.alloc Z):=by rw[hr];exact(Turns.refl (Sat.nil w)).Q9 Z
 obtain⟨sl,cap,hcv,hcl,hcm,hcells⟩:=fc hV.tail hok;have HV:=OW hV.Q5 hcells hcv hl;have HT:=Ob hT0 hZ;clear hV hok hT0 hZ hcells hcv;unfold dN;go_enter func81,ntmps81;go_wp2_with fail;rw[<- hr];have hwe:w.alloc (.cells #[.int .u8 0,.string { data:=#[] },.int .i64 0,.int .i64 0,.slice none 0 0] 173)=w.alloc Z:=by rw[HT.z];rfl
 rw[hwe];clear hwe hr;refine cH [([0,1,2,3,4,5,6,7,8,9,10],11,[0,1,2,3,4,5,6,7,8,9,10]),([],12,[])] [] HM.o Nc fun W tW=>?_
 simp only[Mix,map_cons,map_nil,nth,QG,QF];have hT:=tW HT.a;clear tW;have Vb:∀{W F},Turns [] F w W->W.cell? ⟨V.blk,0,none⟩=some (.int .i64 V.num)/\W.cell? ⟨V.blk,1,none⟩=some (.int .i64 V.size):=fun h=>⟨aa (h.news.at HV.a id) 0 rfl,aa (h.news.at HV.a id) 1 rfl⟩
 obtain⟨b0,b1⟩:=Vb hT;repeat still_step
 refine wpStill_nil (je (qB 0 [] 0 0 (.slice none 0 0)) (fun c=>.pointer (some ⟨c,0,none⟩)) Nc hT fun c W1 hT1=>⟨by(obtain⟨b0,b1⟩:=Vb hT1;(repeat still_step);exact rfl),wpStill_nil ?_⟩);refine qJ 173 (.tmp 5) (.tmp 18) rfl c #[.int .u8 0,str [],.int .i64 0,.int .i64 0,.slice none 0 0] #[.int .u8 2,str p,.int .i64 V.num,.int .i64 V.size,.slice none 0 0] _ hT1 rfl rfl rfl Nc (by simp[Value.oneCell']) fun W2 hT2=>⟨rfl,?_⟩
 simp only[Act.put,QA,QB,QC];refine wpStill_nil ?_;have HT3:=NZ (show Turns [] [(c,Is (qB 2 p V.num V.size (.slice none 0 0))),(r,Is Z)] w W2 from hT2);have Rt:=hT2.news.at HV.a id;have b2:W2.cell? ⟨V.blk,2,none⟩=some (.slice sl V.N8.length cap):=by rw[<- HV.c];exact aa Rt 2 rfl
 have hbl:=ae Rt;clear hT hT1 hT2 Rt b0 b1 Vb;go_wp2_with fail;go_loopw [24] (fun i wr=>MY c r p V w i wr) (fun i _=>V.N8.length-(intOf i).toNat)
 case atStart=>exact⟨0,.slice none 0 0,Nat.zero_le _,rfl,by simpa using lW,by
  have:=HT3.o;rw[HT.z]at this;simpa[AO]using this⟩
 case round =>
  obtain⟨k,v,hk,rfl,hok,hT⟩:=hrel;have HR:=Ob hok hT;have hrec:=hT.sat.Q5;clear hok hT;by_cases hlt:k<V.N8.length
  ·obtain⟨g,off,hg,hcell⟩:=HV.b.keep HR.z.mods (fun g off e hh=>by simp at hh) NI;subst hg;obtain⟨hc1,hc2⟩:=mY hcell hlt;obtain⟨q,hq⟩:=Na (V.N8[k]);rw[<- hq]at hc1 hc2;have c3:wr.cell? ⟨c,4,none⟩=some v:=aa hrec 4 rfl;have PY:=ae hrec;have HQ:=NZ hq;clear hcell hq
   have hat:(bB V.N8).take (k+1)=(bB V.N8).take k++[(q.1:Int)]:=by
    rw[QH (by simp[bB];omega)];simp[bB,HQ.o]
   have htl:((bB V.N8).take k).length=k:=by simp[bB];omega
   have hfr:=aY hrec 4;have HA:=Ob hat htl;have HTp:Turns [] (ck v ((bB V.N8).take k)++[(c,Is (qB 2 p V.num V.size v)),(r,Is (qB 0 [] 0 0 (.slice none 0 0)))]) w wr:=HR.z.to ac;have QX:=NZ HTp;clear hat htl hrec HTp;go_wp2_with ((at_builtin;refine ai rfl ?_;refine kt (.tmp 29) (.tmp 32) rfl v _ rfl ((QX.o.alloc _).alloc _) HR.a _ 1 1 rfl [(q.1:Int)] rfl (fun _=>⟨_,rfl,fun j u hu=>CZ _ _ _ _ j u hu⟩) (by rw[HA.z];simp;omega) ?_;intro av cv w5 Pe Og;simp only[NM,HA.z,length_singleton]at Pe Og;have hb5:w5.heap[c]?=some (qB 2 p V.num V.size v):=Og.sat.Q7 Nh;have c5:=aa (v:=v) hb5 4 rfl;have f5:=aY hb5 4;have H5:=Oz Pe Og hb5;clear Pe Og hb5 hfr c3 hc1 hc2));have hmin:min k (bB V.N8).length+1=k+1:=by have:=HA.z;rw[NS]at this;omega
   rw[hmin];refine⟨⟨k+1,.slice av (k+1) cv,Nb,by go_num,by rw[HA.a];exact H5.a,?_⟩,by simp[intOf];omega⟩;have hq:=(H5.b.to (H:=(c,Is (qB 2 p V.num V.size v))::(ck (.slice av (k+1) cv) ((bB V.N8).take k++[(q.1:Int)])++[(r,Is (qB 0 [] 0 0 (.slice none 0 0)))])) ac).Qa (o:=qB 2 p V.num V.size (.slice av (k+1) cv)) ((N7.refl (fun k=>k=c) w5).set1 (i:=4) (.slice av (k+1) cv)) (bq H5.y 4 _);rw[HA.a];exact hq.to ac
  ·obtain rfl:k=V.N8.length:=Nb
   have c0:wr.cell? ⟨c,0,none⟩=some (.int .u8 2):=aa hrec 0 rfl;have c1:wr.cell? ⟨c,1,none⟩=some (str p):=aa hrec 1 rfl;have c2:wr.cell? ⟨c,2,none⟩=some (.int .i64 V.num):=aa hrec 2 rfl;have c3:wr.cell? ⟨c,3,none⟩=some (.int .i64 V.size):=aa hrec 3 rfl;have c4:wr.cell? ⟨c,4,none⟩=some v:=aa hrec 4 rfl;have hrr:wr.heap[r]?=some (qB 0 [] 0 0 (.slice none 0 0)):=HR.z.sat.Q7 Nh;have hth:=dA (C:=#[.int .u8 0,str [],.int .i64 0,.int .i64 0,.slice none 0 0]) hrr 0 5 Nh;have ho1:=HR.a;have hT1:=HR.z;have hle:(bB V.N8).take V.N8.length=bB V.N8:=take_of_length_le (by simp[bB]);rw[hle]at ho1 hT1;have Zw:Turns [] (ck v (bB V.N8)++[(c,Is (qB 2 p V.num V.size v)),(r,Is (qB 0 [] 0 0 (.slice none 0 0)))]) w wr:=hT1.to ac;obtain⟨av,cv,rfl,-,-,hca,Vf⟩:=aP (aW Zw.sat.left ho1);obtain⟨q1,q2⟩:=dQ hrr [.int .u8 2,str p,.int .i64 V.num,.int .i64 V.size,.slice av (bB V.N8).length cv] Nh;have hse:aV w (wr.setCells r 0 [.int .u8 2,str p,.int .i64 V.num,.int .i64 V.size,.slice av (bB V.N8).length cv]):=Zw.news.trans' q2 (fun i hi=>.inr (hi ▸ Zw.Xx Nh))
   have hck:ak (wr.setCells r 0 [.int .u8 2,str p,.int .i64 V.num,.int .i64 V.size,.slice av (bB V.N8).length cv]) av ((bB V.N8).map dw):=hca.keep q2 (fun g off e hh=>by
    have h1:=Vf _ e;have h2:=Zw.sat.Qh (b:=g) (by unfold ck;rw[eL];exact h1);exact h2 (by simp[hh]))
   have UO:=OW q1 hse hck hth;clear q1 q2 hse hck hth Zw hT1 ho1 hca Vf hle hrr hrec;go_wp2_with ((refine wpList_store_mid rfl 173 (.tmp 4) (.tmp 36) rfl r 0 #[.int .u8 2,str p,.int .i64 V.num,.int .i64 V.size,.slice av (bB V.N8).length cv] rfl rfl UO.x Nc (by simp[Value.oneCell']) ?_;simp only[Act.put]));refine bodyPost_ret (results_cell_row rfl _ _ r 173 _ (0,0) _ rfl UO.a underlying173 rfl Nc) rfl ?_;exact⟨av,cv,rfl,UO.c,UO.b⟩
theorem ny{n:Int}(h1 : -9223372036854775808<=n)(h2:n<=9223372036854775807):IntKind.i64.wrap n=n:=by
 unfold IntKind.wrap;simp only[show IntKind.i64.bits=64 from rfl,show IntKind.i64.signed=true from rfl,Bool.true_and,decide_eq_true_eq];split<;>omega
end
section
open Go.RowKit Go.Maps
open Go.ChangeMaps (setBlock)
structure U1 (C:Array Value) (pm tm cm:Nat) (sc sb used:Int):Prop where
 c0:C[0]?=some (.map (some pm))
 c1:C[1]?=some (.map (some tm))
 c2:C[2]?=some (.map (some cm))
 c3:C[3]?=some (.int .i64 sc)
 c4:C[4]?=some (.int .i64 sb)
 c5:C[5]?=some (.int .i64 used)
def j7(ps:List bf)(c:Nat)(l:Bs)(v:Value)(V:Oe):List bf:=eS ps c l v (ah ps l++[V])
def dM(ps:List bf)(l:Bs):HF:=gl ee (bM ps l)++(ah ps l).flatMap bN
theorem kN{ps:List bf}(l:Bs)(h:(ps.map (·.key)).Nodup):(gl ee ps).Perm (er (eI (.slice none 0 0) ps l) (ah ps l)++dM ps l):=by
 have:=uU ee (.slice none 0 0) [] rfl ps l h;unfold ee at this;rw[NV]at this;exact this.trans (Perm.append_left _ perm_append_comm)
theorem rx{ps:List bf}(c:Nat)(l:Bs)(v:Value)(V:Oe)(h:(ps.map (·.key)).Nodup):(gl ee (j7 ps c l v V)).Perm (er v (ah ps l++[V])++(dM ps l++bN V)):=by
 have:=uT ee ps c l v (ah ps l++[V]) h;unfold ee at this;rw[NV]at this;refine this.trans (Perm.append_left _ ?_);rw[flatMap_append];unfold dM;simp only[flatMap_cons,flatMap_nil,append_nil];rw[NV (gl ee (bM ps l))];exact perm_append_comm
theorem uM{ps:List bf}{c:Nat}(hok:OL ps c)(l:Bs):eP (eI (.slice none 0 0) ps l) (ah ps l):=by
 unfold eI ah Qr
 cases hf:ps.find? (fun p=>decide (p.key=l))with
 | none=>exact⟨rfl,fun _=>⟨rfl,rfl⟩⟩
 | some p=>exact(hok.rows p (mem_of_find?_eq_some hf)).1
theorem Jb:(prog.info? 149).map (fun i=>(i.zero,i.size,i.bytes))=some (some (.pointer none),1,8):=Nc
theorem Ee{o:Oper}{a:Act}{w a0:World}{K:Act->World->Prop}{Q:Exit->Act->World->Prop}{F G:HF}(s x:Operand)(hop:o.op=.call { callee:=.builtin .append,args:=#[s,x],argTypes:=#[153,153] })(v:Value)(l:List Oe)(hs:a.eval s=v)(hT:Turns F (er v l++G) a0 w)(hok:eP v l)(sa:Option Addr)(m c:Nat)(hx:a.eval x=.slice sa m c)(r:List Oe)(hm:m=r.length)(hc:0<m->∃ad,sa=some ad/\∀j u,(r.map dN)[j]?=some u->w.cell? (ad.add j)=some u)(hb:l.length+r.length<=1000000)(hk:∀v' w',eP v' (l++r)->Turns F (er v' (l++r)++G) a0 w'->K (a.put o.dst v') w'):o.wp prog a w K Q:=by
 obtain⟨i0,hi0,hz1,hz2,hz3⟩:=info_parts Jb;refine cL s x 153 149 i0 (.pointer none) 1 8 hop underlying153 hi0 hz1 hz2 hz3 rfl Nk v l.length (l.map dN) hs hT hok sa m c hx (r.map dN) (by simp[hm]) hc (fun u hu=>by obtain⟨y,_,rfl⟩:=mem_map.1 hu;rfl) (by unfold maxLen;omega) Nb (fun v' w' h1 h2 h3=>?_);exact hk v' w' (by unfold eP;rw[NM,NW,<- hm];exact h1) (by unfold er;rw[NM,NW,<- hm];exact h2)
def Hd(b pm c:Nat)(ps:List bf)(l:Bs)(V:Oe)(C:Array Value)(ty:TypeId)(used:Int)(w:World)(e:Ending)(w':World):Prop :=
 ∃v',e=.returned (.tuple #[])/\eP v' (ah ps l++[V]) /\
  Turns ((b,Is (.cells C ty (0,0)))::(aG pm ps c++bN V)) ((b,Is (.cells (C.setIfInBounds 5 (.int .i64 (used+V.size))) ty (0,0)))::aG pm (j7 ps c l v' V) (cy (ps.map aR) c l)) w w'
theorem qW(b pm tm cm c:Nat)(sc sb used:Int)(ps:List bf)(l:Bs)(V:Oe)(C:Array Value)(ty:TypeId)(w:World)(h:Sat w ((b,Is (.cells C ty (0,0)))::(aG pm ps c++bN V)))(hC:U1 C pm tm cm sc sb used)(hok:OL ps c)(hl:Py l)(hlen:(ah ps l).length<=100000)(hus : -4611686018427387904<=used/\used+V.size<=4611686018427387904)(hvs:V.size<=4611686018427387904):
  Calls prog 84 #[.pointer (some ⟨b,0,none⟩),str l,dN V] w (Hd b pm c ps l V C ty used w):=by
 obtain⟨O,hO⟩:=Na (.cells C ty (0,0):Obj);rw[<- hO]at h
 have hT0:Turns ((b,Is O)::(aG pm ps c++bN V)) (er (eI (.slice none 0 0) ps l) (ah ps l)++((b,Is O)::(pm,Is (aU str (ps.map aR) c))::(dM ps l++bN V))) w w:=by
  refine(Turns.refl h).to ?_;have hp:=kN l (by rw[<- cQ];exact hok.map.nodup);unfold aG;refine((Perm.cons _ (Perm.cons _ (hp.append_right _)))).trans ?_;refine(perm_append_comm (l₁:=[(b,Is O),(pm,Is (aU str (ps.map aR) c))]) (l₂:=er (eI (.slice none 0 0) ps l) (ah ps l)++dM ps l++bN V)).trans ?_;simp only[NV];refine Perm.append_left _ ?_;rw[<- NV];exact perm_append_comm
 obtain⟨v0,hv0⟩:=Na (eI (.slice none 0 0) ps l);obtain⟨vs,Tt⟩:=Na (ah ps l)
 have hok0:eP v0 vs:=by
  rw[hv0,Tt];exact uM hok l
 obtain⟨R1,hR1⟩:=Na (dM ps l++bN V);obtain⟨F0,TM⟩:=Na ((b,Is O)::(aG pm ps c++bN V));obtain⟨M,hM⟩:=Na (aU str (ps.map aR) c);rw[<- hv0,<- Tt,<- hR1,<- TM,<- hM]at hT0;have HH:=NZ (NK hT0 (NK hO (NK hM (NK hv0 (NK Tt (NK hR1 (NK TM (NK hok0 (NK hok (NK hl hC))))))))));have HL:=Ob (Tt ▸ hlen) hus;have HW:=NZ (show IntKind.i64.wrap (used+V.size)=used+V.size from IntWalk.i64_in _ Nb);clear h hT0 hO hM hv0 Tt hR1 TM hok0 hok hl hC hus hlen hvs;unfold dN;go_enter func84,ntmps84;go_wp2_with fail;refine cH [([0,1,2,3,4,5,6,7,8,9,10,11],12,[0,1,2,3,4,5,6,7,8,9,10]),([],13,[0,1,2,3,4]),([],14,[])] [] HM.o Nc fun W tW=>?_
 simp only[Mix,map_cons,map_nil,nth,QG,QF];have hT:=tW HH.a;clear tW;have g:∀{W:World},W.heap[b]?=some O->W.cell? ⟨b,0,none⟩=some (.map (some pm)):=fun h=>aa (HH.b ▸ h) 0 HH.q.y.c0
 have look:=fun {W:World} (h:W.heap[pm]?=some M) (o:Oper) ho (a:Act) h1 h2=>A9 (P:=prog) (o:=o) (a:=a) dR (.tmp 14) (.tmp 15) ho underlying119 (HH.c ▸ h) HH.q.a.map (fI W) l h1 h2 HH.q.b
 simp only[cX,<- HH.d]at look;have g0:=g (hT.sat.Q7 Nh);repeat still_step
 refine cq rfl (look (hT.sat.Q7 Nh) _ rfl _ rfl rfl) ?_;simp only[Act.put,QA,QB,QC];repeat still_step
 refine wpStill_nil ?_;refine je (.cells #[.pointer (some ⟨V.blk,0,none⟩)] 149) (fun n=>.slice (some ⟨n,0,none⟩) 1 1) Nc hT fun n W1 hT1=>⟨?_,?_⟩
 ·have g1:=g (hT1.sat.Q7 Nh);repeat still_step
  exact cq rfl (look (hT1.sat.Q7 Nh) _ rfl _ rfl rfl) rfl
 have hn:=aa hT1.sat.Q5 0 rfl
 refine Ee (.tmp 16) (.tmp 18) rfl v0 vs rfl (hT1.drop (H:=er v0 vs++((b,Is O)::(pm,Is M)::R1)) bR) HH.h (some ⟨n,0,none⟩) 1 1 rfl [V] rfl (fun _=>⟨_,rfl,fun j u hu=>by
  cases j with
  | zero=>simp only[map_cons,getElem?_cons_zero,NY]at hu;rw[<- hu,Addr.add_lit];exact hn
  | succ j=>simp at hu⟩) (by have:=HL.a;simp;omega) (fun v1 W2 h1 h2=>⟨?_,?_⟩)
 ·have g1:=g (h2.sat.Q7 Nh);repeat still_step
  exact rfl
 refine lJ dR (.tmp 9) (.tmp 10) (.tmp 19) rfl underlying119 pm (ps.map aR) c (h2.to (H:=(pm,Is (aU str (ps.map aR) c))::(er v1 (vs++[V])++(b,Is O)::R1)) (by rw[HH.c];exact ac)) HH.q.a.map l v1 rfl rfl rfl HH.q.b (fun W3 h3=>⟨rfl,?_⟩);have HT3:=Ob h1 h3;clear hT g look g0 hT1 hn h1 h2 h3;simp only[Act.put,QA,QB,QC];refine wpStill_nil ?_;go_wp2_with fail;refine cH [([0,1,2,3,4,5,6,7,8,9,10],11,[])] [] HM.o Nc fun W tW=>?_
 simp only[Mix,map_cons,map_nil,nth,QG,QF];have hT:=tW HT3.z;clear tW;have hT1:=hT.to (H:=(b,Is O)::(er v1 (vs++[V])++(pm,Is (aU str (gJ (ps.map aR) c l v1) (cy (ps.map aR) c l)))::R1)) ac;rw[HH.b]at hT1;have g0:W.cell? ⟨b,5,none⟩=some (.int .i64 used):=aa hT1.sat.Q5 5 HH.q.y.c5;have g1:W.cell? ⟨V.blk,1,none⟩=some (.int .i64 V.size):=aa (hT1.sat.Q7 (b:=V.blk) (o:=dB V) (by rw[HH.f];simp[bN])) 1 rfl;have g2:=HW.o;repeat still_step
 refine wpStill_nil ?_;refine aX 3 (.tmp 30) (.tmp 28) rfl b 5 C ty (.int .i64 (used+V.size)) hT1 rfl rfl (Array.getElem?_eq_some_iff.1 HH.q.y.c5).1 Nc rfl rfl (fun W4 h4=>⟨rfl,?_⟩);have QX:=NZ h4;clear hT hT1 g0 g1 g2 h4;refine wpStill_nil ?_;go_wp2_with fail;refine bodyPost_end (results_none rfl _ _ _) rfl ⟨v1,rfl,by rw[<- HH.e];exact HT3.a,?_⟩;rw[<- HH.b,<- HH.g];refine QX.o.to ?_;have hp:=rx c l v1 V (by rw[<- cQ];exact HH.q.a.map.nodup);rw[<- HH.e,<- HH.f]at hp;unfold aG j7;rw[iI,<- HH.e];have h1:=(Perm.cons (b,Is (.cells (C.setIfInBounds 5 (.int .i64 (used+V.size))) ty (0,0))) (Perm.cons (pm,Is (aU str (gJ (ps.map aR) c l v1) (cy (ps.map aR) c l))) hp)).symm;unfold j7 at h1;rw[<- HH.e]at h1;exact Perm.trans ac h1
end
section
open Go.RowKit
def zI(A:Oq)(w:World)(e:Ending)(w':World):Prop:=e=.returned (.int .i64 ((A.count:Int)*128-A.end_))/\aV w w'
theorem tD(ab d:Nat)(A:Oq)(w:World)(h:Sat w (aq ab d A))(h1:A.count<=1073741824)(h2:A.end_<=128*A.count):
  Calls prog 119 #[.pointer (some ⟨ab,0,none⟩)] w (zI A w):=by
 have hab:=h.Q5;have a2:=aa hab 2 (sV d A);have a3:=aa hab 3 (nG d A);have e1:IntKind.i64.wrap ((A.count:Int)*128)=(A.count:Int)*128:=IntWalk.i64_in _ Nb;have e2:IntKind.i64.wrap ((A.count:Int)*128-(A.end_:Int))=(A.count:Int)*128-(A.end_:Int):=IntWalk.i64_in _ Nb;clear h hab;go_enter func119,ntmps119;go_wp2_with fail;go_quiet (fail);go_wp2_with fail;go_ret;exact⟨rfl,(N7.refl _ w).drewN _⟩
def tE(X:Om)(w:World)(e:Ending)(w':World):Prop:=e=.returned (.tuple #[.agg #[.int .i64 X.sc,.int .i64 X.sb],.nilIface])/\aV w w'
def ye(w:World)(e:Ending)(w':World):Prop:=e=.returned (.tuple #[.agg #[.int .i64 0,.int .i64 0],.iface 49 (.int .i64 9)])/\aV w w'
theorem zL(a:Nat)(X:Om)(w:World)(h:w.heap[a]?=some (aL X))(hc:X.closed=false):
  Calls prog 26 #[.pointer (some ⟨a,0,none⟩)] w (tE X w):=by
 have a3:w.cell? ⟨a,3,none⟩=some (.int .i64 X.sc):=aa h 3 rfl;have a4:w.cell? ⟨a,4,none⟩=some (.int .i64 X.sb):=aa h 4 rfl;have a10:w.cell? ⟨a,10,none⟩=some (.bool false):=by rw[<- hc];exact aa h 10 rfl
 have hal:=ae h;go_enter func26,ntmps26;go_wp2_with fail;go_wp2_with fail;exact bodyPost_ret (jD rfl _ _ w.heap.size 74 _ (0,0) _ rfl (aM w _) underlying74 rfl Nc) rfl ⟨rfl,(N7.refl _ w).alloc _⟩
theorem vK(a:Nat)(X:Om)(w:World)(h:w.heap[a]?=some (aL X))(hc:X.closed=true):
  Calls prog 26 #[.pointer (some ⟨a,0,none⟩)] w (ye w):=by
 have a10:w.cell? ⟨a,10,none⟩=some (.bool true):=by rw[<- hc];exact aa h 10 rfl
 have hal:=ae h;go_enter func26,ntmps26;go_wp2_with fail;exact bodyPost_ret (jD rfl _ _ w.heap.size 74 _ (0,0) _ rfl (aM w _) underlying74 rfl Nc) rfl ⟨rfl,(N7.refl _ w).alloc _⟩
def J5(b:Bs)(w:World)(e:Ending)(w':World):Prop:=e=.returned (.agg (aw (be (dz 1 b) 4)))/\aV w w'
theorem sg(a:Option Addr)(cap:Nat)(b:Bs)(w:World)(h:ak w a (b.map am))(hl:b.length<=1099511627776):
  Calls prog 126 #[.slice a b.length cap] w (J5 b w):=by
 have HS:=NZ (fun W (hW:aV w W)=>jR a cap 1 b W (h.keep hW (fun _ _ _=>id)) hl);have hs:=nj 1 b;obtain⟨s,hse⟩:=Na (dz 1 b);rw[<- hse]at hs;have HE:=NZ hse;clear h hl hse;go_enter func126,ntmps126;go_wp2_with fail;refine(HS.o _ ((N7.refl _ w).alloc _)).mono ?_;rintro e w1 ⟨rfl,hs1⟩;rw[<- HE.o];have hn:=hs1.at (aM w (.cells #[.int .u8 0,.int .u8 0,.int .u8 0,.int .u8 0] 251)) id;have hth:=dA hn 0 4 Nh;obtain⟨q1,q2⟩:=dQ hn ((be s 4).map am) (by simp[cf]);have hq:=tU s hs;rw[hq]at q1 q2;have hsz:aV w (w1.setCells w.heap.size 0 [.int .u8 ((s:Int) / 16777216),.int .u8 ((s:Int) / 65536%256),.int .u8 ((s:Int) / 256%256),.int .u8 ((s:Int)%256)]):=(((N7.refl _ w).alloc _).trans hs1).trans' q2 (fun i hi=>.inr Nb);have H:=OW hth q1 hsz hq;clear hn hth q1 q2 hs1 hq hsz;go_wp2_with ((refine wpList_store_mid rfl 251 (.tmp 2) (.tmp 17) rfl w.heap.size 0 #[.int .u8 ((s:Int) / 16777216),.int .u8 ((s:Int) / 65536%256),.int .u8 ((s:Int) / 256%256),.int .u8 ((s:Int)%256)] rfl rfl H.a Nc (by simp[Value.oneCell']) ?_;simp only[Act.put]));refine bodyPost_ret (results_cell_row rfl _ _ w.heap.size 251 _ (0,0) _ rfl H.b underlying251 rfl Nc) rfl ⟨?_,H.c⟩;unfold aw;rw[<- HE.o,H.x]
end
section
open Go.RowKit Go.Maps
open Go.ChangeMaps (setBlock)
def vV(k:Bs):Value:=.agg (aw k)
def Zb(k:Bs):Prop:=k.length=4
theorem IP:∀{a b:Bs},a.map am=b.map am->a=b:=by
 intro a;induction a with
 | nil=>intro b h;cases b with
  | nil=>rfl
  | cons y r=>simp at h
 | cons x r ih =>
  intro b h
  cases b with
  | nil=>simp at h
  | cons y q =>
   simp only[map_cons,List.cons.injEq,am,Value.int.injEq,true_and]at h;obtain⟨h1,h2⟩:=h;rw[ih h2,UInt8.toNat_inj.1 (show x.toNat=y.toNat by omega)]
theorem Dw:Pz prog 251 vV Zb where
 keyed:=Keyed.of_law (deep_law_laid (m:=2) Nc Nk (of_decide_eq_true Nc) Nc Nc)
 inj:=fun a b h=>by
  simp only[vV,Value.agg.injEq,aw]at h
  have h2:a.map am=b.map am:=by simpa using h
  exact IP h2
 key:=fun a ha=>by
  refine⟨.string (keyBytes (a.map fun x=>Lit.int .u8 x.toNat)),?_⟩
  have ht:prog.underlying 251=some (.array 4 5):=underlying251
  have hc:prog.cellsOf 251=4:=Nc
  have hk2:prog.keyType 251=true:=Nc
  have hsz:prog.types.size+1=362+1:=Nc
  unfold keyOf vV
  rw[ht]
  have ha:a.length=4:=ha
  simp only[hk2,Value.formed,ht,hc,bL,ha,beq_self_eq_true,Bool.and_self,if_true]
  rw[hsz]
  show(prog.keyLits (362-1+2) 251 (aw a).toList).map _=_
  rw[show(aw a).toList=a.map am from rfl,pQ ht hc _ a ha]
  rfl
abbrev kx:=GE (List (Nat×Nat))
def aQ(cm:Nat)(cs:List kx)(c:Nat):HF:=(cm,Is (aU vV (cs.map aR) c))::gl aZ cs
structure O7 (cs:List kx) (c:Nat):Prop where
 map:OO Zb (cs.map aR) c
 rows:∀p∈cs,bQ p.val p.g
def bd(cs:List kx)(k:Bs):List (Nat×Nat):=Qr [] cs k
theorem pF(w:World):(zeroValue 150).run prog w=.ok (.slice none 0 0) w:=Nc
theorem Gb:(prog.info? 161).map (fun i=>(i.zero,i.size,i.bytes))=some (some (.agg #[.int .i64 0,.int .i64 0]),2,16):=Nc
theorem kT{o:Oper}{a:Act}{w a0:World}{K:Act->World->Prop}{Q:Exit->Act->World->Prop}{F G:HF}(s x:Operand)(hop:o.op=.call { callee:=.builtin .append,args:=#[s,x],argTypes:=#[150,150] })(v:Value)(l:List (Nat×Nat))(hs:a.eval s=v)(hT:Turns F (aZ v l++G) a0 w)(hok:bQ v l)(sa:Option Addr)(m c:Nat)(hx:a.eval x=.slice sa m c)(r:List (Nat×Nat))(hm:m=r.length)(hc:0<m->∃ad,sa=some ad/\∀j u,(cZ r)[j]?=some u->w.cell? (ad.add j)=some u)(hb:l.length+r.length<=1000000)(hk:∀v' w',bQ v' (l++r)->Turns F (aZ v' (l++r)++G) a0 w'->K (a.put o.dst v') w'):o.wp prog a w K Q:=by
 obtain⟨i0,hi0,hz1,hz2,hz3⟩:=info_parts Gb;have hpv:cZ (l++r)=cZ l++cZ r:=by simp[cZ]
 refine cL s x 150 161 i0 (.agg #[.int .i64 0,.int .i64 0]) 2 16 hop underlying150 hi0 hz1 hz2 hz3 rfl Nk v l.length (cZ l) hs hT hok sa m c hx (cZ r) (by rw[eO,hm];omega) hc (fun u hu=>?_) (by unfold maxLen;omega) Nb (fun v' w' h1 h2 h3=>?_)
 ·obtain⟨p,_,hp⟩:=mem_flatMap.1 hu;simp only[rz,mem_cons,not_mem_nil,or_false]at hp;rcases hp with rfl|rfl<;>rfl
 ·exact hk v' w' (by unfold bQ;rw[NM,hpv,<- hm];exact h1) (by unfold aZ;rw[NM,hpv,<- hm];exact h2)
def Hm(b cm c:Nat)(cs:List kx)(body:Bs)(q:Nat×Nat)(C:Array Value)(ty:TypeId)(sc sb:Int)(w:World)(e:Ending)(w':World):Prop :=
 ∃v',e=.returned (.tuple #[])/\bQ v' (bd cs (be (dz 1 body) 4)++[q]) /\
  Turns ((b,Is (.cells C ty (0,0)))::aQ cm cs c) ((b,Is (.cells ((C.setIfInBounds 3 (.int .i64 (sc+1))).setIfInBounds 4 (.int .i64 (sb+body.length))) ty (0,0)))::aQ cm (eS cs c (be (dz 1 body) 4) v' (bd cs (be (dz 1 body) 4)++[q])) (cy (cs.map aR) c (be (dz 1 body) 4))) w w'
theorem DF{cs:List kx}{c:Nat}(hok:O7 cs c)(k:Bs):bQ (eI (.slice none 0 0) cs k) (bd cs k):=by
 unfold eI bd Qr
 cases hf:cs.find? (fun p=>decide (p.key=k))with
 | none=>exact⟨rfl,fun _=>⟨rfl,rfl⟩⟩
 | some p=>exact hok.rows p (mem_of_find?_eq_some hf)
theorem pu(b pm tm cm c:Nat)(sc sb used:Int)(cs:List kx)(body:Bs)(a:Option Addr)(cap:Nat)(q:Nat×Nat)(C:Array Value)(ty:TypeId)(w:World)(h:Sat w ((b,Is (.cells C ty (0,0)))::aQ cm cs c))(hC:U1 C pm tm cm sc sb used)(hok:O7 cs c)(hb:ak w a (body.map am))(hlen:(bd cs (be (dz 1 body) 4)).length<=100000)(hbl:body.length<=1000000)(hsc : -4611686018427387904<=sc/\sc<=4611686018427387904)(hsb : -4611686018427387904<=sb/\sb<=4611686018427387904):
  Calls prog 83 #[.pointer (some ⟨b,0,none⟩),.slice a body.length cap,.agg #[.int .i64 q.1,.int .i64 q.2]] w (Hm b cm c cs body q C ty sc sb w):=by
 obtain⟨k,hk⟩:=Na (be (dz 1 body) 4);have hk4:Zb k:=by rw[hk];exact cf _ _
 obtain⟨O,hO⟩:=Na (.cells C ty (0,0):Obj);obtain⟨M,hM⟩:=Na (aU vV (cs.map aR) c);obtain⟨v0,hv0⟩:=Na (eI (.slice none 0 0) cs k);obtain⟨pl,hpl⟩:=Na (bd cs k);obtain⟨R1,hR1⟩:=Na (gl aZ (bM cs k));have hok0:bQ v0 pl:=by rw[hv0,hpl];exact DF hok k
 obtain⟨F0,TM⟩:=Na ((b,Is O)::aQ cm cs c);rw[<- hO,<- TM]at h
 have hT0:Turns F0 (aZ v0 pl++((b,Is O)::(cm,Is M)::R1)) w w:=by
  refine(Turns.refl h).to ?_;have hp:=uU aZ (.slice none 0 0) [] rfl cs k (by rw[<- cQ];exact hok.map.nodup);rw[<- hv0,<- hR1]at hp;rw[TM,hM,hpl];unfold aQ bd;exact(Perm.cons _ (Perm.cons _ hp)).trans ac
 have HB:=NZ (fun W (hW:aV w W)=>sg a cap body W (hb.keep hW (fun _ _ _=>id)) Nb);have HH:=NZ (NK hT0 (NK hO (NK hM (NK hv0 (NK hpl (NK hR1 (NK TM (NK hok0 (NK hok (NK hk4 (NK hC hk)))))))))));have HL:=NZ (hpl ▸ hk ▸ hlen);clear h hT0 hO hM hv0 hpl hR1 TM hok0 hok hk4 hC hb hlen hk;go_enter func83,ntmps83;go_wp2_with fail;refine(HB.o _ ((N7.refl _ w).alloc _)).mono ?_;rintro e w1 ⟨rfl,hs1⟩;rw[<- HH.q.x];obtain⟨B5,hB5⟩:=Na w.heap.size;obtain⟨B6,UU⟩:=Na w1.heap.size;obtain⟨PO,hPO⟩:=Na (.cells #[.int .i64 q.1,.int .i64 q.2] 161 (0,0):Obj);obtain⟨KO,hKO⟩:=Na (.cells (aw k) 251 (0,0):Obj)
 have hT1:Turns F0 ((B5,Is PO)::(aZ v0 pl++((b,Is O)::(cm,Is M)::R1))) w w1:=by
  rw[hB5,hPO];exact(HH.a.Q9 _).Q8 hs1
 have hk4:k.length=4:=HH.q.b;have hn:=aM w1 (.cells #[.int .u8 0,.int .u8 0,.int .u8 0,.int .u8 0] 251);have hth:(w1.alloc (.cells #[.int .u8 0,.int .u8 0,.int .u8 0,.int .u8 0] 251)).there B6 0 (aw k).size:=by rw[UU,bL,hk4];exact dA hn 0 4 Nh
 obtain⟨q1,q2⟩:=dQ hn (k.map am) (by simp[hk4])
 have hT2:Turns F0 (aZ v0 pl++((b,Is O)::(cm,Is M)::(B6,Is KO)::(B5,Is PO)::R1)) w ((w1.alloc (.cells #[.int .u8 0,.int .u8 0,.int .u8 0,.int .u8 0] 251)).setCells B6 0 (k.map am)):=by
  have:=(hT1.Q9 (.cells #[.int .u8 0,.int .u8 0,.int .u8 0,.int .u8 0] 251)).Qa (o:=KO) q2 (by rw[hKO];exact q1);rw[<- UU]at this;exact this.to ac
 have HT2:=RV hT2 hth hPO hKO hk4 UU;rw[<- hB5];clear hT1 hT2 hth hn q1 q2 hs1 hB5 hPO hKO hk4;go_wp2_with ((rw[<- UU];refine wpList_store_mid rfl 251 (.tmp 6) (.tmp 8) rfl B6 0 (aw k) rfl rfl HT2.b (by rw[bL,HT2.e];kernel_rfl) (cS k) ?_;simp only[Act.put]));clear UU;refine cH [([0,1,2,3,4,5],6,[0,1,2,3,4]),([],7,[]),([8,10],9,[10]),([],11,[])] [] HM.o Nc fun W tW=>?_
 simp only[Mix,map_cons,map_nil,nth,QG,QF];have hT:=tW HT2.a;clear tW;have g:∀{W:World},W.heap[b]?=some O->W.cell? ⟨b,2,none⟩=some (.map (some cm)):=fun h=>aa (HH.b ▸ h) 2 HH.q.c.c2
 have L6:∀{W:World},W.heap[B6]?=some KO->W.rangeAt B6 0 (k.map am):=fun h j v hv=>aa (HT2.d ▸ h) (0+j) (by rw[Nat.zero_add];simpa[aw]using hv)
 have K4:(prog.info? 251).map (·.size)=some (k.map am).length:=by rw[NP,HT2.e];kernel_rfl
 have L5:∀{W:World},W.heap[B5]?=some PO->W.rangeAt B5 0 [.int .i64 q.1,.int .i64 q.2]:=fun h j v hv=>aa (HT2.c ▸ h) (0+j) (by rw[Nat.zero_add,<- Array.getElem?_toList];exact hv)
 have g0:=g (hT.sat.Q7 Nh);repeat still_step
 refine iR 251 (.tmp 6) rfl rfl B6 0 rfl (k.map am) _ (L6 (hT.sat.Q7 Nh)) underlying251 rfl K4 ?_;refine iR 161 (.tmp 5) rfl rfl B5 0 rfl [.int .i64 q.1,.int .i64 q.2] _ (L5 (hT.sat.Q7 Nh)) underlying161 rfl Nc ?_;refine wpStill_nil (je PO (fun n=>.slice (some ⟨n,0,none⟩) 1 1) (by rw[HT2.c];kernel_rfl) hT fun n W1 hT1=>⟨?_,?_⟩)
 ·have g0:=g (hT1.sat.Q7 Nh);repeat still_step
  exact iR 251 (.tmp 6) rfl rfl B6 0 rfl (k.map am) _ (L6 (hT1.sat.Q7 Nh)) underlying251 rfl K4 rfl
 have hT2:=hT1.to (H:=(cm,Is (aU vV (cs.map aR) c))::(aZ v0 pl++((n,Is PO)::(b,Is O)::(B6,Is KO)::(B5,Is PO)::R1))) (by rw[HH.c];exact ac);refine wpStill_nil (JU Dw (.tmp 12) (.tmp 13) rfl underlying121 cm (cs.map aR) c hT2 HH.q.a.map (pF _) k rfl rfl HH.q.b fun W2 Oa=>⟨rfl,?_⟩);rw[cX,<- HH.d];simp only[Act.put,QA,QB,QC];repeat still_step
 have hn:=Oa.sat.Q7 (b:=n) (o:=PO) Nh;rw[HT2.c]at hn
 refine wpStill_nil (kT (.tmp 14) (.tmp 16) rfl v0 pl rfl (Oa.to (H:=aZ v0 pl++((cm,Is (aU vV (Bb (cs.map aR) c k (.slice none 0 0)) (cy (cs.map aR) c k)))::(n,Is PO)::(b,Is O)::(B6,Is KO)::(B5,Is PO)::R1)) ac) HH.h (some ⟨n,0,none⟩) 1 1 rfl [q] rfl (fun _=>⟨_,rfl,fun j u hu=>by
   rw[Addr.add_lit,Nat.zero_add];exact aa hn j (by rw[<- Array.getElem?_toList];exact hu)⟩) (by have:=HL.o;simp;omega) fun v3 W3 h1 Oj=>⟨?_,?_⟩)
 ·repeat still_step
  exact rfl
 refine wpStill_nil (ww Dw (w0:=w) (.tmp 12) (.tmp 19) (.tmp 18) rfl underlying121 cm (cs.map aR) c (HH.c ▸ HH.a.sat.Q7 Nh) HH.q.a.map (pF _) k HH.q.b
  (Oj.to (H:=(cm,Is (aU vV (Bb (cs.map aR) c k (.slice none 0 0)) (cy (cs.map aR) c k)))::(aZ v3 (pl++[q])++((n,Is PO)::(b,Is O)::(B6,Is KO)::(B5,Is PO)::R1))) ac) v3 rfl rfl rfl fun W4 Og=>⟨rfl,?_⟩)
 simp only[Act.put,QA,QB,QC];refine wpStill_nil ?_;have OB:=Og.sat.Q7 (b:=b) (o:=O) Nh;rw[HH.b]at OB;have b3:W4.cell? ⟨b,3,none⟩=some (.int .i64 sc):=aa OB 3 HH.q.c.c3;have b4:W4.cell? ⟨b,4,none⟩=some (.int .i64 sb):=aa OB 4 HH.q.c.c4;have f3:=aY OB 3;have f4:=aY OB 4;have HT3:=Oz h1 Og OB;clear hT g L6 K4 L5 g0 hT1 hT2 Oa hn h1 Oj Og OB;go_wp2_with fail;refine bodyPost_end (results_none rfl _ _ _) rfl ?_;have s1:=bq HT3.y 3 (.int .i64 (sc+1));have s2:=bq s1 4 (.int .i64 (sb+body.length));have m1:=((N7.refl (fun k=>k=b) W4).set1 (i:=3) (.int .i64 (sc+1))).set1 (i:=4) (.int .i64 (sb+body.length));have hq:=(HT3.b.to (H:=(b,Is O)::(aZ v3 (pl++[q])++((n,Is PO)::(cm,Is (aU vV (gJ (cs.map aR) c k v3) (cy (cs.map aR) c k)))::(B6,Is KO)::(B5,Is PO)::R1))) ac).Qa m1 s2;refine⟨v3,rfl,?_,?_⟩
 ·rw[<- HH.q.x,<- HH.e];exact HT3.a
 ·rw[<- HH.q.x,<- HH.e,<- HH.b,<- HH.g];have hp:=uT aZ cs c k v3 (pl++[q]) (by rw[<- cQ];exact HH.q.a.map.nodup);rw[<- HH.f]at hp;unfold aQ;rw[iI];have hd:=hq.drop (H:=(b,Is (.cells ((C.setIfInBounds 3 (.int .i64 (sc+1))).setIfInBounds 4 (.int .i64 (sb+body.length))) ty (0,0)))::(cm,Is (aU vV (gJ (cs.map aR) c k v3) (cy (cs.map aR) c k)))::(aZ v3 (pl++[q])++R1)) bR;exact hd.to (Perm.cons _ (Perm.cons _ hp.symm))
end
section
def iG(x:Bs):Bs:=x++an ((128-x.length%128)%128)
def dx(x:Bs):Bs:=x.drop (128*(x.length / 128))
def bK(x:Bs):Bs:=dx x++an (128-x.length%128)
theorem fF(x:Bs):(dx x).length=x.length%128:=by simp[dx];omega
theorem lk(x:Bs):(bK x).length=128:=by simp[bK,fF,ap];omega
theorem fb(x:Bs):(iG x).length=128*((x.length+127) / 128):=by simp[iG,ap];omega
theorem my(a b:Nat):an a++an b=an (a+b):=by simp[an,replicate_append_replicate]
theorem vC(n k:Nat):(an n).drop k=an (n-k):=by simp[an]
theorem xr{x c:Bs}(h:x.length%128+c.length<=128)(h0:0<c.length):
  iG (x++c)=x.take (128*(x.length / 128))++(dx x++c++an (128-x.length%128-c.length)):=by
 have e:x=x.take (128*(x.length / 128))++dx x:=by simp[dx]
 unfold iG;conv=>lhs;arg 1;arg 1;rw[e]
 have hz:(128-(x++c).length%128)%128=128-x.length%128-c.length:=by
  rw[NM];omega
 rw[hz];simp
theorem Bq{l s1 s2:Bs}{o k:Nat}(h1:k<=s1.length)(h2:s1.length<=k+s2.length)(hf:o+k+s2.length<=l.length):
  ba (ba l o s1) (o+k) s2=ba l o (s1.take k++s2):=by
 unfold ba;have hl:(l.take o++s1++l.drop (o+s1.length)).length=l.length:=Nj
 have ht:(l.take o++s1++l.drop (o+s1.length)).take (o+k)=l.take o++s1.take k:=by
  rw[NV,take_append,take_append,NS];rw[show min o l.length=o by omega,take_take,Nat.min_eq_right Nb,show o+k-o=k by omega,show k-s1.length=0 by omega];simp
 have hd:(l.take o++s1++l.drop (o+s1.length)).drop (o+k+s2.length)=l.drop (o+(s1.take k++s2).length):=by
  rw[NV,drop_append,drop_append,NS];rw[show min o l.length=o by omega,drop_of_length_le Nj,drop_of_length_le Nb,drop_drop];simp only[nil_append,NM,NS];congr 1;omega
 rw[ht,hd];simp only[NV]
theorem DL{l x c:Bs}{o:Nat}(h:x.length%128+c.length<=128)(h0:0<c.length)(hf:o+(iG (x++c)).length<=l.length):
  ba (ba l o (iG x)) (o+128*(x.length / 128)) (dx x++c++an (128-x.length%128-c.length))=ba l o (iG (x++c)):=by
 have e1:=xr h h0;have hlen:(dx x++c++an (128-x.length%128-c.length)).length=128:=by simp[fF,ap];omega
 have hp:=fb x;have hp2:=fb (x++c);rw[NM]at hp2;rw[Bq Nb Nb Nb,e1];congr 2;unfold iG;rw[take_append_of_le_length Nb]
theorem Bp{l x c:Bs}{o:Nat}(h:x.length<128)(h1:x.length+c.length<=128)(h0:0<c.length):
  ba l o (x++c++an (128-x.length-c.length))=ba l o (iG (x++c)):=by
 have e1:=xr (x:=x) (c:=c) Nb h0;have e2:x.length / 128=0:=Nb
 have e3:x.length%128=x.length:=Nb
 rw[e1];simp only[dx,e2,e3,Nat.mul_zero,take_zero,drop_zero,nil_append]
theorem A4{x:Bs}{k:Nat}(h:128*k<=x.length):dx (x.drop (128*k))=dx x:=by
 unfold dx;rw[drop_drop,NT];congr 1;omega
theorem KZ{x c:Bs}(h:x.length%128+c.length<=128):ba (bK x) (x.length%128) c=dx x++c++an (128-x.length%128-c.length):=by
 have hl:=fF x;unfold ba bK;rw[take_left' hl,<- hl,drop_append,drop_of_length_le Nb,vC];simp only[nil_append];congr 2;omega
theorem Ci{x c:Bs}(h:x.length%128+c.length<128):bK (x++c)=dx x++c++an (128-x.length%128-c.length):=by
 unfold bK dx;have e1:(x++c).length / 128=x.length / 128:=by rw[NM];omega
 have e2:(x++c).length%128=x.length%128+c.length:=by rw[NM];omega
 rw[e1,e2,drop_append_of_le_length Nb];congr 2;omega
theorem Ch{x:Bs}(h:x.length%128=0):bK x=an 128:=by
 have:dx x=[]:=eq_nil_of_length_eq_zero (by rw[fF,h]);unfold bK;rw[this,h];rfl
theorem Kj{l data bj c:Bs}{first q:Nat}(hq:q=(data++bj).length / 128)(h:(data++bj).length%128+c.length<=128)(h0:0<c.length)(hf:128*(first+q)+128<=l.length):
  ba (if bj=[]then l else ba l (128*(first+data.length / 128)) (iG ((data++bj).drop (128*(data.length / 128))))) (128*(first+q)) (dx (data++bj)++c++an (128-(data++bj).length%128-c.length)) =
   ba l (128*(first+data.length / 128)) (iG ((data++bj++c).drop (128*(data.length / 128)))):=by
 have hx:128*(data.length / 128)<=(data++bj).length:=by rw[NM];omega
 rw[drop_append_of_le_length (l₁:=data++bj) hx,<- A4 hx];obtain⟨y,hy⟩:=Na ((data++bj).drop (128*(data.length / 128)));have hyl:y.length=(data++bj).length-128*(data.length / 128):=by rw[hy,NT]
 have em:(data++bj).length%128=y.length%128:=Nb
 rw[<- hy,em];rw[em]at h;split
 ·rename_i hb;subst hb;have hy1:y.length<128:=by rw[hyl,append_nil];omega
  have hq2:q=data.length / 128:=by rw[hq,append_nil]
  rw[hq2];have e3:y.length%128=y.length:=Nb
  have e4:dx y=y:=by unfold dx;rw[show y.length / 128=0 by omega];rfl
  rw[e3,e4];exact Bp hy1 Nb h0
 ·have hq2:128*(first+q)=128*(first+data.length / 128)+128*(y.length / 128):=Nb
  rw[hq2];refine DL h h0 ?_;have:=fb (y++c);rw[NM]at this;omega
end
section
open Go.RowKit
theorem zT(d:Nat)(A:Oq)(o:Nat)(s:Bs)(hs:o+s.length<=A.tail.length):(splice (aK d A).toList (4+o) (s.map am)).toArray=aK d { A with tail:=ba A.tail o s }:=by
 apply Array.ext';rw[cV];show splice _ (4+o) _=_;generalize hh:[Value.pointer (some ⟨d,0,none⟩),Value.int .i64 A.first,Value.int .i64 A.count,Value.int .i64 A.end_]=hd;have hl:hd.length=4:=by rw[<- hh];rfl
 unfold splice;rw[take_append,take_of_length_le Nb,hl,show 4+o-4=o by omega,take_append_of_le_length Nj,drop_append,drop_of_length_le Nb,hl];rw[show 4+o+(s.map am).length-4=o+s.length by simp;omega,drop_append_of_le_length Nj];rw[cV];simp[ba,hh]
def lenOf:Value->Nat
 | .slice _ n _=>n
 | _=>0
def Cm(ab d:Nat)(A:Oq)(L:Ol)(data b:Bs)(g off:Nat)(w:World)(v:Value)(wr:World):Prop :=
 ∃(j:Nat) (aj:Option Addr) (cj:Nat) (L':Ol),j<=b.length/\v=.slice aj (b.length-j) cj/\b.length-j<=cj/\cj<=9223372036854775807/\(0<b.length-j->aj=some ⟨g,off+j,none⟩) /\
  Turns (aq ab d A++aA d L) (aq ab d { A with end_:=data.length+j,tail:=bK (data++b.take j) }++aA d L') w wr/\Ou L'/\L'.n=L.n /\
  L'.now=(if j=0 then L.now else ba L.now (128*(A.first+data.length / 128)) (iG ((data++b.take j).drop (128*(data.length / 128)))))/\L'.N8.length<=L.N8.length+j
def Ha(ab d:Nat)(A:Oq)(L:Ol)(data b:Bs)(w:World)(e:Ending)(w':World):Prop :=
 e=.returned .nilIface/\∃L',Turns (aq ab d A++aA d L) (aq ab d { A with end_:=(data++b).length,tail:=bK (data++b) }++aA d L') w w'/\Ou L'/\L'.n=L.n /\
  L'.now=(if b=[]then L.now else ba L.now (128*(A.first+data.length / 128)) (iG ((data++b).drop (128*(data.length / 128)))))/\L'.N8.length<=L.N8.length+b.length
theorem pH(ab d:Nat)(A:Oq)(L:Ol)(data b:Bs)(a:Option Addr)(cap:Nat)(w:World)(h:Sat w (aq ab d A++aA d L))(hL:Ou L)(hA:A.first+A.count<=L.n)(hn:L.n<=1073741824)(he:A.end_=data.length)(ht:A.tail=bK data)(hfit:data.length+b.length<=128*A.count)(hb:ak w a (b.map am))(hcap:b.length<=cap)(hcap2:cap<=9223372036854775807)(hne:∀x,a=some x->x.block∉dom (aq ab d A++aA d L))(hch:L.N8.length+b.length<=137438953472):
  Calls prog 129 #[.pointer (some ⟨ab,0,none⟩),.slice a b.length cap] w (Ha ab d A L data b w):=by
 obtain⟨g,off,hgo⟩:∃g off,0<b.length->a=some ⟨g,off,none⟩:=by
  rcases Nat.eq_zero_or_pos b.length with h0|h0
  ·exact⟨0,0,fun h=>by omega⟩
  ·obtain⟨g,off,e,_⟩:=hb (by simpa using h0);exact⟨g,off,fun _=>e⟩
 have hst:Cm ab d A L data b g off w (.slice a b.length cap) w:=by
  refine⟨0,a,cap,L,Nat.zero_le _,rfl,hcap,hcap2,fun h=>by rw[hgo h];rfl,?_,hL,rfl,by rw[NR rfl],Nat.le_add_right _ _⟩;have e:({ A with end_:=data.length+0,tail:=bK (data++b.take 0) }:Oq)=A:=by rw[take_zero,append_nil,<- ht,Nat.add_zero,<- he]
  rw[e];exact Turns.refl h
 have H:=WQ h hA hn hfit hb hne hch hgo hL;have HST:=NZ hst;clear h hL hA hn he ht hfit hb hcap hcap2 hne hch hst hgo;go_enter func129,ntmps129;go_wp2_with fail;go_loopw [1] (fun v wr=>Cm ab d A L data b g off w v wr) (fun v _=>lenOf v)
 case atStart=>exact HST.o
 case round =>
  obtain⟨j,aj,cj,L',hj,rfl,hcj,hcj2,haj,hT,hL',hn',OY,hch'⟩:=hrel;by_cases hlt:j<b.length
  ·obtain⟨e,hee⟩:=Na (data.length+j);obtain⟨T,Xa⟩:=Na (bK (data++b.take j));rw[<- hee,<- Xa]at hT;have hTl:T.length=128:=by rw[Xa,lk]
   obtain⟨t,htt⟩:=Na (e%128);obtain⟨r,hr⟩:=Na (b.length-j);have hab:=iu hT.sat;have a0:=aa hab 0 (lO d _);have a1:=aa hab 1 (lP d _);have a3:=aa hab 3 (nG d _);have f3:=aY hab 3;simp only at a1 a3;have haj:=haj Nb;subst haj;have hrp:0<r:=Nb
   have het:(e:Int)%128=(t:Int):=Nb
   have ht1:(t:Int)<=128:=Nb
   have ht2:¬t=128:=Nb
   have hal:ab<wr.heap.size:=ae hab;have HT:=Uh hT hL' hn' OY hch' hab hTl Xa;have HE:=Oz hee htt hr;have he0:(e:Int)<=1099511627776:=by have:=H.d;have:=H.b;have:=H.c;omega
   rw[<- hr];clear hT hL' hn' OY hch' hab hTl Xa hee htt hr HST hj hlt;obtain⟨c,hc⟩:=Na ((b.drop j).take (min r (128-t)));have hcl:c.length=min r (128-t):=by rw[hc,NS,NT,<- HE.y];omega
   have hsrc:∀i v,(c.map am)[i]?=some v->wr.cell? ((⟨g,off+j,none⟩:Addr).add i)=some v:=fun i v hv=>by
    have hbw:=H.e.keep (w':=wr) HT.a.mods (fun g' off' e hin=>H.f _ e hin);obtain⟨g',off',e',hcl'⟩:=hbw (by rw[NP];have:=HE.y;omega);have e2:=H.h (by have:=HE.y;omega);rw[e2]at e';simp only[NY,Addr.mk.injEq,and_true]at e';obtain⟨rfl,rfl⟩:=e';obtain⟨hi,rfl⟩:=List.getElem?_eq_some_iff.1 hv;have hi':i<c.length:=by simpa using hi
    rw[Addr.add_mid,show off+j+i=off+(j+i) by omega];refine(hcl' (j+i) (by rw[NP];have:=HE.y;omega)).trans ?_;simp[hc]
   have WO:=NZ (show(prog.info? 5).map (·.size)=some 1 by kernel_rfl);have SH:=Oz hc hcl hsrc;clear hc hcl hsrc;go_upto_region 4 with(refine gn rfl (.tmp 20) (.tmp 21) 38 38 rfl 5 underlying38 WO.o _ _ _ _ _ _ rfl rfl ab (4+t) (aK d { A with end_:=e,tail:=T }).toList 157 (by rw[Array.toArray_toList];exact HT.f) (c.map am) (by rw[NP];exact SH.b) (fun _=>⟨rfl,_,rfl,SH.y⟩) (by rw[NP,SH.b,Array.length_toList,j8];simp only;rw[HT.g];omega) (dF _) ?_;intro w4 hh hm4 Y0;rw[zT d _ t c (by simp only;rw[HT.g,SH.b];omega)]at hh;have H4:=Oz hh hm4 Y0;clear hh hm4 Y0);obtain⟨T2,hT2⟩:=Na (ba T t c);obtain⟨q,hq⟩:=Na (e / 128);have TS:w4.heap[ab]?=some (.cells (aK d { A with end_:=e,tail:=T2 }) 157 (0,0)):=by rw[hT2];exact H4.a
   have Oj:Turns (aq ab d A++aA d L) (aq ab d { A with end_:=e,tail:=T2 }++aA d L') w w4:=HT.a.trans (lp HT.a.sat H4.b TS rfl rfl);have X4:T2.length=128:=by rw[hT2,jN];exact HT.g;rw[HT.g,SH.b];omega
   have b0:=aa TS 0 (lO d _);have b1:=aa TS 1 (lP d _);have b3:=aa TS 3 (nG d _);simp only at b1 b3;have UJ:=oT TS;simp only at UJ;have hfq:A.first+q<L'.n:=by have:=H.d;have:=H.b;have:=HT.c;have:=HE.a;have:=HE.y;omega
   have HQ2:=NZ (show wrap64 ((A.first:Int)+(e:Int) / 128)=(A.first:Int)+(q:Int) by rw[show(e:Int) / 128=(q:Int) by omega];exact IntWalk.wrap64_in _ (by have:=H.c;have:=HT.c;omega))
   have HWr:Hid (∀W,Sat W (aA d L')->Calls prog 18 #[.pointer (some ⟨d,0,none⟩),.int .i64 ((A.first:Int)+q),.agg (T2.map am).toArray] W (jS d L' (A.first+q) T2 W)):=NZ (fun W hW=>by
    have:=ie d L' (A.first+q) T2 W hW HT.b hfq X4 (by have:=HT.e;have:=H.g;have:=HE.y;omega);exact this)
   have H5:=Ry Oj X4 UJ hT2 hq hfq TS;clear Oj X4 UJ hT2 hq hfq TS a0 a1 a3 f3 haj hal;refine wp_region_still_tail 18 HM.o Nc ?_;simp only[QE,take_zero,QD,drop_zero];iterate 17 still_step
   refine cC rfl 43 (.tmp 39) rfl ab 4 rfl (T2.map am) _ H5.c underlying43 rfl (gT H5.b) ?_;refine wpStill_nil ?_;simp only[Act.put,QA,QB,QC];change wpList _ _ _ _ _ w4.drew;go_wp2_with fail;rw[HQ2.o];refine(HWr.o _ (by exact(H5.a.drew.sat.right))).mono ?_;rintro ev w5 ⟨rfl,L2,hW,hL2,hn2,OQ,O9⟩;have hx:(data++b.take j).length=e:=by rw[NM,NS];have:=HE.a;have:=HE.y;omega
   have hbt:b.take (j+c.length)=b.take j++c:=by
    rw[take_add];congr 1;rw[SH.a,NS,NT];rw[take_eq_take_iff,NT];omega
   have X3:T2=dx (data++b.take j)++c++an (128-e%128-c.length):=by
    rw[H5.d,HT.t,HE.b,<- hx];exact KZ (by have:=SH.b;have:=HE.b;omega)
   have Rq:L2.now=ba L.now (128*(A.first+data.length / 128)) (iG ((data++b.take (j+c.length)).drop (128*(data.length / 128)))):=by
    rw[OQ,X3,hbt,<- NV,<- Kj (l:=L.now) (first:=A.first) (q:=q) (bj:=b.take j) (by rw[hx];exact H5.e) (by rw[hx];have:=SH.b;have:=HE.b;omega) (by have:=SH.b;have:=HE.b;omega) ?_,hx]
    ·congr 1;rw[HT.d];by_cases hj0:j=0
     ·subst hj0;simp
     ·rw[NQ hj0,NQ (fun h=>hj0 (by have h1:=congrArg length h;rw[NS]at h1;have:=HE.y;simp only[length_nil]at h1;omega))]
    ·rw[H.q.o.OU];have:=H5.f;have:=HT.c;omega
   have Og:Turns (aq ab d A++aA d L) (aq ab d { A with end_:=e,tail:=T2 }++aA d L2) w w5:=(H5.a.drew.step ac hW).to perm_append_comm;have V5:=iu Og.sat;have b3:=aa V5 3 (nG d _);have f3:=aY V5 3;simp only at b3
   have hset:(w5.setCell ⟨ab,3,none⟩ (.int .i64 ((e:Int)+(c.length:Int)))).heap[ab]?=some (.cells (aK d { A with end_:=e+c.length,tail:=T2 }) 157 (0,0)):=by
    rw[bq V5 3,show((e:Int)+(c.length:Int))=((e+c.length:Nat):Int) by omega,tM]
   have Ox:Turns (aq ab d A++aA d L) (aq ab d { A with end_:=e+c.length,tail:=T2 }++aA d L2) w (w5.setCell ⟨ab,3,none⟩ (.int .i64 ((e:Int)+(c.length:Int)))) :=
    Og.trans (lp Og.sat ((N7.refl (fun k=>k=ab) w5).set1 (i:=3) _) hset rfl rfl)
   have hth:(w5.setCell ⟨ab,3,none⟩ (.int .i64 ((e:Int)+(c.length:Int)))).there ab 4 (aw (an 128)).size:=by
    rw[bL,ap];exact dA hset 4 128 (by rw[j8];simp only;rw[H5.b];omega)
   have hcm:c.length<=r:=by have:=SH.b;omega
   have hcr:r<=cj:=by rw[HE.y];exact hcj
   have hc0:(0:Int)<=(c.length:Int):=Nb
   have hcr2:(c.length:Int)<=(r:Int):=Nb
   have hcr3:(r:Int)<=(cj:Int):=Nb
   have VG:=Ry hL2 (hn2.trans HT.c) Rq O9 hx hbt X3;have H6:=Oz Ox hset hth;clear hL2 hn2 Rq O9 hx hbt X3 Og V5 Ox hset hth hW OQ hcj hcm hcr
   have hrel:∀(W:World) (tl:Bs) (aj2:Option Addr) (n2 cj2:Nat),n2=r-c.length->Turns (aq ab d A++aA d L) (aq ab d { A with end_:=e+c.length,tail:=tl }++aA d L2) w W->tl=bK (data++b.take (j+c.length))->r-c.length<=cj2->cj2<=9223372036854775807->(0<r-c.length->aj2=some ⟨g,off+j+c.length,none⟩) ->
     Cm ab d A L data b g off w (.slice aj2 n2 cj2) W:=fun W tl aj2 n2 cj2 hn2 hTW htl h1 h2 h3=>by
    subst hn2;subst htl;refine⟨j+c.length,aj2,cj2,L2,?_,?_,?_,h2,?_,?_,VG.a,VG.b,?_,?_⟩
    ·have:=SH.b;have:=HE.y;omega
    ·rw[show b.length-(j+c.length)=r-c.length by have:=HE.y;omega]
    ·have:=HE.y;omega
    ·intro h4;rw[h3 (by have:=HE.y;omega),Nat.add_assoc]
    ·rw[show data.length+(j+c.length)=e+c.length by have:=HE.a;omega];exact hTW
    ·rw[NQ (by have:=SH.b;omega)];exact VG.c
    ·have:=VG.d;have:=HT.e;have:=SH.b;omega
   have hlen2:(data++b.take (j+c.length)).length=e+c.length:=by rw[VG.f,<- NV,NM,VG.e]
   have hc0p:0<c.length:=by have:=SH.b;omega
   have hc128:(c.length:Int)<=128:=by have:=SH.b;omega
   by_cases hfull:t+c.length=128
   ·have hz:((e:Int)+(c.length:Int))%128=0:=Nb
    have htf:=Ch (x:=data++b.take (j+c.length)) (by rw[hlen2];omega);have hsz3:(aK d { A with end_:=e+c.length,tail:=T2 }).toList.length=133:=by rw[Array.length_toList,j8];simp only;rw[H5.b]
    obtain⟨q1,q2⟩:=fp (C:=(aK d { A with end_:=e+c.length,tail:=T2 }).toList) (by rw[Array.toArray_toList];exact H6.b) 4 ((an 128).map am) (by rw[NP,ap,hsz3];omega);rw[qX d { A with end_:=e+c.length,tail:=T2 } (an 128) (by rw[ap];simp only;rw[H5.b];omega)]at q1;have hp0:ba T2 0 (an 128)=an 128:=by unfold ba;rw[take_zero,nil_append,drop_of_length_le (by rw[ap,H5.b];omega),append_nil]
    simp only[hp0]at q1;have OH:=H6.a.trans (lp H6.a.sat q2 q1 rfl rfl);have HZ:=NZ nU;have HX:=OW OH htf q1 hrel;clear OH htf q1 q2 hp0 hlen2 hrel;by_cases hcc:cj=c.length
    ·obtain rfl:r=c.length:=Nb
     subst hcc;go_wp2_with (first|(refine bT rfl 43 #[] rfl (aw (an 128)) HZ.o ?_)|(refine wpList_store_mid rfl 43 (.tmp 65) (.tmp 63) rfl ab 4 (aw (an 128)) rfl rfl H6.y (gU (ap 128)) (cS _) ?_;simp only[Act.put]))
     all_goals
      go_roundw
      case rel=>exact HX.x _ _ (some ⟨g,off+j,none⟩) 0 0 Nb HX.a HX.b.symm Nb Nb Nb
      case measure=>simp[lenOf];omega
    ·go_wp2_with (first|(refine bT rfl 43 #[] rfl (aw (an 128)) HZ.o ?_)|(refine wpList_store_mid rfl 43 (.tmp 65) (.tmp 63) rfl ab 4 (aw (an 128)) rfl rfl H6.y (gU (ap 128)) (cS _) ?_;simp only[Act.put]))
     all_goals
      go_roundw
      case rel=>exact HX.x _ _ (some ⟨g,off+j+c.length,none⟩) (r-c.length) (cj-c.length) rfl HX.a HX.b.symm Nb Nb (fun _=>rfl)
      case measure=>simp[lenOf];omega
   ·have hz:¬((e:Int)+(c.length:Int))%128=0:=by have:=SH.b;omega
    have htn:T2=bK (data++b.take (j+c.length)):=by
     rw[VG.u,VG.f,<- NV,Ci (by rw[VG.e];have:=SH.b;omega),VG.e]
    have HX:=Ob htn hrel;clear htn hlen2 hrel;by_cases hcc:cj=c.length
    ·obtain rfl:r=c.length:=Nb
     subst hcc;go_wp2_with fail
     all_goals
      go_roundw
      case rel=>exact HX.z _ _ (some ⟨g,off+j,none⟩) 0 0 Nb H6.a HX.a Nb Nb Nb
      case measure=>simp[lenOf];omega
    ·go_wp2_with fail
     all_goals
      go_roundw
      case rel=>exact HX.z _ _ (some ⟨g,off+j+c.length,none⟩) (r-c.length) (cj-c.length) rfl H6.a HX.a Nb Nb (fun _=>rfl)
      case measure=>simp[lenOf];omega
  ·obtain rfl:j=b.length:=Nb
   have HR:=PD hT hL' hn' OY hch';clear hT hL' hn' OY hch' haj HST;simp only[Nat.sub_self];go_wp2_with fail;go_ret;refine⟨rfl,L',?_,HR.b,HR.c,?_,HR.w⟩
   ·have:=HR.a;rw[take_length]at this;rw[NM];exact this
   ·rw[HR.d,take_length];rcases b with _|⟨x,r⟩
    ·rfl
    ·simp
def eD(l:Bs)(first count:Nat)(data:Bs):Prop:=aB l first count=data++an (128*count-data.length)/\data.length<=128*count
theorem DK{l s:Bs}{a o:Nat}(h:a+o+s.length<=l.length):(ba l (a+o) s).drop a=ba (l.drop a) o s:=by
 unfold ba;rw[NV,drop_append_of_le_length Ny,drop_take,drop_drop,show a+o-a=o by omega,NV,show a+(o+s.length)=a+o+s.length by omega]
theorem DN{l s:Bs}{o n:Nat}(h:o+s.length<=n)(hn:n<=l.length):(ba l o s).take n=ba (l.take n) o s:=by
 unfold ba;rw[take_append,take_of_length_le Nj,take_take,Nat.min_eq_left Nb,drop_take];congr 2;simp;omega
theorem Nz{p:Prop}(h:p:=by rw[NT];omega):p:=h
theorem qo{l s:Bs}{first count q:Nat}(h:128*q+s.length<=128*count)(hl:128*(first+count)<=l.length):aB (ba l (128*(first+q)) s) first count=ba (aB l first count) (128*q) s:=by
 unfold aB;rw[Nat.mul_add,DK Nb,DN h Nz]
theorem kg{l s:Bs}{first count q f2 c2:Nat}(h:128*q+s.length<=128*count)(hl:128*(first+count)<=l.length)(hd:f2+c2<=first\/first+count<=f2):aB (ba l (128*(first+q)) s) f2 c2=aB l f2 c2:=by
 unfold aB ba;rcases hd with hd|hd
 ·apply ext_getElem?;intro i;rw[getElem?_take,getElem?_take];split
  ·rw[getElem?_drop,getElem?_drop,NV,getElem?_append_left Ny,getElem?_take,NR Nb]
  ·rfl
 ·congr 1;rw[drop_append,drop_of_length_le Nj,nil_append,drop_drop];congr 1;simp only[NM,NS];omega
theorem C6{l:Bs}{first count:Nat}{data b:Bs}(h:eD l first count data)(hl:128*(first+count)<=l.length)(hfit:data.length+b.length<=128*count)(hb:b≠[]):
  eD (ba l (128*(first+data.length / 128)) (iG ((data++b).drop (128*(data.length / 128))))) first count (data++b):=by
 have hbl:0<b.length:=length_pos_iff.2 hb;have hdl:((data++b).drop (128*(data.length / 128))).length=data.length%128+b.length:=by rw[NT,NM];omega
 have hpl:=fb ((data++b).drop (128*(data.length / 128)));rw[hdl]at hpl;refine⟨?_,by rw[NM];exact hfit⟩;rw[qo Nb hl,h.1];unfold ba;rw[hpl];have hd:(data++b).drop (128*(data.length / 128))=dx data++b:=drop_append_of_le_length Nb;have e:data=data.take (128*(data.length / 128))++dx data:=by simp[dx]
 rw[hd,take_append_of_le_length Nb,drop_append (l₁:=data),drop_of_length_le Nb,nil_append,vC];unfold iG;rw[NM,fF];simp only[NV];rw[my,<- NV (data.take _),<- e,NM];congr 3;omega
theorem C5{L L':Ol}{A:Oq}{data b:Bs}(h:eD L.now A.first A.count data)(hl:L.now.length=128*L.n)(hA:A.first+A.count<=L.n)(hfit:data.length+b.length<=128*A.count)(hn:L'.now=(if b=[]then L.now else ba L.now (128*(A.first+data.length / 128)) (iG ((data++b).drop (128*(data.length / 128)))))):
  eD L'.now A.first A.count (data++b)/\∀f2 c2,(f2+c2<=A.first\/A.first+A.count<=f2)->aB L'.now f2 c2=aB L.now f2 c2:=by
 by_cases hb:b=[]
 ·subst hb;rw[NR rfl]at hn;rw[hn];exact⟨by rw[append_nil];exact h,fun _ _ _=>rfl⟩
 ·rw[NQ hb]at hn;rw[hn];refine⟨C6 h Nb hfit hb,fun f2 c2 hd=>kg ?_ Nb hd⟩;have hdl:((data++b).drop (128*(data.length / 128))).length=data.length%128+b.length:=by rw[NT,NM];omega
  rw[fb,hdl];omega
def Mr(D:List Nat)(w:World)(v:Value)(l:Bs):Prop:=∃a cap,v=.slice a l.length cap/\l.length<=cap/\cap<=9223372036854775807/\ak w a (l.map am)/\∀x,a=some x->x.block∉D/\x.block<w.heap.size
def fM(rs:List Bs):Nat:=(rs.map length).sum
theorem kR(rs:List Bs):rs.flatten.length=fM rs:=by simp[fM,length_flatten]
theorem ni{rs:List Bs}{k:Nat}(h:k<rs.length):fM (rs.take (k+1))=fM (rs.take k)+rs[k].length:=by
 unfold fM;rw[QH h,NW,sum_append];rfl
theorem nS(rs:List Bs)(k:Nat):fM (rs.take k)<=fM rs:=by
 unfold fM;have:rs.map length=(rs.take k).map length++(rs.drop k).map length:=by rw[<- NW,take_append_drop]
 rw[this,sum_append];omega
def J6(rs:List Bs)(w:World)(n i:Value)(wr:World):Prop:=∃k:Nat,k<=rs.length/\i=.int .i64 k/\n=.int .i64 (fM (rs.take k))/\aV w wr
def zp(ab d:Nat)(A:Oq)(L:Ol)(data b:Bs)(w w':World):Prop :=
 ∃L',Turns (aq ab d A++aA d L) (aq ab d { A with end_:=(data++b).length,tail:=bK (data++b) }++aA d L') w w'/\Ou L'/\L'.n=L.n/\eD L'.now A.first A.count (data++b) /\
  (∀f2 c2,(f2+c2<=A.first\/A.first+A.count<=f2)->aB L'.now f2 c2=aB L.now f2 c2)/\L'.N8.length<=L.N8.length+b.length
def Mn(ab d:Nat)(A:Oq)(L:Ol)(data:Bs)(rs:List Bs)(w:World)(i:Value)(wr:World):Prop:=∃k:Nat,k<=rs.length/\i=.int .i64 k/\zp ab d A L data (rs.take k).flatten w wr
def Co(ab d:Nat)(A:Oq)(L:Ol)(data:Bs)(rs:List Bs)(w:World)(e:Ending)(w':World):Prop :=
 (128*A.count<data.length+fM rs/\e=.returned (cr 8)/\aV w w')\/(data.length+fM rs<=128*A.count/\e=.returned .nilIface/\zp ab d A L data rs.flatten w w')
theorem pY(a:Nat)(X:Om)(ab d:Nat)(hab:ab=X.ab)(A:Oq)(L:Ol)(data:Bs)(rs:List Bs)(Y2:List Value)(sl:Option Addr)(cap:Nat)(w:World)(h:Sat w ((a,Is (aL X))::(aq ab d A++aA d L)))(hbr:X.broken=.nilIface)(hL:Ou L)(hA:A.first+A.count<=L.n)(hn:L.n<=1073741824)(he:A.end_=data.length)(ht:A.tail=bK data)(hd:eD L.now A.first A.count data)(hlen:Y2.length=rs.length)(hl:rs.length<=1000000)(hs:fM rs<=1099511627776)(hch:L.N8.length+fM rs<=137438953472)(RX:ak w sl Y2)(hsl:∀x,sl=some x->x.block∉dom (aq ab d A++aA d L))(hr:∀k (h1:k<Y2.length) (h2:k<rs.length),Mr (dom (aq ab d A++aA d L)) w Y2[k] rs[k]):
  Calls prog 82 #[.pointer (some ⟨a,0,none⟩),.slice sl rs.length cap] w (Co ab d A L data rs w):=by
 have hao:=h.Q5;have a11:w.cell? ⟨a,11,none⟩=some .nilIface:=by rw[<- hbr];exact aa hao 11 rfl
 have a7:w.cell? ⟨a,7,none⟩=some (.pointer (some ⟨ab,0,none⟩)):=by rw[hab];exact aa hao 7 rfl
 have hal:=ae hao;have HAB:=NZ hab;have H:=NZ (NK h (NK hL (NK hA (NK hn (NK he (NK ht (NK hd (NK RX (NK hsl (NK hr (NK hch (NK hlen hao))))))))))));clear h hL hA hn he ht hd RX hsl hr hch hao hbr hab;go_enter func82,ntmps82;go_wp2_with fail;go_loopw [5,22] (fun n i wr=>J6 rs w n i wr) (fun _ i _=>rs.length-(intOf i).toNat)
 case atStart=>exact⟨0,Nat.zero_le _,rfl,rfl,N7.refl _ _⟩
 case round =>
  obtain⟨k,hk,rfl,rfl,hs1⟩:=hrel;have HS:=NZ hs1;by_cases hlt:k<rs.length
  ·obtain⟨g,off,hg,hcell⟩:=H.h.keep hs1 (fun _ _ _=>id) (by have:=H.q.d;omega);have hlt2:k<Y2.length:=by have:=H.q.d;omega
   obtain⟨ra,rc,RX,-⟩:=H.q.b k hlt2 hlt;have hck:wr.cell? ⟨g,off+k,none⟩=some (.slice ra rs[k].length rc):=by rw[hcell k hlt2,RX]
   have htk:=ni hlt;obtain⟨m,hm⟩:=Na (rs[k].length);rw[<- hm]at hck htk;obtain⟨n,hn⟩:=Na (fM (rs.take k));rw[<- hn]at htk ⊢;have hb:n+m<=1099511627776:=by have:=nS rs (k+1);omega
   subst hg;have HK:=NZ htk;clear hcell RX htk hm hn hs1;go_wp2_with fail;go_roundw
   case rel=>exact⟨k+1,Nb,by go_num,by rw[HK.o];go_num,HS.o⟩
   case measure=>simp[intOf];omega
  ·obtain rfl:k=rs.length:=Nb
   rw[take_length];have b7:wr.cell? ⟨a,7,none⟩=some (.pointer (some ⟨ab,0,none⟩)):=ij hs1 a7;have hal2:a<wr.heap.size:=Nat.lt_of_lt_of_le hal hs1.size;have HR:=NZ (tD ab d A wr ((H.a.tail.left).same hs1) (by have:=H.c;have:=H.d;omega) (by rw[H.e];exact H.g.2));obtain⟨n,hn⟩:=Na (fM rs);rw[<- hn]at hs ⊢;have HN:=NZ hn;clear hn hs1;go_wp2_with fail;refine HR.o.mono ?_;rintro e w2 ⟨rfl,hs2⟩;have HS2:=NZ (HS.o.trans hs2);have b7:w2.cell? ⟨a,7,none⟩=some (.pointer (some ⟨ab,0,none⟩)):=ij hs2 b7;have hal2:a<w2.heap.size:=Nat.lt_of_lt_of_le hal2 hs2.size;clear hs2 HS HR;obtain⟨rm,hrm⟩:=Na ((A.count:Int)*128-A.end_:Int);rw[<- hrm];by_cases hfit:data.length+n<=128*A.count
   ·have hf:¬rm<(n:Int):=by have:=H.e;omega
    have UO:=Ob hrm hfit;clear hrm hfit;go_wp2_with fail
    have hst:zp ab d A L data (rs.take 0).flatten w w2:=by
     have e:({ A with end_:=(data++(rs.take 0).flatten).length,tail:=bK (data++(rs.take 0).flatten) }:Oq)=A:=by simp[<- H.e,<- H.f]
     refine⟨L,?_,H.b,rfl,by simpa using H.g,fun _ _ _=>rfl,Nh⟩;rw[e];exact Turns.same H.a.tail HS2.o
    have HST:=NZ hst;clear hst;go_loopw [41] (fun i wr=>Mn ab d A L data rs w i wr) (fun i _=>rs.length-(intOf i).toNat)
    case atStart=>exact⟨0,Nat.zero_le _,rfl,HST.o⟩
    case round =>
     obtain⟨k,hk,rfl,hm⟩:=hrel;have HMd:=NZ hm;clear hm;by_cases hlt:k<rs.length
     ·obtain⟨L',hT,hL',hn',hdat,hoth,hch'⟩:=HMd.o;have hlt2:k<Y2.length:=by have:=H.q.d;omega
      obtain⟨g,off,hg,hcell⟩:=(H.h.Qc hT H.q.a) Nb;obtain⟨ra,rc,RX,qam,Vx,Vy,Wu⟩:=H.q.b k hlt2 hlt;have Ya:=hT.old H.q.w H.a.notMem
      have c7:wr.cell? ⟨a,7,none⟩=some (.pointer (some ⟨ab,0,none⟩)):=by
       rw[HAB.o];exact aa Ya 7 rfl
      have hck:wr.cell? ⟨g,off+k,none⟩=some (.slice ra rs[k].length rc):=by rw[hcell k hlt2,RX]
      have hpre:data.length+(rs.take k).flatten.length+rs[k].length<=128*A.count:=by
       have h1:=ni hlt;have h2:=nS rs (k+1);have h3:=HN.o;have h4:=UO.z;rw[kR];omega
      have hsl2:=nS rs k
      have hAp:=pH ab d { A with end_:=(data++(rs.take k).flatten).length,tail:=bK (data++(rs.take k).flatten) } L' (data++(rs.take k).flatten) rs[k] ra rc wr hT.sat hL' (by rw[hn'];exact H.c) (by rw[hn'];exact H.d) rfl rfl
       (by rw[NM];exact hpre) (Vy.Qc hT (fun x hx=>(Wu x hx).1)) qam Vx
       (fun x hx hin=>by
        rcases hT.fresh _ hin with h'|h'
        ·exact(Wu x hx).1 h'
        ·have:=(Wu x hx).2;omega)
       (by have h1:=ni hlt;have h2:=nS rs (k+1);have h3:=H.q.c;rw[kR]at hch';omega)
      have hAp2:∃Pq:Ending->World->Prop,Calls prog 129 #[.pointer (some ⟨ab,0,none⟩),.slice ra rs[k].length rc] wr Pq/\∀e W,Pq e W->e=.returned .nilIface/\zp ab d A L data (rs.take (k+1)).flatten w W:=by
       refine⟨_,hAp,?_⟩;rintro e0 W ⟨he0,L2,hT2,hL2,hn2,OQ,O9⟩;have e:(rs.take (k+1)).flatten=(rs.take k).flatten++rs[k]:=by rw[QH hlt,flatten_append,flatten_singleton]
       rw[e];unfold zp;rw[<- NV];obtain⟨d1,d2⟩:=C5 (A:=A) hdat hL'.OU (by rw[hn'];exact H.c) (by rw[NM];exact hpre) OQ;exact⟨he0,L2,hT.trans hT2,hL2,hn2.trans hn',d1,fun f2 c2 hh=>(d2 f2 c2 hh).trans (hoth f2 c2 hh),by rw[NM];omega⟩
      obtain⟨Pq,hq1,hq2⟩:=hAp2;have HAp:=NZ hq1;have HNX:=NZ hq2;clear hq1 hq2;obtain⟨m,hm⟩:=Na (rs[k].length);rw[<- hm]at hck HAp;have HM2:=NZ hm;clear hm;subst hg;have hal3:a<wr.heap.size:=ae Ya;clear hcell RX qam Vx Vy Wu hT hL' hn' hdat hoth hch' Ya hpre hAp hsl2 b7 hal2;go_wp2_with fail;refine HAp.o.mono ?_;intro e w5 hp5;obtain⟨rfl,hr5⟩:=HNX.o e w5 hp5;have HR5:=NZ hr5;clear hp5 hr5;go_wp2_with fail;go_roundw
      case rel=>exact⟨k+1,Nb,by go_num,HR5.o⟩
      case measure=>simp[intOf];omega
     ·obtain rfl:k=rs.length:=Nb
      go_wp2_with fail;refine bodyPost_end (results_tmp rfl _ _ _) rfl ?_;refine .inr ⟨by rw[<- HN.o];exact UO.z,rfl,?_⟩;have:=HMd.o;rwa [take_length]at this
   ·have hf:rm<(n:Int):=by have:=H.e;omega
    have UO:=Ob hrm hfit;clear hrm hfit;go_wp2_with fail;go_ret;refine .inl ⟨by rw[<- HN.o];have:=UO.z;omega,rfl,HS2.o⟩
end
section
open Go.RowKit Go.Maps
theorem i5{w:World}{sl:Option Addr}{l:Bs}(cap:Nat)(h:ak w sl (l.map am)):(convert 38 9 (.slice sl l.length cap)).run prog w=.ok (str l) w:=by
 by_cases h0:l=[]
 ·subst h0
  cases sl with
  | none=>exact run_convert_bytes_nil w 38 5 underlying38 underlying5 _ _ _ underlying9
  | some x =>
   rw[run_convert_bytes_string w 38 9 5 _ _ _ underlying38 underlying5 underlying9];simp[Conv.bytesToString,loadCells,loadCellsFrom,str];try rfl
 ·have hp:0<(l.map am).length:=by simpa using length_pos_iff.2 h0
  obtain⟨g,off,rfl,hc⟩:=h hp
  have:=run_convert_bytes_arg (P:=prog) w 38 5 underlying38 underlying5 g off l.length cap (l.map fun x=>(x.toNat:Int)) Nh (fun i hi=>by
   rw[hc i (by simpa using hi)];simp[am,getD,hi]) 9 underlying9
  have e:strOfNums (l.map fun x=>(x.toNat:Int))=⟨l.toArray⟩:=by
   unfold strOfNums;rw[map_map];have:(fun x:UInt8=>x)=(fun n:Int=>UInt8.ofNat n.toNat) ∘ fun x:UInt8=>(x.toNat:Int):=by funext x;simp
   rw[<- this,map_id']
  rw[this,e]
def mI(H:Bs)(p:Nat×Nat)(b:Bs):Prop:=p.2=b.length/\lK H p.1 b
def Ff(ab d:Nat)(A:Oq)(L:Ol)(R0:HF)(pl:List (Nat×Nat))(b:Bs)(w:World)(e:Ending)(w':World):Prop :=
 (∃sp,Ov { A with spare:=sp }/\Turns (aq ab d A++R0) (aq ab d { A with spare:=sp }++R0) w w') /\
 (
  (∃p∈pl,mI (aB L.now A.first A.count) p b/\e=.returned (.tuple #[.agg #[.int .i64 p.1,.int .i64 p.2],.bool true,.nilIface])) \/
  ((∀p∈pl,¬mI (aB L.now A.first A.count) p b)/\e=.returned (.tuple #[.agg #[.int .i64 0,.int .i64 0],.bool false,.nilIface])))
theorem mN{H:Bs}{at_:Nat}{a b:Bs}(ha:lK H at_ a)(hb:lK H at_ b)(h:a.length=b.length):a=b:=by
 have h1:=ha.2;have h2:=hb.2;rw[h]at h1;rw[h1]at h2;simpa using h2
theorem Ah{w:World}{cm c:Nat}{cs:List kx}(h:Sat w (aQ cm cs c))(hok:O7 cs c)(k:Bs):∃sl cap,eI (.slice none 0 0) cs k=.slice sl (bd cs k).length cap/\(bd cs k).length<=cap/\cap<=9223372036854775807/\ak w sl (cZ (bd cs k)):=by
 unfold bd eI Qr
 cases hf:cs.find? (fun p=>decide (p.key=k))with
 | none=>exact⟨none,0,rfl,Nat.le_refl _,Nb,fun h=>by simp[cZ]at h⟩
 | some p =>
  have hm:=mem_of_find?_eq_some hf;have hp:Sat w (aZ p.val p.g):=Sat.flat (f:=fun p:kx=>aZ p.val p.g) h.tail hm;exact fc hp (hok.rows p hm)
theorem lD{P:Program}{fn:Func}{p q s:Tmp}{ty:TypeId}(h:fn.results=#[.cell p ty,.tmp q,.tmp s])(tmps:Array Value)(w:World)(g:Nat)(t:TypeId)(cs:Array Value)(fr:Nat×Nat)(d:TypeDesc)(hp:tmps.getD p undef=.pointer (some ⟨g,0,none⟩))(hg:w.heap[g]?=some (.cells cs t fr))(hu:P.underlying ty=some d)(hd:(match d with|.struct _|.array _ _=>true|_=>false)=true)(hi:(P.info? ty).map (·.size)=some cs.size):
  (results fn tmps).run P w=.ok (.tuple #[.agg cs,tmps.getD q undef,tmps.getD s undef]) w:=by
 have hp':tmps[p]?.getD undef=.pointer (some ⟨g,0,none⟩):=by simpa using hp
 simp[results,h,hp',asAddr,run_loadVar_row w g t ty cs fr d hg hu hd hi]
def aE(p:Nat×Nat):Obj:=.cells #[.int .i64 p.1,.int .i64 p.2] 161 (0,0)
def Hn(ab d r:Nat)(A:Oq)(L:Ol)(R0:HF)(pl:List (Nat×Nat))(b:Bs)(w:World)(i:Value)(W:World):Prop :=
 ∃(j:Nat) (sp:List (Nat×Nat×Nat)),j<=pl.length/\i=.int .i64 j/\Ov { A with spare:=sp }/\Turns (aq ab d A++R0) ((r,Is (aE (0,0)))::(aq ab d { A with spare:=sp }++R0)) w W /\
  ∀t (h:t<pl.length),t<j->¬mI (aB L.now A.first A.count) pl[t] b
theorem AZ(a:Nat)(X:Om)(ab d:Nat)(hab:ab=X.ab)(A:Oq)(L:Ol)(cs:List kx)(c:Nat)(b:Bs)(sl:Option Addr)(cap:Nat)(R0:HF)(w:World)(h:Sat w (aq ab d A++R0))(hsub:∀x,cnt x ((a,Is (aL X))::(aA d L++aQ X.cm cs c))<=cnt x R0)(hL:Ou L)(hA:Ov A)(hAn:A.first+A.count<=L.n)(hn:L.n<=1073741824)(hok:O7 cs c)(hb:ak w sl (b.map am))(hbs:∀x,sl=some x->x.block∉dom (aq ab d A++R0))(hbl:b.length<=1000000)(hpl:(bd cs (be (dz 1 b) 4)).length<=1000000)(hch:∀p∈bd cs (be (dz 1 b) 4),∃body,p.2=body.length/\lK (aB L.now A.first A.count) p.1 body):
  Calls prog 77 #[.pointer (some ⟨a,0,none⟩),.slice sl b.length cap] w (Ff ab d A L R0 (bd cs (be (dz 1 b) 4)) b w):=by
 obtain⟨k,hk⟩:=Na (be (dz 1 b) 4);have hk4:Zb k:=by rw[hk];exact cf _ _
 rw[<- hk]at hpl hch ⊢;obtain⟨pl,Wq⟩:=Na (bd cs k);rw[<- Wq]at hpl hch ⊢;obtain⟨r,hr⟩:=Na w.heap.size;obtain⟨F0,TM⟩:=Na (aq ab d A++R0)
 have VD:∀{W:World} {F:HF},Sat W (F++R0)->W.heap[a]?=some (aL X)/\Sat W (aA d L)/\Sat W (aQ X.cm cs c):=fun hs=>by
  have h1:=hs.right.sub hsub;exact⟨h1.Q5,h1.tail.left,h1.tail.right⟩
 obtain⟨psl,pcap,e1,e2,e3,_⟩:=Ah (VD h).2.2 hok k;rw[<- Wq]at e1 e2;have hT0:Turns F0 ((r,Is (aE (0,0)))::(aq ab d A++R0)) w (w.alloc (aE (0,0))):=by rw[hr,TM];exact(Turns.refl h).Q9 _
 have HK:=NZ (fun(W:World) (hW:ak W sl (b.map am))=>sg sl cap b W hW Nb);have HH:=NZ (NK hT0 (NK hab (NK hL (NK hA (NK hAn (NK hn (NK hok (NK hb (NK hbs (NK hch (NK hk4 (NK hk (NK Wq (NK e1 TM))))))))))))));have HS:=Ob hsub @VD;clear hT0 hab hL hA hAn hn hok hb hbs hch hk4 hk Wq e1 TM hsub VD h;go_enter func77,ntmps77;go_wp2_with fail;rw[<- hr];have hw0:w.alloc (.cells #[.int .i64 0,.int .i64 0] 161)=w.alloc (aE (0,0)):=rfl;rw[hw0];clear hw0 hr;refine cH [([0,1,2,3,4,5,9],6,[0,1,2,3,4,9])] [7,8] HM.o Nc fun W tW=>?_
 simp only[Mix,map_cons,map_nil,nth,QG,QF];have hT:=tW HH.a;clear tW;have g:∀{W:World},Turns F0 ((r,Is (aE (0,0)))::(aq ab d A++R0)) w W->W.cell? ⟨a,2,none⟩=some (.map (some X.cm)):=fun hT=>aa (HS.z (F:=(r,Is (aE (0,0)))::aq ab d A) hT.sat).1 2 rfl
 have g0:=g hT;repeat still_step
 refine wpStill_nil (aO Nc (HK.o W (HH.h.Qc hT (HH.q.u.symm ▸ HH.q.a))) ?_);rintro e w3 ⟨rfl,hs3⟩;have Oa:=hT.Q8 hs3;refine⟨_,rfl,by(have g0:=g Oa;(repeat still_step);exact rfl),?_⟩;refine cq rfl (A9 Dw (.tmp 15) (.tmp 17) rfl underlying121 (HS.z (F:=(r,Is (aE (0,0)))::aq ab d A) Oa.sat).2.2.Q5 HH.g.map (pF _) k rfl (by rw[HH.q.d];rfl) HH.q.c) ?_;rw[cX,HH.q.f];simp only[Act.put,QA,QB,QC];repeat still_step
 refine wpStill_nil ?_;have HT3:=NZ Oa;clear hT Oa g g0 hs3;go_wp2_with fail;rw[HH.q.u]at HT3;go_loopw [20] (fun i wr=>Hn ab d r A L R0 pl b w i wr) (fun i _=>pl.length-(intOf i).toNat)
 case atStart=>exact⟨0,A.spare,Nat.zero_le _,rfl,HH.d,HT3.o,fun t h h0=>by omega⟩
 case round =>
  obtain⟨j,sp,hj,rfl,hAo,hT,hno⟩:=hrel;have HR:=Oz hAo hT hno;clear hAo hT hno;by_cases hlt:j<pl.length
  ·obtain⟨psl2,pcap2,f1,f2,f3,f4⟩:=Ah (HS.z (F:=(r,Is (aE (0,0)))::aq ab d { A with spare:=sp }) HR.b.sat).2.2 HH.g k;rw[HH.q.f,<- HH.q.e]at f1;simp only[Value.slice.injEq,true_and]at f1;obtain⟨rfl,rfl⟩:=f1;rw[<- HH.q.e]at f4;obtain⟨g,off,hg,hcell⟩:=f4 NI;subst hg;obtain⟨hc1,hc2⟩:=mY hcell hlt;obtain⟨q,hq⟩:=Na (pl[j]);rw[<- hq]at hc1 hc2;obtain⟨body,hq2,hbody⟩:=HH.q.b q (hq ▸ getElem_mem hlt);obtain⟨B8,U7⟩:=Na wr.heap.size
   have OX:Turns (aq ab d A++R0) (aq ab d { A with spare:=sp }++((B8,Is (aE q))::(r,Is (aE (0,0)))::R0)) w (wr.alloc (aE q)):=by
    rw[U7];exact(HR.b.Q9 (aE q)).to ac
   have WM:=NZ (lX a X ab d HH.b { A with spare:=sp } L q.1 body ((B8,Is (aE q))::(r,Is (aE (0,0)))::R0) (wr.alloc (aE q)) OX.sat (fun x=>by have:=HS.a x;simp only[ao,af]at this ⊢;omega) HH.c HR.a HH.e HH.f hbody);rw[<- hq2]at WM;have HQ:=PD hq hq2 hbody OX U7;clear hcell hq hq2 hbody OX U7 f2 f3;go_wp2_with fail;refine WM.o.mono ?_;rintro e w4 ⟨av,cv,sp2,rfl,P7,SS,Oj⟩;have Og:=HQ.d.trans Oj;obtain⟨av',cv',hev,-,-,hav,-⟩:=aP (dh Oj.sat.left P7);simp only[Value.slice.injEq,true_and]at hev;obtain⟨rfl,rfl⟩:=hev;rw[<- HQ.w];have h8:w4.heap[B8]?=some (aE q):=Oj.sat.Q7 Nh;have hrr:w4.heap[r]?=some (aE (0,0)):=Oj.sat.Q7 Nh;have c80:w4.cell? ⟨B8,0,none⟩=some (.int .i64 q.1):=aa h8 0 rfl;have c81:w4.cell? ⟨B8,1,none⟩=some (.int .i64 q.2):=aa h8 1 rfl;have hcv1:=i5 cv hav;have ZJ:ak w4 sl (b.map am):=HH.h.Qc Og HH.q.a;have hcv2:=i5 cap ZJ;have hth:=dA (C:=#[.int .i64 0,.int .i64 0]) hrr 0 2 Nh;obtain⟨q1,q2⟩:=dQ hrr [.int .i64 q.1,.int .i64 q.2] Nh;have H4:=RV P7 SS Og hth q1 q2;have hbl4:=ae h8;clear P7 SS Oj Og hav h8 hrr ZJ hth q1 q2 hc1 hc2;by_cases hbb:body=b
   ·subst hbb;go_wp2_with ((refine wpList_store_mid rfl 161 (.tmp 4) (.tmp 39) rfl r 0 #[.int .i64 q.1,.int .i64 q.2] rfl rfl H4.d Nc (by simp[Value.oneCell']) ?_;simp only[Act.put]));refine bodyPost_ret (lD rfl _ _ r 161 _ (0,0) _ rfl H4.e underlying161 rfl Nc) rfl ?_;refine⟨⟨sp2,H4.b,?_⟩,.inl ⟨q,HQ.a ▸ getElem_mem hlt,⟨HQ.b,HQ.c⟩,rfl⟩⟩;have hq5:=(H4.c.to (H:=(r,Is (aE (0,0)))::(aJ (.slice av body.length cv) body++(aq ab d { A with spare:=sp2 }++((B8,Is (aE q))::R0)))) ac).Qa (o:=aE q) H4.v H4.e;exact hq5.drop bR
   ·have HNB:=NZ hbb;have hsn:(body==b)=false:=by simpa using hbb
    clear hbb;go_wp2_with fail;go_roundw
    case rel =>
     refine⟨j+1,sp2,Nb,by go_num,H4.b,H4.c.drop bR,fun t ht htj=>?_⟩;rcases Nat.lt_or_ge t j with h'|h'
     ·exact HR.y t ht h'
     ·obtain rfl:t=j:=Nb
      intro hc;rw[<- HQ.a]at hc;exact HNB.o (mN HQ.c hc.2 (HQ.b.symm.trans hc.1))
    case measure=>simp[intOf];omega
  ·obtain rfl:j=pl.length:=Nb
   have hrr:=HR.b.sat.Q5;have hth:=dA (C:=#[.int .i64 0,.int .i64 0]) hrr 0 2 Nh;obtain⟨q1,q2⟩:=dQ hrr [.int .i64 0,.int .i64 0] Nh;have hTe:=HR.b.Qa (o:=aE (0,0)) q2 q1;have HE:=Oz q1 hTe hth;clear hrr hth q1 q2 hTe;go_wp2_with ((refine wpList_store_mid rfl 161 (.tmp 4) (.tmp 41) rfl r 0 #[.int .i64 0,.int .i64 0] rfl rfl HE.y Nc (by simp[Value.oneCell']) ?_;simp only[Act.put]));refine bodyPost_ret (lD rfl _ _ r 161 _ (0,0) _ rfl HE.a underlying161 rfl Nc) rfl ?_;refine⟨⟨sp,HR.a,HE.b.drop bR⟩,.inr ⟨fun p hp=>?_,rfl⟩⟩;obtain⟨t,ht,rfl⟩:=mem_iff_getElem.1 hp;exact HR.y t ht ht
abbrev fJ:=GE (Bs×Int)
def mn(n:Bs)(g:Bs×Int):Value:=.agg #[str n,str g.1,.int .i64 g.2]
def bX(tm:Nat)(ts:List fJ)(tc:Nat):HF:=[(tm,Is (aU str (ts.map aR) tc))]
structure O6 (ts:List fJ) (tc:Nat):Prop where
 map:OO Py (ts.map aR) tc
 val:∀p∈ts,p.val=mn p.key p.g
def ed(body:Bs):Bs:=be (dz 1 body) 4
structure AS where
 a:Nat
 X:Om
 A:Oq
 L:Ol
 ps:List bf
 pc:Nat
 cs:List kx
 cc:Nat
 ts:List fJ
 tc:Nat
 data:Bs
 K:List (Bs×Nat×Nat)
def N9(S:AS):HF:=(S.a,Is (aL S.X))::(aq S.X.ab S.X.d S.A++(aA S.X.d S.L++(aG S.X.pm S.ps S.pc++(bX S.X.tm S.ts S.tc++aQ S.X.cm S.cs S.cc))))
def dC(data:Bs)(at_:Nat)(body:Bs):Prop:=at_+(body.length+9)<=data.length/\b5 ((data.drop at_).take (body.length+9))=some (1,body,body.length+9)
theorem dC.more{data more body:Bs}{at_:Nat}(h:dC data at_ body):dC (data++more) at_ body:=by
 refine⟨by have:=h.1;simp;omega,?_⟩;rw[drop_append_of_le_length (by have:=h.1;omega),take_append_of_le_length (by rw[NT];have:=h.1;omega)];exact h.2
theorem dC.frame{data body rest:Bs}(hl:body.length<65536):dC (data++frame 1 body++rest) data.length body:=by
 refine⟨by simp[bi],?_⟩;rw[NV,drop_left,take_append_of_le_length (by rw[bi];omega),take_of_length_le (by rw[bi];omega)];have:=jz 1 body [] Nk hl;rwa [append_nil]at this
theorem dC.Qd{l data body:Bs}{first count at_:Nat}(h:dC data at_ body)(hd:eD l first count data):lK (aB l first count) at_ body:=by
 rw[hd.1];refine⟨by have:=h.1;simp;omega,?_⟩;rw[drop_append_of_le_length (by have:=h.1;omega),take_append_of_le_length (by rw[NT];have:=h.1;omega)];exact h.2
structure Oo (S:AS):Prop where
 dev:Ou S.L
 n16:16<=S.L.n
 Px:S.L.n<=1073741824
 area:Ov S.A
 first:S.A.first=2+S.X.ep%2*au S.L.n
 count:S.A.count=au S.L.n
 end_:S.A.end_=S.data.length
 tail:S.A.tail=bK S.data
 dat:eD S.L.now S.A.first S.A.count S.data
 paths:OL S.ps S.pc
 tags:O6 S.ts S.tc
 chunks:O7 S.cs S.cc
 kin:∀k,(bd S.cs k).Perm ((S.K.filter (fun e=>decide (ed e.1=k))).map (·.2))
 Pm:∀e∈S.K,e.2.2=e.1.length/\dC S.data e.2.1 e.1
 vers:∀p∈S.ps,∀V∈p.g,(∀q∈V.N8,∃e∈S.K,e.2=q)/\V.size=(V.N8.map (·.2)).sum
 some:∀p∈S.ps,p.g≠[]
 sound:S.X.broken=.nilIface
 ep:S.X.ep<4294967296
structure QU (S:AS) (b:Nat):Prop where
 K:S.K.length<=b
 np:S.ps.length<=b
 nt:S.ts.length<=b
 vers:∀p∈S.ps,p.key.length<=255/\p.g.length<=b/\∀V∈p.g,V.num<=4294967296+b/\V.N8.length<=b/\V.size<=65536*b/\V.held.natAbs<=b
 tags:∀p∈S.ts,p.key.length<=255/\p.g.1.length<=255/\p.g.2.natAbs<=4294967296+b
 used:S.X.used.natAbs<=65536*b
 sc:S.X.sc.natAbs<=b
 sb:S.X.sb.natAbs<=65536*b
 quota:S.X.quota.natAbs<=9223372036854775807
 N8:S.L.N8.length<=262144*b
theorem Oo.fits{S:AS}(h:Oo S):S.A.first+S.A.count<=S.L.n:=by
 rw[h.first,h.count];have:=h.n16;unfold au;rcases Nat.mod_two_eq_zero_or_one S.X.ep with e|e<;>rw[e]<;>omega
theorem DI{S:AS}(h:Oo S)(k:Bs):(bd S.cs k).length<=S.K.length:=by
 rw[(h.kin k).length_eq,NP];exact length_filter_le _ _
theorem pz{S:AS}(h:Oo S){k:Bs}{q:Nat×Nat}:q∈bd S.cs k↔∃e∈S.K,ed e.1=k/\e.2=q:=by
 rw[(h.kin k).mem_iff];simp only[mem_map,mem_filter,decide_eq_true_eq];exact⟨fun⟨e,⟨h1,h2⟩,h3⟩=>⟨e,h1,h2,h3⟩,fun⟨e,h1,h2,h3⟩=>⟨e,⟨h1,h2⟩,h3⟩⟩
theorem Bl{S:AS}(h:Oo S){k:Bs}:∀q∈bd S.cs k,∃body,q.2=body.length/\lK (aB S.L.now S.A.first S.A.count) q.1 body:=fun q hq=>by
 obtain⟨e,he,_,rfl⟩:=(pz h).1 hq
 exact⟨e.1,(h.Pm e he).1,(h.Pm e he).2.Qd h.dat⟩
theorem Ma{S:AS}(h:Oo S){b:Bs}{q:Nat×Nat}(hq:q∈bd S.cs (ed b))(hc:mI (aB S.L.now S.A.first S.A.count) q b):(b,q)∈S.K:=by
 obtain⟨e,he,_,rfl⟩:=(pz h).1 hq;have:=mN ((h.Pm e he).2.Qd h.dat) hc.2 ((h.Pm e he).1.symm.trans hc.1);rw[<- this];exact he
theorem Mb{S:AS}(h:Oo S){b:Bs}{q:Nat×Nat}(he:(b,q)∈S.K):q∈bd S.cs (ed b)/\mI (aB S.L.now S.A.first S.A.count) q b :=
 ⟨(pz h).2 ⟨_,he,rfl,rfl⟩,(h.Pm _ he).1,(h.Pm _ he).2.Qd h.dat⟩
def dj:List Nat->Bs->List Bs
 | [],_=>[]
 | n::r,d=>d.take n::dj r (d.drop n)
def cK(has:List Bs):List Bs->List Bs->List Bs
 | acc,[]=>acc
 | acc,c::r=>if c∈has\/c∈acc then cK has acc r else cK has (acc++[c]) r
def bW:Nat->List Bs->List (Bs×Nat×Nat)
 | _,[]=>[]
 | at_,c::r=>(c,at_,c.length)::bW (at_+c.length+9) r
def bp(l:List Bs):Nat:=(l.map fun c=>c.length+9).sum
theorem wc(l m:List Bs):∀at_,bW at_ (l++m)=bW at_ l++bW (at_+bp l) m:=by
 induction l with
 | nil=>intro a;simp[bW,bp]
 | cons c r ih =>
  intro a;simp only[cons_append,bW,ih,bp,map_cons,sum_cons];rw[show a+c.length+9+(r.map fun c=>c.length+9).sum=a+(c.length+9+(r.map fun c=>c.length+9).sum) by omega]
theorem cI:∀(l:List Nat) (d:Bs),(dj l d).length=l.length
 | [],_=>rfl
 | _::r,d=>by simp[dj,cI r]
theorem ji:∀(l:List Nat) (d:Bs) (i:Nat) (h:i<l.length),(dj l d)[i]'(by rw[cI];exact h)=(d.drop (l.take i).sum).take l[i]
 | n::r,d,0,_=>by simp[dj]
 | n::r,d,i+1,h=>by
  simp only[dj,getElem_cons_succ]
  rw[ji r _ i (by simpa using h),drop_drop]
  simp
end
section
open Go.RowKit Go.Maps
open Go.ChangeMaps (setBlock)
section
variable {κ:Type}
def dI(b c:Nat)(done:List (OT κ)):Obj:=.mapIter (some b) c (done.map (·.born)).toArray c
theorem LB{l done:List (OT κ)}(enc:κ->Value)(_:Nat):(leftOf (l.map (dK enc)).toArray (done.map (·.born)).toArray).toList=(l.filter (fun e => !(done.map (·.born)).contains e.born)).map (dK enc):=by
 unfold leftOf;rw[Array.toList_filter,filter_map];congr 1;apply filter_congr;intro e _;simp[dK];exact decide_eq_decide.2 Iff.rfl
theorem Gg{l done todo:List (OT κ)}(hp:(done++todo).Perm l)(hn:(l.map (·.born)).Nodup):(l.filter (fun e => !(done.map (·.born)).contains e.born)).Perm todo:=by
 have hn2:((done++todo).map (·.born)).Nodup:=(hp.map _).nodup_iff.2 hn;refine(hp.symm.filter _).trans ?_;rw[filter_append]
 have h1:done.filter (fun e => !(done.map (·.born)).contains e.born)=[]:=by
  rw[filter_eq_nil_iff];intro e he;simp only[Bool.not_eq_true',Bool.not_eq_false,contains_iff_mem];simp;exact⟨e,he,rfl⟩
 have h2:todo.filter (fun e => !(done.map (·.born)).contains e.born)=todo:=by
  rw[filter_eq_self];intro e he;rw[NW,nodup_append]at hn2;simp only[Bool.not_eq_true'];rw[<- Bool.not_eq_true,contains_iff_mem];intro hm;exact hn2.2.2 e.born hm e.born (mem_map.2 ⟨e,he,rfl⟩) rfl
 rw[h1,h2];exact Perm.refl _
theorem xI{P:Program}{enc:κ->Value}{Ok:κ->Prop}{w:World}{ty:TypeId}{r b c:Nat}{l done todo:List (OT κ)}(hr:w.heap[r]?=some (dI b c done))(hb:w.heap[b]?=some (aU enc l c))(hm:OO Ok l c)(hp:(done++todo).Perm l):
  (todo=[]/\(Instr.next (.pointer (some ⟨r,0,none⟩)) false ty).run P w=.ok (.tuple #[.bool false]) w) \/
  ∃e rest w1,todo.Perm (e::rest)/\(w1=w\/w1=w.drew)/\(Instr.next (.pointer (some ⟨r,0,none⟩)) false ty).run P w=.ok (.tuple #[.bool true,enc e.key,e.val]) (setBlock w1 r (dI b c (done++[e]))):=by
 have hold:∀x∈(l.map (dK enc)).toArray.toList,x.born<c:=by
  intro x hx;obtain⟨e,he,rfl⟩:=mem_map.1 (by simpa using hx);exact hm.lt e he
 have ht:=Gg hp hm.Ri;rcases run_next_at w ty r b c c _ _ c hr hb hold (Nat.le_refl _)with⟨h0,h1⟩|⟨e,he,w1,h2,h3⟩
 ·refine .inl ⟨?_,h1⟩;have:(leftOf (l.map (dK enc)).toArray (done.map (·.born)).toArray).toList.length=0:=by simpa using h0
  rw[LB enc c,NP]at this;exact length_eq_zero_iff.1 (ht.length_eq ▸ this)
 ·rw[LB enc c]at he;obtain⟨e',he',rfl⟩:=mem_map.1 he;obtain⟨s,t,rfl⟩:=append_of_mem (ht.mem_iff.1 he');refine .inr ⟨e',s++t,w1,perm_middle,h2,?_⟩;rw[h3];simp[dI,dK]
theorem Gc{l done todo:List (OT κ)}{e:OT κ}{rest:List (OT κ)}(hp:(done++todo).Perm l)(ht:todo.Perm (e::rest)):((done++[e])++rest).Perm l:=by
 rw[NV];exact((ht.symm.append_left done).trans hp)
theorem uY{P:Program}{enc:κ->Value}{Ok:κ->Prop}{w:World}{r b c:Nat}{l done:List (OT κ)}{e:OT κ}(hr:w.heap[r]?=some (dI b c (done++[e])))(hb:w.heap[b]?=some (aU enc l c))(hm:OO Ok l c)(he:e∈l):
  (Instr.entry (.pointer (some ⟨r,0,none⟩))).run P w=.ok (.tuple #[enc e.key,e.val]) w:=by
 have hr':w.heap[r]?=some (.mapIter (some b) c ((done.map (·.born)).toArray.push (dK enc e).born) c):=by rw[hr];simp[dI,dK]
 exact run_entry_at w r b c _ _ c (dK enc e) hr' hb (by simp;exact⟨e,he,rfl⟩) (by simpa[map_map,Function.comp_def,dK]using hm.Ri)
theorem E9{P:Program}{enc:κ->Value}{w:World}{o:Oper}{a:Act}{K:Act->World->Prop}{Q:Exit->Act->World->Prop}(m:Operand){t k ev:TypeId}(hop:o.op=.range t m)(ht:P.underlying t=some (.map k ev)){b:Nat}{l:List (OT κ)}{c:Nat}(hb:w.heap[b]?=some (aU enc l c))(hmv:a.eval m=.map (some b))(hK:K (a.put o.dst (.pointer (some ⟨w.heap.size,0,none⟩))) (w.alloc (dI b c ([]:List (OT κ))))):o.wp P a w K Q:=by
 refine nu (v:=.pointer (some ⟨w.heap.size,0,none⟩)) (w':=w.alloc (dI b c ([]:List (OT κ)))) ?_ hK;have:=run_range_map (P:=P) w t k ev b _ c ht hb;simp[execOp,hop,hmv,this,Result.andThen,dI]
end
end
section
open Go.RowKit Go.Maps
open Go.ChangeMaps (setBlock)
section
variable {P:Program} {o:Oper} {a:Act} {w:World} {K:Act->World->Prop} {Q:Exit->Act->World->Prop} {F G:HF} {a0:World}
theorem iO{κ:Type}[DecidableEq κ]{k t ev:TypeId}{enc:κ->Value}{Ok:κ->Prop}(E:Pz P k enc Ok)(m x:Operand)(hop:o.op=.lookup t m x true)(ht:P.underlying t=some (.map k ev)){b:Nat}{l:List (OT κ)}{c:Nat}(hb:w.heap[b]?=some (aU enc l c))(hm:OO Ok l c){z:Value}(hz:(zeroValue ev).run P w=.ok z w)(key:κ)(hmv:a.eval m=.map (some b))(hx:a.eval x=enc key)(hk:Ok key)(hK:K (a.put o.dst (.tuple #[(dH l key).getD z,.bool (iB l key)])) w):o.wp P a w K Q:=by
 refine nu (v:=.tuple #[(dH l key).getD z,.bool (iB l key)]) (w':=w) ?_ hK;simp[execOp,hop,hmv,hx,ve E ht hb hm hz hk,Result.andThen]
end
def jl(id:Nat):Code->Option Code
 | .region i ops d=>if i=id then some (.region i ops d)else none
 | .seq a b=>match jl id a with|some r=>some r|none=>jl id b
 | .cond _ a b=>match jl id a with|some r=>some r|none=>jl id b
 | .block _ c=>jl id c
 | .scope c=>jl id c
 | .loop c=>jl id c
 | .rangeFunc _ _ a b=>match jl id a with|some r=>some r|none=>jl id b
 | _=>none
noncomputable def JG(id:Nat)(f:Func):Code:=(f.body.bind (jl id)).getD .skip
theorem KJ:(prog.info? 38).map (fun i=>(i.zero,i.size,i.bytes))=some (some (.slice none 0 0),1,24):=Nc
theorem mu{o:Oper}{a:Act}{w a0:World}{K:Act->World->Prop}{Q:Exit->Act->World->Prop}{F G:HF}(s x:Operand)(hop:o.op=.call { callee:=.builtin .append,args:=#[s,x],argTypes:=#[61,61] })(v:Value)(l:List Value)(hs:a.eval s=v)(hT:Turns F (bH 38 1 v l.length l++G) a0 w)(hok:ei 1 v l.length l)(n:Nat)(u:Value)(hx:a.eval x=.slice (some ⟨n,0,none⟩) 1 1)(hu:u.oneCell'=true)(hc:w.cell? ⟨n,0,none⟩=some u)(hb:l.length<=1000000)(hk:∀v' w',ei 1 v' (l++[u]).length (l++[u])->Turns F (bH 38 1 v' (l++[u]).length (l++[u])++G) a0 w'->K (a.put o.dst v') w'):o.wp prog a w K Q:=by
 obtain⟨i0,hi0,hz1,hz2,hz3⟩:=info_parts KJ;refine cL s x 61 38 i0 (.slice none 0 0) 1 24 hop underlying61 hi0 hz1 hz2 hz3 rfl Nk v l.length l hs hT hok (some ⟨n,0,none⟩) 1 1 hx [u] rfl (fun _=>⟨_,rfl,fun j y hj=>?_⟩) (fun y hy=>by simp at hy;subst hy;exact hu) (by unfold maxLen;omega) Nb (fun v' w' h1 h2 _=>?_)
 ·cases j with
  | zero=>simp only[getElem?_cons_zero,NY]at hj;subst hj;rw[Addr.add_lit,Nat.zero_add];exact hc
  | succ j=>simp at hj
 ·exact hk v' w' (by rw[NM];exact h1) (by rw[NM];exact h2)
end
section
open Go.RowKit Go.Maps
structure Oi where
 path:Bs
 num:Int
 cont:Bs
 cv:Value
 held:Int
structure OV where
 name:Bs
 path:Bs
 num:Int
structure Oh where
 blk:Nat
 vv:Value
 vs:List Oi
 tv:Value
 ts:List OV
 quota:Int
 closed:Bool
def lF(v:Oi):List Value:=[str v.path,.int .i64 v.num,v.cv,.int .i64 v.held]
def bG(l:List Oi):List Value:=l.flatMap lF
def oI(t:OV):List Value:=[str t.name,str t.path,.int .i64 t.num]
def cN(l:List OV):List Value:=l.flatMap oI
theorem bA(l:List Oi):(bG l).length=l.length*4:=by
 induction l with
 | nil=>rfl
 | cons a r ih=>simp only[bG,flatMap_cons,NM,length_cons]at ih ⊢;rw[ih];simp[lF];omega
theorem cn(l:List OV):(cN l).length=l.length*3:=by
 induction l with
 | nil=>rfl
 | cons a r ih=>simp only[cN,flatMap_cons,NM,length_cons]at ih ⊢;rw[ih];simp[oI];omega
theorem jr(l m:List Oi):bG (l++m)=bG l++bG m:=by simp[bG]
theorem jp(l m:List OV):cN (l++m)=cN l++cN m:=by simp[cN]
def eh(v:Value)(l:List Oi):HF:=bH 193 4 v l.length (bG l)
def mf(v:Value)(l:List Oi):Prop:=ei 4 v l.length (bG l)
def eH(v:Value)(l:List OV):HF:=bH 237 3 v l.length (cN l)
def DZ(v:Value)(l:List OV):Prop:=ei 3 v l.length (cN l)
def da(R:Oh):Array Value:=#[R.vv,R.tv,.int .i64 R.quota,.bool R.closed]
def fL(R:Oh):Obj:=.cells (da R) 60 (0,0)
def aC(R:Oh):HF:=(R.blk,Is (fL R))::(eh R.vv R.vs++eH R.tv R.ts)
structure PI (R:Oh):Prop where
 vs:mf R.vv R.vs
 ts:DZ R.tv R.ts
abbrev cU:=List (Value×Bs)
def ay(P:cU):HF:=P.flatMap fun p=>aJ p.1 p.2
def jZ(P:cU):Prop:=∀p∈P,PE p.1 p.2
def mK(P:cU)(R:Oh):Prop:=∀v∈R.vs,(v.cv,v.cont)∈P
theorem l7{P:cU}(h:jZ P){w:World}(hs:Sat w (ay P)){v:Value}{l:Bs}(hm:(v,l)∈P):∃sl cap,v=.slice sl l.length cap/\l.length<=cap/\ak w sl (l.map am)/\(∀x,sl=some x->x.block∈dom (ay P)):=by
 have h1:Sat w (aJ v l):=Sat.flat (f:=fun p:Value×Bs=>aJ p.1 p.2) hs hm;obtain⟨a,c,e,-,h3,h4,h5⟩:=aP (dh h1 (h _ hm));refine⟨a,c,e,h3,h4,fun x hx=>?_⟩;have hb:x.block∈dom (aJ v l):=(eL _ _ _ _ _ _).2 (h5 x hx);obtain⟨p,hp,hpe⟩:=mem_map.1 hb;exact mem_map.2 ⟨p,mem_flatMap.2 ⟨_,hm,hp⟩,hpe⟩
theorem cT{w:World}{e size n:Nat}{v:Value}{xs:List Value}(hs:Sat w (bH e size v n xs))(h:ei size v n xs):v.oneCell'=true/\v.cells=#[v]/\∃a cap,v=.slice a n cap/\n<=cap/\cap<=9223372036854775807:=by
 rcases(aW hs h).2 with⟨rfl,rfl⟩|⟨g,cap,cur,rfl,_,_,h1,h2,_,_⟩
 ·exact⟨rfl,rfl,none,0,rfl,Nat.le_refl _,Nb⟩
 ·exact⟨rfl,rfl,_,cap,rfl,h1,by unfold maxLen at h2;omega⟩
theorem bb{w:World}{e size n:Nat}{v:Value}{xs:List Value}(hs:Sat w (bH e size v n xs))(h:ei size v n xs)(_:0<size):∃a cap,v=.slice a n cap/\n<=cap/\cap<=9223372036854775807/\ak w a xs/\(∀x,a=some x->v.ownBlock=some x.block):=by
 obtain⟨hl,hc⟩:=aW hs h;rcases hc with⟨rfl,rfl⟩|⟨g,cap,cur,rfl,_,hg,h1,h2,h3,h4⟩
 ·refine⟨none,0,rfl,Nat.le_refl _,Nb,fun hp=>?_,fun x hx=>by cases hx⟩;rw[hl]at hp;simp at hp
 ·refine⟨_,cap,rfl,h1,by unfold maxLen at h2;omega,fun hp=>⟨g,0,rfl,fun j hj=>?_⟩,fun x hx=>by obtain rfl:=Option.some.inj hx;rfl⟩;rw[Nat.zero_add];refine aa hg j ?_;rw[<- Array.getElem?_toList];have e1:(cur.toList.take (n*size))[j]?=cur.toList[j]?:=by rw[getElem?_take];rw[NR Nb]
  rw[<- e1,h4];exact getElem?_eq_getElem hj
theorem Je:(prog.info? 193).map (fun i=>(i.zero,i.size,i.bytes))=some (some (.agg #[str [],.int .i64 0,.slice none 0 0,.int .i64 0]),4,56):=Nc
theorem Jd:(prog.info? 237).map (fun i=>(i.zero,i.size,i.bytes))=some (some (.agg #[str [],str [],.int .i64 0]),3,40):=Nc
theorem GI{l:List Oi}(h:∀v∈l,v.cv.oneCell'=true):∀u∈bG l,u.oneCell'=true:=fun u hu=>by
 obtain⟨v,hv,hx⟩:=mem_flatMap.1 hu
 simp only[lF,mem_cons,not_mem_nil,or_false]at hx
 rcases hx with rfl|rfl|rfl|rfl
 ·rfl
 ·rfl
 ·exact h v hv
 ·rfl
theorem GC(l:List OV):∀u∈cN l,u.oneCell'=true:=fun u hu=>by
 obtain⟨v,hv,hx⟩:=mem_flatMap.1 hu
 simp only[oI,mem_cons,not_mem_nil,or_false]at hx
 rcases hx with rfl|rfl|rfl<;>rfl
theorem Nu{p:Prop}(h:p:=by rw[bA];omega):p:=h
theorem ip{o:Oper}{a:Act}{w a0:World}{K:Act->World->Prop}{Q:Exit->Act->World->Prop}{F G:HF}(s x:Operand)(hop:o.op=.call { callee:=.builtin .append,args:=#[s,x],argTypes:=#[57,57] })(v:Value)(l:List Oi)(hs:a.eval s=v)(hT:Turns F (eh v l++G) a0 w)(hok:mf v l)(sa:Option Addr)(m c:Nat)(hx:a.eval x=.slice sa m c)(r:List Oi)(hm:m=r.length)(hc:ak w sa (bG r))(h1:∀v∈r,v.cv.oneCell'=true)(hb:l.length+r.length<=1000000)(hk:∀v' w',mf v' (l++r)->Turns F (eh v' (l++r)++G) a0 w'->K (a.put o.dst v') w'):o.wp prog a w K Q:=by
 obtain⟨i0,hi0,hz1,hz2,hz3⟩:=info_parts Je;refine cL s x 57 193 i0 (.agg #[str [],.int .i64 0,.slice none 0 0,.int .i64 0]) 4 56 hop underlying57 hi0 hz1 hz2 hz3 rfl Nk v l.length (bG l) hs hT hok sa m c hx (bG r) (by rw[bA,hm]) (fun hp=>?_) (GI h1) (by unfold maxLen;omega) Nb (fun v' w' k1 k2 _=>hk v' w' (by unfold mf;rw[NM,jr,<- hm];exact k1) (by unfold eh;rw[NM,jr,<- hm];exact k2));obtain⟨g,off,e,hcc⟩:=hc Nu;exact⟨_,e,fun j u hu=>by obtain⟨hj,rfl⟩:=List.getElem?_eq_some_iff.1 hu;rw[Addr.add_lit];exact hcc j hj⟩
theorem NG{p:Prop}(h:p:=by rw[cn];omega):p:=h
theorem io{o:Oper}{a:Act}{w a0:World}{K:Act->World->Prop}{Q:Exit->Act->World->Prop}{F G:HF}(s x:Operand)(hop:o.op=.call { callee:=.builtin .append,args:=#[s,x],argTypes:=#[58,58] })(v:Value)(l:List OV)(hs:a.eval s=v)(hT:Turns F (eH v l++G) a0 w)(hok:DZ v l)(sa:Option Addr)(m c:Nat)(hx:a.eval x=.slice sa m c)(r:List OV)(hm:m=r.length)(hc:ak w sa (cN r))(hb:l.length+r.length<=1000000)(hk:∀v' w',DZ v' (l++r)->Turns F (eH v' (l++r)++G) a0 w'->K (a.put o.dst v') w'):o.wp prog a w K Q:=by
 obtain⟨i0,hi0,hz1,hz2,hz3⟩:=info_parts Jd;refine cL s x 58 237 i0 (.agg #[str [],str [],.int .i64 0]) 3 40 hop underlying58 hi0 hz1 hz2 hz3 rfl Nk v l.length (cN l) hs hT hok sa m c hx (cN r) (by rw[cn,hm]) (fun hp=>?_) (GC _) (by unfold maxLen;omega) Nb (fun v' w' k1 k2 _=>hk v' w' (by unfold DZ;rw[NM,jp,<- hm];exact k1) (by unfold eH;rw[NM,jp,<- hm];exact k2));obtain⟨g,off,e,hcc⟩:=hc NG;exact⟨_,e,fun j u hu=>by obtain⟨hj,rfl⟩:=List.getElem?_eq_some_iff.1 hu;rw[Addr.add_lit];exact hcc j hj⟩
def zG(R:Oh)(w:World)(e:Ending)(w':World):Prop :=
 ∃b' VK tv',e=.returned (.pointer (some ⟨b',0,none⟩))/\PI { R with blk:=b',vv:=VK,tv:=tv',closed:=false }/\Turns (aC R) (aC { R with blk:=b',vv:=VK,tv:=tv',closed:=false }++aC R) w w'
theorem vI(R:Oh)(w:World)(h:Sat w (aC R))(hok:PI R)(h1:∀v∈R.vs,v.cv.oneCell'=true)(hl:R.vs.length<=1000000/\R.ts.length<=1000000):
  Calls prog 37 #[.pointer (some ⟨R.blk,0,none⟩)] w (zG R w):=by
 obtain⟨-,-,sl,cap,e1,-,-⟩:=cT h.tail.left hok.vs;obtain⟨-,-,tl,qaC,e2,-,-⟩:=cT h.tail.right hok.ts;have c2:w.cell? ⟨R.blk,2,none⟩=some (.int .i64 R.quota):=aa h.Q5 2 rfl;have hbl:=ae h.Q5;have HH:=RV h hok h1 hl e1 e2;clear h hok h1 hl e1 e2;go_enter func37,ntmps37;go_wp2_with fail;obtain⟨cb,hcb⟩:=Na w.heap.size;rw[<- hcb];obtain⟨CC,hCC⟩:=Na (#[.slice none 0 0,.slice none 0 0,.int .i64 R.quota,.bool false]:Array Value)
 have k0:Turns (aC R) (eh (.slice none 0 0) []++((cb,Is (.cells CC 60 (0,0)))::(R.blk,Is (fL R))::(eh R.vv R.vs++eH R.tv R.ts))) w (w.alloc (.cells #[.slice none 0 0,.slice none 0 0,.int .i64 R.quota,.bool false] 60)):=by
  rw[hcb,hCC];exact(Turns.refl HH.a).Q9 _
 have HK:=NZ k0;have HC:=NZ hCC;clear k0 hcb hCC;refine cH [([0,1,2,3,4,5,6,7,8],9,[0]),([10,11],12,[])] [] HM.o Nc fun W tW=>?_
 simp only[Mix,map_cons,map_nil,nth,QG,QF];have k0:=tW HK.o;clear tW;have g0:W.cell? ⟨cb,0,none⟩=some (.slice none 0 0):=aa (HC.o ▸ k0.sat.Q5) 0 rfl;have g1:W.cell? ⟨R.blk,0,none⟩=some (.slice sl R.vs.length cap):=aa (k0.sat.Q7 (b:=R.blk) (o:=fL R) Nh) 0 (by rw[<- HH.e];rfl);repeat still_step
 obtain⟨a',c',e1,-,-,hc,-⟩:=bb (k0.sat.sub (G:=eh R.vv R.vs) bR) HH.b.vs Nk;rw[HH.e]at e1;simp only[Value.slice.injEq]at e1;obtain⟨rfl,-,-⟩:=e1;refine wpStill_nil (ip (.tmp 14) (.tmp 18) rfl (.slice none 0 0) [] rfl k0 ⟨rfl,fun _=>⟨rfl,rfl⟩⟩ sl R.vs.length cap rfl R.vs rfl hc HH.c (by simpa using HH.d.1) fun UN W1 q1 k1=>⟨by(repeat still_step);exact rfl,?_⟩);simp only[Act.put,QA,QB,QC];repeat still_step
 rw[nil_append]at q1 k1;have p1:=cT k1.sat.left q1;refine wpStill_nil (aX 57 (.tmp 21) (.tmp 19) rfl cb 0 CC 60 UN (k1.to (H:=(cb,Is (.cells CC 60 (0,0)))::((R.blk,Is (fL R))::(eh UN R.vs++(eh R.vv R.vs++eH R.tv R.ts)))) ac) rfl rfl (by rw[HC.o];simp) Nc p1.1 p1.2.1 fun W2 k2=>⟨rfl,?_⟩);simp only[Act.put];refine wpStill_nil ?_;have HT2:=Ob q1 k2;clear k0 g0 g1 hc q1 k1 p1 k2;go_wp2_with fail;refine cH [([0,1,2,3,4,5,6,7,8],9,[0]),([10,11],12,[])] [] HM.o Nc fun W tW=>?_
 simp only[Mix,map_cons,map_nil,nth,QG,QF];have k0:=tW HT2.z;clear tW;have g0:W.cell? ⟨cb,1,none⟩=some (.slice none 0 0):=aa (HC.o ▸ k0.sat.Q5) 1 rfl;have g1:W.cell? ⟨R.blk,1,none⟩=some (.slice tl R.ts.length qaC):=aa (k0.sat.Q7 (b:=R.blk) (o:=fL R) Nh) 1 (by rw[<- HH.v];rfl);repeat still_step
 obtain⟨a',c',e1,-,-,hc,-⟩:=bb (k0.sat.sub (G:=eH R.tv R.ts) bR) HH.b.ts Nk;rw[HH.v]at e1;simp only[Value.slice.injEq]at e1;obtain⟨rfl,-,-⟩:=e1;refine wpStill_nil (io (.tmp 26) (.tmp 30) rfl (.slice none 0 0) [] rfl k0 ⟨rfl,fun _=>⟨rfl,rfl⟩⟩ tl R.ts.length qaC rfl R.ts rfl hc (by simpa using HH.d.2) fun tv3 W1 q1 k1=>⟨by(repeat still_step);exact rfl,?_⟩);simp only[Act.put,QA,QB,QC];repeat still_step
 rw[nil_append]at q1 k1;have p1:=cT k1.sat.left q1;refine wpStill_nil (aX 58 (.tmp 33) (.tmp 31) rfl cb 1 (CC.setIfInBounds 0 UN) 60 tv3 (k1.to (H:=(cb,Is (.cells (CC.setIfInBounds 0 UN) 60 (0,0)))::((R.blk,Is (fL R))::(eH tv3 R.ts++(eh UN R.vs++(eh R.vv R.vs++eH R.tv R.ts))))) ac) rfl rfl (by rw[HC.o];simp) Nc p1.1 p1.2.1 fun W2 k2=>⟨rfl,?_⟩);simp only[Act.put];refine wpStill_nil ?_;have HT3:=Ob q1 k2;clear k0 g0 g1 hc q1 k1 p1 k2;go_wp2_with fail;go_ret;refine ⟨cb,UN,tv3,rfl,⟨HT2.a,HT3.a⟩,?_⟩;have Oj:=HT3.z;have e4:(CC.setIfInBounds 0 UN).setIfInBounds 1 tv3=da { R with blk:=cb,vv:=UN,tv:=tv3,closed:=false }:=by rw[HC.o];rfl
 rw[e4]at Oj;exact Oj.to (by unfold aC fL;exact ac)
end
section
open Go.RowKit
def nX(u:Nat×Nat):List Value:=[.int .u32 u.1,.int .u32 u.2]
def fN(v:Value)(l:List (Nat×Nat)):HF:=bH 118 2 v l.length (l.flatMap nX)
def xS(v:Value)(l:List (Nat×Nat)):Prop:=ei 2 v l.length (l.flatMap nX)
def iL(us:Nat->Option (Nat×Nat))(k:Nat):List (Nat×Nat):=(range k).filterMap us
def iq(e wh:Nat):Obj:=.cells #[.int .u32 e,.int .u32 wh] 118 (0,0)
theorem KK:(prog.info? 118).map (fun i=>(i.zero,i.size,i.bytes))=some (some (.agg #[.int .u32 0,.int .u32 0]),2,8):=Nc
theorem nm(l:List (Nat×Nat)):(l.flatMap nX).length=l.length*2:=by
 induction l with
 | nil=>rfl
 | cons a r ih=>rw[flatMap_cons,NM,ih];simp[nX];omega
theorem zl{o:Oper}{a:Act}{w a0:World}{K:Act->World->Prop}{Q:Exit->Act->World->Prop}{F G:HF}(s x:Operand)(hop:o.op=.call { callee:=.builtin .append,args:=#[s,x],argTypes:=#[113,113] })(v:Value)(l:List (Nat×Nat))(hs:a.eval s=v)(hT:Turns F (fN v l++G) a0 w)(hok:xS v l)(sa:Option Addr)(m c:Nat)(hx:a.eval x=.slice sa m c)(r:List (Nat×Nat))(hm:m=r.length)(hc:0<m->∃ad,sa=some ad/\∀j u,(r.flatMap nX)[j]?=some u->w.cell? (ad.add j)=some u)(hb:l.length+r.length<=1000000)(hk:∀v' w',xS v' (l++r)->Turns F (fN v' (l++r)++G) a0 w'->K (a.put o.dst v') w'):o.wp prog a w K Q:=by
 obtain⟨i0,hi0,hz1,hz2,hz3⟩:=info_parts KK;refine cL s x 113 118 i0 (.agg #[.int .u32 0,.int .u32 0]) 2 8 hop underlying113 hi0 hz1 hz2 hz3 rfl Nk v l.length (l.flatMap nX) hs hT hok sa m c hx (r.flatMap nX) (by rw[nm,hm]) hc (fun u hu=>?_) (by unfold maxLen;omega) Nb (fun v' w' h1 h2 h3=>?_)
 ·obtain⟨q,-,hq⟩:=mem_flatMap.1 hu;simp only[nX,mem_cons,not_mem_nil,or_false]at hq;rcases hq with rfl|rfl<;>rfl
 ·exact hk v' w' (by unfold xS;rw[NM,flatMap_append,<- hm];exact h1) (by unfold fN;rw[NM,flatMap_append,<- hm];exact h2)
theorem wO(a b:Nat)(ha:a*256+b<4294967296)(hb:b<256):bits BinOp.or IntKind.u32 ((a:Int)*256) (b:Int)=((a*256+b:Nat):Int):=by
 have e1:(BitVec.ofInt 32 ((a:Int)*256)).toNat=a*256:=by
  rw[show((a:Int)*256)=((a*256:Nat):Int) by omega,BitVec.ofInt_natCast,BitVec.toNat_ofNat];exact Nat.mod_eq_of_lt Nb
 have e2:(BitVec.ofInt 32 (b:Int)).toNat=b:=by rw[BitVec.ofInt_natCast,BitVec.toNat_ofNat];exact Nat.mod_eq_of_lt Nb
 show IntKind.u32.wrap ((BitVec.ofInt 32 ((a:Int)*256) ||| BitVec.ofInt 32 (b:Int)).toNat:Int)=_
 have e3:a*256 ||| b=a*256+b:=by
  have:=Nat.two_pow_add_eq_or_of_lt (i:=8) hb a;rw[show(256:Nat)=2 ^ 8 from rfl,Nat.mul_comm];exact this.symm
 rw[BitVec.toNat_or,e1,e2,e3];unfold IntKind.wrap;simp[IntKind.bits,IntKind.signed];omega
theorem Ln{P:Program}{w:World}{ops:Array Oper}{Q:Act->Prop}{o:Oper}{r:List Oper}{a:Act}(hg:Region.wanted o (yielded ops a.tmps)=false)(hk:wpStill P ops w Q r (a.put o.dst undef)):wpStill P ops w Q (o::r) a:=by
 unfold wpStill;rw[NQ (by rw[hg];decide)];exact hk
theorem EB{o:Oper}{a:Act}{w:World}(b:BinOp)(t:TypeId)(x y:Operand)(ty:TypeId)(ho:o.op=.binOp b t x y ty)(hg:prog.eqGuardType prog.depth t=false)(A B:Array Value)(v:Value)(hn:(binOp b t (.agg A) (.agg B)).run prog w=.ok v w)(hx:a.eval x=.agg A)(hy:a.eval y=.agg B):(execOp a.eval o).run prog w=.ok (.value v) w:=by
 unfold execOp;simp only[ho,hx,hy,Sem.run_bind,lh hg,Result.andThen_ok,hn,Sem.run_pure]
theorem wrap_u32{n:Int}(h1:0<=n)(h2:n<4294967296):IntKind.u32.wrap n=n:=by
 unfold IntKind.wrap;simp[show IntKind.u32.bits=32 from rfl,show IntKind.u32.signed=false from rfl];omega
theorem BO{t:TypeId}(e:Nat)(he:e<4294967296)(w:World):(binOp .rem t (.int .u32 e) (.int .u32 2)).run prog w=.ok (.int .u32 ((e%2:Nat):Int)) w:=by
 have h1:(e:Int).tmod 2=((e%2:Nat):Int):=by
  rw[Int.tmod_eq_emod_of_nonneg Nb];omega
 have h2:IntKind.u32.wrap ((e:Int).tmod 2)=((e%2:Nat):Int):=by rw[h1,wrap_u32 Nb Nb]
 simp[binOp,Op.intDiv,h1]
theorem D1(k:Nat)(hk:k<4294967296)(w:World):(convert 3 116 (.int .i64 k)).run prog w=.ok (.int .u32 k) w:=by
 simp[convert,run_underlying underlying3,run_underlying underlying116,Conv.intToInt,wrap_u32 (show(0:Int)<=k by omega) Nb]
theorem xG{t:TypeId}(a b:Nat)(w:World):(binOp .eql t (.int .u32 a) (.int .u32 b)).run prog w=.ok (.bool (decide (a=b))) w:=by
 simp[binOp,Op.intCmp];rw[Bool.eq_iff_iff];simp;omega
def fy:List (Nat×Nat)->List (Nat×Nat)
 | [u,v]=>if u.1<v.1 then[v,u]else[u,v]
 | l=>l
theorem vt{o:Oper}{a:Act}{w a0:World}{K:Act->World->Prop}{Q:Exit->Act->World->Prop}{F G:HF}(x y:Operand)(ho:o.op=.store 118 x y)(g cap j:Nat)(p q u:Nat×Nat)(hT:Turns F (fN (.slice (some ⟨g,0,none⟩) 2 cap) [p,q]++G) a0 w)(hj:j<2)(hx:a.eval x=.pointer (some ⟨g,j*2,none⟩))(hy:a.eval y=.agg #[.int .u32 u.1,.int .u32 u.2])(hk:∀w',Turns F (fN (.slice (some ⟨g,0,none⟩) 2 cap) ([p,q].set j u)++G) a0 w'->K (a.put o.dst undef) w'):o.wp prog a w K Q:=by
 obtain⟨φ,hφ⟩:∃φ:List (Nat×Nat)->Obj->Prop,φ=fun l ob=>∃c cur,Value.slice (some ⟨g,0,none⟩) 2 cap=.slice (some ⟨g,0,none⟩) l.length c/\ob=.cells cur 118 (0,0)/\l.length<=c/\c<=maxLen/\cur.size=c*2/\cur.toList.take (l.length*2)=l.flatMap nX:=⟨_,rfl⟩
 have e:∀l,fN (.slice (some ⟨g,0,none⟩) 2 cap) l=[(g,φ l)]:=fun l=>by rw[hφ];rfl
 rw[e]at hT;have hT:Turns F ((g,φ [p,q])::G) a0 w:=hT;obtain⟨ob,hg,hp⟩:=hT.sat.head;rw[hφ]at hp;obtain⟨c,cur,he,rfl,h1,h2,h3,h4⟩:=hp;obtain⟨C,rfl⟩:∃C:List Value,cur=C.toArray:=⟨cur.toList,Nh⟩;simp only[size_toArray]at h3;have h4:C.take 4=[.int .u32 p.1,.int .u32 p.2,.int .u32 q.1,.int .u32 q.2]:=h4;have h1:2<=c:=h1;obtain⟨q1,q2⟩:=fp hg (j*2) [.int .u32 u.1,.int .u32 u.2] Nj;refine wp_store_mid 118 x y ho g (j*2) #[.int .u32 u.1,.int .u32 u.2] hx hy (dA hg _ _ Nj) Nc (by simp[Value.oneCell']) (hk _ ?_);rw[e];refine hT.put q2 q1 ?_;have hl:([p,q].set j u).length=2:=Nh
 rw[hφ];show ∃c cur,_/\_/\_/\_/\_/\_;rw[hl];have hC:C=[.int .u32 p.1,.int .u32 p.2,.int .u32 q.1,.int .u32 q.2]++C.drop 4:=by rw[<- h4,take_append_drop]
 refine⟨c,_,he,rfl,h1,h2,?_,?_⟩
 ·rw[<- h3];simp[spl];omega
 ·rw[hC];rcases(by omega:j=0\/j=1)with rfl|rfl<;>simp[spl,nX]
theorem qI{W:World}{g cap:Nat}{p q:Nat×Nat}(h:Sat W (fN (.slice (some ⟨g,0,none⟩) 2 cap) [p,q]))(j:Nat)(v:Value)(hj:j<4)(hv:[Value.int .u32 p.1,.int .u32 p.2,.int .u32 q.1,.int .u32 q.2][j]?=some v):W.cell? ⟨g,j,none⟩=some v:=by
 obtain⟨ob,hg,c,cur,-,rfl,-,-,-,h6⟩:=h.head;have h6:cur.toList.take 4=[.int .u32 p.1,.int .u32 p.2,.int .u32 q.1,.int .u32 q.2]:=h6;refine aa hg j ?_;rw[<- Array.getElem?_toList,<- hv,<- h6,getElem?_take,NR hj]
def tH(us:Nat->Option (Nat×Nat))(z:Bool)(w:World)(e:Ending)(w':World):Prop :=
 ∃v,e=.returned (.tuple #[v,.bool z,.nilIface])/\xS v (fy (iL us 2))/\Turns [] (fN v (fy (iL us 2))) w w'
def Ke(us:Nat->Option (Nat×Nat))(now:Bs)(w:World)(l em i:Value)(W:World):Prop :=
 ∃(k:Nat) (J:HF),k<=2/\i=.int .i64 k/\xS l (iL us k)/\em=.bool (cD now k)/\Turns [] (fN l (iL us k)++J) w W
def oe(now:Bs)(us:Nat->Option (Nat×Nat))(k:Nat):Prop :=
 (us k=none/\∀e wh,e<4294967296->wh<4294967296->e%2=k->aN now k≠bO e wh)\/(∃e wh,us k=some (e,wh)/\aN now k=bO e wh/\e%2=k/\e<4294967296/\wh<4294967296)
theorem G0(us:Nat->Option (Nat×Nat))(k:Nat):iL us (k+1)=iL us k++(us k).toList:=by
 unfold iL;rw[range_succ,filterMap_append]
 cases h:us k<;>simp[h]
theorem nQ(e wh:Nat):b5 (bO e wh)=some (77,bD e wh,17):=by
 unfold bO;rw[jz 77 _ _ Nk (by rw[ce];omega),ce]
theorem Ec(e wh:Nat):bO e wh≠an 128:=fun h=>by
 have h1:=nQ e wh
 rw[h,kL]at h1
 cases h1
theorem wN(x y:UInt8):be (x.toNat*256+y.toNat) 2=[x,y]:=by
 have hx:=UInt8.toNat_lt x;have hy:=UInt8.toNat_lt y;rw[be2];congr 1
 ·refine UInt8.toNat_inj.1 ?_;rw[UInt8.toNat_ofNat'];omega
 ·congr 1;refine UInt8.toNat_inj.1 ?_;rw[UInt8.toNat_ofNat'];omega
theorem pS:∀b:Bs,be (bz b) b.length=b
 | []=>rfl
 | x::r=>by
  have hx:=UInt8.toNat_lt x
  have hr:=fU r
  rw[length_cons,be,oU]
  have e1:UInt8.ofNat ((x.toNat*256 ^ r.length+bz r) / 256 ^ r.length)=x:=by
   rw[Nat.mul_comm,Nat.mul_add_div (Nat.pow_pos Nb),Nat.div_eq_of_lt hr,Nat.add_zero];refine UInt8.toNat_inj.1 ?_;rw[UInt8.toNat_ofNat'];omega
  have e2:be (x.toNat*256 ^ r.length+bz r) r.length=be (bz r) r.length:=by
   have key:∀(k a b:Nat),a%256 ^ k=b%256 ^ k->be a k=be b k:=by
    intro k;induction k with
    | zero=>intro a b _;rfl
    | succ k ih =>
     intro a b h;rw[be,be]
     have h1:a%256 ^ k=b%256 ^ k:=by
      have this:a%256 ^ (k+1)%256 ^ k=b%256 ^ (k+1)%256 ^ k:=by rw[h]
      rwa [Nat.mod_mod_of_dvd _ ⟨256,by rw[Nat.pow_succ]⟩,Nat.mod_mod_of_dvd _ ⟨256,by rw[Nat.pow_succ]⟩]at this
     rw[ih a b h1];congr 1;refine UInt8.toNat_inj.1 ?_;rw[UInt8.toNat_ofNat',UInt8.toNat_ofNat'];have h2:∀n,n%256 ^ (k+1)=n%256 ^ k+256 ^ k*(n / 256 ^ k%256):=fun n=>by rw[Nat.pow_succ,Nat.mod_mul]
     rw[h2 a,h2 b,h1]at h;have h3:256 ^ k*(a / 256 ^ k%256)=256 ^ k*(b / 256 ^ k%256):=Nb
     exact Nat.eq_of_mul_eq_mul_left (Nat.pow_pos Nb) h3
   refine key _ _ _ ?_;rw[Nat.mul_comm,Nat.mul_add_mod]
  rw[e1,e2,pS r]
theorem G2{s:Bs}{k:Nat}{u:Option (Nat×Nat)}(h:(u=none/\∀e wh,e<4294967296->wh<4294967296->e%2=k->s≠bO e wh)\/(∃e wh,u=some (e,wh)/\s=bO e wh/\e%2=k/\e<4294967296/\wh<4294967296)):
  (u=none/\b5 s=none)\/(u=none/\∃k' body n,b5 s=some (k',body,n)/\¬(k'=77/\body.length=8)) \/
  (∃e wh b1 b2,b5 s=some (77,bD e wh,17)/\e<4294967296/\wh<4294967296/\decide (s=bO e wh)=b1/\decide (e%2=k)=b2/\u=if b1&&b2 then some (e,wh)else none):=by
 have hu:∀e wh,b5 s=some (77,bD e wh,17)->e<4294967296->wh<4294967296->u=if decide (s=bO e wh)&&decide (e%2=k)then some (e,wh)else none:=fun e wh ho he hw=>by
  rcases h with⟨rfl,h1⟩|⟨e2,wh2,rfl,h2,h3,h4,h5⟩
  ·by_cases q1:s=bO e wh
   ·have q2:¬e%2=k:=fun q2=>h1 e wh he hw q2 q1
    simp[q2]
   ·simp[q1]
  ·have h6:=nQ e2 wh2;rw[<- h2,ho]at h6;simp only[NY,Prod.mk.injEq,true_and,and_true]at h6
   have h7:bz (be e 4)=bz (be e2 4)/\bz (be wh 4)=bz (be wh2 4):=by
    have g1:=congrArg (fun l=>bz (l.take 4)) h6;have g2:=congrArg (fun l=>bz (l.drop 4)) h6;simpa[bD,cf]using NK g1 g2
   rw[ju,ju,ju,ju]at h7;obtain rfl:e=e2:=Nb
   obtain rfl:wh=wh2:=Nb
   simp[h2,h3]
 cases ho:b5 s with
 | none =>
  rcases h with⟨rfl,-⟩|⟨e,wh,-,h2,-⟩
  ·exact .inl ⟨rfl,rfl⟩
  ·rw[h2,nQ]at ho;cases ho
 | some t =>
  obtain⟨k',body,n⟩:=t;by_cases hk:k'=77/\body.length=8
  ·obtain⟨rfl,hb⟩:=hk;obtain⟨-,hn,-⟩:=dD ho;obtain rfl:n=17:=Nb
   have h4:(body.take 4).length=4:=by rw[NS];omega
   have h4':(body.drop 4).length=4:=by rw[NT];omega
   have he:=fU (body.take 4);have hw:=fU (body.drop 4);rw[h4]at he;rw[h4']at hw
   have hbody:body=bD (bz (body.take 4)) (bz (body.drop 4)):=by
    have g1:=pS (body.take 4);have g2:=pS (body.drop 4);rw[h4]at g1;rw[h4']at g2;unfold bD;rw[g1,g2,take_append_drop]
   rw[hbody]at ho;exact .inr (.inr ⟨_,_,_,_,congrArg (fun b=>some ((77:UInt8),b,17)) hbody,Nb,Nb,rfl,rfl,hu _ _ ho Nb Nb⟩)
  ·refine .inr (.inl ⟨?_,k',body,n,rfl,hk⟩);rcases h with⟨rfl,-⟩|⟨e,wh,-,h2,-⟩
   ·rfl
   ·rw[h2,nQ]at ho;simp only[NY,Prod.mk.injEq]at ho;obtain⟨rfl,rfl,-⟩:=ho;exact absurd ⟨rfl,ce e wh⟩ hk
def oE(ub:Nat):Obj:=.cells #[.pointer (some ⟨ub,0,none⟩),.pointer (some ⟨ub,1,none⟩)] 208 (0,0)
def zy(G:HF)(ub j x e:Nat)(w:World)(i:Value)(W:World):Prop :=
 ∃m:Nat,m<=4/\i=.int .i64 m/\Turns [] ((ub,Is (if j=0 then iq (bz ((be x 4).take m)) 0 else iq e (bz ((be x 4).take m))))::G) w W
def Hu(G:HF)(ub e wh:Nat)(w:World)(i:Value)(W:World):Prop :=
 ∃j:Nat,j<=2/\i=.int .i64 j/\Turns [] ((ub,Is (iq (if j=0 then 0 else e) (if j<=1 then 0 else wh)))::G) w W
theorem pC(us:Nat->Option (Nat×Nat))(k:Nat):(iL us k).length<=k:=by
 have:=length_filterMap_le us (range k);rw[length_range]at this;exact this
theorem Ed(d:Nat)(L:Ol)(us:Nat->Option (Nat×Nat))(w:World)(h:Sat w (aA d L))(hL:Ou L)(hn:16<=L.n)(hU:∀k,k<2->oe L.now us k):
  Calls prog 50 #[.pointer (some ⟨d,0,none⟩)] w (tH us (cD L.now 2) w):=by
 have HZ:=NZ nU;have HC:Hid (∀(k:Nat) (W:World),k<2->aV w W->Calls prog 17 #[.pointer (some ⟨d,0,none⟩),.int .i64 k] W (j0 L k W)):=NZ (fun k W hk hW=>j5 d L k W (h.same hW) hL Nb);have HL:Hid (∀k,k<2->(aN L.now k).length=128):=NZ (fun k hk=>gz hL.OU Nb);have HU:=NZ hU;clear h hL hU;go_enter func50,ntmps50;go_wp2_with fail;go_loopw [2,3,16] (fun l em i wr=>Ke us L.now w l em i wr) (fun _ _ i _=>2-(intOf i).toNat)
 case atStart=>exact⟨0,[],Nb,rfl,⟨rfl,fun _=>⟨rfl,rfl⟩⟩,by rw[qN],Turns.refl (Sat.nil w)⟩
 case round =>
  obtain⟨k,J,hk,rfl,hlo,rfl,hT⟩:=hrel;by_cases hlt:k<2
  ·have HR:=NZ (HC.o k wr hlt hT.news);have Ro:=NZ (HL.o k hlt);have HZ0:=NZ (sD (l:=L.now) (k:=k));have HZ1:=NZ (vB (l:=L.now) (k:=k));have HUk:=NZ (HU.o k hlt);have hsu:=G0 us k;unfold j0 at HR;unfold oe at HUk;obtain⟨s,hse⟩:=Na (aN L.now k);obtain⟨z,hz⟩:=Na (cD L.now k);obtain⟨z1,hz1⟩:=Na (cD L.now (k+1));rw[<- hse]at HR Ro HZ0 HZ1 HUk;rw[<- hz,<- hz1]at HZ0;rw[<- hz1]at HZ1;rw[<- hz];have H1:=OW hz1 hlo hT hsu;clear hT hlo HC HL hse hz hz1 hsu;go_wp2_with fail;refine HR.o.mono ?_;rintro e w2 ⟨rfl,hs2⟩;have hb:=aM w2 (.cells (aw (an 128)) 43);obtain⟨q1,q2⟩:=dr hb (s:=s) (by rw[Ro.o,ap]);have hTs:Turns [] ((w2.heap.size,Is (.cells (aw s) 43 (0,0)))::(fN u2 (iL us k)++J)) w ((w2.alloc (.cells (aw (an 128)) 43)).setCells w2.heap.size 0 (s.map am)):=((H1.c.Q8 hs2).Q9 (.cells (aw (an 128)) 43)).Qa q2 q1;have hth:(w2.alloc (.cells (aw (an 128)) 43)).there w2.heap.size 0 (aw s).size:=by rw[bL,Ro.o];exact eT hb 0 128 ND
   have hrg:((w2.alloc (.cells (aw (an 128)) 43)).setCells w2.heap.size 0 (s.map am)).rangeAt w2.heap.size 0 (s.map am):=by
    have:=dX q1 0 128;rwa [drop_zero,take_of_length_le (by rw[Ro.o];omega)]at this
   have HN:=NZ (fun W=>ER s (an 128) Ro.o (ap _) W);obtain⟨W4,X7⟩:∃W,(w2.alloc (.cells (aw (an 128)) 43)).setCells w2.heap.size 0 (s.map am)=W:=⟨_,rfl⟩;rw[X7]at q1 hTs hrg;have H3:=Oz q1 hTs hrg;have HT:=NZ hth;have HW:=NZ X7;have hb6l:w2.heap.size<W4.heap.size:=ae q1;clear q1 q2 hb hTs hs2 hth hrg X7;have hz:=mx
   have hop:Calls prog 97 #[.slice (some ⟨w2.heap.size,0,none⟩) 128 128] W4 (eb (some ⟨w2.heap.size,0,none⟩) s W4):=by
    have:=jo (some ⟨w2.heap.size,0,none⟩) 128 s W4 (fun hp=>⟨w2.heap.size,0,rfl,fun j hj=>by rw[Nat.zero_add];exact aa H3.a j (by rw[ex s j (by simpa using hj)];simp)⟩) (by rw[Ro.o];omega) (by rw[Ro.o];omega);rwa [Ro.o]at this
   rcases G2 HUk.o with⟨Xu,hno⟩|⟨Xu,k',body,n',hop2,hkb⟩|⟨e,wh,b1,b2,hop2,he,hwh,hb1,hb2,Xu⟩
   ·unfold eb at hop;rw[hno]at hop;have HP:=NZ hop;have HK:=NZ Xu;clear hop hno Xu;go_wp2_with (first|(refine wpList_store_mid rfl 43 (.tmp 6) (.tmp 23) rfl w2.heap.size 0 (aw s) rfl rfl HT.o (gU Ro.o) (cS _) ?_;change wpList _ _ _ _ _ (World.setCells (w2.alloc (.cells (aw (an 128)) 43)) w2.heap.size 0 (s.map am));rw[HW.o])|(refine wpList_load_mid rfl 43 (.tmp 6) rfl w2.heap.size 0 rfl (s.map am) _ H3.y underlying43 rfl (gT Ro.o) ?_)|(refine bT rfl 43 #[] rfl (aw (an 128)) HZ.o ?_)|(refine mw rfl .neq 43 (.tmp 28) (.tmp 29) _ rfl lw _ _ (.bool (!decide (s=an 128))) (HN.o _) rfl rfl ?_))
    all_goals
     first
     | (
      have hne:s≠an 128:=by
       have:(!decide (s=an 128))=true:=Nl
       simpa using this
      have HE:=NZ (HZ1.o hne))
     | (
      have hne:s=an 128:=by
       have:(!decide (s=an 128))=false:=Nl
       simpa using this
      have HE:=NZ (HZ0.o hne))
     clear hne;refine HP.o.mono ?_;rintro e w5 ⟨rfl,hs5⟩;have H5:=NZ (H3.b.Q8 hs5);clear hs5;go_wp2_with fail;go_roundw
     case rel=>exact⟨k+1,(w2.heap.size,Is (.cells (aw s) 43 (0,0)))::J,Nb,by go_num,by rw[H1.x,HK.o];simpa using H1.b,by rw[<- H1.a,HE.o],by rw[H1.x,HK.o];exact H5.o.to (by simp only[Option.toList_none,append_nil];exact ac)⟩
     case measure=>simp[intOf];omega
   ·have hne:s≠an 128:=fun h=>by rw[h,kL]at hop2;cases hop2
    have HE:=NZ (HZ1.o hne);have HNE:=NZ (show(!decide (s=an 128))=true by simp[hne]);unfold eb at hop;rw[hop2]at hop;have HP:=NZ hop;have HK:=NZ Xu
    have hkb2:¬(k'.toNat:Int)=77\/((k'.toNat:Int)=77/\¬(body.length:Int)=8):=by
     by_cases q:(k'.toNat:Int)=77
     ·refine .inr ⟨q,fun q2=>hkb ⟨UInt8.toNat_inj.1 (by show k'.toNat=77;omega),Nb⟩⟩
     ·exact .inl q
    clear hop hop2 Xu hne hkb;go_wp2_with (first|(refine wpList_store_mid rfl 43 (.tmp 6) (.tmp 23) rfl w2.heap.size 0 (aw s) rfl rfl HT.o (gU Ro.o) (cS _) ?_;change wpList _ _ _ _ _ (World.setCells (w2.alloc (.cells (aw (an 128)) 43)) w2.heap.size 0 (s.map am));rw[HW.o])|(refine wpList_load_mid rfl 43 (.tmp 6) rfl w2.heap.size 0 rfl (s.map am) _ H3.y underlying43 rfl (gT Ro.o) ?_)|(refine bT rfl 43 #[] rfl (aw (an 128)) HZ.o ?_)|(refine mw rfl .neq 43 (.tmp 28) (.tmp 29) _ rfl lw _ _ (.bool true) ((HN.o _).trans (by rw[HNE.o])) rfl rfl ?_));refine HP.o.mono ?_;rintro e5 w5 ⟨a2,rfl,hb2,ha2,hs5⟩;have H5:=NZ (H3.b.Q8 hs5);clear hb2 ha2 hs5;rcases hkb2 with q|⟨q,q2⟩
    all_goals
     go_wp2_with fail;go_roundw
     case rel=>exact⟨k+1,(w2.heap.size,Is (.cells (aw s) 43 (0,0)))::J,Nb,by go_num,by rw[H1.x,HK.o];simpa using H1.b,by rw[<- H1.a,HE.o],by rw[H1.x,HK.o];exact H5.o.to (by simp only[Option.toList_none,append_nil];exact ac)⟩
     case measure=>simp[intOf];omega
   ·have hne:s≠an 128:=fun h=>by rw[h,kL]at hop2;cases hop2
    have HE:=NZ (HZ1.o hne);have HNE:=NZ (show(!decide (s=an 128))=true by simp[hne]);unfold eb at hop;rw[hop2]at hop;have HP:=NZ hop;have HK:=Oz Xu hb1 hb2;have hbl:=ce e wh;clear hop hop2 Xu hb1 hb2 hne;go_wp2_with (first|(refine wpList_store_mid rfl 43 (.tmp 6) (.tmp 23) rfl w2.heap.size 0 (aw s) rfl rfl HT.o (gU Ro.o) (cS _) ?_;change wpList _ _ _ _ _ (World.setCells (w2.alloc (.cells (aw (an 128)) 43)) w2.heap.size 0 (s.map am));rw[HW.o])|(refine wpList_load_mid rfl 43 (.tmp 6) rfl w2.heap.size 0 rfl (s.map am) _ H3.y underlying43 rfl (gT Ro.o) ?_)|(refine bT rfl 43 #[] rfl (aw (an 128)) HZ.o ?_)|(refine mw rfl .neq 43 (.tmp 28) (.tmp 29) _ rfl lw _ _ (.bool true) ((HN.o _).trans (by rw[HNE.o])) rfl rfl ?_));refine HP.o.mono ?_;rintro e5 w5 ⟨a2,rfl,hb2,ha2,hs5⟩;rw[hbl];obtain⟨g2,off2,hg2,hc2⟩:=hb2 (by rw[NP,hbl];omega);subst hg2;obtain⟨y2,hy2,hgy⟩:=ha2 _ rfl;simp only[NY]at hy2;subst hy2;simp only at hgy;subst hgy;have H5:=Ob (H3.b.Q8 hs5) hc2;clear hb2 ha2 hs5 hc2;have hk77:(((77:UInt8).toNat:Nat):Int)=77:=rfl;rw[hk77];go_wp2_with fail;obtain⟨b6,hb6⟩:=Na w2.heap.size
    have hby:∀(q:Nat) (hq:q<8) (W:World),W.heap[b6]?=some (.cells (aw s) 43 (0,0))->W.cell? ⟨b6,off2+q,none⟩=some (.int .u8 (((bD e wh)[q]'(by rw[hbl];exact hq)).toNat:Int)):=fun q hq W hW=>by
     have h1:=H5.z q (by rw[NP,hbl];exact hq);rw[getElem_map]at h1;rw[hb6]at hW ⊢;exact(World.cell?_of_block (hW.trans (H5.a.sat.Q7 (b:=w2.heap.size) (o:=.cells (aw s) 43 (0,0)) Nh).symm)).trans h1
    have HBy:=NZ hby
    obtain⟨ub,hub⟩:=Na w5.heap.size;obtain⟨pb,hpb⟩:=Na (w5.heap.size+1);obtain⟨G,hG⟩:=Na ((pb,Is (oE ub))::(b6,Is (.cells (aw s) 43 (0,0)))::(fN u2 (iL us k)++J):HF);have HG:=NZ hG
    have hTu:Turns [] ((ub,Is (iq 0 0))::G) w ((w5.alloc (iq 0 0)).alloc (oE ub)):=by
     have h1:=(H5.a.Q9 (iq 0 0)).Q9 (oE ub);rw[World.size_alloc,<- hpb,<- hub]at h1;rw[hG,hb6];exact h1.to ac
    have HTu:=OW hTu hub hpb hb6;clear hby hG hTu;rw[<- hpb,<- hub,<- hb6];clear hpb hub hb6;go_loopw [48] (fun i wr=>Hu G ub e wh w i wr) (fun i _=>2-(intOf i).toNat)
    case atStart =>
     refine⟨0,Nb,rfl,?_⟩;have h1:=HTu.a;rw[HTu.b]at h1 ⊢;exact h1
    case round =>
     obtain⟨j,hj,rfl,hT⟩:=hrel;rcases(show j=0\/j=1\/j=2 by omega)with rfl|rfl|rfl
     ·have hTj:=hT.to (H:=(ub,Is (iq 0 0))::G) (Perm.refl _);have p0:wr.cell? ⟨pb,0,none⟩=some (.pointer (some ⟨ub,0,none⟩)):=aa (hTj.sat.Q7 (b:=pb) (o:=oE ub) (by rw[HG.o];simp)) 0 rfl;have hpl:=hTj.sat.lt (b:=pb) (by rw[HG.o];simp);have HTj:=NZ hTj;clear hT hTj;go_wp2_with fail;go_loopw [61] (fun i wr=>zy G ub 0 e e w i wr) (fun i _=>4-(intOf i).toNat)
      case atStart=>exact⟨0,Nb,rfl,HTj.o⟩
      case round =>
       obtain⟨m,hm,rfl,Oa⟩:=hrel;by_cases hm4:m<4
       ·have hby:=HBy.o (m) Nb wr (Oa.sat.Q7 (by rw[HG.o];simp));obtain⟨x8,WC⟩:=Na (((bD e wh)[m]'(by rw[hbl];omega)).toNat);have Yz:x8<256:=by rw[WC];exact UInt8.toNat_lt _
        rw[<- WC]at hby
        have hql:bz ((be e 4).take m)<16777216:=by
         have h1:=fU ((be e 4).take m);have h2:((be e 4).take m).length<=3:=Nj
         have h3:(256:Nat) ^ ((be e 4).take m).length<=256 ^ 3:=Nat.pow_le_pow_right Nb h2;omega
        have hnx:bz ((be e 4).take (m+1))=bz ((be e 4).take m)*256+x8:=by
         rw[QH (by rw[cf];exact hm4),oV,WC];congr 2;simp only[bD];rw[getElem_append_left (by rw[cf];exact hm4)]
        obtain⟨q,hq⟩:=Na (bz ((be e 4).take m));rw[<- hq]at hql hnx Oa;have hor:=wO q x8 Nb Yz;have Ub:=Oa.sat.Q5;have c3:wr.cell? ⟨ub,0,none⟩=some (.int .u32 q):=aa Ub 0 rfl;have qav:=ae Ub;have H6:=Ob hnx Oa;have s1:IntKind.u32.wrap ((q:Int)*256)=(q:Int)*256:=wrap_u32 Nb Nb;clear WC hq hnx Oa Ub;go_wp2_with (first|(refine ai rfl (aX 116 (.tmp 73) (.tmp 72) rfl ub 0 #[.int .u32 q,.int .u32 0] 118 (.int .u32 ((q*256+x8:Nat):Int)) H6.z rfl rfl Nh Nc rfl rfl ?_);intro w7 OH;have VH:=NZ OH;clear OH;simp only[Act.put])|fail);go_roundw
        case rel=>exact⟨m+1,Nb,by go_num,by rw[H6.a];exact VH.o⟩
        case measure=>simp[intOf];omega
       ·obtain rfl:m=4:=Nb
        have hx4:bz ((be e 4).take 4)=e:=by rw[take_of_length_le (by rw[cf];omega),ju];exact Nat.mod_eq_of_lt Nb
        rw[hx4]at Oa;have HT3:=NZ Oa;clear Oa hx4;go_wp2_with fail;go_roundw
        case rel=>exact⟨0+1,Nb,by go_num,HT3.o⟩
        case measure=>simp[intOf]
     ·have hTj:=hT.to (H:=(ub,Is (iq e 0))::G) (Perm.refl _);have p0:wr.cell? ⟨pb,1,none⟩=some (.pointer (some ⟨ub,1,none⟩)):=aa (hTj.sat.Q7 (b:=pb) (o:=oE ub) (by rw[HG.o];simp)) 1 rfl;have hpl:=hTj.sat.lt (b:=pb) (by rw[HG.o];simp);have HTj:=NZ hTj;clear hT hTj;go_wp2_with fail;go_loopw [61] (fun i wr=>zy G ub 1 wh e w i wr) (fun i _=>4-(intOf i).toNat)
      case atStart=>exact⟨0,Nb,rfl,HTj.o⟩
      case round =>
       obtain⟨m,hm,rfl,Oa⟩:=hrel;by_cases hm4:m<4
       ·have hby:=HBy.o (4+m) Nb wr (Oa.sat.Q7 (by rw[HG.o];simp));obtain⟨x8,WC⟩:=Na (((bD e wh)[4+m]'(by rw[hbl];omega)).toNat);have Yz:x8<256:=by rw[WC];exact UInt8.toNat_lt _
        rw[<- WC]at hby
        rw[<- Nat.add_assoc]at hby
        have hql:bz ((be wh 4).take m)<16777216:=by
         have h1:=fU ((be wh 4).take m);have h2:((be wh 4).take m).length<=3:=Nj
         have h3:(256:Nat) ^ ((be wh 4).take m).length<=256 ^ 3:=Nat.pow_le_pow_right Nb h2;omega
        have hnx:bz ((be wh 4).take (m+1))=bz ((be wh 4).take m)*256+x8:=by
         rw[QH (by rw[cf];exact hm4),oV,WC];congr 2;simp only[bD];rw[getElem_append_right (by rw[cf];omega)];simp[cf]
        obtain⟨q,hq⟩:=Na (bz ((be wh 4).take m));rw[<- hq]at hql hnx Oa;have hor:=wO q x8 Nb Yz;have Ub:=Oa.sat.Q5;have c3:wr.cell? ⟨ub,1,none⟩=some (.int .u32 q):=aa Ub 1 rfl;have qav:=ae Ub;have H6:=Ob hnx Oa;have s1:IntKind.u32.wrap ((q:Int)*256)=(q:Int)*256:=wrap_u32 Nb Nb;clear WC hq hnx Oa Ub;go_wp2_with (first|(refine ai rfl (aX 116 (.tmp 73) (.tmp 72) rfl ub 1 #[.int .u32 e,.int .u32 q] 118 (.int .u32 ((q*256+x8:Nat):Int)) H6.z rfl rfl Nh Nc rfl rfl ?_);intro w7 OH;have VH:=NZ OH;clear OH;simp only[Act.put])|fail);go_roundw
        case rel=>exact⟨m+1,Nb,by go_num,by rw[H6.a];exact VH.o⟩
        case measure=>simp[intOf];omega
       ·obtain rfl:m=4:=Nb
        have hx4:bz ((be wh 4).take 4)=wh:=by rw[take_of_length_le (by rw[cf];omega),ju];exact Nat.mod_eq_of_lt Nb
        rw[hx4]at Oa;have HT3:=NZ Oa;clear Oa hx4;go_wp2_with fail;go_roundw
        case rel=>exact⟨1+1,Nb,by go_num,HT3.o⟩
        case measure=>simp[intOf]
     ·have HT9:=NZ (show Turns [] ((ub,Is (iq e wh))::G) w wr from hT);clear hT;go_upto_region 22 with(fail);have O4:=HT9.o.to (H:=(b6,Is (.cells (aw s) 43 (0,0)))::(ub,Is (iq e wh))::((pb,Is (oE ub))::(fN u2 (iL us k)++J))) (by rw[HG.o];exact ac);have HT9:=NZ O4;have hsl:=Ro.o;refine cH [([0,1],2,[0])] [3,4,5,6,7,8,9,10,11] HM.o Nc fun W tW=>?_
      simp only[Mix,map_cons,map_nil,nth,QG,QF];have k0:=tW HT9.o;clear tW;have gs:∀{W:World},W.heap[b6]?=some (.cells (aw s) 43 (0,0))->W.rangeAt b6 0 (s.map am):=fun h=>by have:=dX h 0 128;rwa [drop_zero,take_of_length_le Nb]at this
      refine iR 43 (.tmp 6) rfl rfl b6 0 rfl (s.map am) _ (gs (k0.sat.Q7 Nh)) underlying43 rfl (gT hsl) ?_;refine iR 118 (.tmp 11) rfl rfl ub 0 rfl [.int .u32 e,.int .u32 wh] _ (fun j v hv=>aa (k0.sat.Q7 (b:=ub) (o:=iq e wh) Nh) (0+j) (by rw[Nat.zero_add,<- Array.getElem?_toList];exact hv)) underlying118 rfl Nc (wpStill_nil ?_);refine aO Nc (mh e wh he hwh W) ?_;rintro e3 w9 ⟨rfl,hs3⟩;have hTA:=k0.Q8 hs3;refine⟨_,rfl,iR 43 (.tmp 6) rfl rfl b6 0 rfl (s.map am) _ (gs (hTA.sat.Q7 Nh)) underlying43 rfl (gT hsl) rfl,?_⟩
      cases b1
      ·refine cq rfl (EB .eql 43 (.tmp 76) (.tmp 78) _ rfl lw (aw s) (aw (bO e wh)) (.bool false) (by rw[EH s _ hsl (co e wh),HK.b]) rfl rfl) ?_;simp only[Act.put,QA,QB,QC];clear k0 gs hs3;have Y7:=NZ hTA;clear O4 hTA;still_step
       iterate 6
        refine Ln rfl ?_;simp only[Act.put,QA,QB,QC]
       still_step;refine wpStill_nil ?_;go_wp2_with fail;go_roundw
       case rel=>exact⟨k+1,(b6,Is (.cells (aw s) 43 (0,0)))::(ub,Is (iq e wh))::((pb,Is (oE ub))::J),Nb,by go_num,by rw[H1.x,HK.a];simpa using H1.b,by rw[<- H1.a,HE.o],by rw[H1.x,HK.a];exact Y7.o.to (by simp only[Bool.false_and,Bool.false_eq_true,if_false,Option.toList_none,append_nil];exact ac)⟩
       case measure=>simp[intOf];omega
      ·refine cq rfl (EB .eql 43 (.tmp 76) (.tmp 78) _ rfl lw (aw s) (aw (bO e wh)) (.bool true) (by rw[EH s _ hsl (co e wh),HK.b]) rfl rfl) ?_;simp only[Act.put,QA,QB,QC];have g0:w9.cell? ⟨ub,0,none⟩=some (.int .u32 e):=aa (hTA.sat.Q7 (b:=ub) (o:=iq e wh) Nh) 0 rfl;iterate 3 still_step
       refine qM rfl (v:=.int .u32 ((e%2:Nat):Int)) (by simp[execOp,eqGuard,BO e he,Act.eval]) ?_;simp only[Act.put,QA,QB,QC];still_step;refine qM rfl (v:=.int .u32 k) (by simp[execOp,D1 k Nb,Act.eval]) ?_
       cases b2
       ·refine qM rfl (v:=.bool false) (by have q:=xG (t:=116) (e%2) k w9;rw[HK.y]at q;simp only[Int.natCast_emod,Int.cast_ofNat_Int]at q;simp[execOp,eqGuard,q,Act.eval,Act.put]) ?_;simp only[Act.put,QA,QB,QC];still_step;refine wpStill_nil ?_;have Y7:=NZ hTA;clear k0 gs g0 hs3 O4 hTA;go_wp2_with fail;go_roundw
        case rel=>exact⟨k+1,(b6,Is (.cells (aw s) 43 (0,0)))::(ub,Is (iq e wh))::((pb,Is (oE ub))::J),Nb,by go_num,by rw[H1.x,HK.a];simpa using H1.b,by rw[<- H1.a,HE.o],by rw[H1.x,HK.a];exact Y7.o.to (by simp only[Bool.and_false,Bool.false_eq_true,if_false,Option.toList_none,append_nil];exact ac)⟩
        case measure=>simp[intOf];omega
       ·refine qM rfl (v:=.bool true) (by have q:=xG (t:=116) (e%2) k w9;rw[HK.y]at q;simp only[Int.natCast_emod,Int.cast_ofNat_Int]at q;simp[execOp,eqGuard,q,Act.eval,Act.put]) ?_;simp only[Act.put,QA,QB,QC];still_step;refine wpStill_nil ?_;clear k0 gs g0 hs3;have hu9:=hTA.sat.Q7 (b:=ub) (o:=iq e wh) Nh;have f0:w9.cell? ⟨ub,0,none⟩=some (.int .u32 e):=aa hu9 0 rfl;have f1:w9.cell? ⟨ub,1,none⟩=some (.int .u32 wh):=aa hu9 1 rfl;have hul9:=ae hu9;have Zv:=hTA.to (H:=fN u2 (iL us k)++((b6,Is (.cells (aw s) 43 (0,0)))::(ub,Is (iq e wh))::((pb,Is (oE ub))::J))) ac;have Y7:=NZ Zv;have Wy:=pC us k;clear O4 hTA Zv hu9;go_wp2_with (first|(at_builtin;refine ai rfl ?_;refine zl (.tmp 88) (.tmp 90) rfl _ (iL us k) rfl (Y7.o.alloc _) H1.b _ 1 1 rfl [(e,wh)] rfl (fun _=>⟨_,rfl,fun j u hu=>ik _ _ _ j u (by simpa[nX]using hu)⟩) Nj ?_;intro v10 w10 Xo OM;have QW:=Ob Xo OM;clear Xo OM)|fail);go_roundw
        case rel=>exact⟨k+1,(b6,Is (.cells (aw s) 43 (0,0)))::(ub,Is (iq e wh))::((pb,Is (oE ub))::J),Nb,by go_num,by rw[H1.x,HK.a];exact QW.a,by rw[<- H1.a,HE.o],by rw[H1.x,HK.a];exact QW.z⟩
        case measure=>simp[intOf];omega
  ·obtain rfl:k=2:=Nb
   have hl2:=pC us 2;obtain⟨l,hl⟩:=Na (iL us 2);have HG:Hid (∀(e:Ending) (w':World),(∃v,e=.returned (.tuple #[v,.bool (cD L.now 2),.nilIface])/\xS v (fy l)/\Turns [] (fN v (fy l)) w w')->tH us (cD L.now 2) w e w'):=NZ (fun e w' h=>by unfold tH;rw[<- hl];exact h);rw[<- hl]at hlo hT hl2;have HS:=Ob hlo hT;clear hlo hT HC HL hl;by_cases h2:l.length=2
   ·obtain⟨p,q,rfl⟩:∃p q,l=[p,q]:=by
     match l,h2 with
     | [p,q],_=>exact⟨p,q,rfl⟩
    rcases(aW HS.z.sat.left HS.a).2 with⟨-,h0⟩|⟨g,cap,cur,hv,-,hg,h3,h4,h5,h6⟩
    ·exact absurd h0 Nh
    have h6:cur.toList.take 4=[.int .u32 p.1,.int .u32 p.2,.int .u32 q.1,.int .u32 q.2]:=h6;have hv:u2=.slice (some ⟨g,0,none⟩) 2 cap:=hv
    have hat:∀(W:World),W.heap[g]?=some (.cells cur 118 (0,0))->∀j v,j<4->[Value.int .u32 p.1,.int .u32 p.2,.int .u32 q.1,.int .u32 q.2][j]?=some v->W.cell? ⟨g,j,none⟩=some v:=fun W hW j v hj h=>by
     refine aa hW j ?_;rw[<- Array.getElem?_toList,<- h,<- h6,getElem?_take,NR hj]
    have c0:wr.cell? ⟨g,0,none⟩=some (.int .u32 p.1):=hat wr hg 0 _ Nk rfl;have c2:wr.cell? ⟨g,2,none⟩=some (.int .u32 q.1):=hat wr hg 2 _ Nk rfl;have hgl:=ae hg;have HSo:=HS.o;rw[hv]at HSo;subst hv;have hc2:(2:Nat)<=cap:=h3;have hc3:cap<=9223372036854775807:=by unfold maxLen at h4;omega
    have HS:=NZ HSo;clear hg h3 h4 h5 h6 hat HSo h2 hl2;by_cases hlt:p.1<q.1
    ·have hlt2:((p.1:Int)<(q.1:Int)):=Nb
     go_wp2_with fail;go_quiet (fail);go_upto_region 26 with(fail);refine cH [([0,1,2,3,4,5,6,7,8],9,[1]),([10],11,[])] [] HM.o Nc fun W tW=>?_
     simp only[Mix,map_cons,map_nil,nth,QG,QF];have hT:=tW (HS.z.drewN _);clear tW;have k0:W.cell? ⟨g,0,none⟩=some (.int .u32 p.1):=qI hT.sat.left 0 _ Nk rfl;have k1:W.cell? ⟨g,1,none⟩=some (.int .u32 p.2):=qI hT.sat.left 1 _ Nk rfl;have k2:W.cell? ⟨g,2,none⟩=some (.int .u32 q.1):=qI hT.sat.left 2 _ Nk rfl;have k3:W.cell? ⟨g,3,none⟩=some (.int .u32 q.2):=qI hT.sat.left 3 _ Nk rfl;repeat still_step
     refine wpStill_nil (vt (.tmp 115) (.tmp 111) rfl g cap 0 p q q hT Nk rfl rfl fun W1 hT1=>⟨by((repeat still_step);exact rfl),?_⟩);simp only[Act.put];clear k0 k1 k2 k3 hT;repeat still_step
     refine wpStill_nil (vt (.tmp 116) (.tmp 114) rfl g cap 1 q q p hT1 Nk rfl rfl fun W2 hT2=>⟨rfl,?_⟩);simp only[Act.put];clear hT1;refine wpStill_nil ?_;have H2:=NZ (Turns.drop (H:=fN (.slice (some ⟨g,0,none⟩) 2 cap) [q,p]) (show Turns [] (fN (.slice (some ⟨g,0,none⟩) 2 cap) [q,p]++J) w W2 from hT2) (fun x=>by simp only[af];omega));clear hT2;go_wp2_with fail;go_ret3;exact HG.o _ _ ⟨.slice (some ⟨g,0,none⟩) 2 cap,rfl,⟨by simp[fy,hlt,nX],fun h=>by simp[Value.ownBlock]at h⟩,by simpa[fy,hlt]using H2.o⟩
    ·have hlt2:¬((p.1:Int)<(q.1:Int)):=Nb
     go_wp2_with fail;go_quiet (fail);go_wp2_with fail;go_ret3;exact HG.o _ _ ⟨.slice (some ⟨g,0,none⟩) 2 cap,rfl,by simpa[fy,hlt]using HS.a,by simpa[fy,hlt]using(HS.z.drewN _).drop (fun x=>by simp only[af];omega)⟩
   ·have ho:fy l=l:=by
     match l,h2 with
     | [],_=>rfl
     | [p],_=>rfl
     | p::q::r::t,_=>rfl
    obtain⟨-,-,sl,cap,e1,-,-⟩:=cT HS.z.sat.left HS.a;obtain⟨m,hm⟩:=Na l.length;rw[<- hm]at e1 hl2 h2;have hne:((m:Int)==2)=false:=Nj
    have hne2:¬((m:Int)=2):=Nb
    have HM:=Oz hm e1 ho;clear hm ho h2;subst e1;go_wp2_with fail;go_quiet (fail);go_wp2_with fail;go_ret3;rw[HM.y]at HG;exact HG.o _ _ ⟨.slice sl m cap,rfl,HS.a,(HS.z.drewN _).drop (fun x=>by simp only[af];omega)⟩
def vp(l:Bs)(bad:Bool):Nat:=dl l bad 1
def lI(l:Bs)(bad:Bool):Bs:=eR (eR l bad 1) (fd l bad 1) (vp l bad)
def kS(l:Bs)(bad:Bool):Bool:=fd (eR l bad 1) (fd l bad 1) (vp l bad)
def gm(l:Bs)(bad:Bool):Bs:=if fd l bad 1=true\/(eR l bad 1).length<vp l bad then[]else(eR l bad 1).take (vp l bad)
def wA(rb:Nat)(l:Bs)(bad:Bool)(w:World)(e:Ending)(w':World):Prop :=
 e=.returned (str (gm l bad))/\Rd w' rb (lI l bad) (kS l bad)/\N7 (fun k=>k=rb) w w'
theorem gk(l:Bs)(bad:Bool)(n:Nat):(eR l bad n).length<=l.length:=by
 unfold eR;split<;>simp
theorem BA(l:Bs)(bad:Bool):dl l bad 1<=255:=by
 unfold dl;split
 ·omega
 ·have:=fU (l.take 1);have h2:(l.take 1).length<=1:=Nj
  have h3:256 ^ (l.take 1).length<=256 ^ 1:=Nat.pow_le_pow_right Nb h2;omega
theorem iK(l:Bs)(bad:Bool):(lI l bad).length<=l.length:=Nat.le_trans (gk _ _ _) (gk _ _ _)
theorem mq(l:Bs)(bad:Bool):(gm l bad).length<=255:=by
 unfold gm;split
 ·simp
 ·rw[NS];have:=BA l bad;unfold vp;omega
theorem ne(rb:Nat)(l:Bs)(bad:Bool)(w:World)(h:Rd w rb l bad)(hl:l.length<=1099511627776):
  Calls prog 142 #[.pointer (some ⟨rb,0,none⟩)] w (wA rb l bad w):=by
 have HN:=NZ (dm rb l bad 1 w h hl Nb);clear h;go_enter func142,ntmps142;go_wp2_with fail;refine HN.o.mono ?_;rintro e w1 ⟨rfl,hR,hm,-⟩;have h2:=BA l bad;have h3:=gk l bad 1;have HB:=NZ (rX rb (eR l bad 1) (fd l bad 1) (dl l bad 1) w1 hR Nb Nb);have H1:=NZ hm;clear hR hm;go_wp2_with fail;refine HB.o.mono ?_;intro e w2 hp;obtain⟨a,cap,bs,rfl,hc,-,hbs,hR2,hm2,-⟩:=ow hp;have hs:=i5 cap hc;have H2:=Oz hbs hR2 hm2;clear hp hc hbs hR2 hm2;go_wp2_with fail;go_ret;refine ⟨?_,H2.b,H1.o.trans H2.y⟩;rw[H2.a];rfl
def iE(l:Bs):List Int:=(range (l.length / 4)).map fun i=>((bz ((l.drop (4*i)).take 4):Nat):Int)
theorem jb(l:Bs):(iE l).length=l.length / 4:=by simp[iE]
theorem Dz{l:Bs}{k:Nat}(h:k<l.length / 4):(iE l).take (k+1)=(iE l).take k++[((bz ((l.drop (4*k)).take 4):Nat):Int)]:=by
 rw[QH (by rw[jb];exact h)];simp[iE]
def Md:Value->Nat
 | .slice _ n _=>n
 | _=>0
theorem KG{v:Value}{l:List Int}{w:World}(hs:Sat w (ck v l))(h:RJ v l):Md v=l.length:=by
 obtain⟨av,cv,rfl,-⟩:=aP (aW hs h);rfl
def Tv(rb:Nat):HF:=[(rb,fun _=>True)]
def Ct(l:Bs)(bad:Bool)(ns:List Int)(l':Bs)(b':Bool):Prop :=
 (b'=false/\bad=false/\∃k,k<=l.length / 4/\l'=l.drop (4*k)/\ns=(iE l).take k)\/(b'=true/\(bad=true\/l.length%4≠0)/\ns.length<=l.length+1)
def Ib(rb:Nat)(l:Bs)(bad:Bool)(w:World)(v:Value)(W:World):Prop :=
 ∃ns l' b',RJ v ns/\Turns (Tv rb) (ck v ns++Tv rb) w W/\Rd W rb l' b'/\Ct l bad ns l' b'
def Fl(rb:Nat)(l:Bs)(bad:Bool)(w:World)(e:Ending)(w':World):Prop :=
 ∃v ns l' b',e=.returned v/\RJ v ns/\Turns (Tv rb) (ck v ns++Tv rb) w w'/\Rd w' rb l' b'/\((b'=false/\bad=false/\l.length%4=0/\l'=[]/\ns=iE l)\/(b'=true/\(bad=true\/l.length%4≠0)/\ns.length<=l.length+1))
theorem JC{rb:Nat}{w w':World}(hm:N7 (fun k=>k=rb) w w'){F G:HF}{A:World}{o:Obj}(h:Turns F (G++Tv rb) A w)(ho:w'.heap[rb]?=some o):Turns F (G++[(rb,Is o)]) A w' :=
 ((h.to (H:=(rb,fun _=>True)::G) (by unfold Tv;exact perm_append_comm)).put hm ho Is.rfl).to (perm_append_comm (l₁:=[(rb,Is o)]))
theorem DW{rb:Nat}{w:World}{F G:HF}{A:World}{o:Obj}(h:Turns F (G++[(rb,Is o)]) A w):Turns F (G++Tv rb) A w:=by
 have h1:=h.to (H:=(rb,Is o)::G) perm_append_comm;exact(h1.put (N7.refl _ _) h1.sat.Q5 (ψ:=fun _=>True) trivial).to (by unfold Tv;exact perm_append_comm (l₁:=[(rb,fun _=>True)]))
theorem Rd.via{rb:Nat}{l:Bs}{b:Bool}{w0 W w':World}(h:Rd W rb l b)(h1:N7 (fun k=>k∈dom (Tv rb)) w0 W)(h2:N7 (fun k=>k∈dom (Tv rb)) w0 w')(hr:rb<w0.heap.size)(he:w'.heap[rb]?=W.heap[rb]?):Rd w' rb l b:=by
 obtain⟨a,cap,e1,e2,e3,e4⟩:=h;refine⟨a,cap,?_,e2,fun hp=>?_,e4⟩
 ·unfold tB at e1 ⊢;rw[he];exact e1
 ·obtain⟨g,off,ha,hc⟩:=e3 hp;have hg:g<rb:=e4 _ ha;have hS:¬(g∈dom (Tv rb)):=by simp[Tv,dom];omega
  refine⟨g,off,ha,fun j hj=>?_⟩;rw[<- hc j hj];exact World.cell?_of_block ((h2.block g Nb hS).trans (h1.block g Nb hS).symm)
theorem Bg{l l':Bs}{bad:Bool}{ns:List Int}(h:Ct l bad ns l' false)(hne:l'≠[]):Ct l bad (ns++[((dl l' false 4:Nat):Int)]) (eR l' false 4) (fd l' false 4)/\ns.length<=l.length:=by
 rcases h with⟨-,hb,k,hk,rfl,rfl⟩|⟨h,-,-⟩
 ·have hl:(l.drop (4*k)).length=l.length-4*k:=NT;have hl2:((iE l).take k).length=k:=by rw[NS,jb];omega
  have hpos:0<l.length-4*k:=by rw[<- hl];exact length_pos_iff.2 hne
  refine⟨?_,Nb⟩;by_cases h4:(l.drop (4*k)).length<4
  ·refine .inr ⟨by simp[fd];omega,.inr Nb,?_⟩;rw[NM,hl2];simp;omega
  ·refine .inl ⟨by simp[fd];omega,hb,k+1,Nb,?_,?_⟩
   ·unfold eR;rw[NQ Nj,drop_drop];congr 1
   ·unfold dl;rw[NQ Nj,Dz Nb]
 ·cases h
theorem oD(rb:Nat)(l:Bs)(bad:Bool)(w:World)(h:Rd w rb l bad)(hl:l.length<=70000):
  Calls prog 143 #[.pointer (some ⟨rb,0,none⟩)] w (Fl rb l bad w):=by
 have hrl:rb<w.heap.size:=by obtain⟨a,cap,h1,-⟩:=h;exact ae h1
 have HH:=NZ h;clear h;go_enter func143,ntmps143;go_wp2_with fail;go_loopw [3] (fun v wr=>Ib rb l bad w v wr) (fun v _=>l.length+2-Md v)
 case atStart =>
  refine⟨[],l,bad,lW,?_,HH.o,?_⟩
  ·rw[AO];obtain⟨a,cap,h1,-⟩:=HH.o;exact Turns.refl (Sat.one h1 trivial)
  ·cases bad with
   | false=>exact .inl ⟨rfl,rfl,0,Nat.zero_le _,rfl,rfl⟩
   | true=>exact .inr ⟨rfl,.inl rfl,Nh⟩
 case round =>
  obtain⟨ns,l',b',Ph,hT,hR,hN⟩:=hrel;obtain⟨a',cap',e1,e2,e3,e4⟩:=hR;have c0:wr.cell? ⟨rb,0,none⟩=some (.slice a' l'.length cap'):=aa e1 0 rfl;have c1:wr.cell? ⟨rb,1,none⟩=some (.bool b'):=aa e1 1 rfl;have hlv:=KG hT.sat.left Ph;have HR:=OW Ph hT (show Rd wr rb l' b' from⟨a',cap',e1,e2,e3,e4⟩) hN;clear Ph hT hN e1 e2 e3 e4;by_cases h0:l'=[]
  ·have hd:l'.length=0:=by rw[h0];rfl
   rw[hd]at c0;go_wp2_with fail;go_ret;refine ⟨u3,ns,l',b',rfl,HR.a,HR.b,HR.c,?_⟩;rcases HR.x with⟨h1,h2,k,h3,h4,h5⟩|h
   ·refine .inl ⟨h1,h2,?_,h0,?_⟩
    ·have:=congrArg length h4;rw[h0,NT]at this;simp at this;omega
    ·rw[h5,take_of_length_le];rw[jb];have:=congrArg length h4;rw[h0,NT]at this;simp at this;omega
   ·exact .inr h
  ·have hp:0<l'.length:=length_pos_iff.2 h0
   cases b' with
   | true =>
    go_wp2_with fail;go_ret;refine ⟨u3,ns,l',true,rfl,HR.a,HR.b,HR.c,?_⟩;rcases HR.x with⟨h1,-⟩|h
    ·cases h1
    ·exact .inr h
   | false =>
    have hnx:=Bg HR.x h0;have HN:=NZ (dm rb l' false 4 wr HR.c (by rcases HR.x with⟨-,-,k,-,rfl,-⟩|⟨h,-⟩<;>first|(rw[NT];omega)|cases h) Nb);have HX:=Ob hnx.1 hlv;have hnl:=hnx.2;clear hnx hlv;go_wp2_with fail;refine HN.o.mono ?_;rintro e w1 ⟨rfl,hR1,hm1,-⟩;obtain⟨o,ho⟩:∃o,w1.heap[rb]?=some o:=by obtain⟨a,c,h1,-⟩:=hR1;exact⟨_,h1⟩
    have hT1:=JC hm1 HR.b ho;obtain⟨x,hx⟩:=Na (dl l' false 4);rw[<- hx]at HX ⊢;have H1:=Oz hR1 ho hT1;clear hR1 hm1 ho hT1 hx c0 c1;go_wp2_with ((at_builtin;refine ai rfl ?_;refine kt (.tmp 17) (.tmp 20) rfl _ ns rfl (H1.y.alloc _) HR.a _ 1 1 rfl [(x:Int)] rfl (fun _=>⟨_,rfl,fun j u hu=>ik _ _ _ j u hu⟩) Nj ?_;intro av cv w5 Pe Og;have H5:=Ob Pe Og;clear Pe Og));go_roundw
    case rel =>
     have h5:=H5.z;have Zp:=Rd.via H1.a (H1.y.mods) h5.mods hrl ((h5.sat.Q7 (b:=rb) Nh).trans H1.b.symm);refine⟨_,_,_,?_,DW (o:=o) ?_,Zp,HX.a⟩
     ·have:=H5.a;rw[NM]at this;exact this
     ·rw[NM]at h5;exact h5
    case measure=>rw[HX.z];simp[Md];omega
end
end Go.Proofs.YtdhobpbngkainaaGreatDoor
