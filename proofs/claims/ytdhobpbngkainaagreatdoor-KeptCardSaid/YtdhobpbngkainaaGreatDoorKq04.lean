/- Ours. A part of the proof, made small by a program. -/
import Derived.Test.YtdhobpbngkainaaGreatDoorKq03
set_option maxRecDepth 100000
set_option maxHeartbeats 4000000
namespace Go.Proofs.YtdhobpbngkainaaGreatDoor
section
open Go.RowKit Go.Maps
structure RVer where
 path:Bs
 num:Int
 cont:Bs
 cv:Value
 held:Int
structure RTag where
 name:Bs
 path:Bs
 num:Int
structure RefL where
 blk:Nat
 vv:Value
 vs:List RVer
 tv:Value
 ts:List RTag
 quota:Int
 closed:Bool
def lj(v:RVer):List Value:=[str v.path,.int .i64 v.num,v.cv,.int .i64 v.held]
def bB(l:List RVer):List Value:=l.flatMap lj
def nW(t:RTag):List Value:=[str t.name,str t.path,.int .i64 t.num]
def cK(l:List RTag):List Value:=l.flatMap nW
theorem bu(l:List RVer):(bB l).length=l.length*4:=by
 induction l with
 | nil=>rfl
 | cons a r ih=>simp only[bB,List.flatMap_cons,List.length_append,List.length_cons]at ih ⊢;rw[ih];simp[lj];omega
theorem b8(l:List RTag):(cK l).length=l.length*3:=by
 induction l with
 | nil=>rfl
 | cons a r ih=>simp only[cK,List.flatMap_cons,List.length_append,List.length_cons]at ih ⊢;rw[ih];simp[nW];omega
theorem jd(l m:List RVer):bB (l++m)=bB l++bB m:=by simp[bB]
theorem jb(l m:List RTag):cK (l++m)=cK l++cK m:=by simp[cK]
def cH(v:Value)(l:List RVer):HF:=bN 193 4 v l.length (bB l)
def kK(v:Value)(l:List RVer):Prop:=dj 4 v l.length (bB l)
def cI(v:Value)(l:List RTag):HF:=bN 237 3 v l.length (cK l)
def tH(v:Value)(l:List RTag):Prop:=dj 3 v l.length (cK l)
def bE(R:RefL):Array Value:=#[R.vv,R.tv,.int .i64 R.quota,.bool R.closed]
def iA(R:RefL):Obj:=.cells (bE R) 60 (0,0)
def aI(R:RefL):HF:=(R.blk,Is (iA R))::(cH R.vv R.vs++cI R.tv R.ts)
structure RefOk (R:RefL):Prop where
 vs:kK R.vv R.vs
 ts:tH R.tv R.ts
abbrev fc:=List (Value×Bs)
def bc(P:fc):HF:=P.flatMap fun p=>aK p.1 p.2
def qb(P:fc):Prop:=∀p∈P,bOk p.1 p.2
def qL(P:fc)(R:RefL):Prop:=∀v∈R.vs,(v.cv,v.cont)∈P
theorem jZ{P:fc}(h:qb P){w:World}(hs:Sat w (bc P)){v:Value}{l:Bs}(hm:(v,l)∈P):∃sl cap,v=.slice sl l.length cap/\l.length<=cap/\ak w sl (l.map ao)/\(∀x,sl=some x->x.block∈dom (bc P)):=by
 have h1:Sat w (aK v l):=Sat.flat (f:=fun p:Value×Bs=>aK p.1 p.2) hs hm;obtain⟨a,c,e,-,h3,h4,h5⟩:=aV (dX h1 (h _ hm));refine⟨a,c,e,h3,h4,fun x hx=>?_⟩;have hb:x.block∈dom (aK v l):=(ga _ _ _ _ _ _).2 (h5 x hx);obtain⟨p,hp,hpe⟩:=List.mem_map.1 hb;exact List.mem_map.2 ⟨p,List.mem_flatMap.2 ⟨_,hm,hp⟩,hpe⟩
theorem ew{w:World}{e size n:Nat}{v:Value}{xs:List Value}(hs:Sat w (bN e size v n xs))(h:dj size v n xs):v.oneCell'=true/\v.cells=#[v]/\∃a cap,v=.slice a n cap/\n<=cap/\cap<=9223372036854775807:=by
 rcases(aW hs h).2 with⟨rfl,rfl⟩|⟨g,cap,cur,rfl,_,_,h1,h2,_,_⟩
 ·exact⟨rfl,rfl,none,0,rfl,Nat.le_refl _,by omega⟩
 ·exact⟨rfl,rfl,_,cap,rfl,h1,by unfold maxLen at h2;omega⟩
theorem bV{w:World}{e size n:Nat}{v:Value}{xs:List Value}(hs:Sat w (bN e size v n xs))(h:dj size v n xs)(_:0<size):∃a cap,v=.slice a n cap/\n<=cap/\cap<=9223372036854775807/\ak w a xs/\(∀x,a=some x->v.ownBlock=some x.block):=by
 obtain⟨hl,hc⟩:=aW hs h;rcases hc with⟨rfl,rfl⟩|⟨g,cap,cur,rfl,_,hg,h1,h2,h3,h4⟩
 ·refine⟨none,0,rfl,Nat.le_refl _,by omega,fun hp=>?_,fun x hx=>by cases hx⟩;rw[hl]at hp;simp at hp
 ·refine⟨_,cap,rfl,h1,by unfold maxLen at h2;omega,fun hp=>⟨g,0,rfl,fun j hj=>?_⟩,fun x hx=>by obtain rfl:=Option.some.inj hx;rfl⟩;rw[Nat.zero_add];refine aa hg j ?_;rw[<- Array.getElem?_toList];have e1:(cur.toList.take (n*size))[j]?=cur.toList[j]?:=by rw[List.getElem?_take];rw[if_pos (by omega)]
  rw[<- e1,h4];exact List.getElem?_eq_getElem hj
theorem GJ:(Tryz.prog.info? 193).map (fun i=>(i.zero,i.size,i.bytes))=some (some (.agg #[str [],.int .i64 0,.slice none 0 0,.int .i64 0]),4,56):=by kernel_rfl
theorem GI:(Tryz.prog.info? 237).map (fun i=>(i.zero,i.size,i.bytes))=some (some (.agg #[str [],str [],.int .i64 0]),3,40):=by kernel_rfl
theorem E5{l:List RVer}(h:∀v∈l,v.cv.oneCell'=true):∀u∈bB l,u.oneCell'=true:=fun u hu=>by
 obtain⟨v,hv,hx⟩:=List.mem_flatMap.1 hu
 simp only[lj,List.mem_cons,List.not_mem_nil,or_false]at hx
 rcases hx with rfl|rfl|rfl|rfl
 ·rfl
 ·rfl
 ·exact h v hv
 ·rfl
theorem EY(l:List RTag):∀u∈cK l,u.oneCell'=true:=fun u hu=>by
 obtain⟨v,hv,hx⟩:=List.mem_flatMap.1 hu
 simp only[nW,List.mem_cons,List.not_mem_nil,or_false]at hx
 rcases hx with rfl|rfl|rfl<;>rfl
theorem g9{o:Oper}{a:Act}{w a0:World}{K:Act->World->Prop}{Q:Exit->Act->World->Prop}{F G:HF}(s x:Operand)(hop:o.op=.call { callee:=.builtin .append,args:=#[s,x],argTypes:=#[57,57] })(v:Value)(l:List RVer)(hs:a.eval s=v)(hT:Turns F (cH v l++G) a0 w)(hok:kK v l)(sa:Option Addr)(m c:Nat)(hx:a.eval x=.slice sa m c)(r:List RVer)(hm:m=r.length)(hc:ak w sa (bB r))(h1:∀v∈r,v.cv.oneCell'=true)(hb:l.length+r.length<=1000000)(hk:∀v' w',kK v' (l++r)->Turns F (cH v' (l++r)++G) a0 w'->K (a.put o.dst v') w'):o.wp Tryz.prog a w K Q:=by
 obtain⟨i0,hi0,hz1,hz2,hz3⟩:=info_parts GJ;refine cY s x 57 193 i0 (.agg #[str [],.int .i64 0,.slice none 0 0,.int .i64 0]) 4 56 hop Tryz.underlying57 hi0 hz1 hz2 hz3 rfl (by decide) v l.length (bB l) hs hT hok sa m c hx (bB r) (by rw[bu,hm]) (fun hp=>?_) (E5 h1) (by unfold maxLen;omega) (by omega) (fun v' w' k1 k2 _=>hk v' w' (by unfold kK;rw[List.length_append,jd,<- hm];exact k1) (by unfold cH;rw[List.length_append,jd,<- hm];exact k2));obtain⟨g,off,e,hcc⟩:=hc (by rw[bu];omega);exact⟨_,e,fun j u hu=>by obtain⟨hj,rfl⟩:=List.getElem?_eq_some_iff.1 hu;rw[Addr.add_lit];exact hcc j hj⟩
theorem g8{o:Oper}{a:Act}{w a0:World}{K:Act->World->Prop}{Q:Exit->Act->World->Prop}{F G:HF}(s x:Operand)(hop:o.op=.call { callee:=.builtin .append,args:=#[s,x],argTypes:=#[58,58] })(v:Value)(l:List RTag)(hs:a.eval s=v)(hT:Turns F (cI v l++G) a0 w)(hok:tH v l)(sa:Option Addr)(m c:Nat)(hx:a.eval x=.slice sa m c)(r:List RTag)(hm:m=r.length)(hc:ak w sa (cK r))(hb:l.length+r.length<=1000000)(hk:∀v' w',tH v' (l++r)->Turns F (cI v' (l++r)++G) a0 w'->K (a.put o.dst v') w'):o.wp Tryz.prog a w K Q:=by
 obtain⟨i0,hi0,hz1,hz2,hz3⟩:=info_parts GI;refine cY s x 58 237 i0 (.agg #[str [],str [],.int .i64 0]) 3 40 hop Tryz.underlying58 hi0 hz1 hz2 hz3 rfl (by decide) v l.length (cK l) hs hT hok sa m c hx (cK r) (by rw[b8,hm]) (fun hp=>?_) (EY _) (by unfold maxLen;omega) (by omega) (fun v' w' k1 k2 _=>hk v' w' (by unfold tH;rw[List.length_append,jb,<- hm];exact k1) (by unfold cI;rw[List.length_append,jb,<- hm];exact k2));obtain⟨g,off,e,hcc⟩:=hc (by rw[b8];omega);exact⟨_,e,fun j u hu=>by obtain⟨hj,rfl⟩:=List.getElem?_eq_some_iff.1 hu;rw[Addr.add_lit];exact hcc j hj⟩
theorem Kk(F1 Z:HF)(A:World)(cb ab:Nat)(CC CA:Array Value)(sl:Option Addr)(cap:Nat)(l:List RVer)(xv:Value){Q:Exit->Act->World->Prop}{w:World}{u1 u2 u4 u5 u6 u7 u8 u9 aS aT ad ag aj ar av ax a0 a1 a2 a3 a4 a5 a6 a7 a9 bY bg bj bk bo bs bv bx:Value}{ds:List Deferred}(hT:Turns F1 ((cb,Is (.cells CC 60 (0,0)))::(ab,Is (.cells CA 60 (0,0)))::(cH xv l++Z)) A w)(hcc:CC[0]?=some (.slice none 0 0))(hca:CA[0]?=some (.slice sl l.length cap))(hsz:0<CC.size)(hok:kK xv l)(hxv:xv=.slice sl l.length cap)(h1:∀v∈l,v.cv.oneCell'=true)(hl:l.length<=1000000)(hk:∀(b0 b1 b2 b3 b4 b6 b7 b9 ca cc ch ci:Value) (w':World),kK cc l->Turns F1 ((cb,Is (.cells (CC.setIfInBounds 0 cc) 60 (0,0)))::(ab,Is (.cells CA 60 (0,0)))::(cH cc l++(cH xv l++Z))) A w'->Q .normal { tmps:=#[.pointer (some ⟨ab,0,none⟩),u1,u2,.pointer (some ⟨cb,0,none⟩),u4,u5,u6,u7,u8,u9,b0,b1,b2,b3,b4,b6,b7,b9,ca,cc,ch,ci,a4,a5,a6,a7,a9,bY,bg,bj,bk,bo,bs,bv,bx],defers:=ds } w'):
  (iq 2 Tryz.f37).wp Tryz.prog Q { tmps:=#[.pointer (some ⟨ab,0,none⟩),u1,u2,.pointer (some ⟨cb,0,none⟩),u4,u5,u6,u7,u8,u9,aS,aT,ad,ag,aj,ar,av,ax,a0,a1,a2,a3,a4,a5,a6,a7,a9,bY,bg,bj,bk,bo,bs,bv,bx],defers:=ds } w:=by
 have HM:=qqH (show Tryz.prog.follows .mixedOrders=true by kernel_rfl);conv=>arg 2;whnf
 refine cB (A:=?A) (hA:=?hA) HM.out (iT [fun v=>v=.pointer (some ⟨cb,0,none⟩),fun v=>v=.pointer (some ⟨cb,0,none⟩),fun v=>v=.pointer (some ⟨cb,0,none⟩),fun v=>v=.pointer (some ⟨cb,0,none⟩),fun v=>v=.slice none 0 0,fun v=>v=.pointer (some ⟨ab,0,none⟩),fun v=>v=.pointer (some ⟨ab,0,none⟩),fun v=>v=.pointer (some ⟨ab,0,none⟩),fun v=>v=.slice sl l.length cap,fun _=>True,fun v=>v=.pointer (some ⟨cb,0,none⟩),fun v=>v=.pointer (some ⟨cb,0,none⟩),fun _=>True])
  (fun vs1 W=>match vs1 with
  | []=>Turns F1 (cH (.slice none 0 0) []++((cb,Is (.cells CC 60 (0,0)))::(ab,Is (.cells CA 60 (0,0)))::(cH xv l++Z))) A W
  | [u]=>kK u l/\Turns F1 (cH u l++((cb,Is (.cells CC 60 (0,0)))::(ab,Is (.cells CA 60 (0,0)))::(cH xv l++Z))) A W
  | [u,_]=>kK u l/\Turns F1 ((cb,Is (.cells (CC.setIfInBounds 0 u) 60 (0,0)))::(ab,Is (.cells CA 60 (0,0)))::(cH u l++(cH xv l++Z))) A W
  | _=>False)
  (fun W=>W.heap[cb]?=some (.cells CC 60 (0,0))/\W.heap[ab]?=some (.cells CA 60 (0,0))) [9,12] ?hC (by kernel_rfl) (by kernel_rfl) (by kernel_rfl) (by decide) (by decide) ?h0 ?hs ?he
 case hA=>intro x;simp only[aw,Act.put,List.setIfInBounds_toArray,List.set_cons_zero,List.set_cons_succ,Nat.reduceAdd];rfl
 case hs =>
  refine⟨ac rfl rfl (fun x wq hd hC K hK hKw=>?_),ac rfl rfl (fun x wq hd hC K hK hKw=>?_),ac rfl rfl (fun x wq hd hC K hK hKw=>?_),ac rfl rfl (fun x wq hd hC K hK hKw=>?_),ac rfl rfl (fun x wq hd hC K hK hKw=>?_),ac rfl rfl (fun x wq hd hC K hK hKw=>?_),ac rfl rfl (fun x wq hd hC K hK hKw=>?_),ac rfl rfl (fun x wq hd hC K hK hKw=>?_),ac rfl rfl (fun x wq hd hC K hK hKw=>?_),au 0 rfl rfl (fun x wq hd hS K hK=>?_),ac rfl rfl (fun x wq hd hC K hK hKw=>?_),ac rfl rfl (fun x wq hd hC K hK hKw=>?_),au 1 rfl rfl (fun x wq hd hS K hK=>?_),trivial⟩
  ·exact am (by kernel_rfl) (hK _ rfl)
  ·exact am (by kernel_rfl) (hK _ rfl)
  ·have h1:x 1=.pointer (some ⟨cb,0,none⟩):=ae hd 1 (by kernel_rfl);exact am (by rw[h1];kernel_rfl) (hK _ rfl)
  ·have h2:x 2=.pointer (some ⟨cb,0,none⟩):=ae hd 2 (by kernel_rfl);exact am (by rw[h2];kernel_rfl) (hK _ rfl)
  ·have h3:x 3=.pointer (some ⟨cb,0,none⟩):=ae hd 3 (by kernel_rfl);exact bD Tryz.underlying57 rfl rfl (by rw[h3];rfl) (aa hC.1 0 hcc) (hK _ rfl)
  ·exact am (by kernel_rfl) (hK _ rfl)
  ·have h5:x 5=.pointer (some ⟨ab,0,none⟩):=ae hd 5 (by kernel_rfl);exact am (by rw[h5];kernel_rfl) (hK _ rfl)
  ·have h6:x 6=.pointer (some ⟨ab,0,none⟩):=ae hd 6 (by kernel_rfl);exact am (by rw[h6];kernel_rfl) (hK _ rfl)
  ·have h7:x 7=.pointer (some ⟨ab,0,none⟩):=ae hd 7 (by kernel_rfl);exact bD Tryz.underlying57 rfl rfl (by rw[h7];rfl) (aa hC.2 0 hca) (hK _ rfl)
  ·have h4:x 4=.slice none 0 0:=ae hd 4 (by kernel_rfl);have h8:x 8=.slice sl l.length cap:=ae hd 8 (by kernel_rfl);have hrow:=hS.sat.sub (G:=cH xv l) bw;obtain⟨a',c',e1,_,_,hcells,_⟩:=bV hrow hok (by decide);rw[hxv]at e1;simp only[Value.slice.injEq]at e1;obtain⟨rfl,_,_⟩:=e1;exact g9 (.tmp 14) (.tmp 18) rfl (.slice none 0 0) [] (by rw[h4];rfl) hS ⟨rfl,fun _=>⟨rfl,rfl⟩⟩ sl l.length cap (by rw[h8];rfl) l rfl hcells h1 (by simpa using hl) (fun v1 w1 k1 k2=>hK _ _ trivial ⟨by simpa using k1,by simpa using k2⟩)
  ·have h0:x 0=.pointer (some ⟨cb,0,none⟩):=ae hd 0 (by kernel_rfl);exact am (by rw[h0];kernel_rfl) (hK _ rfl)
  ·have h10:x 10=.pointer (some ⟨cb,0,none⟩):=ae hd 10 (by kernel_rfl);exact am (by rw[h10];kernel_rfl) (hK _ rfl)
  ·have h11:x 11=.pointer (some ⟨cb,0,none⟩):=ae hd 11 (by kernel_rfl);obtain⟨ho,hT⟩:=hS;have h1:=ew hT.sat.left ho;refine bi 57 (.tmp 21) (.tmp 19) rfl cb 0 CC 60 (x 9) (hT.to (H:=(cb,Is (.cells CC 60 (0,0)))::((ab,Is (.cells CA 60 (0,0)))::(cH (x 9) l++(cH xv l++Z)))) af) (by rw[h11];rfl) rfl hsz (by kernel_rfl) h1.1 h1.2.1 (fun w9 h9=>hK _ _ trivial ⟨ho,h9⟩)
 case hC =>
  intro vs1 W hlt hS;match vs1,hS,hlt with
  | [],hT,_=>exact⟨hT.sat.Q7 (by simp),hT.sat.Q7 (by simp)⟩
  | [_],⟨_,hT⟩,_=>exact⟨hT.sat.Q7 (by simp),hT.sat.Q7 (by simp)⟩
  | [_,_],_,hlt=>exact absurd hlt (Nat.lt_irrefl _)
 case h0 =>
  exact(show Turns F1 (cH (.slice none 0 0) []++((cb,Is (.cells CC 60 (0,0)))::(ab,Is (.cells CA 60 (0,0)))::(cH xv l++Z))) A w from hT).drew
 case he =>
  intro x w3 hφ hS;exact hk (x 0) (x 1) (x 2) (x 3) (x 4) (x 5) (x 6) (x 7) (x 8) (x 9) (x 10) (x 11) w3 hS.1 hS.2
theorem Kl(F1 Z:HF)(A:World)(cb ab:Nat)(CC CA:Array Value)(sl:Option Addr)(cap:Nat)(l:List RTag)(xv:Value){Q:Exit->Act->World->Prop}{w:World}{u1 u2 u4 u5 u6 u7 u8 u9 aS aT ad ag aj ar av ax a0 a1 a2 a3 a4 a5 a6 a7 a9 bY bg bj bk bo bs bv bx:Value}{ds:List Deferred}(hT:Turns F1 ((cb,Is (.cells CC 60 (0,0)))::(ab,Is (.cells CA 60 (0,0)))::(cI xv l++Z)) A w)(hcc:CC[1]?=some (.slice none 0 0))(hca:CA[1]?=some (.slice sl l.length cap))(hsz:1<CC.size)(hok:tH xv l)(hxv:xv=.slice sl l.length cap)(hl:l.length<=1000000)(hk:∀(b0 b1 b2 b3 b4 b6 b7 b9 ca cc ch ci:Value) (w':World),tH cc l->Turns F1 ((cb,Is (.cells (CC.setIfInBounds 1 cc) 60 (0,0)))::(ab,Is (.cells CA 60 (0,0)))::(cI cc l++(cI xv l++Z))) A w'->Q .normal { tmps:=#[.pointer (some ⟨ab,0,none⟩),u1,u2,.pointer (some ⟨cb,0,none⟩),u4,u5,u6,u7,u8,u9,aS,aT,ad,ag,aj,ar,av,ax,a0,a1,a2,a3,b0,b1,b2,b3,b4,b6,b7,b9,ca,cc,ch,ci,bx],defers:=ds } w'):
  (iq 3 Tryz.f37).wp Tryz.prog Q { tmps:=#[.pointer (some ⟨ab,0,none⟩),u1,u2,.pointer (some ⟨cb,0,none⟩),u4,u5,u6,u7,u8,u9,aS,aT,ad,ag,aj,ar,av,ax,a0,a1,a2,a3,a4,a5,a6,a7,a9,bY,bg,bj,bk,bo,bs,bv,bx],defers:=ds } w:=by
 have HM:=qqH (show Tryz.prog.follows .mixedOrders=true by kernel_rfl);conv=>arg 2;whnf
 refine cB (A:=?A) (hA:=?hA) HM.out (iT [fun v=>v=.pointer (some ⟨cb,0,none⟩),fun v=>v=.pointer (some ⟨cb,0,none⟩),fun v=>v=.pointer (some ⟨cb,0,none⟩),fun v=>v=.pointer (some ⟨cb,1,none⟩),fun v=>v=.slice none 0 0,fun v=>v=.pointer (some ⟨ab,0,none⟩),fun v=>v=.pointer (some ⟨ab,0,none⟩),fun v=>v=.pointer (some ⟨ab,1,none⟩),fun v=>v=.slice sl l.length cap,fun _=>True,fun v=>v=.pointer (some ⟨cb,0,none⟩),fun v=>v=.pointer (some ⟨cb,1,none⟩),fun _=>True])
  (fun vs1 W=>match vs1 with
  | []=>Turns F1 (cI (.slice none 0 0) []++((cb,Is (.cells CC 60 (0,0)))::(ab,Is (.cells CA 60 (0,0)))::(cI xv l++Z))) A W
  | [u]=>tH u l/\Turns F1 (cI u l++((cb,Is (.cells CC 60 (0,0)))::(ab,Is (.cells CA 60 (0,0)))::(cI xv l++Z))) A W
  | [u,_]=>tH u l/\Turns F1 ((cb,Is (.cells (CC.setIfInBounds 1 u) 60 (0,0)))::(ab,Is (.cells CA 60 (0,0)))::(cI u l++(cI xv l++Z))) A W
  | _=>False)
  (fun W=>W.heap[cb]?=some (.cells CC 60 (0,0))/\W.heap[ab]?=some (.cells CA 60 (0,0))) [9,12] ?hC (by kernel_rfl) (by kernel_rfl) (by kernel_rfl) (by decide) (by decide) ?h0 ?hs ?he
 case hA=>intro x;simp only[aw,Act.put,List.setIfInBounds_toArray,List.set_cons_zero,List.set_cons_succ,Nat.reduceAdd];rfl
 case hs =>
  refine⟨ac rfl rfl (fun x wq hd hC K hK hKw=>?_),ac rfl rfl (fun x wq hd hC K hK hKw=>?_),ac rfl rfl (fun x wq hd hC K hK hKw=>?_),ac rfl rfl (fun x wq hd hC K hK hKw=>?_),ac rfl rfl (fun x wq hd hC K hK hKw=>?_),ac rfl rfl (fun x wq hd hC K hK hKw=>?_),ac rfl rfl (fun x wq hd hC K hK hKw=>?_),ac rfl rfl (fun x wq hd hC K hK hKw=>?_),ac rfl rfl (fun x wq hd hC K hK hKw=>?_),au 0 rfl rfl (fun x wq hd hS K hK=>?_),ac rfl rfl (fun x wq hd hC K hK hKw=>?_),ac rfl rfl (fun x wq hd hC K hK hKw=>?_),au 1 rfl rfl (fun x wq hd hS K hK=>?_),trivial⟩
  ·exact am (by kernel_rfl) (hK _ rfl)
  ·exact am (by kernel_rfl) (hK _ rfl)
  ·have h1:x 1=.pointer (some ⟨cb,0,none⟩):=ae hd 1 (by kernel_rfl);exact am (by rw[h1];kernel_rfl) (hK _ rfl)
  ·have h2:x 2=.pointer (some ⟨cb,0,none⟩):=ae hd 2 (by kernel_rfl);exact am (by rw[h2];kernel_rfl) (hK _ rfl)
  ·have h3:x 3=.pointer (some ⟨cb,1,none⟩):=ae hd 3 (by kernel_rfl);exact bD Tryz.underlying58 rfl rfl (by rw[h3];rfl) (aa hC.1 1 hcc) (hK _ rfl)
  ·exact am (by kernel_rfl) (hK _ rfl)
  ·have h5:x 5=.pointer (some ⟨ab,0,none⟩):=ae hd 5 (by kernel_rfl);exact am (by rw[h5];kernel_rfl) (hK _ rfl)
  ·have h6:x 6=.pointer (some ⟨ab,0,none⟩):=ae hd 6 (by kernel_rfl);exact am (by rw[h6];kernel_rfl) (hK _ rfl)
  ·have h7:x 7=.pointer (some ⟨ab,1,none⟩):=ae hd 7 (by kernel_rfl);exact bD Tryz.underlying58 rfl rfl (by rw[h7];rfl) (aa hC.2 1 hca) (hK _ rfl)
  ·have h4:x 4=.slice none 0 0:=ae hd 4 (by kernel_rfl);have h8:x 8=.slice sl l.length cap:=ae hd 8 (by kernel_rfl);have hrow:=hS.sat.sub (G:=cI xv l) bw;obtain⟨a',c',e1,_,_,hcells,_⟩:=bV hrow hok (by decide);rw[hxv]at e1;simp only[Value.slice.injEq]at e1;obtain⟨rfl,_,_⟩:=e1;exact g8 (.tmp 26) (.tmp 30) rfl (.slice none 0 0) [] (by rw[h4];rfl) hS ⟨rfl,fun _=>⟨rfl,rfl⟩⟩ sl l.length cap (by rw[h8];rfl) l rfl hcells  (by simpa using hl) (fun v1 w1 k1 k2=>hK _ _ trivial ⟨by simpa using k1,by simpa using k2⟩)
  ·have h0:x 0=.pointer (some ⟨cb,0,none⟩):=ae hd 0 (by kernel_rfl);exact am (by rw[h0];kernel_rfl) (hK _ rfl)
  ·have h10:x 10=.pointer (some ⟨cb,0,none⟩):=ae hd 10 (by kernel_rfl);exact am (by rw[h10];kernel_rfl) (hK _ rfl)
  ·have h11:x 11=.pointer (some ⟨cb,1,none⟩):=ae hd 11 (by kernel_rfl);obtain⟨ho,hT⟩:=hS;have h1:=ew hT.sat.left ho;refine bi 58 (.tmp 33) (.tmp 31) rfl cb 1 CC 60 (x 9) (hT.to (H:=(cb,Is (.cells CC 60 (0,0)))::((ab,Is (.cells CA 60 (0,0)))::(cI (x 9) l++(cI xv l++Z)))) af) (by rw[h11];rfl) rfl hsz (by kernel_rfl) h1.1 h1.2.1 (fun w9 h9=>hK _ _ trivial ⟨ho,h9⟩)
 case hC =>
  intro vs1 W hlt hS;match vs1,hS,hlt with
  | [],hT,_=>exact⟨hT.sat.Q7 (by simp),hT.sat.Q7 (by simp)⟩
  | [_],⟨_,hT⟩,_=>exact⟨hT.sat.Q7 (by simp),hT.sat.Q7 (by simp)⟩
  | [_,_],_,hlt=>exact absurd hlt (Nat.lt_irrefl _)
 case h0 =>
  exact(show Turns F1 (cI (.slice none 0 0) []++((cb,Is (.cells CC 60 (0,0)))::(ab,Is (.cells CA 60 (0,0)))::(cI xv l++Z))) A w from hT).drew
 case he =>
  intro x w3 hφ hS;exact hk (x 0) (x 1) (x 2) (x 3) (x 4) (x 5) (x 6) (x 7) (x 8) (x 9) (x 10) (x 11) w3 hS.1 hS.2
def ye(R:RefL)(w:World)(e:Ending)(w':World):Prop :=
 ∃b' vv' tv',e=.returned (.pointer (some ⟨b',0,none⟩))/\RefOk { R with blk:=b',vv:=vv',tv:=tv',closed:=false }/\Turns (aI R) (aI { R with blk:=b',vv:=vv',tv:=tv',closed:=false }++aI R) w w'
theorem un(R:RefL)(w:World)(h:Sat w (aI R))(hok:RefOk R)(h1:∀v∈R.vs,v.cv.oneCell'=true)(hl:R.vs.length<=1000000/\R.ts.length<=1000000):
  Calls Tryz.prog 37 #[.pointer (some ⟨R.blk,0,none⟩)] w (ye R w):=by
 obtain⟨-,-,sl,cap,e1,-,-⟩:=ew h.tail.left hok.vs;obtain⟨-,-,tl,tcap,e2,-,-⟩:=ew h.tail.right hok.ts;have c2:w.cell? ⟨R.blk,2,none⟩=some (.int .i64 R.quota):=aa h.Q5 2 rfl;have hbl:=ah h.Q5;have HH:=Hq6 h hok h1 hl e1 e2;clear h hok h1 hl e1 e2;go_enter Tryz.func37,Tryz.ntmps37;go_wp2_with fail;obtain⟨cb,hcb⟩:∃cb,cb=w.heap.size:=⟨_,rfl⟩;rw[<- hcb];refine Kk (aI R) (cI R.tv R.ts) w cb R.blk #[.slice none 0 0,.slice none 0 0,.int .i64 R.quota,.bool false] (bE R) sl cap R.vs R.vv ?_ rfl ?_ (by simp) HH.b.vs HH.e HH.c HH.d.1 ?_
 ·rw[hcb];exact((Turns.refl HH.a).Q8 _).to (by unfold aI iA;exact af)
 ·rw[<- HH.e];rfl
 intro _ _ _ _ _ _ _ _ _ vv2 _ _ w2 hv2 hT2;have HT2:=Hq2 hv2 hT2;clear hv2 hT2;go_wp2_with fail;refine Kl (aI R) (cH vv2 R.vs++cH R.vv R.vs) w cb R.blk (#[.slice none 0 0,.slice none 0 0,.int .i64 R.quota,.bool false].setIfInBounds 0 vv2) (bE R) tl tcap R.ts R.tv ?_ rfl ?_ (by simp) HH.b.ts HH.v HH.d.2 ?_
 ·exact HT2.z.to af
 ·rw[<- HH.v];rfl
 intro _ _ _ _ _ _ _ _ _ tv3 _ _ w3 hv3 hT3;have HT3:=Hq2 hv3 hT3;clear hv3 hT3;go_wp2_with fail;refine bodyPost_ret (results_tmp rfl _ _ _) rfl ⟨cb,vv2,tv3,rfl,⟨HT2.a,HT3.a⟩,?_⟩;have hT4:=HT3.z;have e4:((#[.slice none 0 0,.slice none 0 0,.int .i64 R.quota,.bool false]:Array Value).setIfInBounds 0 vv2).setIfInBounds 1 tv3=bE { R with blk:=cb,vv:=vv2,tv:=tv3,closed:=false }:=rfl;rw[e4]at hT4;exact hT4.to (by unfold aI iA;exact af)
end
section
open Go.RowKit
section
variable {P : Program} {Q : Exit -> Act -> World -> Prop} {ops : Array Oper} {a0 : Act} {A : (Nat -> Value) -> Act} {φ : Nat -> Value -> Prop} {J : (Nat -> Option Value) -> World -> Prop} {noisy : List Nat}
def sE(P:Program)(Q:Exit->Act->World->Prop)(ops:Array Oper)(A:(Nat->Value)->Act)(φ:Nat->Value->Prop)(J:(Nat->Option Value)->World->Prop)(noisy:List Nat)(i:Nat)(o:Oper):Prop :=
 ∀(x:Nat->Value) (s:Nat->Option Value) (w:World),kG φ x s noisy o.after.toList->(∀k v,s k=some v->x k=v)->s i=none->J s w ->
  if Region.wanted o (yielded ops (A x).tmps)then
   ∀K:Act->World->Prop,(∀v w',φ i v->J (if noisy.contains i then fy s i v else s) w'->K ((A x).put o.dst v) w')->o.wp P (A x) w K Q
  else φ i undef/\J (if noisy.contains i then fy s i undef else s) w
def qo(P:Program)(Q:Exit->Act->World->Prop)(ops:Array Oper)(A:(Nat->Value)->Act)(φ:Nat->Value->Prop)(J:(Nat->Option Value)->World->Prop)(noisy:List Nat):Nat->List Oper->Prop
 | _,[]=>True
 | i,o::r=>sE P Q ops A φ J noisy i o/\qo P Q ops A φ J noisy (i+1) r
theorem l6(hA:∀x,aw x 0 ops.toList a0=A x):∀(l:List Oper) (i:Nat),qo P Q ops A φ J noisy i l->gZ P Q ops a0 φ J noisy i l
 | [],_,_=>trivial
 | o::r,i,h=>by
  refine⟨fun x=>?_,l6 hA r (i+1) h.2⟩
  rw[hA x]
  exact h.1 x
theorem rE{id:Nat}{w:World}(A:(Nat->Value)->Act)(hA:∀x,aw x 0 ops.toList a0=A x)(hm:P.follows .mixedOrders=true)(φ:Nat->Value->Prop)(J:(Nat->Option Value)->World->Prop)(noisy:List Nat)(hok:dB a0.tmps.size 0 ops.toList []=true)(h0:J (fun _=>none) w.drew)(hsteps:qo P Q ops A φ J noisy 0 ops.toList)(hend:∀x w,fF φ x 0 ops.size->J (fun k=>if k<ops.size/\noisy.contains k=true then some (x k)else none) w->Q .normal (A x) w):
  (Code.region id ops true).wp P Q a0 w :=
 mY hm φ J noisy hok h0 (l6 hA _ _ hsteps) (fun x w h1 h2=>by rw[hA x];exact hend x w h1 h2)
theorem lC{i:Nat}{o:Oper}(hi:noisy.contains i=false)(hg:o.guard=none)(h:∀(x:Nat->Value) (s:Nat->Option Value) (w:World),kn φ x o.after.toList->J s w->∀K:Act->World->Prop,(∀v,φ i v->K ((A x).put o.dst v) w)->o.wp P (A x) w K Q):sE P Q ops A φ J noisy i o:=by
 intro x s w hd _ _ hJ;rw[if_pos (by simp[Region.wanted,hg])];intro K hK;exact h x s w (gl _ hd).1 hJ K (fun v hv=>hK v w hv (by rw[hi];exact hJ))
theorem lB{i:Nat}{o:Oper}(hi:noisy.contains i=true)(hg:o.guard=none)(h:∀(x:Nat->Value) (s:Nat->Option Value) (w:World),kn φ x o.after.toList->(∀e∈o.after.toList,Region.binds .any e=true->noisy.contains e.on=true->s e.on=some (x e.on))->s i=none->J s w->∀K:Act->World->Prop,(∀v w',φ i v->J (fy s i v) w'->K ((A x).put o.dst v) w')->o.wp P (A x) w K Q):sE P Q ops A φ J noisy i o:=by
 intro x s w hd _ hsi hJ;rw[if_pos (by simp[Region.wanted,hg])];intro K hK;exact h x s w (gl _ hd).1 (gl _ hd).2 hsi hJ K (fun v w' hv hj=>hK v w' hv (by rw[hi];exact hj))
theorem jD{l:List Edge}{x:Nat->Value}{s:Nat->Option Value}(h:∀e∈l,Region.binds .any e=true->noisy.contains e.on=true->s e.on=some (x e.on))(k:Nat)(hk:(l.any fun e=>Region.binds .any e&&e.on==k)=true)(hn:noisy.contains k=true):s k=some (x k):=by
 obtain⟨e,he,h2⟩:=List.any_eq_true.1 hk;simp only[Bool.and_eq_true,beq_iff_eq]at h2;rw[<- h2.2];exact h e he h2.1 (by rw[h2.2];exact hn)
theorem fj{St:List Value->World->Prop}{C:World->Prop}{ns:List Nat}{i:Nat}{o:Oper}(hi:ns.idxOf? i=none)(hg:∀x:Nat->Value,kn φ x o.after.toList->Region.wanted o (yielded ops (A x).tmps)=true)(h:∀(x:Nat->Value) (w:World),kn φ x o.after.toList->C w->∀K:Act->World->Prop,(∀v,φ i v->K ((A x).put o.dst v) w)->(∀v w',φ i v->(∀vs,St vs w->St vs w')->K ((A x).put o.dst v) w')->o.wp P (A x) w K Q):
  fi P Q ops A φ St C ns i o:=by
 unfold fi;rw[hi];intro x w hd hC;rw[if_pos (hg x hd)];exact h x w hd hC
theorem bz{s:Nat->Option Value}{i k:Nat}{v:Value}(h:k≠i):fy s i v k=s k:=if_neg h
theorem ix{s:Nat->Option Value}{i:Nat}{v:Value}:fy s i v i=some v:=if_pos rfl
end
end
section
open Go.RowKit
def pW(u:Nat×Nat):List Value:=[.int .u32 u.1,.int .u32 u.2]
def kN(v:Value)(l:List (Nat×Nat)):HF:=bN 118 2 v l.length (l.flatMap pW)
def Ax(v:Value)(l:List (Nat×Nat)):Prop:=dj 2 v l.length (l.flatMap pW)
def mg(us:Nat->Option (Nat×Nat))(k:Nat):List (Nat×Nat):=(List.range k).filterMap us
def gB(e wh:Nat):Obj:=.cells #[.int .u32 e,.int .u32 wh] 118 (0,0)
theorem IP:(Tryz.prog.info? 118).map (fun i=>(i.zero,i.size,i.bytes))=some (some (.agg #[.int .u32 0,.int .u32 0]),2,8):=by kernel_rfl
theorem Hi(l:List (Nat×Nat)):(l.flatMap pW).length=l.length*2:=by
 induction l with
 | nil=>rfl
 | cons a r ih=>rw[List.flatMap_cons,List.length_append,ih];simp[pW];omega
theorem xS{o:Oper}{a:Act}{w a0:World}{K:Act->World->Prop}{Q:Exit->Act->World->Prop}{F G:HF}(s x:Operand)(hop:o.op=.call { callee:=.builtin .append,args:=#[s,x],argTypes:=#[113,113] })(v:Value)(l:List (Nat×Nat))(hs:a.eval s=v)(hT:Turns F (kN v l++G) a0 w)(hok:Ax v l)(sa:Option Addr)(m c:Nat)(hx:a.eval x=.slice sa m c)(r:List (Nat×Nat))(hm:m=r.length)(hc:0<m->∃ad,sa=some ad/\∀j u,(r.flatMap pW)[j]?=some u->w.cell? (ad.add j)=some u)(hb:l.length+r.length<=1000000)(hk:∀v' w',Ax v' (l++r)->Turns F (kN v' (l++r)++G) a0 w'->K (a.put o.dst v') w'):o.wp Tryz.prog a w K Q:=by
 obtain⟨i0,hi0,hz1,hz2,hz3⟩:=info_parts IP;refine cY s x 113 118 i0 (.agg #[.int .u32 0,.int .u32 0]) 2 8 hop Tryz.underlying113 hi0 hz1 hz2 hz3 rfl (by decide) v l.length (l.flatMap pW) hs hT hok sa m c hx (r.flatMap pW) (by rw[Hi,hm]) hc (fun u hu=>?_) (by unfold maxLen;omega) (by omega) (fun v' w' h1 h2 h3=>?_)
 ·obtain⟨q,-,hq⟩:=List.mem_flatMap.1 hu;simp only[pW,List.mem_cons,List.not_mem_nil,or_false]at hq;rcases hq with rfl|rfl<;>rfl
 ·exact hk v' w' (by unfold Ax;rw[List.length_append,List.flatMap_append,<- hm];exact h1) (by unfold kN;rw[List.length_append,List.flatMap_append,<- hm];exact h2)
theorem vr(a b:Nat)(ha:a*256+b<4294967296)(hb:b<256):bits BinOp.or IntKind.u32 ((a:Int)*256) (b:Int)=((a*256+b:Nat):Int):=by
 have e1:(BitVec.ofInt 32 ((a:Int)*256)).toNat=a*256:=by
  rw[show((a:Int)*256)=((a*256:Nat):Int) by omega,BitVec.ofInt_natCast,BitVec.toNat_ofNat];exact Nat.mod_eq_of_lt (by omega)
 have e2:(BitVec.ofInt 32 (b:Int)).toNat=b:=by rw[BitVec.ofInt_natCast,BitVec.toNat_ofNat];exact Nat.mod_eq_of_lt (by omega)
 show IntKind.u32.wrap ((BitVec.ofInt 32 ((a:Int)*256) ||| BitVec.ofInt 32 (b:Int)).toNat:Int)=_
 have e3:a*256 ||| b=a*256+b:=by
  have:=Nat.two_pow_add_eq_or_of_lt (i:=8) hb a;rw[show(256:Nat)=2 ^ 8 from rfl,Nat.mul_comm];exact this.symm
 rw[BitVec.toNat_or,e1,e2,e3];unfold IntKind.wrap;simp[IntKind.bits,IntKind.signed];omega
theorem KA{o:Oper}{a:Act}{w:World}{K:Act->World->Prop}{Q:Exit->Act->World->Prop}(b:BinOp)(t:TypeId)(x y:Operand)(ty:TypeId)(ho:o.op=.binOp b t x y ty)(hg:Tryz.prog.eqGuardType Tryz.prog.depth t=false)(A B:Array Value)(v:Value)(hn:(binOp b t (.agg A) (.agg B)).run Tryz.prog w=.ok v w)(hx:a.eval x=.agg A)(hy:a.eval y=.agg B)(h:K (a.put o.dst v) w):o.wp Tryz.prog a w K Q:=by
 unfold Oper.wp execOp;simp only[ho,hx,hy,Sem.run_bind,kJ hg,Result.andThen_ok,hn,Sem.run_pure];exact h
theorem Fm{P:Program}{o:Oper}{a:Act}{w:World}{K:Act->World->Prop}{Q:Exit->Act->World->Prop}(s d:TypeId)(x:Operand){u r:Value}(ho:o.op=.convert s d x)(hx:a.eval x=u)(h:(convert s d u).run P w=.ok r w)(hk:K (a.put o.dst r) w):o.wp P a w K Q:=by
 refine am (v:=r) (w':=w) ?_ hk;simp[execOp,ho,hx,h]
theorem KB{P:Program}{o:Oper}{a:Act}{w:World}{K:Act->World->Prop}{Q:Exit->Act->World->Prop}(t:TypeId)(x y:Operand){ty:TypeId}{k k':IntKind}{m n:Int}{r:Value}(ho:o.op=.binOp .eql t x y ty)(hx:a.eval x=.int k m)(hy:a.eval y=.int k' n)(h:(binOp .eql t (.int k m) (.int k' n)).run P w=.ok r w)(hk:K (a.put o.dst r) w):o.wp P a w K Q:=by
 refine am (v:=r) (w':=w) ?_ hk;simp[execOp,ho,hx,hy,eqGuard,h]
theorem wrap_u32{n:Int}(h1:0<=n)(h2:n<4294967296):IntKind.u32.wrap n=n:=by
 unfold IntKind.wrap;simp[show IntKind.u32.bits=32 from rfl,show IntKind.u32.signed=false from rfl];omega
theorem G7{t:TypeId}(e:Nat)(he:e<4294967296)(w:World):(binOp .rem t (.int .u32 e) (.int .u32 2)).run Tryz.prog w=.ok (.int .u32 ((e%2:Nat):Int)) w:=by
 have h1:(e:Int).tmod 2=((e%2:Nat):Int):=by
  rw[Int.tmod_eq_emod_of_nonneg (by omega)];omega
 have h2:IntKind.u32.wrap ((e:Int).tmod 2)=((e%2:Nat):Int):=by rw[h1,wrap_u32 (by omega) (by omega)]
 simp[binOp,Op.intDiv,h1]
theorem Cw(k:Nat)(hk:k<4294967296)(w:World):(convert 3 116 (.int .i64 k)).run Tryz.prog w=.ok (.int .u32 k) w:=by
 simp[convert,run_underlying Tryz.underlying3,run_underlying Tryz.underlying116,Conv.intToInt,wrap_u32 (show(0:Int)<=k by omega) (by omega)]
theorem E0{t:TypeId}(a b:Nat)(w:World):(binOp .eql t (.int .u32 a) (.int .u32 b)).run Tryz.prog w=.ok (.bool (decide (a=b))) w:=by
 simp[binOp,Op.intCmp];rw[Bool.eq_iff_iff];simp;omega
theorem Kd(F1 Z:HF)(A:World)(b6 ub k e wh:Nat)(s:Bs){Q:Exit->Act->World->Prop}{w:World}{u0 u1 u2 u3 u4 u7 u8 u9 aS aT ab ad ag aj ar av ax a0 a1 a2 a3 a4 a5 a6 a7 a9 bY bg bj bk bo bs bv bx b0 b1 b2 b3 b4 b7 b9 ca cb cc ch ci cj cl cm cp cs ct cu cv cx c0 c1 c2 c3 c4 c5 c6 c7 dO dT df dn dp dv d0 d1 d2 d3 d4 d5 d6 d7 eA eC eQ eR eU eW eX ea eb ec eg el em en ep es ev e0 e1 e2 fz f0 f1 f2 f3 f4 f5 f6 f7 f8 f9 gD gb gg gp gs gu gx g0:Value}{ds:List Deferred}(hT:Turns F1 ((b6,Is (.cells (az s) 43 (0,0)))::(ub,Is (gB e wh))::Z) A w)(hs:s=dD e wh)(hsl:s.length=128)(he:e<4294967296)(hwh:wh<4294967296)(hek:e%2=k)(_:k<2)(hk:∀(e4 e5 e6 e7 e8 e9 fE fl fn fr fs fv:Value) (w':World),fv=.bool true->Turns F1 ((b6,Is (.cells (az s) 43 (0,0)))::(ub,Is (gB e wh))::Z) A w'->Q .normal { tmps:=#[u0,u1,u2,u3,u4,.int .i64 k,.pointer (some ⟨b6,0,none⟩),u7,u8,u9,aS,.pointer (some ⟨ub,0,none⟩),aT,ab,ad,ag,aj,ar,av,ax,a0,a1,a2,a3,a4,a5,a6,a7,a9,bY,bg,bj,bk,bo,bs,bv,bx,b0,b1,b2,b3,b4,b7,b9,ca,cb,cc,ch,ci,cj,cl,cm,cp,cs,ct,cu,cv,cx,c0,c1,c2,c3,c4,c5,c6,c7,dO,dT,df,dn,dp,dv,d0,d1,d2,d3,e4,e5,e6,e7,e8,e9,fE,fl,fn,fr,fs,fv,eb,ec,eg,el,em,en,ep,es,ev,e0,e1,e2,fz,f0,f1,f2,f3,f4,f5,f6,f7,f8,f9,gD,gb,gg,gp,gs,gu,gx,g0],defers:=ds } w'):
  (iq 22 Tryz.f50).wp Tryz.prog Q { tmps:=#[u0,u1,u2,u3,u4,.int .i64 k,.pointer (some ⟨b6,0,none⟩),u7,u8,u9,aS,.pointer (some ⟨ub,0,none⟩),aT,ab,ad,ag,aj,ar,av,ax,a0,a1,a2,a3,a4,a5,a6,a7,a9,bY,bg,bj,bk,bo,bs,bv,bx,b0,b1,b2,b3,b4,b7,b9,ca,cb,cc,ch,ci,cj,cl,cm,cp,cs,ct,cu,cv,cx,c0,c1,c2,c3,c4,c5,c6,c7,dO,dT,df,dn,dp,dv,d0,d1,d2,d3,d4,d5,d6,d7,eA,eC,eQ,eR,eU,eW,eX,ea,eb,ec,eg,el,em,en,ep,es,ev,e0,e1,e2,fz,f0,f1,f2,f3,f4,f5,f6,f7,f8,f9,gD,gb,gg,gp,gs,gu,gx,g0],defers:=ds } w:=by
 have HM:=qqH (show Tryz.prog.follows .mixedOrders=true by kernel_rfl);conv=>arg 2;whnf
 refine bK (A:=?A) (hA:=?hA) HM.out (iT [fun v=>v=.agg (az s),fun v=>v=.agg #[.int .u32 e,.int .u32 wh],fun v=>v=.agg (az s),fun v=>v=.bool true,fun v=>v=.bool true,fun v=>v=.pointer (some ⟨ub,0,none⟩),fun v=>v=.int .u32 e,fun v=>v=.int .u32 ((e%2:Nat):Int),fun v=>v=.int .i64 k,fun v=>v=.int .u32 k,fun v=>v=.bool true,fun v=>v=.bool true])
  (fun vs1 W=>match vs1 with
  | []=>Turns F1 ((b6,Is (.cells (az s) 43 (0,0)))::(ub,Is (gB e wh))::Z) A W
  | _=>False)
  (fun W=>W.heap[b6]?=some (.cells (az s) 43 (0,0))/\W.heap[ub]?=some (gB e wh)) [] ?hC (by kernel_rfl) (by kernel_rfl) (by decide) (by decide) ?h0 ?hs ?he
 case hA=>intro x;simp only[aw,Act.put,List.setIfInBounds_toArray,List.set_cons_zero,List.set_cons_succ,Nat.reduceAdd];rfl
 case hs =>
  refine⟨ac rfl rfl (fun x wq hd hC K hK hKw=>?_),ac rfl rfl (fun x wq hd hC K hK hKw=>?_),ac rfl rfl (fun x wq hd hC K hK hKw=>?_),ac rfl rfl (fun x wq hd hC K hK hKw=>?_),ac rfl rfl (fun x wq hd hC K hK hKw=>?_),fj rfl ?_ (fun x wq hd hC K hK hKw=>?_),fj rfl ?_ (fun x wq hd hC K hK hKw=>?_),fj rfl ?_ (fun x wq hd hC K hK hKw=>?_),fj rfl ?_ (fun x wq hd hC K hK hKw=>?_),fj rfl ?_ (fun x wq hd hC K hK hKw=>?_),fj rfl ?_ (fun x wq hd hC K hK hKw=>?_),ac rfl rfl (fun x wq hd hC K hK hKw=>?_),trivial⟩
  ·exact wp_load_mid 43 (.tmp 6) rfl b6 0 rfl (s.map ao) _ (by have:=eu hC.1 0 128;rwa [List.drop_zero,List.take_of_length_le (by omega)]at this) Tryz.underlying43 rfl (iE hsl) (hK _ rfl)
  ·exact wp_load_mid 118 (.tmp 11) rfl ub 0 rfl [.int .u32 e,.int .u32 wh] _ (fun j v hv=>aa hC.2 (0+j) (by rw[Nat.zero_add,<- Array.getElem?_toList];exact hv)) Tryz.underlying118 rfl (by kernel_rfl) (hK _ rfl)
  ·have h1:x 1=.agg #[.int .u32 e,.int .u32 wh]:=ae hd 1 (by kernel_rfl);refine bd (by rw[h1];kernel_rfl) (pR e wh he hwh wq) ?_;rintro e3 w3 ⟨rfl,hs3⟩;refine⟨_,rfl,hKw _ _ (by rw[hs];rfl) ?_⟩;intro vs hvs;match vs,hvs with
   | [],hT=>exact hT.Q9 hs3
  ·have h0:x 0=.agg (az s):=ae hd 0 (by kernel_rfl);have h2:x 2=.agg (az s):=ae hd 2 (by kernel_rfl);exact KA .eql 43 (.tmp 76) (.tmp 78) _ rfl pC (az s) (az s) (.bool true) (by rw[IH s s hsl hsl];simp) (by rw[h0];rfl) (by rw[h2];rfl) (hK _ rfl)
  ·have h3:x 3=.bool true:=ae hd 3 (by kernel_rfl);exact am (by rw[h3];kernel_rfl) (hK _ rfl)
  ·intro x hd;have hg:=ae hd 4 (by kernel_rfl);change x 4=.bool true at hg;rw[hg];first|rfl|simp[Region.wanted,yielded]
  ·exact am (by kernel_rfl) (hK _ rfl)
  ·intro x hd;have hg:=ae hd 4 (by kernel_rfl);change x 4=.bool true at hg;rw[hg];first|rfl|simp[Region.wanted,yielded]
  ·have h5:x 5=.pointer (some ⟨ub,0,none⟩):=ae hd 5 (by kernel_rfl);exact bD Tryz.underlying116 rfl rfl (by rw[h5];rfl) (aa hC.2 0 rfl) (hK _ rfl)
  ·intro x hd;have hg:=ae hd 4 (by kernel_rfl);change x 4=.bool true at hg;rw[hg];first|rfl|simp[Region.wanted,yielded]
  ·have h6:x 6=.int .u32 e:=ae hd 6 (by kernel_rfl);exact Jt .rem 116 116 (.tmp 82) (.const (.int .u32 2)) rfl (by rw[h6];rfl) rfl (G7 e he wq) rfl (hK _ rfl)
  ·intro x hd;have hg:=ae hd 4 (by kernel_rfl);change x 4=.bool true at hg;rw[hg];first|rfl|simp[Region.wanted,yielded]
  ·exact am (by kernel_rfl) (hK _ rfl)
  ·intro x hd;have hg:=ae hd 4 (by kernel_rfl);change x 4=.bool true at hg;rw[hg];first|rfl|simp[Region.wanted,yielded]
  ·have h8:x 8=.int .i64 k:=ae hd 8 (by kernel_rfl);exact Fm 3 116 (.tmp 84) rfl (by rw[h8];rfl) (Cw k (by omega) wq) (hK _ rfl)
  ·intro x hd;have hg:=ae hd 4 (by kernel_rfl);change x 4=.bool true at hg;rw[hg];first|rfl|simp[Region.wanted,yielded]
  ·have h7:x 7=.int .u32 ((e%2:Nat):Int):=ae hd 7 (by kernel_rfl);have h9:x 9=.int .u32 k:=ae hd 9 (by kernel_rfl);exact KB 116 (.tmp 83) (.tmp 85) rfl (by rw[h7];rfl) (by rw[h9];rfl) (by rw[E0,hek];simp) (hK _ rfl)
  ·have h4:x 4=.bool true:=ae hd 4 (by kernel_rfl);have h10:x 10=.bool true:=ae hd 10 (by kernel_rfl);exact am (by rw[h4,h10];kernel_rfl) (hK _ rfl)
 case hC =>
  intro vs1 W hS;match vs1,hS with
  | [],hT=>exact⟨hT.sat.Q7 (by simp),hT.sat.Q7 (by simp)⟩
 case h0 =>
  exact(show Turns F1 ((b6,Is (.cells (az s) 43 (0,0)))::(ub,Is (gB e wh))::Z) A w from hT).drew
 case he =>
  intro x w3 hφ hS;exact hk (x 0) (x 1) (x 2) (x 3) (x 4) (x 5) (x 6) (x 7) (x 8) (x 9) (x 10) (x 11) w3 (fG hφ 11 (by decide) (by decide)) hS
def Ga(us:Nat->Option (Nat×Nat))(z:Bool)(w:World)(e:Ending)(w':World):Prop :=
 ∃v,e=.returned (.tuple #[v,.bool z,.nilIface])/\Ax v (mg us 2)/\Turns [] (kN v (mg us 2)) w w'
def Ij(us:Nat->Option (Nat×Nat))(now:Bs)(w:World)(l em i:Value)(W:World):Prop :=
 ∃(k:Nat) (J:HF),k<=2/\i=.int .i64 k/\Ax l (mg us k)/\em=.bool (dQ now k)/\Turns [] (kN l (mg us k)++J) w W
def F8(now:Bs)(us:Nat->Option (Nat×Nat))(k:Nat):Prop :=
 (us k=none/\cG (ba now k)=none)\/(∃e wh,us k=some (e,wh)/\ba now k=dD e wh/\e%2=k/\e<4294967296/\wh<4294967296)
theorem qJ(us:Nat->Option (Nat×Nat))(k:Nat):mg us (k+1)=mg us k++(us k).toList:=by
 unfold mg;rw[List.range_succ,List.filterMap_append]
 cases h:us k<;>simp[h]
theorem vR(e wh:Nat):cG (dD e wh)=some (77,bH e wh,17):=by
 unfold dD;rw[ku 77 _ _ (by decide) (by rw[cw];omega),cw]
theorem Hj(e wh:Nat):dD e wh≠aq 128:=fun h=>by
 have h1:=vR e wh
 rw[h,q7]at h1
 cases h1
def pK(ub:Nat):Obj:=.cells #[.pointer (some ⟨ub,0,none⟩),.pointer (some ⟨ub,1,none⟩)] 208 (0,0)
def ya(G:HF)(ub j x e:Nat)(w:World)(i:Value)(W:World):Prop :=
 ∃m:Nat,m<=4/\i=.int .i64 m/\Turns [] ((ub,Is (if j=0 then gB (bG ((be x 4).take m)) 0 else gB e (bG ((be x 4).take m))))::G) w W
def FJ(G:HF)(ub e wh:Nat)(w:World)(i:Value)(W:World):Prop :=
 ∃j:Nat,j<=2/\i=.int .i64 j/\Turns [] ((ub,Is (gB (if j=0 then 0 else e) (if j<=1 then 0 else wh)))::G) w W
theorem CH(us:Nat->Option (Nat×Nat))(k:Nat):(mg us k).length<=k:=by
 have:=List.length_filterMap_le us (List.range k);rw[List.length_range]at this;exact this
theorem CI(d:Nat)(L:DevL)(us:Nat->Option (Nat×Nat))(w:World)(h:Sat w (aE d L))(hL:DevOk L)(hn:16<=L.n)(hU:∀k,k<2->F8 L.now us k)(h01:us 0=none\/us 1=none):
  Calls Tryz.prog 50 #[.pointer (some ⟨d,0,none⟩)] w (Ga us (dQ L.now 2) w):=by
 have HZ:=qqH nB;have HC:Hid (∀(k:Nat) (W:World),k<2->aX w W->Calls Tryz.prog 17 #[.pointer (some ⟨d,0,none⟩),.int .i64 k] W (jO L k W)):=qqH (fun k W hk hW=>lp d L k W (h.same hW) hL (by omega));have HL:Hid (∀k,k<2->(ba L.now k).length=128):=qqH (fun k hk=>it hL.nowL (by omega));have HU:=Hq2 hU h01;clear h hL hU h01;go_enter Tryz.func50,Tryz.ntmps50;go_wp2_with fail;go_loopw [2,3,16] (fun l em i wr=>Ij us L.now w l em i wr) (fun _ _ i _=>2-(intOf i).toNat)
 case atStart=>exact⟨0,[],by omega,rfl,⟨rfl,fun _=>⟨rfl,rfl⟩⟩,by rw[p9],Turns.refl (Sat.nil w)⟩
 case round =>
  obtain⟨k,J,hk,rfl,hlo,rfl,hT⟩:=hrel;by_cases hlt:k<2
  ·have HR:=qqH (HC.out k wr hlt hT.news);have HL':=qqH (HL.out k hlt);have HZ0:=qqH (rp (l:=L.now) (k:=k));have HZ1:=qqH (uh (l:=L.now) (k:=k));have HUk:=qqH (HU.a k hlt);have hsu:=qJ us k;unfold jO at HR;unfold F8 at HUk;obtain⟨s,hse⟩:∃s,s=ba L.now k:=⟨_,rfl⟩;obtain⟨z,hz⟩:∃z,z=dQ L.now k:=⟨_,rfl⟩;obtain⟨z1,hz1⟩:∃z,z=dQ L.now (k+1):=⟨_,rfl⟩;rw[<- hse]at HR HL' HZ0 HZ1 HUk;rw[<- hz,<- hz1]at HZ0;rw[<- hz1]at HZ1;rw[<- hz];have H1:=Hq4 hz1 hlo hT hsu;clear hT hlo HC HL hse hz hz1 hsu;go_wp2_with fail;refine HR.out.mono ?_;rintro e w2 ⟨rfl,hs2⟩;have hb:=aM w2 (.cells (az (aq 128)) 43);obtain⟨q1,q2⟩:=dw hb (s:=s) (by rw[HL'.out,ap]);have hTs:Turns [] ((w2.heap.size,Is (.cells (az s) 43 (0,0)))::(kN u2 (mg us k)++J)) w ((w2.alloc (.cells (az (aq 128)) 43)).setCells w2.heap.size 0 (s.map ao)):=((H1.c.Q9 hs2).Q8 (.cells (az (aq 128)) 43)).Qa q2 q1;have hth:(w2.alloc (.cells (az (aq 128)) 43)).there w2.heap.size 0 (az s).size:=by rw[bU,HL'.out];exact eP hb 0 128 (by rw[ap];omega)
   have hrg:((w2.alloc (.cells (az (aq 128)) 43)).setCells w2.heap.size 0 (s.map ao)).rangeAt w2.heap.size 0 (s.map ao):=by
    have:=eu q1 0 128;rwa [List.drop_zero,List.take_of_length_le (by rw[HL'.out];omega)]at this
   have HN:=qqH (fun W=>Dn s (aq 128) HL'.out (ap _) W);obtain⟨W4,hW4⟩:∃W,(w2.alloc (.cells (az (aq 128)) 43)).setCells w2.heap.size 0 (s.map ao)=W:=⟨_,rfl⟩;rw[hW4]at q1 hTs hrg;have H3:=Hq3 q1 hTs hrg;have HT:=qqH hth;have HW:=qqH hW4;have hb6l:w2.heap.size<W4.heap.size:=ah q1;clear q1 q2 hb hTs hs2 hth hrg hW4;have hz:=nC
   have hop:Calls Tryz.prog 97 #[.slice (some ⟨w2.heap.size,0,none⟩) 128 128] W4 (ef (some ⟨w2.heap.size,0,none⟩) s W4):=by
    have:=ja (some ⟨w2.heap.size,0,none⟩) 128 s W4 (fun hp=>⟨w2.heap.size,0,rfl,fun j hj=>by rw[Nat.zero_add];exact aa H3.a j (by rw[fS s j (by simpa using hj)];simp)⟩) (by rw[HL'.out];omega) (by rw[HL'.out];omega);rwa [HL'.out]at this
   rcases HUk.out with⟨huk,hno⟩|⟨e,wh,huk,hsu,hek,he,hwh⟩
   ·unfold ef at hop;rw[hno]at hop;have HP:=qqH hop;have HK:=qqH huk;clear hop hno huk;go_wp2_with (first|(refine wpList_store_mid rfl 43 (.tmp 6) (.tmp 23) rfl w2.heap.size 0 (az s) rfl rfl HT.out (ir HL'.out) (db _) ?_;change wpList _ _ _ _ _ (World.setCells (w2.alloc (.cells (az (aq 128)) 43)) w2.heap.size 0 (s.map ao));rw[HW.out])|(refine wpList_load_mid rfl 43 (.tmp 6) rfl w2.heap.size 0 rfl (s.map ao) _ H3.y Tryz.underlying43 rfl (iE HL'.out) ?_)|(refine b5 rfl 43 #[] rfl (az (aq 128)) HZ.out ?_)|(refine oV rfl .neq 43 (.tmp 28) (.tmp 29) _ rfl pC _ _ (.bool (!decide (s=aq 128))) (HN.out _) rfl rfl ?_))
    all_goals
     first
     | (
      have hne:s≠aq 128:=by
       have:(!decide (s=aq 128))=true:=by assumption
       simpa using this
      have HE:=qqH (HZ1.out hne))
     | (
      have hne:s=aq 128:=by
       have:(!decide (s=aq 128))=false:=by assumption
       simpa using this
      have HE:=qqH (HZ0.out hne))
     clear hne;refine HP.out.mono ?_;rintro e w5 ⟨rfl,hs5⟩;have H5:=qqH (H3.b.Q9 hs5);clear hs5;go_wp2_with fail;go_roundw
     case rel=>exact⟨k+1,(w2.heap.size,Is (.cells (az s) 43 (0,0)))::J,by omega,by go_num,by rw[H1.x,HK.out];simpa using H1.b,by rw[<- H1.a,HE.out],by rw[H1.x,HK.out];exact H5.out.to (by simp only[Option.toList_none,List.append_nil];exact af)⟩
     case measure=>simp[intOf];omega
   ·have hop2:cG s=some (77,bH e wh,17):=by rw[hsu];exact vR e wh
    have hne:s≠aq 128:=by rw[hsu];exact Hj e wh
    have HE:=qqH (HZ1.out hne);have hne2:(!decide (s=aq 128))=true:=by simp[hne]
    have HNE:=qqH hne2;unfold ef at hop;rw[hop2]at hop;have HP:=qqH hop;have HK:=Hq3 huk hsu hek;have hbl:=cw e wh;clear hop hop2 huk hsu hek hne hne2;go_wp2_with (first|(refine wpList_store_mid rfl 43 (.tmp 6) (.tmp 23) rfl w2.heap.size 0 (az s) rfl rfl HT.out (ir HL'.out) (db _) ?_;change wpList _ _ _ _ _ (World.setCells (w2.alloc (.cells (az (aq 128)) 43)) w2.heap.size 0 (s.map ao));rw[HW.out])|(refine wpList_load_mid rfl 43 (.tmp 6) rfl w2.heap.size 0 rfl (s.map ao) _ H3.y Tryz.underlying43 rfl (iE HL'.out) ?_)|(refine b5 rfl 43 #[] rfl (az (aq 128)) HZ.out ?_)|(refine oV rfl .neq 43 (.tmp 28) (.tmp 29) _ rfl pC _ _ (.bool true) ((HN.out _).trans (by rw[HNE.out])) rfl rfl ?_));refine HP.out.mono ?_;rintro e5 w5 ⟨a2,rfl,hb2,ha2,hs5⟩;rw[hbl];obtain⟨g2,off2,hg2,hc2⟩:=hb2 (by rw[List.length_map,hbl];omega);subst hg2;obtain⟨y2,hy2,hgy⟩:=ha2 _ rfl;simp only[Option.some.injEq]at hy2;subst hy2;simp only at hgy;subst hgy;have H5:=Hq2 (H3.b.Q9 hs5) hc2;clear hb2 ha2 hs5 hc2;have hk77:(((77:UInt8).toNat:Nat):Int)=77:=rfl;rw[hk77];go_wp2_with fail;obtain⟨b6,hb6⟩:∃b6,b6=w2.heap.size:=⟨_,rfl⟩
    have hby:∀(q:Nat) (hq:q<8) (W:World),W.heap[b6]?=some (.cells (az s) 43 (0,0))->W.cell? ⟨b6,off2+q,none⟩=some (.int .u8 (((bH e wh)[q]'(by rw[hbl];exact hq)).toNat:Int)):=fun q hq W hW=>by
     have h1:=H5.z q (by rw[List.length_map,hbl];exact hq);rw[List.getElem_map]at h1;rw[hb6]at hW ⊢;exact(World.cell?_of_block (hW.trans (H5.a.sat.Q7 (b:=w2.heap.size) (o:=.cells (az s) 43 (0,0)) (by simp)).symm)).trans h1
    have HBy:=qqH hby
    obtain⟨ub,hub⟩:∃ub,ub=w5.heap.size:=⟨_,rfl⟩;obtain⟨pb,hpb⟩:∃pb,pb=w5.heap.size+1:=⟨_,rfl⟩;obtain⟨G,hG⟩:∃G:HF,G=(pb,Is (pK ub))::(b6,Is (.cells (az s) 43 (0,0)))::(kN u2 (mg us k)++J):=⟨_,rfl⟩;have HG:=qqH hG
    have hTu:Turns [] ((ub,Is (gB 0 0))::G) w ((w5.alloc (gB 0 0)).alloc (pK ub)):=by
     have h1:=(H5.a.Q8 (gB 0 0)).Q8 (pK ub);rw[World.size_alloc,<- hpb,<- hub]at h1;rw[hG,hb6];exact h1.to af
    have HTu:=Hq4 hTu hub hpb hb6;clear hby hG hTu;rw[<- hpb,<- hub,<- hb6];clear hpb hub hb6;go_loopw [48] (fun i wr=>FJ G ub e wh w i wr) (fun i _=>2-(intOf i).toNat)
    case atStart =>
     refine⟨0,by omega,rfl,?_⟩;have h1:=HTu.a;rw[HTu.b]at h1 ⊢;exact h1
    case round =>
     obtain⟨j,hj,rfl,hT⟩:=hrel;rcases(show j=0\/j=1\/j=2 by omega)with rfl|rfl|rfl
     ·have hTj:=hT.to (H:=(ub,Is (gB 0 0))::G) (List.Perm.refl _);have p0:wr.cell? ⟨pb,0,none⟩=some (.pointer (some ⟨ub,0,none⟩)):=aa (hTj.sat.Q7 (b:=pb) (o:=pK ub) (by rw[HG.out];simp)) 0 rfl;have hpl:=hTj.sat.lt (b:=pb) (by rw[HG.out];simp);have HTj:=qqH hTj;clear hT hTj;go_wp2_with fail;go_loopw [61] (fun i wr=>ya G ub 0 e e w i wr) (fun i _=>4-(intOf i).toNat)
      case atStart=>exact⟨0,by omega,rfl,HTj.out⟩
      case round =>
       obtain⟨m,hm,rfl,hT3⟩:=hrel;by_cases hm4:m<4
       ·have hby:=HBy.out (m) (by omega) wr (hT3.sat.Q7 (by rw[HG.out];simp));obtain⟨x8,hx8⟩:∃x8,x8=((bH e wh)[m]'(by rw[hbl];omega)).toNat:=⟨_,rfl⟩;have hx8l:x8<256:=by rw[hx8];exact UInt8.toNat_lt _
        rw[<- hx8]at hby
        have hql:bG ((be e 4).take m)<16777216:=by
         have h1:=jh ((be e 4).take m);have h2:((be e 4).take m).length<=3:=by simp;omega
         have h3:(256:Nat) ^ ((be e 4).take m).length<=256 ^ 3:=Nat.pow_le_pow_right (by omega) h2;omega
        have hnx:bG ((be e 4).take (m+1))=bG ((be e 4).take m)*256+x8:=by
         rw[List.take_succ_eq_append_getElem (by rw[ck];exact hm4),og,hx8];congr 2;simp only[bH];rw[List.getElem_append_left (by rw[ck];exact hm4)]
        obtain⟨q,hq⟩:∃q,q=bG ((be e 4).take m):=⟨_,rfl⟩;rw[<- hq]at hql hnx hT3;have hor:=vr q x8 (by omega) hx8l;have hub3:=hT3.sat.Q5;have c3:wr.cell? ⟨ub,0,none⟩=some (.int .u32 q):=aa hub3 0 rfl;have hul3:=ah hub3;have H6:=Hq2 hnx hT3;have s1:IntKind.u32.wrap ((q:Int)*256)=(q:Int)*256:=wrap_u32 (by omega) (by omega);clear hx8 hq hnx hT3 hub3;go_wp2_with (first|(refine al rfl (bi 116 (.tmp 73) (.tmp 72) rfl ub 0 #[.int .u32 q,.int .u32 0] 118 (.int .u32 ((q*256+x8:Nat):Int)) H6.z rfl rfl (by simp) (by kernel_rfl) rfl rfl ?_);intro w7 hT7;have HT7:=qqH hT7;clear hT7;simp only[Act.put])|fail);go_roundw
        case rel=>exact⟨m+1,by omega,by go_num,by rw[H6.a];exact HT7.out⟩
        case measure=>simp[intOf];omega
       ·obtain rfl:m=4:=by omega
        have hx4:bG ((be e 4).take 4)=e:=by rw[List.take_of_length_le (by rw[ck];omega),ph];exact Nat.mod_eq_of_lt (by omega)
        rw[hx4]at hT3;have HT3:=qqH hT3;clear hT3 hx4;go_wp2_with fail;go_roundw
        case rel=>exact⟨0+1,by omega,by go_num,HT3.out⟩
        case measure=>simp[intOf]
     ·have hTj:=hT.to (H:=(ub,Is (gB e 0))::G) (List.Perm.refl _);have p0:wr.cell? ⟨pb,1,none⟩=some (.pointer (some ⟨ub,1,none⟩)):=aa (hTj.sat.Q7 (b:=pb) (o:=pK ub) (by rw[HG.out];simp)) 1 rfl;have hpl:=hTj.sat.lt (b:=pb) (by rw[HG.out];simp);have HTj:=qqH hTj;clear hT hTj;go_wp2_with fail;go_loopw [61] (fun i wr=>ya G ub 1 wh e w i wr) (fun i _=>4-(intOf i).toNat)
      case atStart=>exact⟨0,by omega,rfl,HTj.out⟩
      case round =>
       obtain⟨m,hm,rfl,hT3⟩:=hrel;by_cases hm4:m<4
       ·have hby:=HBy.out (4+m) (by omega) wr (hT3.sat.Q7 (by rw[HG.out];simp));obtain⟨x8,hx8⟩:∃x8,x8=((bH e wh)[4+m]'(by rw[hbl];omega)).toNat:=⟨_,rfl⟩;have hx8l:x8<256:=by rw[hx8];exact UInt8.toNat_lt _
        rw[<- hx8]at hby
        rw[<- Nat.add_assoc]at hby
        have hql:bG ((be wh 4).take m)<16777216:=by
         have h1:=jh ((be wh 4).take m);have h2:((be wh 4).take m).length<=3:=by simp;omega
         have h3:(256:Nat) ^ ((be wh 4).take m).length<=256 ^ 3:=Nat.pow_le_pow_right (by omega) h2;omega
        have hnx:bG ((be wh 4).take (m+1))=bG ((be wh 4).take m)*256+x8:=by
         rw[List.take_succ_eq_append_getElem (by rw[ck];exact hm4),og,hx8];congr 2;simp only[bH];rw[List.getElem_append_right (by rw[ck];omega)];simp[ck]
        obtain⟨q,hq⟩:∃q,q=bG ((be wh 4).take m):=⟨_,rfl⟩;rw[<- hq]at hql hnx hT3;have hor:=vr q x8 (by omega) hx8l;have hub3:=hT3.sat.Q5;have c3:wr.cell? ⟨ub,1,none⟩=some (.int .u32 q):=aa hub3 1 rfl;have hul3:=ah hub3;have H6:=Hq2 hnx hT3;have s1:IntKind.u32.wrap ((q:Int)*256)=(q:Int)*256:=wrap_u32 (by omega) (by omega);clear hx8 hq hnx hT3 hub3;go_wp2_with (first|(refine al rfl (bi 116 (.tmp 73) (.tmp 72) rfl ub 1 #[.int .u32 e,.int .u32 q] 118 (.int .u32 ((q*256+x8:Nat):Int)) H6.z rfl rfl (by simp) (by kernel_rfl) rfl rfl ?_);intro w7 hT7;have HT7:=qqH hT7;clear hT7;simp only[Act.put])|fail);go_roundw
        case rel=>exact⟨m+1,by omega,by go_num,by rw[H6.a];exact HT7.out⟩
        case measure=>simp[intOf];omega
       ·obtain rfl:m=4:=by omega
        have hx4:bG ((be wh 4).take 4)=wh:=by rw[List.take_of_length_le (by rw[ck];omega),ph];exact Nat.mod_eq_of_lt (by omega)
        rw[hx4]at hT3;have HT3:=qqH hT3;clear hT3 hx4;go_wp2_with fail;go_roundw
        case rel=>exact⟨1+1,by omega,by go_num,HT3.out⟩
        case measure=>simp[intOf]
     ·have HT9:=qqH (show Turns [] ((ub,Is (gB e wh))::G) w wr from hT);clear hT;go_upto_region 22 with(fail);have hT9:=HT9.out.to (H:=(b6,Is (.cells (az s) 43 (0,0)))::(ub,Is (gB e wh))::((pb,Is (pK ub))::(kN u2 (mg us k)++J))) (by rw[HG.out];exact af);refine Kd [] ((pb,Is (pK ub))::(kN u2 (mg us k)++J)) w b6 ub k e wh s hT9 HK.b HL'.out he hwh HK.y hlt ?_;intro _ _ _ _ _ _ _ _ _ _ _ y87 w9 h87 hTA;obtain rfl:=h87;have hu9:=hTA.sat.Q7 (b:=ub) (o:=gB e wh) (by simp);have f0:w9.cell? ⟨ub,0,none⟩=some (.int .u32 e):=aa hu9 0 rfl;have f1:w9.cell? ⟨ub,1,none⟩=some (.int .u32 wh):=aa hu9 1 rfl;have hul9:=ah hu9;have hTA2:=hTA.to (H:=kN u2 (mg us k)++((b6,Is (.cells (az s) 43 (0,0)))::(ub,Is (gB e wh))::((pb,Is (pK ub))::J))) af;have HTA:=qqH hTA2;have hul:=CH us k;clear hT9 hTA hTA2 hu9;go_wp2_with (first|(at_builtin;refine al rfl ?_;refine xS (.tmp 88) (.tmp 90) rfl _ (mg us k) rfl (HTA.out.alloc _) H1.b _ 1 1 rfl [(e,wh)] rfl (fun _=>⟨_,rfl,fun j u hu=>gQ _ _ _ j u (by simpa[pW]using hu)⟩) (by simp;omega) ?_;intro v10 w10 hok10 hT10;have H10:=Hq2 hok10 hT10;clear hok10 hT10)|fail);go_roundw
      case rel=>exact⟨k+1,(b6,Is (.cells (az s) 43 (0,0)))::(ub,Is (gB e wh))::((pb,Is (pK ub))::J),by omega,by go_num,by rw[H1.x,HK.a];exact H10.a,by rw[<- H1.a,HE.out],by rw[H1.x,HK.a];exact H10.z⟩
      case measure=>simp[intOf];omega
  ·obtain rfl:k=2:=by omega
   have HS:=Hq2 hlo hT;clear hlo hT HC HL
   have hlen:(mg us 2).length<=1:=by
    have h0:=qJ us 1;have h1:=qJ us 0;have h2:mg us 0=[]:=rfl;rw[h1,h2]at h0;rw[h0];rcases HU.z with h|h<;>rw[h]
    ·cases us 1<;>simp
    ·cases us 0<;>simp
   obtain⟨-,-,sl,cap,e1,-,-⟩:=ew HS.z.sat.left HS.a;obtain⟨m,hm⟩:∃m,m=(mg us 2).length:=⟨_,rfl⟩;rw[<- hm]at e1 hlen;have hne:((m:Int)==2)=false:=by simp;omega
   have hne2:¬((m:Int)=2):=by omega
   have HM:=Hq2 hm e1;clear hm;subst e1;go_wp2_with fail;go_quiet (fail);go_wp2_with fail;go_ret3;exact⟨.slice sl m cap,rfl,HS.a,(HS.z.drewN _).drop (fun x=>by simp only[an];omega)⟩
def tZ(l:Bs)(bad:Bool):Nat:=da l bad 1
def pU(l:Bs)(bad:Bool):Bs:=fw (fw l bad 1) (iC l bad 1) (tZ l bad)
def xN(l:Bs)(bad:Bool):Bool:=iC (fw l bad 1) (iC l bad 1) (tZ l bad)
def gj(l:Bs)(bad:Bool):Bs:=if iC l bad 1=true\/(fw l bad 1).length<tZ l bad then[]else(fw l bad 1).take (tZ l bad)
def ve(rb:Nat)(l:Bs)(bad:Bool)(w:World)(e:Ending)(w':World):Prop :=
 e=.returned (str (gj l bad))/\Rd w' rb (pU l bad) (xN l bad)/\Mods (fun k=>k=rb) w w'
theorem fQ(l:Bs)(bad:Bool)(n:Nat):(fw l bad n).length<=l.length:=by
 unfold fw;split<;>simp
theorem zS(l:Bs)(bad:Bool):da l bad 1<=255:=by
 unfold da;split
 ·omega
 ·have:=jh (l.take 1);have h2:(l.take 1).length<=1:=by simp;omega
  have h3:256 ^ (l.take 1).length<=256 ^ 1:=Nat.pow_le_pow_right (by omega) h2;omega
theorem iw(l:Bs)(bad:Bool):(pU l bad).length<=l.length:=Nat.le_trans (fQ _ _ _) (fQ _ _ _)
theorem lR(l:Bs)(bad:Bool):(gj l bad).length<=255:=by
 unfold gj;split
 ·simp
 ·rw[List.length_take];have:=zS l bad;unfold tZ;omega
theorem mR(rb:Nat)(l:Bs)(bad:Bool)(w:World)(h:Rd w rb l bad)(hl:l.length<=1099511627776):
  Calls Tryz.prog 142 #[.pointer (some ⟨rb,0,none⟩)] w (ve rb l bad w):=by
 have HN:=qqH (dt rb l bad 1 w h hl (by omega));clear h;go_enter Tryz.func142,Tryz.ntmps142;go_wp2_with fail;refine HN.out.mono ?_;rintro e w1 ⟨rfl,hR,hm,-⟩;have h2:=zS l bad;have h3:=fQ l bad 1;have HB:=qqH (qT rb (fw l bad 1) (iC l bad 1) (da l bad 1) w1 hR (by omega) (by omega));have H1:=qqH hm;clear hR hm;go_wp2_with fail;refine HB.out.mono ?_;intro e w2 hp;obtain⟨a,cap,bs,rfl,hc,-,hbs,hR2,hm2,-⟩:=nO hp;have hs:=jE cap hc;have H2:=Hq3 hbs hR2 hm2;clear hp hc hbs hR2 hm2;go_wp2_with fail;refine bodyPost_ret (results_tmp rfl _ _ _) rfl ⟨?_,H2.b,H1.out.trans H2.y⟩;rw[H2.a];rfl
def gU(l:Bs):List Int:=(List.range (l.length / 4)).map fun i=>((bG ((l.drop (4*i)).take 4):Nat):Int)
theorem jH(l:Bs):(gU l).length=l.length / 4:=by simp[gU]
theorem BZ{l:Bs}{k:Nat}(h:k<l.length / 4):(gU l).take (k+1)=(gU l).take k++[((bG ((l.drop (4*k)).take 4):Nat):Int)]:=by
 rw[List.take_succ_eq_append_getElem (by rw[jH];exact h)];simp[gU]
def J0:Value->Nat
 | .slice _ n _=>n
 | _=>0
theorem IJ{v:Value}{l:List Int}{w:World}(hs:Sat w (bZ v l))(h:iOk v l):J0 v=l.length:=by
 obtain⟨av,cv,rfl,-⟩:=aV (aW hs h);rfl
def rbF(rb:Nat):HF:=[(rb,fun _=>True)]
def AJ(l:Bs)(bad:Bool)(ns:List Int)(l':Bs)(b':Bool):Prop :=
 (b'=false/\bad=false/\∃k,k<=l.length / 4/\l'=l.drop (4*k)/\ns=(gU l).take k)\/(b'=true/\(bad=true\/l.length%4≠0)/\ns.length<=l.length+1)
def FP(rb:Nat)(l:Bs)(bad:Bool)(w:World)(v:Value)(W:World):Prop :=
 ∃ns l' b',iOk v ns/\Turns (rbF rb) (bZ v ns++rbF rb) w W/\Rd W rb l' b'/\AJ l bad ns l' b'
def DR(rb:Nat)(l:Bs)(bad:Bool)(w:World)(e:Ending)(w':World):Prop :=
 ∃v ns l' b',e=.returned v/\iOk v ns/\Turns (rbF rb) (bZ v ns++rbF rb) w w'/\Rd w' rb l' b'/\((b'=false/\bad=false/\l.length%4=0/\l'=[]/\ns=gU l)\/(b'=true/\(bad=true\/l.length%4≠0)/\ns.length<=l.length+1))
theorem GZ{rb:Nat}{w w':World}(hm:Mods (fun k=>k=rb) w w'){F G:HF}{A:World}{o:Obj}(h:Turns F (G++rbF rb) A w)(ho:w'.heap[rb]?=some o):Turns F (G++[(rb,Is o)]) A w' :=
 ((h.to (H:=(rb,fun _=>True)::G) (by unfold rbF;exact List.perm_append_comm)).put hm ho Is.rfl).to (List.perm_append_comm (l₁:=[(rb,Is o)]))
theorem Cs{rb:Nat}{w:World}{F G:HF}{A:World}{o:Obj}(h:Turns F (G++[(rb,Is o)]) A w):Turns F (G++rbF rb) A w:=by
 have h1:=h.to (H:=(rb,Is o)::G) List.perm_append_comm;exact(h1.put (Mods.refl _ _) h1.sat.Q5 (ψ:=fun _=>True) trivial).to (by unfold rbF;exact List.perm_append_comm (l₁:=[(rb,fun _=>True)]))
theorem Rd.via{rb:Nat}{l:Bs}{b:Bool}{w0 W w':World}(h:Rd W rb l b)(h1:Mods (fun k=>k∈dom (rbF rb)) w0 W)(h2:Mods (fun k=>k∈dom (rbF rb)) w0 w')(hr:rb<w0.heap.size)(he:w'.heap[rb]?=W.heap[rb]?):Rd w' rb l b:=by
 obtain⟨a,cap,e1,e2,e3,e4⟩:=h;refine⟨a,cap,?_,e2,fun hp=>?_,e4⟩
 ·unfold rV at e1 ⊢;rw[he];exact e1
 ·obtain⟨g,off,ha,hc⟩:=e3 hp;have hg:g<rb:=e4 _ ha;have hS:¬(g∈dom (rbF rb)):=by simp[rbF,dom];omega
  refine⟨g,off,ha,fun j hj=>?_⟩;rw[<- hc j hj];exact World.cell?_of_block ((h2.block g (by omega) hS).trans (h1.block g (by omega) hS).symm)
theorem zG{l l':Bs}{bad:Bool}{ns:List Int}(h:AJ l bad ns l' false)(hne:l'≠[]):AJ l bad (ns++[((da l' false 4:Nat):Int)]) (fw l' false 4) (iC l' false 4)/\ns.length<=l.length:=by
 rcases h with⟨-,hb,k,hk,rfl,rfl⟩|⟨h,-,-⟩
 ·have hl:(l.drop (4*k)).length=l.length-4*k:=List.length_drop;have hl2:((gU l).take k).length=k:=by rw[List.length_take,jH];omega
  have hpos:0<l.length-4*k:=by rw[<- hl];exact List.length_pos_iff.2 hne
  refine⟨?_,by omega⟩;by_cases h4:(l.drop (4*k)).length<4
  ·refine .inr ⟨by simp[iC];omega,.inr (by omega),?_⟩;rw[List.length_append,hl2];simp;omega
  ·refine .inl ⟨by simp[iC];omega,hb,k+1,by omega,?_,?_⟩
   ·unfold fw;rw[if_neg (by simp;omega),List.drop_drop];congr 1
   ·unfold da;rw[if_neg (by simp;omega),BZ (by omega)]
 ·cases h
theorem nT(rb:Nat)(l:Bs)(bad:Bool)(w:World)(h:Rd w rb l bad)(hl:l.length<=70000):
  Calls Tryz.prog 143 #[.pointer (some ⟨rb,0,none⟩)] w (DR rb l bad w):=by
 have hrl:rb<w.heap.size:=by obtain⟨a,cap,h1,-⟩:=h;exact ah h1
 have HH:=qqH h;clear h;go_enter Tryz.func143,Tryz.ntmps143;go_wp2_with fail;go_loopw [3] (fun v wr=>FP rb l bad w v wr) (fun v _=>l.length+2-J0 v)
 case atStart =>
  refine⟨[],l,bad,lJ,?_,HH.out,?_⟩
  ·rw[zo];obtain⟨a,cap,h1,-⟩:=HH.out;exact Turns.refl (Sat.one h1 trivial)
  ·cases bad with
   | false=>exact .inl ⟨rfl,rfl,0,Nat.zero_le _,rfl,rfl⟩
   | true=>exact .inr ⟨rfl,.inl rfl,by simp⟩
 case round =>
  obtain⟨ns,l',b',hio,hT,hR,hN⟩:=hrel;obtain⟨a',cap',e1,e2,e3,e4⟩:=hR;have c0:wr.cell? ⟨rb,0,none⟩=some (.slice a' l'.length cap'):=aa e1 0 rfl;have c1:wr.cell? ⟨rb,1,none⟩=some (.bool b'):=aa e1 1 rfl;have hlv:=IJ hT.sat.left hio;have HR:=Hq4 hio hT (show Rd wr rb l' b' from⟨a',cap',e1,e2,e3,e4⟩) hN;clear hio hT hN e1 e2 e3 e4;by_cases h0:l'=[]
  ·have hd:l'.length=0:=by rw[h0];rfl
   rw[hd]at c0;go_wp2_with fail;refine bodyPost_ret (results_tmp rfl _ _ _) rfl ⟨u3,ns,l',b',rfl,HR.a,HR.b,HR.c,?_⟩;rcases HR.x with⟨h1,h2,k,h3,h4,h5⟩|h
   ·refine .inl ⟨h1,h2,?_,h0,?_⟩
    ·have:=congrArg List.length h4;rw[h0,List.length_drop]at this;simp at this;omega
    ·rw[h5,List.take_of_length_le];rw[jH];have:=congrArg List.length h4;rw[h0,List.length_drop]at this;simp at this;omega
   ·exact .inr h
  ·have hp:0<l'.length:=List.length_pos_iff.2 h0
   cases b' with
   | true =>
    go_wp2_with fail;refine bodyPost_ret (results_tmp rfl _ _ _) rfl ⟨u3,ns,l',true,rfl,HR.a,HR.b,HR.c,?_⟩;rcases HR.x with⟨h1,-⟩|h
    ·cases h1
    ·exact .inr h
   | false =>
    have hnx:=zG HR.x h0;have HN:=qqH (dt rb l' false 4 wr HR.c (by rcases HR.x with⟨-,-,k,-,rfl,-⟩|⟨h,-⟩<;>first|(rw[List.length_drop];omega)|cases h) (by omega));have HX:=Hq2 hnx.1 hlv;have hnl:=hnx.2;clear hnx hlv;go_wp2_with fail;refine HN.out.mono ?_;rintro e w1 ⟨rfl,hR1,hm1,-⟩;obtain⟨o,ho⟩:∃o,w1.heap[rb]?=some o:=by obtain⟨a,c,h1,-⟩:=hR1;exact⟨_,h1⟩
    have hT1:=GZ hm1 HR.b ho;obtain⟨x,hx⟩:∃x,x=da l' false 4:=⟨_,rfl⟩;rw[<- hx]at HX ⊢;have H1:=Hq3 hR1 ho hT1;clear hR1 hm1 ho hT1 hx c0 c1;go_wp2_with ((at_builtin;refine al rfl ?_;refine j8 (.tmp 17) (.tmp 20) rfl _ ns rfl (H1.y.alloc _) HR.a _ 1 1 rfl [(x:Int)] rfl (fun _=>⟨_,rfl,fun j u hu=>gQ _ _ _ j u hu⟩) (by simp;omega) ?_;intro av cv w5 hok5 hT5;have H5:=Hq2 hok5 hT5;clear hok5 hT5));go_roundw
    case rel =>
     have h5:=H5.z;have hR5:=Rd.via H1.a (H1.y.mods) h5.mods hrl ((h5.sat.Q7 (b:=rb) (by simp)).trans H1.b.symm);refine⟨_,_,_,?_,Cs (o:=o) ?_,hR5,HX.a⟩
     ·have:=H5.a;rw[List.length_append]at this;exact this
     ·rw[List.length_append]at h5;exact h5
    case measure=>rw[HX.z];simp[J0];omega
inductive RecR where
 | ver (p:Bs) (num size:Nat) (ats:List Int)
 | gone (p:Bs) (ns:List Int)
 | pin (k:UInt8) (p name:Bs) (num:Nat)
def tD:RecR->Value->Value
 | .ver p n s _,v=>.iface 173 (.agg #[.int .u8 2,str p,.int .i64 n,.int .i64 s,v])
 | .gone p _,v=>.iface 286 (.agg #[.int .u8 3,str p,v])
 | .pin k p m n,_=>.iface 233 (.agg #[.int .u8 k.toNat,str p,str m,.int .i64 n])
def ma:RecR->List Int
 | .ver _ _ _ a=>a
 | .gone _ a=>a
 | .pin _ _ _ _=>[]
def rN(s:Bs×Bool)(n:Nat):Bs×Bool:=(fw s.1 s.2 n,iC s.1 s.2 n)
def rT(s:Bs×Bool):Bs×Bool:=(pU s.1 s.2,xN s.1 s.2)
def fR(k:UInt8)(body:Bs):Option RecR :=
 let p:=gj body false
 let s1:=rT (body,false)
 if k=2 then
  let s2:=rN s1 4
  let s3:=rN s2 2
  if s3.2=false/\s3.1.length%4=0 then some (.ver p (da s1.1 s1.2 4) (da s2.1 s2.2 2) (gU s3.1))else none
 else if k=3 then
  if s1.2=false/\s1.1.length%4=0 then some (.gone p (gU s1.1))else none
 else if k=4\/k=5 then
  let s2:=rT s1
  let s3:=rN s2 4
  if s3.2=false/\s3.1=[]then some (.pin k p (gj s1.1 s1.2) (da s2.1 s2.2 4))else none
 else none
def RdT(A:World)(G:HF)(rb:Nat)(s:Bs×Bool)(W:World):Prop:=Turns [] (G++rbF rb) A W/\Rd W rb s.1 s.2
theorem RdT.is{A W:World}{G:HF}{rb:Nat}{s:Bs×Bool}(h:RdT A G rb s W):∃o,Turns [] (G++[(rb,Is o)]) A W/\W.heap[rb]?=some o:=by
 obtain⟨a,c,h1,-⟩:=h.2;exact⟨_,GZ (Mods.refl _ W) h.1 h1,h1⟩
theorem RdT.on{A W W':World}{G G':HF}{rb:Nat}{s:Bs×Bool}{o:Obj}(h:RdT A G rb s W)(hrb:rb=A.heap.size)(ho:W.heap[rb]?=some o)(hT:Turns [] (G'++[(rb,Is o)]) A W'):RdT A G' rb s W':=by
 refine⟨Cs hT,?_⟩;have ho':=hT.sat.Q7 (b:=rb) (o:=o) (by simp);obtain⟨a,cap,e1,e2,e3,e4⟩:=h.2;refine⟨a,cap,?_,e2,fun hp=>?_,e4⟩
 ·unfold rV at e1 ⊢;rw[ho',<- ho];exact e1
 ·obtain⟨g,off,ha,hc⟩:=e3 hp;have hg:g<rb:=e4 _ ha;refine⟨g,off,ha,fun j hj=>?_⟩;rw[<- hc j hj];exact World.cell?_of_block ((hT.mods.block g (by omega) (by simp)).trans (h.1.mods.block g (by omega) (by simp)).symm)
theorem RdT.alloc{A W:World}{G:HF}{rb:Nat}{s:Bs×Bool}(h:RdT A G rb s W)(hrb:rb=A.heap.size)(o:Obj):RdT A ((W.heap.size,Is o)::G) rb s (W.alloc o):=by
 obtain⟨o',h1,h2⟩:=h.is;exact h.on hrb h2 ((h1.Q8 o).to af)
theorem RdT.drew{A W:World}{G:HF}{rb:Nat}{s:Bs×Bool}(h:RdT A G rb s W)(hrb:rb=A.heap.size):RdT A G rb s W.drew:=by
 obtain⟨o',h1,h2⟩:=h.is;exact h.on hrb h2 h1.drew
theorem RdT.call{A W W':World}{G:HF}{rb:Nat}{s s':Bs×Bool}(h:RdT A G rb s W)(hm:Mods (fun k=>k=rb) W W')(hR:Rd W' rb s'.1 s'.2):RdT A G rb s' W':=by
 obtain⟨a,c,h1,-⟩:=id hR;exact⟨Cs (GZ hm h.1 h1),hR⟩
theorem RdT.nums{A W W':World}{G H:HF}{rb:Nat}{s s':Bs×Bool}(h:RdT A G rb s W)(hT:Turns (rbF rb) (H++rbF rb) W W')(hR:Rd W' rb s'.1 s'.2):RdT A (H++G) rb s' W' :=
 ⟨(h.1.step (R:=G) (by unfold rbF;exact List.perm_append_comm) hT).to (by unfold rbF;exact af),hR⟩
def eD(k:UInt8)(p:Bs):Obj:=.cells #[.int .u8 k.toNat,str p] 170 (0,0)
def Az:Obj:=.cells #[.int .u8 0,.string ⟨#[]⟩,.int .i64 0,.int .i64 0,.slice none 0 0] 173 (0,0)
def fC(p:Bs)(n m:Nat)(v:Value):Obj:=.cells #[.int .u8 2,str p,.int .i64 n,.int .i64 m,v] 173 (0,0)
def zF(o:Option Value):HF:=match o with|some (.pointer (some a))=>[(a.block,Is Az)]|_=>[]
def KJ(o2 o4:Option Value)(s1 s2 s3:Bs×Bool):Bs×Bool:=match o4 with|some _=>s3|none=>match o2 with|some _=>s2|none=>s1
structure Rd6 (A:World) (hb:Nat) (p:Bs) (rb:Nat) (s1 s2 s3:Bs×Bool) (n m:Nat) (s:Nat->Option Value) (W:World):Prop where
 o4:s 4≠none->s 2≠none
 o7:s 7≠none->s 4≠none/\s 6≠none
 o6:∀v,s 6=some v->∃c:Nat,v=.pointer (some ⟨c,0,none⟩)
 st:s 7=none->RdT A (zF (s 6)++[(hb,Is (eD 2 p))]) rb (KJ (s 2) (s 4) s1 s2 s3) W
 dn:s 7≠none->∃c:Nat,s 6=some (.pointer (some ⟨c,0,none⟩))/\RdT A [(c,Is (fC p n m (.slice none 0 0))),(hb,Is (eD 2 p))] rb s3 W
theorem Rd6.head{A:World}{hb:Nat}{p:Bs}{rb:Nat}{s1 s2 s3:Bs×Bool}{n m:Nat}{s:Nat->Option Value}{W:World}(h:Rd6 A hb p rb s1 s2 s3 n m s W):W.heap[hb]?=some (eD 2 p):=by
 cases h7:s 7 with
 | none=>exact(h.st h7).1.sat.Q7 (by simp)
 | some v=>obtain⟨c,-,h1⟩:=h.dn (by rw[h7];simp);exact h1.1.sat.Q7 (by simp)
theorem jY{rb:Nat}{s:Bs×Bool}{n:Nat}{w w':World}{e:Ending}(h:iH rb s.1 s.2 n w e w'):e=.returned (.int .i64 (da s.1 s.2 n))/\Rd w' rb (rN s n).1 (rN s n).2/\Mods (fun k=>k=rb) w w':=⟨h.1,h.2.1,h.2.2.1⟩
theorem Kx(A:World)(hb:Nat)(p:Bs)(rb:Nat)(s1:Bs×Bool)(hrb:rb=A.heap.size){Q:Exit->Act->World->Prop}{w:World}{u1 u2 u3 u4 u7 u8 u9 aS aT ab ad ag aj ar av ax a0 a1 a2 a3 a4 a5 a6 a7 a9 bY bg bj bk bo bs bv bx b0 b1 b2 b3 b4 b6 b7 b9 ca cb cc ch ci cj cl cm cp cs ct cu cv cx c0 c1:Value}{ds:List Deferred}(hT:RdT A [(hb,Is (eD 2 p))] rb s1 w)(hl:s1.1.length<=70000)(hk:∀(c:Nat) (c2 c3 c4 c5 c6 c7:Value) (w':World),RdT A [(c,Is (fC p (da s1.1 s1.2 4) (da (rN s1 4).1 (rN s1 4).2 2) (.slice none 0 0))),(hb,Is (eD 2 p))] rb (rN (rN s1 4) 2) w'->Q .normal { tmps:=#[.int .u8 2,u1,u2,u3,u4,.pointer (some ⟨rb,0,none⟩),.pointer (some ⟨hb,0,none⟩),u7,.pointer (some ⟨c,0,none⟩),u9,aS,aT,ab,ad,ag,aj,ar,av,ax,c2,c3,c4,c5,c6,c7,a6,a7,a9,bY,bg,bj,bk,bo,bs,bv,bx,b0,b1,b2,b3,b4,b6,b7,b9,ca,cb,cc,ch,ci,cj,cl,cm,cp,cs,ct,cu,cv,cx,c0,c1],defers:=ds } w'):
  (iq 6 Tryz.f101).wp Tryz.prog Q { tmps:=#[.int .u8 2,u1,u2,u3,u4,.pointer (some ⟨rb,0,none⟩),.pointer (some ⟨hb,0,none⟩),u7,u8,u9,aS,aT,ab,ad,ag,aj,ar,av,ax,a0,a1,a2,a3,a4,a5,a6,a7,a9,bY,bg,bj,bk,bo,bs,bv,bx,b0,b1,b2,b3,b4,b6,b7,b9,ca,cb,cc,ch,ci,cj,cl,cm,cp,cs,ct,cu,cv,cx,c0,c1],defers:=ds } w:=by
 have HM:=qqH (show Tryz.prog.follows .mixedOrders=true by kernel_rfl);have hl2:(rN s1 4).1.length<=70000:=Nat.le_trans (fQ _ _ _) hl;obtain⟨s2,hs2⟩:∃s2,s2=rN s1 4:=⟨_,rfl⟩;obtain⟨s3,hs3⟩:∃s3,s3=rN s2 2:=⟨_,rfl⟩;obtain⟨n,hn⟩:∃n,n=da s1.1 s1.2 4:=⟨_,rfl⟩;obtain⟨m,hm⟩:∃m,m=da s2.1 s2.2 2:=⟨_,rfl⟩;rw[<- hs2]at hk hl2;rw[<- hs3,<- hn,<- hm]at hk;conv=>arg 2;whnf
 refine rE (A:=?A) (hA:=?hA) HM.out (iT [fun v=>v=.agg #[.int .u8 2,str p],fun v=>v=.pointer (some ⟨rb,0,none⟩),fun v=>v=.int .i64 n,fun v=>v=.pointer (some ⟨rb,0,none⟩),fun v=>v=.int .i64 m,fun v=>v=.agg #[.int .u8 2,str p,.int .i64 n,.int .i64 m,.slice none 0 0],fun v=>∃c:Nat,v=.pointer (some ⟨c,0,none⟩),fun _=>True]) (Rd6 A hb p rb s1 s2 s3 n m) [2,4,6,7] (by kernel_rfl) ?h0 ?hs ?he
 case hA=>intro x;simp only[aw,Act.put,List.setIfInBounds_toArray,List.set_cons_zero,List.set_cons_succ,Nat.reduceAdd];rfl
 case h0=>exact⟨fun h=>absurd rfl h,fun h=>absurd rfl h,(fun v h=>by cases h),fun _=>hT.drew hrb,fun h=>absurd rfl h⟩
 case hs =>
  refine⟨lC (by decide) rfl (fun x s wq hd hJ K hK=>?_),lC (by decide) rfl (fun x s wq hd hJ K hK=>?_),lB (by decide) rfl (fun x s wq hd hsx hsi hJ K hK=>?_),lC (by decide) rfl (fun x s wq hd hJ K hK=>?_),lB (by decide) rfl (fun x s wq hd hsx hsi hJ K hK=>?_),lC (by decide) rfl (fun x s wq hd hJ K hK=>?_),lB (by decide) rfl (fun x s wq hd hsx hsi hJ K hK=>?_),lB (by decide) rfl (fun x s wq hd hsx hsi hJ K hK=>?_),trivial⟩
  ·exact wp_load_mid 170 (.tmp 6) rfl hb 0 rfl [.int .u8 2,str p] _ (fun j v hv=>aa hJ.head (0+j) (by rw[Nat.zero_add,<- Array.getElem?_toList];exact hv)) Tryz.underlying170 rfl (by kernel_rfl) (hK _ rfl)
  ·exact am (by kernel_rfl) (hK _ rfl)
  ·have h1:x 1=.pointer (some ⟨rb,0,none⟩):=ae hd 1 (by kernel_rfl)
   have h4n:s 4=none:=by
    cases h4:s 4 with
    | none=>rfl
    | some v=>exact absurd hsi (hJ.o4 (by rw[h4];simp))
   have h7n:s 7=none:=by
    cases h7:s 7 with
    | none=>rfl
    | some v=>exact absurd h4n (hJ.o7 (by rw[h7];simp)).1
   have hst:=hJ.st h7n;rw[hsi,h4n]at hst;refine bd (by rw[h1];kernel_rfl) (dt rb s1.1 s1.2 4 wq hst.2 (by omega) (by omega)) ?_;intro e w3 hp;obtain⟨rfl,hR,hM⟩:=jY hp;refine⟨_,rfl,hK _ _ (by rw[hn];rfl) ⟨fun h=>by rw[ix];simp,fun h=>?_,fun v hv=>hJ.o6 v (by rw[<- hv,bz (by decide)]),fun h=>?_,fun h=>?_⟩⟩
   ·rw[bz (by decide)]at h;exact absurd h7n h
   ·rw[bz (i:=2) (k:=6) (by decide),bz (i:=2) (k:=4) (by decide),h4n,ix,hs2];exact hst.call hM hR
   ·rw[bz (by decide)]at h;exact absurd h7n h
  ·exact am (by kernel_rfl) (hK _ rfl)
  ·have h3:x 3=.pointer (some ⟨rb,0,none⟩):=ae hd 3 (by kernel_rfl);have h2s:=jD hsx 2 (by kernel_rfl) (by decide)
   have h7n:s 7=none:=by
    cases h7:s 7 with
    | none=>rfl
    | some v=>exact absurd hsi (hJ.o7 (by rw[h7];simp)).1
   have hst:=hJ.st h7n;rw[hsi,h2s]at hst;refine bd (by rw[h3];kernel_rfl) (dt rb s2.1 s2.2 2 wq hst.2 (by omega) (by omega)) ?_;intro e w3 hp;obtain⟨rfl,hR,hM⟩:=jY hp;refine⟨_,rfl,hK _ _ (by rw[hm];rfl) ⟨fun h=>by rw[bz (by decide),h2s];simp,fun h=>?_,fun v hv=>hJ.o6 v (by rw[<- hv,bz (by decide)]),fun h=>?_,fun h=>?_⟩⟩
   ·rw[bz (by decide)]at h;exact absurd h7n h
   ·rw[bz (i:=4) (k:=6) (by decide),ix,hs3];exact hst.call hM hR
   ·rw[bz (by decide)]at h;exact absurd h7n h
  ·have h0:x 0=.agg #[.int .u8 2,str p]:=ae hd 0 (by kernel_rfl);have h2:x 2=.int .i64 n:=ae hd 2 (by kernel_rfl);have h4:x 4=.int .i64 m:=ae hd 4 (by kernel_rfl);exact am (by rw[h0,h2,h4];kernel_rfl) (hK _ rfl)
  ·have h7n:s 7=none:=by
    cases h7:s 7 with
    | none=>rfl
    | some v=>exact absurd hsi (hJ.o7 (by rw[h7];simp)).2
   have hst:=hJ.st h7n;rw[hsi]at hst;refine am (v:=.pointer (some ⟨wq.heap.size,0,none⟩)) (w':=wq.alloc Az) (by kernel_rfl) (hK _ _ ⟨_,rfl⟩ ⟨fun h=>?_,fun h=>?_,fun v hv=>?_,fun h=>?_,fun h=>?_⟩)
   ·rw[bz (by decide)]at h ⊢;exact hJ.o4 h
   ·rw[bz (by decide)]at h;exact absurd h7n h
   ·rw[ix]at hv;exact⟨_,(Option.some.inj hv).symm⟩
   ·rw[ix,bz (i:=6) (k:=2) (by decide),bz (i:=6) (k:=4) (by decide)];exact hst.alloc hrb Az
   ·rw[bz (by decide)]at h;exact absurd h7n h
  ·obtain⟨c,h6⟩:∃c:Nat,x 6=.pointer (some ⟨c,0,none⟩):=ae hd 6 (by kernel_rfl);have h5:x 5=.agg #[.int .u8 2,str p,.int .i64 n,.int .i64 m,.slice none 0 0]:=ae hd 5 (by kernel_rfl);have h6s:=jD hsx 6 (by kernel_rfl) (by decide);have h4s:=jD hsx 4 (by kernel_rfl) (by decide);have hst:=hJ.st hsi;rw[h6s,h4s,h6]at hst;change RdT A ([(c,Is Az)]++[(hb,Is (eD 2 p))]) rb s3 wq at hst;obtain⟨o',h8,h9⟩:=hst.is;refine Hn 173 (.tmp 8) (.tmp 24) rfl c #[.int .u8 0,.string ⟨#[]⟩,.int .i64 0,.int .i64 0,.slice none 0 0] #[.int .u8 2,str p,.int .i64 n,.int .i64 m,.slice none 0 0] 173 (h8.to (H:=(c,Is (.cells #[.int .u8 0,.string ⟨#[]⟩,.int .i64 0,.int .i64 0,.slice none 0 0] 173 (0,0)))::[(hb,Is (eD 2 p)),(rb,Is o')]) (by unfold Az;exact af)) (by rw[h6];rfl) (by rw[h5];rfl) rfl (by kernel_rfl) (by simp[Value.oneCell',str]) ?_;intro w3 h10;have h11:=hst.on hrb h9 (G':=[(c,Is (fC p n m (.slice none 0 0))),(hb,Is (eD 2 p))]) (h10.to (by unfold fC;exact af));refine hK _ _ trivial ⟨fun h=>?_,fun h=>?_,fun v hv=>?_,fun h=>?_,fun h=>?_⟩
   ·rw[bz (by decide)]at h ⊢;exact hJ.o4 h
   ·rw[bz (by decide),bz (by decide),h4s,h6s];simp
   ·rw[bz (by decide)]at hv;exact hJ.o6 v hv
   ·rw[ix]at h;cases h
   ·rw[bz (by decide),h6s,h6];exact⟨c,rfl,h11⟩
 case he =>
  intro x w3 hφ hS;obtain⟨c,hc,hT3⟩:=hS.dn (by simp);have hc:x 6=.pointer (some ⟨c,0,none⟩):=by simpa using hc
  simp only[hc];exact hk c (x 0) (x 1) (x 2) (x 3) (x 4) (x 5) w3 hT3
theorem xB(body:Bs):fR 2 body=if(rN (rN (rT (body,false)) 4) 2).2=false/\(rN (rN (rT (body,false)) 4) 2).1.length%4=0 then some (.ver (gj body false) (da (rT (body,false)).1 (rT (body,false)).2 4) (da (rN (rT (body,false)) 4).1 (rN (rT (body,false)) 4).2 2) (gU (rN (rN (rT (body,false)) 4) 2).1))else none:=by
 unfold fR;rw[if_pos rfl]
def cL(k:UInt8)(body:Bs)(w:World)(e:Ending)(w':World):Prop :=
 match fR k body with
 | none=>e=.returned .nilIface/\aX w w'
 | some r=>∃v,e=.returned (tD r v)/\iOk v (ma r)/\Turns [] (bZ v (ma r)) w w'
theorem yd(a:Option Addr)(cap:Nat)(body:Bs)(w:World)(h:ak w a (body.map ao))(hcap:body.length<=cap)(ha:∀x,a=some x->x.block<w.heap.size)(hl:body.length<=70000):
  Calls Tryz.prog 101 #[.int .u8 2,.slice a body.length cap] w (cL 2 body w):=by
 obtain⟨rb,hrb⟩:∃rb,rb=w.heap.size:=⟨_,rfl⟩
 have hR0:RdT w [] rb (body,false) (w.alloc (.cells #[.slice a body.length cap,.bool false] 282)):=by
  refine⟨?_,a,cap,?_,hcap,h.keep ((Mods.refl (fun _=>False) w).alloc _) (fun _ _ _=>id),fun x hx=>hrb ▸ ha x hx⟩
  ·rw[hrb];exact(Turns.refl (Sat.nil w)).Qd (φ:=fun _=>True) trivial
  ·unfold rV;rw[hrb];exact aM w _
 have HT:=qqH (mR rb body false _ hR0.2 (by omega));have H0:=Hq2 hR0 hrb;rw[hrb]at HT;clear h ha hcap hR0;go_enter Tryz.func101,Tryz.ntmps101;go_wp2_with fail;refine HT.out.mono ?_;rintro e w2 ⟨rfl,hR2,hm2⟩;rw[<- hrb]at hR2 hm2 ⊢;have hR3:RdT w [] rb (rT (body,false)) w2:=H0.a.call hm2 hR2;obtain⟨p,hp⟩:∃p,p=gj body false:=⟨_,rfl⟩;obtain⟨s1,hs1⟩:∃s1,s1=rT (body,false):=⟨_,rfl⟩;have hl1:s1.1.length<=70000:=by rw[hs1];exact Nat.le_trans (iw _ _) hl
 rw[<- hs1]at hR3;rw[<- hp];have H2:=Hq3 hR3 hp hs1;clear hR2 hm2 hR3 hp hs1 hrb;go_upto_region 6 with(fail);obtain⟨hb,hhb⟩:∃hb,hb=w2.heap.size:=⟨_,rfl⟩;rw[<- hhb];refine Kx w hb p rb s1 H0.z ?_ hl1 ?_
 ·rw[hhb];exact H2.a.alloc H0.z (eD 2 p)
 intro c _ _ _ _ _ _ w3 hT3;obtain⟨n,hn⟩:∃n,n=da s1.1 s1.2 4:=⟨_,rfl⟩;obtain⟨m,hm⟩:∃m,m=da (rN s1 4).1 (rN s1 4).2 2:=⟨_,rfl⟩;obtain⟨s3,hs3⟩:∃s3,s3=rN (rN s1 4) 2:=⟨_,rfl⟩;rw[<- hn,<- hm,<- hs3]at hT3;have hl3:s3.1.length<=70000:=by rw[hs3];exact Nat.le_trans (Nat.le_trans (fQ _ _ _) (fQ _ _ _)) hl1
 have HN:=qqH (nT rb s3.1 s3.2 w3 hT3.2 hl3);have H3:=Hq4 hT3 hn hm hs3;have hcl:c<w3.heap.size:=hT3.1.sat.lt (by simp);clear hT3 hn hm hs3 hhb;go_wp2_with fail;refine HN.out.mono ?_;rintro e w4 ⟨v,ns,l',b',rfl,hio,hT4,hR4,hres⟩;have hT5:RdT w (bZ v ns++[(c,Is (fC p n m (.slice none 0 0))),(hb,Is (eD 2 p))]) rb (l',b') w4:=RdT.nums (s':=(l',b')) H3.a hT4 hR4;obtain⟨o',h8,h9⟩:=hT5.is;have hcl4:c<w4.heap.size:=hT5.1.sat.lt (by simp);have hv1:=ew hT5.1.sat.left.left hio;have H5:=Hq6 hT5 hio trivial h8 h9 hv1;clear hT4 hR4 hio hT5 h8 h9 hv1;rcases hres with⟨hb',hs2,hl4,hl',hns⟩|⟨hb',hbad,-⟩
 ·subst hb';subst hl';have HX:=Hq3 hs2 hl4 hns;clear hs2 hl4 hns;go_wp2_with (first|(refine al rfl (bi 171 (.tmp 27) (.tmp 26) rfl c 4 #[.int .u8 2,str p,.int .i64 n,.int .i64 m,.slice none 0 0] 173 v (H5.d.to (H:=(c,Is (.cells #[.int .u8 2,str p,.int .i64 n,.int .i64 m,.slice none 0 0] 173 (0,0)))::(bZ v ns++[(hb,Is (eD 2 p)),(rb,Is o')])) (by unfold fC;exact af)) rfl rfl (by simp) (by kernel_rfl) H5.f H5.g ?_);intro w5 hT6;have hR6:=RdT.on H5.a H0.z H5.e (G':=(c,Is (fC p n m v))::(bZ v ns++[(hb,Is (eD 2 p))])) ((show Turns [] ((c,Is (fC p n m v))::(bZ v ns++[(hb,Is (eD 2 p)),(rb,Is o')])) w w5 from hT6).to af);have hb6:=hR6.1.sat.Q5;have d0:=aa (v:=.int .u8 2) hb6 0 rfl;have d1:=aa (v:=str p) hb6 1 rfl;have d2:=aa (v:=.int .i64 n) hb6 2 rfl;have d3:=aa (v:=.int .i64 m) hb6 3 rfl;have d4:=aa (v:=v) hb6 4 rfl;have hcl6:=ah hb6;obtain⟨ra,rc,hra,-,-,-⟩:=id hR6.2;have f0:=aa hra 0 rfl;have f1:=aa hra 1 rfl;have hrl6:=ah hra;have H6:=qqH hR6;clear hT6 hR6 hb6 hra;simp only[Act.put])|fail)
  have hrd:fR 2 body=some (.ver p n m ns):=by
   rw[xB,<- H2.y,<- H2.b,<- H3.b,<- H3.c,<- H3.x,if_pos ⟨HX.a,HX.b⟩,HX.y]
  have hfin:cL 2 body w (.returned (.iface 173 (.agg #[.int .u8 2,str p,.int .i64 n,.int .i64 m,v]))) w5:=by
   unfold cL;rw[hrd];exact⟨v,rfl,H5.b,H6.a.drop (fun x=>by show cnt x (bZ v ns)<=_;simp only[aB,an];omega)⟩
  exact bodyPost_ret (results_tmp rfl _ _ _) rfl (by exact hfin)
 ·subst hb';have HX:=qqH hbad;clear hbad;go_wp2_with (first|(refine al rfl (bi 171 (.tmp 27) (.tmp 26) rfl c 4 #[.int .u8 2,str p,.int .i64 n,.int .i64 m,.slice none 0 0] 173 v (H5.d.to (H:=(c,Is (.cells #[.int .u8 2,str p,.int .i64 n,.int .i64 m,.slice none 0 0] 173 (0,0)))::(bZ v ns++[(hb,Is (eD 2 p)),(rb,Is o')])) (by unfold fC;exact af)) rfl rfl (by simp) (by kernel_rfl) H5.f H5.g ?_);intro w5 hT6;have hR6:=RdT.on H5.a H0.z H5.e (G':=(c,Is (fC p n m v))::(bZ v ns++[(hb,Is (eD 2 p))])) ((show Turns [] ((c,Is (fC p n m v))::(bZ v ns++[(hb,Is (eD 2 p)),(rb,Is o')])) w w5 from hT6).to af);have hb6:=hR6.1.sat.Q5;have d0:=aa (v:=.int .u8 2) hb6 0 rfl;have d1:=aa (v:=str p) hb6 1 rfl;have d2:=aa (v:=.int .i64 n) hb6 2 rfl;have d3:=aa (v:=.int .i64 m) hb6 3 rfl;have d4:=aa (v:=v) hb6 4 rfl;have hcl6:=ah hb6;obtain⟨ra,rc,hra,-,-,-⟩:=id hR6.2;have f0:=aa hra 0 rfl;have f1:=aa hra 1 rfl;have hrl6:=ah hra;have H6:=qqH hR6;clear hT6 hR6 hb6 hra;simp only[Act.put])|fail)
  have hrd:fR 2 body=none:=by
   rw[xB,<- H2.y,<- H3.x,if_neg];rintro⟨h1,h2⟩;rcases HX.out with h|h
   ·rw[h1]at h;cases h
   ·exact h h2
  have hfin:cL 2 body w (.returned .nilIface) w5:=by
   unfold cL;rw[hrd];exact⟨rfl,H6.a.news⟩
  exact bodyPost_ret (results_tmp rfl _ _ _) rfl (by exact hfin)
end
section
def nR(c:Int):Int :=
 bits BinOp.xor IntKind.u32
  (bits BinOp.xor IntKind.u32 ((c+1)*2654435769%4294967296) ((c+1)*2654435769%4294967296 / 65536)*2246822507%4294967296)
  (bits BinOp.xor IntKind.u32 ((c+1)*2654435769%4294967296) ((c+1)*2654435769%4294967296 / 65536)*2246822507%4294967296 / 8192)
def cU(h c:Int):Int:=(h*2+nR c)%4294967296
def dH(h:Int)(n:Nat):Bool :=
 if 256<=n then true
 else if 64<=n then !(bits BinOp.and IntKind.u32 h 15 != 0)
 else if 16<=n then !(bits BinOp.and IntKind.u32 h 255 != 0)
 else false
theorem pv{h:Int}{n:Nat}(h1:256<=n):dH h n=true:=by unfold dH;rw[if_pos h1]
theorem Da{h:Int}{n:Nat}{v:Bool}(h1:n<256)(h2:64<=n)(hv:(bits BinOp.and IntKind.u32 h 15 != 0)=v):dH h n = !v:=by
 unfold dH;rw[if_neg (by omega),if_pos h2,hv]
theorem C9{h:Int}{n:Nat}{v:Bool}(h1:n<64)(h2:16<=n)(hv:(bits BinOp.and IntKind.u32 h 255 != 0)=v):dH h n = !v:=by
 unfold dH;rw[if_neg (by omega),if_neg (by omega),if_pos h2,hv]
theorem Gv{h:Int}{n:Nat}(h1:n<16):dH h n=false:=by unfold dH;rw[if_neg (by omega),if_neg (by omega),if_neg (by omega)]
def sL:Array Value:=((List.range 256).map fun k:Nat=>Value.int .u32 (nR k)).toArray
def qj(h:Int)(n:Nat):Array Value:=sL++#[.int .u32 h,.int .i64 n]
def jw(k:Nat):Array Value:=((List.range k).map (fun k:Nat=>Value.int .u32 (nR k))++(List.replicate (256-k) (Value.int .u32 0)++[Value.int .u32 0,Value.int .i64 0])).toArray
theorem jj:sL.size=256:=by simp[sL]
theorem JQ(h:Int)(n:Nat):(qj h n)[256]?=some (.int .u32 h):=by
 simp[qj,jj]
theorem JR(h:Int)(n:Nat):(qj h n)[257]?=some (.int .i64 n):=by
 simp[qj,jj]
theorem JP(h:Int)(n c:Nat)(hc:c<256):(qj h n)[c]?=some (.int .u32 (nR c)):=by
 rw[qj,Array.getElem?_append,if_pos (by rw[jj];exact hc)];simp[sL,hc]
theorem E6(g:Array Value)(a b a':Value)(k:Nat)(hk:g.size=k):(g++#[a,b]).setIfInBounds k a'=g++#[a',b]:=by
 subst hk;rw[Array.setIfInBounds_append_right (Nat.le_refl _)];simp
theorem Cx(g:Array Value)(a b b':Value)(k:Nat)(hk:g.size+1=k):(g++#[a,b]).setIfInBounds k b'=g++#[a,b']:=by
 subst hk;rw[Array.setIfInBounds_append_right (by omega)];simp
theorem Bq(h h':Int)(n:Nat):(qj h n).setIfInBounds 256 (.int .u32 h')=qj h' n:=E6 _ _ _ _ _ jj
theorem Br(h:Int)(n n':Nat)(v:Value)(hv:v=.int .i64 n'):(qj h n).setIfInBounds 257 v=qj h n':=by
 subst hv;exact Cx _ _ _ _ _ (by rw[jj])
theorem xd:jw 256=qj 0 0:=by
 simp[jw,qj,sL]
theorem zf(k:Nat)(hk:k<256):(jw k).setIfInBounds k (.int .u32 (nR k))=jw (k+1):=by
 apply Array.ext';simp only[jw,Array.toList_setIfInBounds];rw[List.set_append,if_neg (by simp)];obtain⟨m,hm⟩:∃m,256-k=m+1:=⟨256-k-1,by omega⟩;have hm':256-(k+1)=m:=by omega
 rw[hm,hm'];simp[List.range_succ,List.replicate_succ]
theorem ze(k:Nat)(hk:k<256):(jw k)[k]?=some (.int .u32 0):=by
 simp only[jw,List.getElem?_toArray];rw[List.getElem?_append_right (by simp)];obtain⟨m,hm⟩:∃m,256-k=m+1:=⟨256-k-1,by omega⟩;rw[hm];simp[List.replicate_succ]
theorem qX(h c:Int):0<=cU h c/\cU h c<4294967296:=by unfold cU;omega
theorem D7(x:Int):(bits BinOp.and IntKind.u32 x 0 != 0)=false:=by
 have h:bits BinOp.and IntKind.u32 x 0=0:=by
  show IntKind.u32.wrap ((BitVec.ofInt 32 x &&& BitVec.ofInt 32 0).toNat:Int)=0;rw[show BitVec.ofInt 32 0=0#32 from rfl,BitVec.and_zero];rfl
 simp[h]
def cM:Int->Nat->List UInt8->List Nat
 | _,_,[]=>[]
 | h,n,c::cs=>if dH (cU h c.toNat) (n+1) || cs.isEmpty then(n+1)::cM 0 0 cs else cM (cU h c.toNat) (n+1) cs
def aF(data:List UInt8):List Nat:=cM 0 0 data
theorem ql(h:Int)(n:Nat)(c:UInt8)(cs:List UInt8)(e:dH (cU h c.toNat) (n+1)=true):cM h n (c::cs)=(n+1)::cM 0 0 cs:=by
 rw[cM];simp[e]
theorem ou(h:Int)(n:Nat)(c:UInt8):cM h n [c]=[n+1]:=by rw[cM];simp[cM]
theorem sA(h:Int)(n:Nat)(c:UInt8)(cs:List UInt8)(e:dH (cU h c.toNat) (n+1)=false)(hcs:cs≠[]):cM h n (c::cs)=cM (cU h c.toNat) (n+1) cs:=by
 rw[cM];simp[e,hcs]
theorem rt(l:List UInt8):∀h n,(cM h n l).length<=l.length:=by
 induction l with
 | nil=>intro h n;simp[cM]
 | cons c cs ih =>
  intro h n;rw[cM];split
  ·have:=ih 0 0;simp;omega
  ·have:=ih (cU h c.toNat) (n+1);simp;omega
theorem Eh(l:List UInt8):∀h n,l≠[]->(cM h n l).sum=l.length+n:=by
 induction l with
 | nil=>intro h n hl;exact absurd rfl hl
 | cons c cs ih =>
  intro h n _;rw[cM];split
  ·by_cases hc:cs=[]
   ·subst hc;simp[cM];omega
   ·have:=ih 0 0 hc;simp;omega
  ·rename_i hn;have hc:cs≠[]:=by intro hc;subst hc;simp at hn
   have:=ih (cU h c.toNat) (n+1) hc;simp;omega
theorem gL(l:List UInt8):(aF l).sum=l.length:=by
 by_cases h:l=[]
 ·subst h;simp[aF,cM]
 ·have:=Eh l 0 0 h;simpa[aF]using this
theorem dh(l:List UInt8):(aF l).length<=l.length:=rt l 0 0
def eK(w:World)(d off:Nat)(l:List UInt8):Prop:=∀j (h:j<l.length),w.cell? ⟨d,off+j,none⟩=some (.int .u8 ((l[j]'h).toNat:Nat))
theorem eK.keep{S:Nat->Prop}{w w':World}{d off:Nat}{l:List UInt8}(h:eK w d off l)(hm:Mods S w w')(hS:¬S d):eK w' d off l:=fun j hj=>by
 have hc:=h j hj
 have hlt:=World.block_lt_of_cell? w _ hc
 exact(World.cell?_of_block (w:=w) (hm.block d hlt hS)).trans hc
end
section
open Go.RowKit Go.Maps
def aH(D:Bs):List Bs:=dc (aF D) D
def eJ(l:List VerL):Nat:=(l.getLast?.map (·.num)).getD 0
def bJ(S:AS)(D:Bs):List Bs:=co (S.K.map (·.1)) [] (aH D)
def dY(l:List Bs):Bs:=(l.map (frame 1)).flatten
structure PutStep (S S':AS) (l D:Bs) (V:VerL):Prop where
 a:S'.a=S.a
 quota:S'.X.quota=S.X.quota
 closed:S'.X.closed=S.X.closed
 ep:S'.X.ep=S.X.ep
 d:S'.X.d=S.X.d
 n:S'.L.n=S.L.n
 sc:S'.X.sc=S.X.sc+(bJ S D).length
 sb:S'.X.sb=S.X.sb+((bJ S D).map List.length).sum
 used:S'.X.used=S.X.used+D.length
 K:S'.K=S.K++cz S.data.length (bJ S D)
 ts:S'.ts=S.ts
 vers:∀m,ai S'.ps m=if m=l then ai S.ps l++[V]else ai S.ps m
 num:V.num=eJ (ai S.ps l)+1
 size:V.size=D.length
 held:V.held=0
 nchs:V.chs.length=(aH D).length
 chs:∀e∈(aH D).zip V.chs,e∈S'.K
 data:S'.data=S.data++dY (bJ S D)++frame 2 (eF l V.num V.size (bC V.chs))
 other:∀f2 c2,(f2+c2<=S.A.first\/S.A.first+S.A.count<=f2)->aP S'.L.now f2 c2=aP S.L.now f2 c2
def AM(S:AS)(D:Bs)(b:Nat)(S':AS):Prop:=∀b',b+(bJ S D).length+2<=b'->(aH D).length<=b'->ArB S' b'
def CY(S:AS)(l D:Bs)(b:Nat)(w:World)(e:Ending)(w':World):Prop :=
 (∃n,e=.returned (.tuple #[.int .i64 0,cC n])/\Turns (arF S) (arF S) w w' /\
  (
   (S.X.closed=true/\n=9)\/(S.X.closed=false/\aA l=false/\n=1)\/(S.X.closed=false/\aA l=true/\4000<D.length/\n=2) \/
   (S.X.closed=false/\aA l=true/\D.length<=4000/\S.X.quota<S.X.used+D.length/\n=7))) \/
 (S.X.closed=false/\aA l=true/\D.length<=4000/\S.X.used+D.length<=S.X.quota /\
  (
   (∃sp chs,e=.returned (.tuple #[.int .i64 0,cC 8])/\AreaOk { S.A with spare:=sp }/\Turns (arF S) (arF { S with A:={ S.A with spare:=sp } }) w w' /\
     128*S.A.count<S.data.length+(dY (bJ S D)).length+(frame 2 (eF l (eJ (ai S.ps l)+1) D.length (bC chs))).length/\chs.length=(aH D).length) \/
   (∃S' V,e=.returned (.tuple #[.int .i64 (eJ (ai S.ps l)+1),.nilIface])/\PutStep S S' l D V/\ArOk S'/\AM S D b S'/\Turns (arF S) (arF S') w w')))
end
section
open Go.RowKit
def dE(w:World)(b:Nat)(h:Int)(n:Nat):Prop:=w.heap[b]?=some (.cells (qj h n) 296 (0,0))
def KK:Array Value:=jw 0
theorem Jj(w:World):(zeroValue 296).run Tryz.prog w=.ok (.agg KK) w:=by kernel_rfl
def um(w:World)(e:Ending)(w':World):Prop :=
 e=.returned (.pointer (some ⟨w.heap.size,0,none⟩))/\dE w' w.heap.size 0 0/\aX w w'
theorem rr(w:World):Calls Tryz.prog 124 #[] w (um w):=by
 have hz:=Jj;go_enter Tryz.func124,Tryz.ntmps124;go_wp2;clear hz
 go_loopw [6] (fun i wr=>∃k:Nat,k<=256/\i=.int .i64 k/\wr.heap[w.heap.size]?=some (.cells (jw k) 296 (0,0))/\aX w wr)
  (fun i _=>256-(intOf i).toNat)
 case atStart=>exact⟨0,by omega,rfl,aM w _,(Mods.refl _ _).alloc _⟩
 case round =>
  obtain⟨k,hk,rfl,hcs,hs⟩:=hrel;by_cases hlt:k<256
  ·have hc:=aa hcs k (ze k hlt);have hf:=aZ hcs k;have HC:=qqH hcs;clear hcs;go_wp2;go_roundw
   case rel =>
    refine⟨k+1,by omega,by go_num,?_,hs.setCell (.inr (Nat.le_refl _)) _⟩;rw[bt HC.out];exact congrArg some (congrArg (fun c=>Obj.cells c _ _) (zf k hlt))
   case measure=>simp[intOf];omega
  ·obtain rfl:k=256:=by omega
   have HC:=qqH hcs;clear hcs;go_wp2;go_ret;exact⟨rfl,by unfold dE;rw[HC.out,xd],hs⟩
def rQ(w:World)(b:Nat)(h:Int)(n:Nat)(e:Ending)(w':World):Prop :=
 e=.returned (.bool (dH h n))/\dE w' b (if dH h n then 0 else h) (if dH h n then 0 else n)/\Mods (·=b) w w'/\w'.heap.size=w.heap.size
theorem eY{w:World}{b:Nat}{h:Int}{n:Nat}(hC:dE w b h n)(h' m:Int)(hm:m=h'):dE (w.setCell ⟨b,256,none⟩ (.int .u32 m)) b h' n :=
 (bt hC 256 _).trans (by rw[hm,Bq])
theorem eZ{w:World}{b:Nat}{h:Int}{n:Nat}(hC:dE w b h n)(n':Nat)(m:Int)(hm:m=n'):dE (w.setCell ⟨b,257,none⟩ (.int .i64 m)) b h n' :=
 (bt hC 257 _).trans (by rw[Br h n n' _ (by rw[hm])])
theorem fm{w:World}{b:Nat}{h:Int}{n:Nat}(hC:dE w b h n):dE w.drew b h n:=hC
theorem lD{w w':World}{b:Nat}{h:Int}{n:Nat}(e:dH h n=true)(hC:dE w' b 0 0)(hM:Mods (·=b) w w')(hz:w'.heap.size=w.heap.size):
  rQ w b h n (.returned (.bool true)) w':=by
 refine⟨by rw[e],?_,hM,hz⟩;rw[e];exact hC
theorem my{w w':World}{b:Nat}{h:Int}{n:Nat}(e:dH h n=false)(hC:dE w' b h n)(hM:Mods (·=b) w w')(hz:w'.heap.size=w.heap.size):
  rQ w b h n (.returned (.bool false)) w':=by
 refine⟨by rw[e],?_,hM,hz⟩;rw[e];exact hC
theorem rR(w:World)(b:Nat)(h:Int)(n c:Nat)(hc:c<256)(hn:n<256)(hC:dE w b h n):
  Calls Tryz.prog 125 #[.pointer (some ⟨b,0,none⟩),.int .u8 c] w (rQ w b (cU h c) (n+1)):=by
 have h1:=aa hC c (JP h n c hc);have h2:=aa hC 256 (JQ h n);have h3:=aa hC 257 (JR h n);have f2:=aZ hC 256;have f3:=aZ hC 257;have HC:=qqH hC;clear hC;have b0:=D7;go_enter Tryz.func125,Tryz.ntmps125;go_wp2;go_region;all_goals go_wp2
 all_goals go_ret
 ·refine lD (pv (by omega)) ?_ ?_ ?_
  ·exact fm (eZ (eY (eZ (eY HC.out (cU h c) _ rfl) (n+1) _ rfl) 0 0 rfl) 0 0 rfl)
  ·repeat (first|exact Mods.refl _ _|refine Mods.drew ?_|refine Mods.set1 ?_ _)
  ·simp[World.drew]
 ·refine my (Da (v:=true) (by omega) (by omega) (by assumption)) ?_ ?_ ?_
  ·exact fm (eZ (eY HC.out (cU h c) _ rfl) (n+1) _ rfl)
  ·repeat (first|exact Mods.refl _ _|refine Mods.drew ?_|refine Mods.set1 ?_ _)
  ·simp[World.drew]
 ·refine lD (Da (v:=false) (by omega) (by omega) (by assumption)) ?_ ?_ ?_
  ·exact fm (eZ (eY (eZ (eY HC.out (cU h c) _ rfl) (n+1) _ rfl) 0 0 rfl) 0 0 rfl)
  ·repeat (first|exact Mods.refl _ _|refine Mods.drew ?_|refine Mods.set1 ?_ _)
  ·simp[World.drew]
 ·refine my (C9 (v:=true) (by omega) (by omega) (by assumption)) ?_ ?_ ?_
  ·exact fm (eZ (eY HC.out (cU h c) _ rfl) (n+1) _ rfl)
  ·repeat (first|exact Mods.refl _ _|refine Mods.drew ?_|refine Mods.set1 ?_ _)
  ·simp[World.drew]
 ·refine lD (C9 (v:=false) (by omega) (by omega) (by assumption)) ?_ ?_ ?_
  ·exact fm (eZ (eY (eZ (eY HC.out (cU h c) _ rfl) (n+1) _ rfl) 0 0 rfl) 0 0 rfl)
  ·repeat (first|exact Mods.refl _ _|refine Mods.drew ?_|refine Mods.set1 ?_ _)
  ·simp[World.drew]
 ·refine my (Gv (by omega)) ?_ ?_ ?_
  ·exact fm (eZ (eY HC.out (cU h c) _ rfl) (n+1) _ rfl)
  ·repeat (first|exact Mods.refl _ _|refine Mods.drew ?_|refine Mods.set1 ?_ _)
  ·simp[World.drew]
end
section
open Go.RowKit Go.Shelf
attribute [local go_sem] Oper.semAt_some
abbrev FW:Fence:=Fence.wide
def ng(J Jx:Nat->(Nat->Prop)->World->Prop)(i:Nat)(S:Nat->Prop)(A:World)(e:Ending)(B:World):Prop :=
 (e=.returned (.bool true)/\∃S',J (i+1) S' B/\Mods S A B/\∀k,S' k->k<B.heap.size/\(S k\/A.heap.size<=k)) \/
 (e=.returned (.bool false)/\∃S',Jx i S' B/\Mods S A B/\∀k,S' k->k<B.heap.size/\(S k\/A.heap.size<=k))
def oZ(J Jx:Nat->(Nat->Prop)->World->Prop)(N:Nat)(S:Nat->Prop)(W:World)(e:Ending)(B:World):Prop :=
 (∃v,e=.returned v)/\∃S',(J N S' B\/∃i,i<N/\Jx i S' B)/\Mods S W B/\∀k,S' k->k<B.heap.size/\(S k\/W.heap.size<=k)
def wB(J:Nat->(Nat->Prop)->World->Prop)(data:List UInt8)(S0:Nat->Prop)(W:World)(c box d:Nat)(k:Nat)(i frm:Nat)(wr:World):Prop :=
 ∃S,J i S wr/\¬S c/\¬S box/\¬S d/\(∀q,S q->q<wr.heap.size/\(S0 q\/W.heap.size<=q))/\Mods S0 W wr/\c<wr.heap.size /\
  i<=(aF data).length/\(k=data.length->i=(aF data).length) /\
  (k<data.length->∃h n,dE wr c h n/\n<256/\frm+n=k/\frm=((aF data).take i).sum/\(aF data).drop i=cM h n (data.drop k))
theorem ru{l:List Nat}{i a:Nat}{r:List Nat}(h:l.drop i=a::r):∃hi:i<l.length,l[i]=a/\l.drop (i+1)=r/\(l.take (i+1)).sum=(l.take i).sum+a:=by
 have hi:i<l.length:=by
  rcases Nat.lt_or_ge i l.length with h'|h'
  ·exact h'
  ·rw[List.drop_of_length_le h']at h;cases h
 have e:l[i]=a:=by
  have:=List.getElem?_drop (xs:=l) (i:=i) (j:=0);rw[h]at this;simp at this;exact(List.getElem?_eq_some_iff.1 this.symm).2
 refine⟨hi,e,?_,?_⟩
 ·rw[<- List.drop_drop,h];rfl
 ·rw[List.take_succ_eq_append_getElem hi,List.sum_append,e];simp
theorem qU{data:List UInt8}{k i frm m:Nat}{h:Int}{x:UInt8}(hlt:k<data.length)(hx:x=data[k])(hfm:frm+m=k)(hfr:frm=((aF data).take i).sum)(hdr:(aF data).drop i=cM h m (data.drop k))(he:dH (cU h x.toNat) (m+1)=true\/k+1=data.length):
  ∃hi:i<(aF data).length,(aF data)[i]=k+1-frm/\(aF data).drop (i+1)=cM 0 0 (data.drop (k+1))/\k+1=((aF data).take (i+1)).sum:=by
 have hd:data.drop k=x::data.drop (k+1):=by rw[hx];exact List.drop_eq_getElem_cons hlt
 have h2:(aF data).drop i=(m+1)::cM 0 0 (data.drop (k+1)):=by
  rw[hdr,hd];rcases he with he|he
  ·exact ql _ _ _ _ he
  ·rw[List.drop_of_length_le (by omega)];rw[ou];rfl
 obtain⟨hi,h3,h4,h5⟩:=ru h2;exact⟨hi,by omega,h4,by omega⟩
section
variable {J Jx : Nat -> (Nat -> Prop) -> World -> Prop} {data : List UInt8} {S0 S : Nat -> Prop} {W wr w2 w3 : World} {c box d k i frm m : Nat} {h : Int} {x : UInt8}
theorem Ek(hlt:k<data.length)(hx:x=data[k])(hfm:frm+m=k)(hfr:frm=((aF data).take i).sum)(hdr:(aF data).drop i=cM h m (data.drop k))(he:dH (cU h x.toNat) (m+1)=true\/k+1=data.length)(hSc:¬S c)(hSb:¬S box)(hSd:¬S d)(hSu:∀q,S q->q<wr.heap.size/\(S0 q\/W.heap.size<=q))(hM:Mods S0 W wr)(hcW:W.heap.size<=c)(hcl:c<wr.heap.size)(hbW:box<W.heap.size)(hdl:d<W.heap.size)(hM2:Mods (·=c) wr w2)(hC2:k+1<data.length->dE w2 c 0 0){S':Nat->Prop}(hJ:J (i+1) S' w3)(hM3:Mods S w2 w3)(hS':∀q,S' q->q<w3.heap.size/\(S q\/w2.heap.size<=q)):
  wB J data S0 W c box d (k+1) (i+1) (k+1) w3:=by
 obtain⟨hi,h3,h4,h5⟩:=qU hlt hx hfm hfr hdr he;have z2:=hM2.size;have z3:=hM3.size;have z1:=hM.size;refine⟨S',hJ,?_,?_,?_,?_,?_,by omega,by omega,?_,?_⟩
 ·intro hc;rcases(hS' c hc).2 with h'|h'
  ·exact hSc h'
  ·omega
 ·intro hc;rcases(hS' box hc).2 with h'|h'
  ·exact hSb h'
  ·omega
 ·intro hc;rcases(hS' d hc).2 with h'|h'
  ·exact hSd h'
  ·omega
 ·intro q hq;refine⟨(hS' q hq).1,?_⟩;rcases(hS' q hq).2 with h'|h'
  ·exact(hSu q h').2
  ·omega
 ·refine(hM.trans' hM2 (fun q hq=>?_)).trans' hM3 (fun q hq=>(hSu q hq).2);subst hq;exact .inr hcW
 ·intro hk;rw[show data.drop (k+1)=[]from List.drop_of_length_le (by omega)]at h4;simp only[cM]at h4;have:=List.drop_eq_nil_iff.1 h4;omega
 ·intro hk;exact⟨0,0,hM3.at (hC2 hk) hSc,by omega,by omega,h5,h4⟩
theorem El(hlt:k+1<data.length)(hx:x=data[k])(hfm:frm+m=k)(hfr:frm=((aF data).take i).sum)(hi:i<=(aF data).length)(hdr:(aF data).drop i=cM h m (data.drop k))(he:dH (cU h x.toNat) (m+1)=false)(hJ:J i S wr)(hfrm:∀i S A B,J i S A->(∀k,S k->k<A.heap.size)->Mods (fun k=>¬S k) A B->J i S B)(hSc:¬S c)(hSb:¬S box)(hSd:¬S d)(hSu:∀q,S q->q<wr.heap.size/\(S0 q\/W.heap.size<=q))(hM:Mods S0 W wr)(hcW:W.heap.size<=c)(hcl:c<wr.heap.size)(hM2:Mods (·=c) wr w2)(hC2:dE w2 c (cU h x.toNat) (m+1)):
  wB J data S0 W c box d (k+1) i frm w2:=by
 have z2:=hM2.size;refine⟨S,hfrm i S wr w2 hJ (fun q hq=>(hSu q hq).1) (hM2.mono (fun q hq=>.inl (by subst hq;exact hSc))),hSc,hSb,hSd,fun q hq=>⟨by have:=(hSu q hq).1;omega,(hSu q hq).2⟩,?_,by omega,hi,by omega,?_⟩
 ·refine hM.trans' hM2 (fun q hq=>?_);subst hq;exact .inr hcW
 ·intro _;have hd:data.drop k=x::data.drop (k+1):=by rw[hx];exact List.drop_eq_getElem_cons (by omega)
  refine⟨cU h x.toNat,m+1,hC2,?_,by omega,hfr,?_⟩
  ·rcases Nat.lt_or_ge (m+1) 256 with h'|h'
   ·exact h'
   ·rw[pv h']at he;cases he
  ·rw[hdr,hd,sA _ _ _ _ he];intro hn;have:=List.drop_eq_nil_iff.1 hn;omega
end
def uY(P:Program)(n l d off:Nat)(data:List UInt8)(J Jx:Nat->(Nat->Prop)->World->Prop):Prop :=
  ∀i S A (hi:i<(aF data).length),J i S A->eK A d off data->(∀k,S k->k<A.heap.size)->¬S d ->
   YieldAt FW n P l #[.slice (some ⟨d,off+((aF data).take i).sum,none⟩) (aF data)[i] (aF data)[i]] A (ng J Jx i S A)
def wE(J:Nat->(Nat->Prop)->World->Prop):Prop:=∀i S A B,J i S A->(∀k,S k->k<A.heap.size)->Mods (fun k=>¬S k) A B->J i S B
theorem Bx{n l d off:Nat}{data:List UInt8}{J Jx:Nat->(Nat->Prop)->World->Prop}(hround:uY Tryz.prog n l d off data J Jx)(hfrm:wE J){k i frm m:Nat}{h:Int}{x:UInt8}(hlt:k<data.length)(hx:x=data[k])(hfm:frm+m=k)(hfr:frm=((aF data).take i).sum)(hdr:(aF data).drop i=cM h m (data.drop k))(he:dH (cU h x.toNat) (m+1)=true\/k+1=data.length){S S0:Nat->Prop}{W wr w2:World}{c:Nat}(hJ:J i S wr)(hd:eK W d off data)(hSu:∀q,S q->q<wr.heap.size/\(S0 q\/W.heap.size<=q))(hM:Mods S0 W wr)(hSd0:¬S0 d)(hSd:¬S d)(hSc:¬S c)(hM2:Mods (·=c) wr w2)(hdc:d≠c):
  YieldAt FW n Tryz.prog l #[.slice (some ⟨d,off+frm,none⟩) (k+1-frm) (k+1-frm)] w2 (ng J Jx i S w2)/\i<(aF data).length:=by
 obtain⟨hi,h3,h4,h5⟩:=qU hlt hx hfm hfr hdr he
 have:=hround i S w2 hi (hfrm i S wr w2 hJ (fun q hq=>(hSu q hq).1) (hM2.mono (fun q hq=>.inl (by subst hq;exact hSc)))) ((hd.keep hM hSd0).keep hM2 hdc)
  (fun q hq=>Nat.lt_of_lt_of_le (hSu q hq).1 hM2.size) hSd
 rw[h3,<- hfr]at this;exact⟨this,hi⟩
theorem xX(n l box d off cap:Nat)(a:Option Addr)(data:List UInt8)(J Jx:Nat->(Nat->Prop)->World->Prop)(W:World)(S0:Nat->Prop)(ha:0<data.length->a=some ⟨d,off,none⟩)(hcap:data.length<=cap)(hmax:data.length<=140737488351232)(hbox:W.heap[box]?=some (.cells #[.slice a data.length cap] 38 (0,0)))(hd:eK W d off data)(hSb:¬S0 box)(hSd:¬S0 d)(hSo:∀k,S0 k->k<W.heap.size)(h0:J 0 S0 W)(hfrm:wE J)(hround:uY Tryz.prog n l d off data J Jx):
  CallsIn FW (n+1) Tryz.prog 123 #[.func (.yield l) #[] #[],.pointer (some ⟨box,0,none⟩)] W (oZ J Jx (aF data).length S0 W):=by
 have hbW:=ah hbox;refine callsIn_of_wp Tryz.func123 rfl trivial ?_ rfl;simp only[Tryz.ntmps123,List.size_toArray,List.length_cons,List.length_nil,Nat.reduceAdd,Nat.reduceSub,Array.replicate_succ,Array.replicate_zero,List.push_toArray,List.append_toArray,List.nil_append,List.cons_append];gi_wp2_with fail;refine⟨trivial,(callsIn_wide.2 (rr _)).mono ?_⟩;rintro e w1 ⟨rfl,hC1,hs1⟩;obtain⟨c,hcdef⟩:∃c,c=W.heap.size:=⟨_,rfl⟩;rw[<- hcdef]at hC1 ⊢;have hbox1:=aa (hs1.at hbox id) 0 (v:=.slice a data.length cap) (by simp);have HC1:=Hq6 hC1 hcdef h0 hSo hbox hs1;clear hC1 hcdef h0 hSo hbox hs1;have HR:=qqH hround;have HF:=qqH hfrm;have HD:=qqH hd;clear hround hfrm hd;gi_wp2_with fail
 gi_loopw [4,10] (fun fr kk wr=>∃(k i frm:Nat),k<=data.length/\fr=.int .i64 frm/\kk=.int .i64 k/\wB J data S0 W c box d k i frm wr)
  (fun _ kk _=>data.length-(intOf kk).toNat)
 case atStart =>
  obtain⟨hC1,hc,h0,hSo,hbox,hs1⟩:=HC1.out;refine⟨0,0,0,by omega,rfl,rfl,S0,HF.out 0 S0 W w1 h0 hSo (hs1.mods _),?_,hSb,hSd,fun q hq=>⟨by have:=hSo q hq;have:=hs1.size;omega,.inl hq⟩,hs1.mods _,?_,by omega,?_,?_⟩
  ·intro hq;have:=hSo _ hq;omega
  ·have:=ah hC1;exact this
  ·intro hk;have:data=[]:=List.eq_nil_of_length_eq_zero hk.symm;subst this;simp[aF,cM]
  ·intro hk;exact⟨0,0,hC1,by omega,rfl,by simp,by simp[aF]⟩
 case round =>
  obtain⟨k,i,frm,hk,rfl,rfl,hR⟩:=hrel;by_cases hlt:k<data.length
  ·obtain⟨S,hJ,hSc,hSb',hSd',hSu,hM,hcl,hi,_,hst⟩:=hR;obtain⟨h,m,hC,hm,hfm,hfr',hdr⟩:=hst hlt;obtain rfl:=ha (by omega);have hbx:=aa (hM.at HC1.e hSb) 0 (v:=.slice (some ⟨d,off,none⟩) data.length cap) (by simp);have hdk:=(HD.out.keep hM hSd) k hlt;have hdl:d<W.heap.size:=World.block_lt_of_cell? W _ (HD.out k hlt);have hcW:W.heap.size<=c:=by have:=HC1.b;omega
   have hbx':∀w2:World,Mods (·=c) wr w2->w2.cell? ⟨box,0,none⟩=some (.slice (some ⟨d,off,none⟩) data.length cap):=fun w2 h2=>by
    have e:=h2.block box (by have:=hM.size;omega) (by omega);exact(World.cell?_of_block (w:=wr) e).trans hbx
   have HI:=Hq6 hJ hSu hM hC hfr' hdr;have HB:=qqH hbx';clear hJ hSu hM hC hfr' hdr hst hbx';obtain⟨x,hx⟩:∃x:UInt8,x=data[k]:=⟨_,rfl⟩;rw[<- hx]at hdk;have Hx:=qqH hx;clear hx;have hxl:=x.toNat_lt;have hfk:frm<=k:=by omega
   have hfc:frm<cap:=by omega
   have HFM:=qqH hfm;clear hfm;by_cases hE:dH (cU h x.toNat) (m+1)=true\/k+1=data.length
   ·obtain⟨z,hz⟩:∃z,dH (cU h x.toNat) (m+1)=z:=⟨_,rfl⟩;have HE:=qqH hE;have HZ:=qqH hz;clear hE hz;gi_wp2_with fail;refine⟨trivial,(callsIn_wide.2 (rR wr c h m x.toNat hxl (by omega) HI.d)).mono ?_⟩;rintro e w2 ⟨rfl,hC2,hM2,hz2⟩;rw[HZ.out]at hC2 ⊢;have hb2:=HB.out w2 hM2
    have hlast:z=false->((k:Int)==(data.length:Int)-1)=true:=fun hzf=>by
     rcases HE.out with h'|h'
     ·rw[HZ.out,hzf]at h';cases h'
     ·simp;omega
    obtain⟨hI1,hI2,hI3,hI4,hI5,hI6⟩:=HI.out;obtain⟨⟨fn,tmps,assign,body,hy,hRd⟩,hil⟩:=Bx HR.out HF.out hlt Hx.out HFM.out hI5 hI6 HE.out hI1 HD.out hI2 hI3 hSd hSd' hSc hM2 (by omega)
    have hCz:k+1<data.length->dE w2 c 0 0:=fun hk1=>by
     rcases HE.out with h'|h'
     ·rw[HZ.out]at h';rw[h']at hC2;exact hC2
     ·omega
    have HN:=qqH (fun(w3:World) (S':Nat->Prop) (hJ3:J (i+1) S' w3) (hM3:Mods S w2 w3) (hS3:∀q,S' q->q<w3.heap.size/\(S q\/w2.heap.size<=q)) =>
     Ek (box:=box) hlt Hx.out HFM.out hI5 hI6 HE.out hSc hSb' hSd' hI2 hI3 hcW hcl hbW hdl hM2 hCz hJ3 hM3 hS3)
    have HX:=Hq5 hil (hI3.trans' hM2 (T:=(·=c)) (fun q hq=>.inr (by omega))) hI2 hM2.size hI3.size;clear hC2 hM2 hz2 hI1 hI2 hI3 hI4 hI5 hI6 hCz hil
    cases z
    ·have hl:=hlast rfl;clear hlast;gi_wp2_with fail;refine hRd.mono ?_;rintro e w3 (⟨rfl,S',hJ3,hM3,hS3⟩|⟨rfl,S',hJ3,hM3,hS3⟩)
     ·have HR3:=qqH (HN.out w3 S' hJ3 hM3 hS3);clear hJ3 hM3 hS3 hy;gi_wp2;go_roundw
      case rel=>exact⟨k+1,i+1,k+1,by omega,by go_num,by go_num,HR3.out⟩
      case measure=>simp[intOf];omega
     ·obtain⟨hil,hM02,hI2,hz2,hz1⟩:=HX.out
      have HP:Hid (oZ J Jx (aF data).length S0 W (.returned (.tuple #[])) w3) :=
       ⟨⟨_,rfl⟩,S',.inr ⟨i,hil,hJ3⟩,hM02.trans' hM3 (fun q hq=>(hI2 q hq).2),fun q hq=>⟨(hS3 q hq).1,by
        rcases(hS3 q hq).2 with h'|h'
        ·exact(hI2 q h').2
        ·exact .inr (by omega)⟩⟩
      clear hJ3 hM3 hS3 hy hil hM02 hI2 hz2 hz1;gi_wp2;refine bodyPost_ret (results_none rfl _ _ _) rfl ?_;exact HP.out
    ·clear hlast;gi_wp2_with fail;refine hRd.mono ?_;rintro e w3 (⟨rfl,S',hJ3,hM3,hS3⟩|⟨rfl,S',hJ3,hM3,hS3⟩)
     ·have HR3:=qqH (HN.out w3 S' hJ3 hM3 hS3);clear hJ3 hM3 hS3 hy;gi_wp2;go_roundw
      case rel=>exact⟨k+1,i+1,k+1,by omega,by go_num,by go_num,HR3.out⟩
      case measure=>simp[intOf];omega
     ·obtain⟨hil,hM02,hI2,hz2,hz1⟩:=HX.out
      have HP:Hid (oZ J Jx (aF data).length S0 W (.returned (.tuple #[])) w3) :=
       ⟨⟨_,rfl⟩,S',.inr ⟨i,hil,hJ3⟩,hM02.trans' hM3 (fun q hq=>(hI2 q hq).2),fun q hq=>⟨(hS3 q hq).1,by
        rcases(hS3 q hq).2 with h'|h'
        ·exact(hI2 q h').2
        ·exact .inr (by omega)⟩⟩
      clear hJ3 hM3 hS3 hy hil hM02 hI2 hz2 hz1;gi_wp2;refine bodyPost_ret (results_none rfl _ _ _) rfl ?_;exact HP.out
   ·have hk1:k+1<data.length:=by
     rcases Nat.lt_or_ge (k+1) data.length with h'|h'
     ·exact h'
     ·exact absurd (.inr (by omega)) hE
    have hz:dH (cU h x.toNat) (m+1)=false:=by
     cases hz:dH (cU h x.toNat) (m+1)
     ·rfl
     ·exact absurd (.inl hz) hE
    have hne:((k:Int)==(data.length:Int)-1)=false:=by simp;omega
    have HZ:=qqH hz;clear hE hz;gi_wp2_with fail;refine⟨trivial,(callsIn_wide.2 (rR wr c h m x.toNat hxl (by omega) HI.d)).mono ?_⟩;rintro e w2 ⟨rfl,hC2,hM2,hz2⟩;rw[HZ.out]at hC2 ⊢;have hb2:=HB.out w2 hM2;obtain⟨hI1,hI2,hI3,hI4,hI5,hI6⟩:=HI.out;have HN:=qqH (El (box:=box) (d:=d) hk1 Hx.out HFM.out hI5 hi hI6 HZ.out hI1 HF.out hSc hSb' hSd' hI2 hI3 hcW hcl hM2 hC2);clear hC2 hM2 hz2 hI1 hI2 hI3 hI4 hI5 hI6;gi_wp2;go_roundw
    case rel=>exact⟨k+1,i,frm,by omega,rfl,by go_num,HN.out⟩
    case measure=>simp[intOf];omega
  ·obtain rfl:k=data.length:=by omega
   obtain⟨S,hJ,hSc,hSb',hSd',hSu,hM,hcl,hi,hil,hst⟩:=hR
   have HP:Hid (oZ J Jx (aF data).length S0 W (.returned (.tuple #[])) wr) :=
    ⟨⟨_,rfl⟩,S,.inl (by rw[hil rfl]at hJ;exact hJ),hM,hSu⟩
   clear hJ hSu hM hil hst;gi_wp2;go_end0;exact HP.out
end
section
open Go.RowKit Go.Shelf
def Own(S S':Nat->Prop)(A B:World):Prop:=Mods S A B/\∀k,S' k->k<B.heap.size/\(S k\/A.heap.size<=k)
def Ea(I:Nat->(Nat->Prop)->World->Prop)(Ix:Code->Nat->(Nat->Prop)->World->Prop)(i:Nat)(S:Nat->Prop)(A:World):Exit->Act->World->Prop
 | .normal,_,B=>∃S',I (i+1) S' B/\Own S S' A B
 | .ret,_,B=>∃S',Ix .ret i S' B/\Own S S' A B
 | .exit id,_,B=>∃S',Ix (.exit id) i S' B/\Own S S' A B
 | .goto t,_,B=>∃S',Ix (.goto t) i S' B/\Own S S' A B
 | .panic _,_,_=>False
 | .outgrown,_,_=>False
def fJ(d off:Nat)(data:List UInt8)(i:Nat):Value :=
 .slice (some ⟨d,off+((aF data).take i).sum,none⟩) ((aF data).getD i 0) ((aF data).getD i 0)
theorem J5{S S':Nat->Prop}{A B:World}(h:Own S S' A B):∀k,S' k->k<B.heap.size:=fun k hk=>(h.2 k hk).1
theorem Fp{n:Nat}{g:Operand}{p:Tmp}{assign body:Code}{Q:Exit->Act->World->Prop}{a:Act}{w:World}(box d off cap:Nat)(a0:Option Addr)(data:List UInt8)(hg:a.eval g=.func (.func 123) #[] #[.pointer (some ⟨box,0,none⟩)])(ha:0<data.length->a0=some ⟨d,off,none⟩)(hcap:data.length<=cap)(hmax:data.length<=140737488351232)(hbox:w.heap[box]?=some (.cells #[.slice a0 data.length cap] 38 (0,0)))(hd:eK w d off data)(hdw:d≠w.heap.size/\d≠w.heap.size+1)(I:Nat->(Nat->Prop)->World->Prop)(Ix:Code->Nat->(Nat->Prop)->World->Prop)(S0:Nat->Prop)(hSb:¬S0 box)(hSd:¬S0 d)(hSo:∀k,S0 k->k<w.heap.size)(h0:I 0 S0 w)(hI:wE I)(hIx:∀c,wE (Ix c))(a₁:Nat->Act)(hassign:∀(l i:Nat) (W:World) (K:Act->World->Prop),K (a₁ i) W ->
   assign.wpIn (FW.inRound l) n Tryz.prog (Exit.then K (fun _ _ _=>False)) { tmps:=a.tmps.setIfInBounds p (fJ d off data i),defers:=[] } W)(hbody:∀(l i:Nat) (S:Nat->Prop) (A:World),i<(aF data).length->I i S A->eK A d off data->(∀k,S k->k<A.heap.size)->¬S d->w.heap.size<=A.heap.size ->
   body.wpIn (FW.inRound l) n Tryz.prog (Ea I Ix i S A) (a₁ i) A)(hdone:∀(D:Nat) (S:Nat->Prop) (B:World),w.heap.size<=D->I (aF data).length S B->Own S0 S w B->¬S D->B.heap[D]?=some (.deferred (some [])) ->
   Q .normal { a with defers:={ target:=.collected D,args:=#[] }::a.defers } B)(hstop:∀(D i:Nat) (c:Code) (S:Nat->Prop) (B:World),w.heap.size<=D->i<(aF data).length->Ix c i S B->Own S0 S w B->¬S D->B.heap[D]?=some (.deferred (some [])) ->
   c.wpIn FW (n+1+1) Tryz.prog Q { a with defers:={ target:=.collected D,args:=#[] }::a.defers } B):
  (Code.rangeFunc g #[p] assign body).wpIn FW (n+1+1) Tryz.prog Q a w:=by
 refine wpIn_rangeFunc ?_;intro fn _;obtain⟨rec,hrec⟩:∃rec:LoopState->Option Code->Loop,rec=fun st pe=>{ state:=st,pending:=pe,fn,tmps:=a.tmps,params:=#[p],assign,body,defers:=w.heap.size }:=⟨_,rfl⟩
 obtain⟨W1,hW1⟩:∃W1,(w.alloc (.deferred (some []))).alloc (.loop (rec .ready none))=W1:=⟨_,rfl⟩;obtain⟨L,hL⟩:∃L,L=w.heap.size+1:=⟨_,rfl⟩;obtain⟨D,hD⟩:∃D,D=w.heap.size:=⟨_,rfl⟩;have hz1:W1.heap.size=w.heap.size+2:=by rw[<- hW1];simp
 have hL1:W1.heap[L]?=some (.loop (rec .ready none)):=by
  rw[<- hW1,hL];have:=World.alloc_heap_new (w.alloc (.deferred (some []))) (.loop (rec .ready none));rwa [World.size_alloc]at this
 have hK1:W1.heap[D]?=some (.deferred (some [])):=by
  rw[<- hW1,hD];exact(Below.heap_alloc _ _ _ (by simp)).trans (World.alloc_heap_new w _)
 have hs1:aX w W1:=by rw[<- hW1];exact((Mods.refl _ w).alloc _).alloc _
 refine⟨L,[{ target:=.collected D,args:=#[] }],W1,{ target:=.fn (.func 123) #[.pointer (some ⟨box,0,none⟩)],args:=#[.func (.yield L) #[] #[]] },W1,123,
  #[.func (.yield L) #[] #[]]++#[.pointer (some ⟨box,0,none⟩)],W1,?_,?_,?_,?_,(fun h=>by cases h),?_⟩
 ·rw[<- hW1,hrec,hL,hD];exact run_enterLoop_outer _ _ _ _ _
 ·simp only[resolve,hg];simp[go_sem]
 ·intro f' _;trivial
 ·have eg:=enters_of (P:=Tryz.prog) Tryz.func123 (by kernel_rfl) rfl;simp[invoke,go_sem,eg _ W1]
 ·obtain⟨J,hJ⟩:∃J:Nat->(Nat->Prop)->World->Prop,J=fun i T A=>∃S,I i S A/\(∀q,T q↔S q\/q=L\/q=D)/\¬S L/\¬S D/\A.heap[L]?=some (.loop (rec .ready none)) /\
    A.heap[D]?=some (.deferred (some []))/\(∀k,S k->k<A.heap.size)/\w.heap.size<=A.heap.size:=⟨_,rfl⟩
  obtain⟨Jx,hJx⟩:∃Jx:Nat->(Nat->Prop)->World->Prop,Jx=fun i T A=>∃c S,Ix c i S A/\(∀q,T q↔S q\/q=L\/q=D)/\¬S L/\¬S D/\A.heap[L]?=some (.loop (rec .done (some c))) /\
    A.heap[D]?=some (.deferred (some []))/\(∀k,S k->k<A.heap.size)/\w.heap.size<=A.heap.size:=⟨_,rfl⟩
  have hput:∀{S:Nat->Prop} {A:World} (o:Obj),¬S L->Mods (fun k=>¬S k) A (A.putObj L o):=fun o h=>(Mods.refl _ _).putObj (.inl h) o
  have hbW:=ah hbox;refine(xX n L box d off cap a0 data J Jx W1 (fun q=>S0 q\/q=L\/q=D) ha hcap hmax (hs1.at hbox id) (hd.keep hs1 id) ?_ ?_ ?_ ?_ ?_ ?_).mono ?_
  ·rintro(h|h|h)
   ·exact hSb h
   ·omega
   ·omega
  ·rintro(h|h|h)
   ·exact hSd h
   ·omega
   ·omega
  ·rintro q (h|h|h)
   ·have:=hSo q h;omega
   ·omega
   ·omega
  ·rw[hJ];exact⟨S0,hI 0 S0 w W1 h0 hSo (hs1.mods _),fun q=>Iff.rfl,fun h=>by have:=hSo _ h;omega,fun h=>by have:=hSo _ h;omega,hL1,hK1,fun k hk=>by have:=hSo k hk;omega,by omega⟩
  ·rw[hJ];rintro i T A B ⟨S,hi,hT,hSL,hSD,hl,hk,ho,hz⟩ hTo hM;have hM':Mods (fun k=>¬S k) A B:=hM.mono (fun q hq=>.inl (fun h=>hq ((hT q).2 (.inl h))));exact⟨S,hI i S A B hi ho hM',hT,hSL,hSD,hM.at hl (fun h=>h ((hT L).2 (.inr (.inl rfl)))),hM.at hk (fun h=>h ((hT D).2 (.inr (.inr rfl)))),fun k hk'=>Nat.lt_of_lt_of_le (ho k hk') hM.size,Nat.le_trans hz hM.size⟩
  ·rintro i T A hi hj hdA hTo hTd;rw[hJ]at hj;obtain⟨S,hi',hT,hSL,hSD,hl,hk,ho,hz⟩:=hj;have hSd':¬S d:=fun h=>hTd ((hT d).2 (.inl h))
   have hlt:=ah hl;have hy:=run_yield (P:=Tryz.prog) (args:=#[fJ d off data i]) hl (by rw[hrec];rfl);rw[hrec]at hy
   have hget:fJ d off data i=.slice (some ⟨d,off+((aF data).take i).sum,none⟩) (aF data)[i] (aF data)[i]:=by
    simp[fJ,List.getD_eq_getElem?_getD,hi]
   rw[<- hget]
   have hy':(Instr.yield L #[fJ d off data i]).run Tryz.prog A=.ok (.round L fn (a.tmps.setIfInBounds p (fJ d off data i)) assign body) A:=by
    rw[hy];simp
   refine⟨fn,_,assign,body,hy',roundIn_of_wpIn trivial (hassign L i A (fun a₁' w₁=>∃w₂,(Instr.beginRound L).run Tryz.prog w₁=.ok () w₂/\body.wpIn (FW.inRound L) n Tryz.prog (roundPost Tryz.prog L (ng J Jx i T A)) a₁' w₂) ⟨_,run_beginRound hl (by rw[hrec]),?_⟩)⟩;obtain⟨A2,hA2⟩:∃A2,A2=A.putObj L (.loop { rec .ready none with state:=.busy }):=⟨_,rfl⟩;rw[<- hA2];have hl2:A2.heap[L]?=some (.loop (rec .busy none)):=by rw[hA2,World.putObj_heap_same hlt,hrec]
   have hMA:Mods (fun k=>¬S k) A A2:=by rw[hA2];exact hput _ hSL
   have hMA':Mods (fun k=>k=L) A A2:=by rw[hA2];exact Mods.putObj (S:=fun k=>k=L) (Mods.refl _ _) (r:=L) (Or.inl rfl) _
   have hzA:A2.heap.size=A.heap.size:=by rw[hA2];simp
   have hk2:A2.heap[D]?=some (.deferred (some [])):=hMA'.at hk (by omega);refine wpIn_mono (hbody L i S A2 hi (hI i S A A2 hi' ho hMA) (hdA.keep hMA' (by omega)) (fun q hq=>by have:=ho q hq;omega) hSd' (by omega)) ?_
   have fin:∀(jump:Option Code) (S':Nat->Prop) (B:World),Own S S' A2 B ->
     (Instr.endRound L jump).run Tryz.prog B=.ok (.bool jump.isNone) (B.putObj L (.loop (rec (if jump.isNone then .ready else .done) jump))) /\
     ¬S' L/\¬S' D/\(B.putObj L (.loop (rec (if jump.isNone then .ready else .done) jump))).heap[L]?=some (.loop (rec (if jump.isNone then .ready else .done) jump)) /\
     (B.putObj L (.loop (rec (if jump.isNone then .ready else .done) jump))).heap[D]?=some (.deferred (some [])) /\
     Mods T A (B.putObj L (.loop (rec (if jump.isNone then .ready else .done) jump)))/\w.heap.size<=B.heap.size/\(∀k,S' k->k<B.heap.size):=fun jump S' B hO=>by
    have hl3:B.heap[L]?=some (.loop (rec .busy none)):=hO.1.at hl2 hSL;have hk3:=hO.1.at hk2 hSD;have hr:=run_endRound (P:=Tryz.prog) jump hl3;rw[hrec]at hr ⊢
    have hSL':¬S' L:=fun h=>by
     rcases(hO.2 L h).2 with h'|h'
     ·exact hSL h'
     ·omega
    have hSD':¬S' D:=fun h=>by
     rcases(hO.2 D h).2 with h'|h'
     ·exact hSD h'
     ·omega
    refine⟨hr,hSL',hSD',World.putObj_heap_same (ah hl3),(World.putObj_heap_other (by omega)).trans hk3,?_,by have:=hO.1.size;omega,J5 hO⟩;refine((hMA'.mono (fun q hq=>.inl ((hT q).2 (.inr (.inl hq))))).trans (hO.1.mono (fun q hq=>.inl ((hT q).2 (.inl hq))))).putObj (.inl ((hT L).2 (.inr (.inl rfl)))) _
   have own':∀(jump:Option Code) (S':Nat->Prop) (B:World),Own S S' A2 B->∀k,(S' k\/k=L\/k=D)->k<(B.putObj L (.loop (rec (if jump.isNone then .ready else .done) jump))).heap.size/\(T k\/A.heap.size<=k):=fun jump S' B hO k hk'=>by
    have:=hO.1.size;have:=ah hk;rw[World.putObj_size];rcases hk' with h|h|h
    ·refine⟨(hO.2 k h).1,?_⟩;rcases(hO.2 k h).2 with h'|h'
     ·exact .inl ((hT k).2 (.inl h'))
     ·exact .inr (by omega)
    ·exact⟨by omega,.inl ((hT k).2 (.inr (.inl h)))⟩
    ·exact⟨by omega,.inl ((hT k).2 (.inr (.inr h)))⟩
   have left:∀(c:Code) (S':Nat->Prop) (B:World),Ix c i S' B->Own S S' A2 B->∃v w',(Instr.endRound L (some c)).run Tryz.prog B=.ok v w'/\ng J Jx i T A (.returned v) w':=fun c S' B hx hO=>by
    obtain⟨hr,hSL',hSD',hl4,hk4,hM4,hz4,ho4⟩:=fin (some c) S' B hO;refine⟨_,_,hr,.inr ⟨rfl,fun k=>S' k\/k=L\/k=D,?_,hM4,own' (some c) S' B hO⟩⟩;rw[hJx];exact⟨c,S',hIx c i S' B _ hx ho4 (hput _ hSL'),fun q=>Iff.rfl,hSL',hSD',hl4,hk4,fun k hk'=>by rw[World.putObj_size];exact ho4 k hk',by rw[World.putObj_size];exact hz4⟩
   rintro e a3 B hp
   cases e with
   | normal =>
    obtain⟨S',hi3,hO⟩:=hp;obtain⟨hr,hSL',hSD',hl4,hk4,hM4,hz4,ho4⟩:=fin none S' B hO;refine⟨_,_,hr,.inl ⟨rfl,fun k=>S' k\/k=L\/k=D,?_,hM4,own' none S' B hO⟩⟩;rw[hJ];exact⟨S',hI (i+1) S' B _ hi3 ho4 (hput _ hSL'),fun q=>Iff.rfl,hSL',hSD',hl4,hk4,fun k hk'=>by rw[World.putObj_size];exact ho4 k hk',by rw[World.putObj_size];exact hz4⟩
   | ret=>obtain⟨S',hx,hO⟩:=hp;exact left _ S' B hx hO
   | exit id=>obtain⟨S',hx,hO⟩:=hp;exact left _ S' B hx hO
   | goto t=>obtain⟨S',hx,hO⟩:=hp;exact left _ S' B hx hO
   | panic ch=>exact hp.elim
   | outgrown=>exact hp.elim
  ·rintro e B ⟨⟨v,rfl⟩,T,hJJ,hM,hTo⟩;have hz:=hM.size
   have back:∀S,(∀q,T q↔S q\/q=L\/q=D)->¬S L->¬S D->∀o,Own S0 S w (B.putObj L o):=fun S hT hSL hSD o=>by
    refine⟨((hs1.mods S0).trans' hM (fun q hq=>?_)).putObj (.inr (by omega)) o,fun k hk=>?_⟩
    ·rcases hq with h|h|h
     ·exact .inl h
     ·exact .inr (by omega)
     ·exact .inr (by omega)
    ·rw[World.putObj_size];obtain⟨h1,h2⟩:=hTo k ((hT k).2 (.inl hk));refine⟨h1,?_⟩;rcases h2 with(h|h|h)|h
     ·exact .inl h
     ·exact absurd (h ▸ hk) hSL
     ·exact absurd (h ▸ hk) hSD
     ·exact .inr (by omega)
   rcases hJJ with hj|⟨i,hiN,hx⟩
   ·rw[hJ]at hj;obtain⟨S,hi,hT,hSL,hSD,hl,hk,ho,hzz⟩:=hj;have hr:=run_endLoop (P:=Tryz.prog) hl (by rw[hrec];simp);rw[hrec]at hr;refine⟨none,_,hr,?_⟩;exact hdone D S _ (by omega) (hI _ S B _ hi ho (hput _ hSL)) (back S hT hSL hSD _) hSD ((World.putObj_heap_other (by omega)).trans hk)
   ·rw[hJx]at hx;obtain⟨c,S,hi,hT,hSL,hSD,hl,hk,ho,hzz⟩:=hx;have hr:=run_endLoop (P:=Tryz.prog) hl (by rw[hrec];simp);rw[hrec]at hr;refine⟨some c,_,hr,?_⟩;exact hstop D i c S _ (by omega) hiN (hIx c _ S B _ hi ho (hput _ hSL)) (back S hT hSL hSD _) hSD ((World.putObj_heap_other (by omega)).trans hk)
def Jq(J:Nat->HF->Prop)(i:Nat)(F:HF)(A:World):Exit->Act->World->Prop
 | .normal,_,B=>∃F',J (i+1) F'/\Turns F F' A B
 | .ret,_,_=>False
 | .exit _,_,_=>False
 | .goto _,_,_=>False
 | .panic _,_,_=>False
 | .outgrown,_,_=>False
theorem CN{n:Nat}{g:Operand}{p:Tmp}{assign body:Code}{Q:Exit->Act->World->Prop}{a:Act}{w:World}(box d off cap:Nat)(a0:Option Addr)(data:List UInt8)(hg:a.eval g=.func (.func 123) #[] #[.pointer (some ⟨box,0,none⟩)])(ha:0<data.length->a0=some ⟨d,off,none⟩)(hcap:data.length<=cap)(hmax:data.length<=140737488351232)(hbox:w.heap[box]?=some (.cells #[.slice a0 data.length cap] 38 (0,0)))(hd:eK w d off data)(hdw:d≠w.heap.size/\d≠w.heap.size+1)(J:Nat->HF->Prop)(F0:HF)(h0:J 0 F0)(hs:Sat w F0)(hSb:box∉dom F0)(hSd:d∉dom F0)(a₁:Nat->Act)(hassign:∀(l i:Nat) (W:World) (K:Act->World->Prop),K (a₁ i) W ->
   assign.wpIn (FW.inRound l) n Tryz.prog (Exit.then K (fun _ _ _=>False)) { tmps:=a.tmps.setIfInBounds p (fJ d off data i),defers:=[] } W)(hbody:∀(l i:Nat) (F:HF) (A:World),i<(aF data).length->J i F->Sat A F->eK A d off data->d∉dom F->w.heap.size<=A.heap.size ->
   body.wpIn (FW.inRound l) n Tryz.prog (Jq J i F A) (a₁ i) A)(hdone:∀(D:Nat) (F:HF) (B:World),w.heap.size<=D->J (aF data).length F->Turns F0 F w B->D∉dom F->B.heap[D]?=some (.deferred (some [])) ->
   Q .normal { a with defers:={ target:=.collected D,args:=#[] }::a.defers } B):
  (Code.rangeFunc g #[p] assign body).wpIn FW (n+1+1) Tryz.prog Q a w:=by
 refine Fp box d off cap a0 data hg ha hcap hmax hbox hd hdw (fun i S A=>∃F,J i F/\Sat A F/\∀q,S q↔q∈dom F) (fun _ _ _ _=>False) (fun q=>q∈dom F0) hSb hSd (fun k hk=>hs.lt hk) ⟨F0,h0,hs,fun _=>Iff.rfl⟩
  ?_ (fun _ _ _ _ _ h=>h.elim) a₁ hassign ?_ ?_ (fun _ _ _ _ _ _ _ h=>h.elim)
 ·rintro i S A B ⟨F,hJ,hF,hS⟩ hlt hM;exact⟨F,hJ,hF.frame hM (fun b hb hn=>hn ((hS b).2 hb)),hS⟩
 ·rintro l i S A hi ⟨F,hJ,hF,hS⟩ hdA hlt hSd' hle;refine wpIn_mono (hbody l i F A hi hJ hF hdA (fun h=>hSd' ((hS d).2 h)) hle) ?_;intro e a3 B hp
  cases e with
  | normal =>
   obtain⟨F',hJ',hT⟩:=hp;refine⟨fun q=>q∈dom F',⟨F',hJ',hT.sat,fun _=>Iff.rfl⟩,hT.mods.mono (fun b hb=>.inl ((hS b).2 hb)),fun k hk=>⟨hT.sat.lt hk,?_⟩⟩;rcases hT.fresh k hk with h|h
   ·exact .inl ((hS k).2 h)
   ·exact .inr h
  | _=>exact hp.elim
 ·rintro D S B hD ⟨F,hJ,hF,hS⟩ hO hSD hK;exact hdone D F B hD hJ ⟨hO.1,hF,fun b hb=>(hO.2 b ((hS b).2 hb)).2⟩ (fun h=>hSD ((hS D).2 h)) hK
theorem mQ{P:Program}{fn:Func}{p q:Tmp}{t1 t2:TypeId}(h:fn.results=#[.cell p t1,.cell q t2])(tmps:Array Value)(w:World)(b c:Nat)(u v:Value){d1 d2:TypeDesc}(hu1:P.underlying t1=some d1)(hd1:gV d1=true)(hu2:P.underlying t2=some d2)(hd2:gV d2=true)(hp:tmps.getD p undef=.pointer (some ⟨b,0,none⟩))(hq:tmps.getD q undef=.pointer (some ⟨c,0,none⟩))(hb:w.cell? ⟨b,0,none⟩=some u)(hc:w.cell? ⟨c,0,none⟩=some v):
  (results fn tmps).run P w=.ok (.tuple #[u,v]) w:=by
 have hp':tmps[p]?.getD undef=.pointer (some ⟨b,0,none⟩):=by simpa using hp
 have hq':tmps[q]?.getD undef=.pointer (some ⟨c,0,none⟩):=by simpa using hq
 have e1:(loadVar t1 ⟨b,0,none⟩).run P w=.ok u w:=by
  cases d1<;>simp[gV]at hd1<;>simp[loadVar,isAgg,underlying,hu1,Result.andThen,hb]
 have e2:(loadVar t2 ⟨c,0,none⟩).run P w=.ok v w:=by
  cases d2<;>simp[gV]at hd2<;>simp[loadVar,isAgg,underlying,hu2,Result.andThen,hc]
 simp[results,h,hp',hq',asAddr,e1,e2]
structure RecL where
 val:Value
 bytes:Bs
def fa(v:Value)(l:List RecL):HF:=bN 38 1 v (l.map (·.val)).length (l.map (·.val))++l.flatMap fun r=>aK r.val r.bytes
def Jr(v:Value)(l:List RecL):Prop:=dj 1 v (l.map (·.val)).length (l.map (·.val))/\∀r∈l,bOk r.val r.bytes
end
section
open Go.RowKit Go.Maps Go.Shelf
theorem im(has:List Bs)(c:Bs):∀(l acc:List Bs),co has acc (l++[c])=if c∈has\/c∈co has acc l then co has acc l else co has acc l++[c]
 | [],acc=>by simp only[List.nil_append,co];congr
 | x::l,acc=>by
  simp only[List.cons_append,co]
  split<;>exact im has c l _
theorem ji(has:List Bs):∀(l acc:List Bs),∀c∈co has acc l,c∈acc\/(c∈l/\c∉has)
 | [],acc=>fun c h=>.inl h
 | x::l,acc=>fun c h=>by
  simp only[co]at h
  split at h
  ·rcases ji has l acc c h with h'|⟨h1,h2⟩
   ·exact .inl h'
   ·exact .inr ⟨List.mem_cons_of_mem _ h1,h2⟩
  ·rename_i hn
   rcases ji has l _ c h with h'|⟨h1,h2⟩
   ·rcases List.mem_append.1 h' with h'|h'
    ·exact .inl h'
    ·simp only[List.mem_singleton]at h';subst h';exact .inr ⟨by simp,fun hh=>hn (.inl hh)⟩
   ·exact .inr ⟨List.mem_cons_of_mem _ h1,h2⟩
theorem i8(has:List Bs):∀(l acc:List Bs),acc.Nodup->(co has acc l).Nodup
 | [],acc,h=>h
 | x::l,acc,h=>by
  simp only[co]
  split
  ·exact i8 has l acc h
  ·rename_i hn
   refine i8 has l _ (List.nodup_append.2 ⟨h,by simp,?_⟩)
   intro a ha b hb e
   simp only[List.mem_singleton]at hb
   exact hn (.inr (hb ▸ e ▸ ha))
theorem kq(has:List Bs):∀(l acc:List Bs),(co has acc l).length<=acc.length+l.length
 | [],acc=>by simp[co]
 | x::l,acc=>by
  simp only[co]
  split
  ·have:=kq has l acc;simp;omega
  ·have:=kq has l (acc++[x]);simp at this ⊢;omega
def gz(q:Nat×Nat):Value:=.agg #[.int .i64 q.1,.int .i64 q.2]
def bA:Nat->Nat->List Bs->List (Ent Bs)
 | _,_,[]=>[]
 | at_,b,c::r=>⟨c,gz (at_,c.length),b⟩::bA (at_+c.length+9) (b+1) r
theorem fL:∀(l:List Bs) (at_ b:Nat),(bA at_ b l).map (·.key)=l
 | [],_,_=>rfl
 | c::r,at_,b=>by simp[bA,fL r]
theorem oC(l:List Bs)(at_ b:Nat):(bA at_ b l).length=l.length:=by
 have:=congrArg List.length (fL l at_ b);simpa using this
theorem il(c:Bs)(r:List Bs):bh (c::r)=c.length+9+bh r:=rfl
theorem sJ(l:List Bs)(c:Bs):bh (l++[c])=bh l+(c.length+9):=by simp[bh]
theorem nQ(m:List Bs):∀(l:List Bs) (at_ b:Nat),bA at_ b (l++m)=bA at_ b l++bA (at_+bh l) (b+l.length) m
 | [],at_,b=>by simp[bA,bh]
 | c::r,at_,b=>by
  simp only[List.cons_append,bA,nQ m r,il,List.length_cons]
  rw[show at_+c.length+9+bh r=at_+(c.length+9+bh r) by omega,show b+1+r.length=b+(r.length+1) by omega]
theorem mF:∀(l:List Bs) (at_ b:Nat),∀e∈bA at_ b l,b<=e.born/\e.born<b+l.length
 | [],_,_,e,h=>by simp[bA]at h
 | c::r,at_,b,e,h=>by
  simp only[bA,List.mem_cons]at h
  rcases h with rfl|h
  ·simp
  ·have:=mF r _ _ e h;simp;omega
theorem pA:∀(l:List Bs) (at_ b:Nat),((bA at_ b l).map (·.born)).Nodup
 | [],_,_=>by simp[bA]
 | c::r,at_,b=>by
  simp only[bA,List.map_cons,List.nodup_cons]
  refine⟨fun h=>?_,pA r _ _⟩
  obtain⟨e,he,hb⟩:=List.mem_map.1 h
  have:=mF r _ _ e he
  omega
theorem vG{l:List Bs}(h:l.Nodup)(hs:∀c∈l,OkS c)(at_:Nat):MapOk OkS (bA at_ 0 l) l.length where
 nodup:=by rw[fL];exact h
 borns:=pA l at_ 0
 lt:=fun e he=>by have:=mF l at_ 0 e he;omega
 ok:=fun e he=>hs _ (by rw[<- fL l at_ 0];exact List.mem_map.2 ⟨e,he,rfl⟩)
theorem oD:∀(l:List Bs) (at_ b:Nat),∀e∈bA at_ b l,∃q,(e.key,q)∈cz at_ l/\e.val=gz q
 | [],_,_,e,h=>by simp[bA]at h
 | c::r,at_,b,e,h=>by
  simp only[bA,List.mem_cons]at h
  rcases h with rfl|h
  ·exact⟨_,List.mem_cons_self,rfl⟩
  ·obtain⟨q,h1,h2⟩:=oD r _ _ e h
   exact⟨q,List.mem_cons_of_mem _ h1,h2⟩
theorem sK:∀(l:List Bs) (at_ b:Nat),(bA at_ b l).map (fun e=>(e.key,e.val))=(cz at_ l).map (fun p=>(p.1,gz p.2))
 | [],_,_=>rfl
 | c::r,at_,b=>by simp[bA,cz,sK r]
theorem lF(l:List Bs)(at_ b:Nat)(c:Bs):jk (bA at_ b l) c=decide (c∈l):=by
 rw[Bool.eq_iff_iff,kZ,decide_eq_true_eq];have hk:=fL l at_ b;constructor
 ·rintro⟨e,he,rfl⟩;rw[<- hk];exact List.mem_map.2 ⟨e,he,rfl⟩
 ·intro h;rw[<- hk]at h;obtain⟨e,he,h2⟩:=List.mem_map.1 h;exact⟨e,he,h2⟩
theorem BG{l:List Bs}{at_ b:Nat}{c:Bs}(h:c∈l):∃q,(c,q)∈cz at_ l/\dW (bA at_ b l) c=some (gz q):=by
 have h1:=lF l at_ b c;rw[decide_eq_true h,gt]at h1
 cases hg:dW (bA at_ b l) c with
 | none=>rw[hg]at h1;cases h1
 | some v =>
  obtain⟨e,he,hk,hv⟩:=kY hg;obtain⟨q,hq,h2⟩:=oD l at_ b e he;exact⟨q,hk ▸ hq,by rw[<- hv,h2]⟩
theorem BH{l:List Bs}{at_:Nat}{c:Bs}(h:c∉l):gA (bA at_ 0 l) l.length c (gz (at_+bh l,c.length))=bA at_ 0 (l++[c])/\cD (bA at_ 0 l) l.length c=(l++[c]).length:=by
 have h1:=lF l at_ 0 c;rw[decide_eq_false h]at h1;unfold gA cD;rw[h1,nQ];simp[bA]
theorem re(l:List Bs)(c:Bs)(at_:Nat):cz at_ (l++[c])=cz at_ l++[(c,at_+bh l,c.length)]:=by rw[ux];rfl
theorem ce(D:Bs):(aH D).length=(aF D).length:=cF _ _
def ol(D:Bs)(i:Nat):Bs:=(D.drop ((aF D).take i).sum).take ((aF D).getD i 0)
theorem fk{D:Bs}{i:Nat}(h:i<(aF D).length):(aH D).take (i+1)=(aH D).take i++[ol D i]:=by
 have h':i<(aH D).length:=by rw[ce];exact h
 have e:(aH D)[i]=(D.drop ((aF D).take i).sum).take (aF D)[i]:=i6 _ _ _ h;rw[List.take_succ_eq_append_getElem h',e];unfold ol;simp[List.getD_eq_getElem?_getD,h]
theorem mU(l:List Nat)(i:Nat)(h:i<l.length):(l.take i).sum+l[i]<=l.sum:=by
 conv=>rhs;rw[<- List.take_append_drop (i+1) l,List.sum_append,List.take_succ_eq_append_getElem h,List.sum_append]
 simp
theorem sr{D:Bs}{i:Nat}(h:i<(aF D).length):(ol D i).length=(aF D).getD i 0:=by
 have h1:=mU (aF D) i h;rw[gL]at h1;unfold ol;rw[List.length_take,List.length_drop];simp only[List.getD_eq_getElem?_getD,h,List.getElem?_eq_getElem,Option.getD_some];omega
theorem wR{w:World}{d off:Nat}{D:Bs}{i:Nat}(hD:eK w d off D)(h:i<(aF D).length):ak w (some ⟨d,off+((aF D).take i).sum,none⟩) ((ol D i).map ao):=fun _=>by
 refine⟨d,_,rfl,fun j hj=>?_⟩
 have hl:=sr h
 have h1:=mU (aF D) i h
 rw[gL]at h1
 have e:(aF D).getD i 0=(aF D)[i]:=by simp[List.getD_eq_getElem?_getD,h]
 rw[List.length_map,hl,e]at hj
 have:=hD (((aF D).take i).sum+j) (by omega)
 rw[<- Nat.add_assoc]at this
 rw[this]
 simp[ol,ao]
def cr(n:Int):Obj:=.cells #[.int .i64 n] 3 (0,0)
def c9(a:Nat):Obj:=.cells #[.pointer (some ⟨a,0,none⟩)] 32 (0,0)
def eS(v:Value):Obj:=.cells #[v] 45 (0,0)
def cg(b:Nat):Obj:=.cells #[.pointer (some ⟨b,0,none⟩)] 149 (0,0)
def cf(v:Value):Obj:=.cells #[v] 61 (0,0)
def d9(b:Nat):Obj:=.cells #[.map (some b)] 154 (0,0)
def FL(S:AS)(D:Bs)(B9 B11 B12 B13 Bm Bv num:Nat)(R:HF)(i:Nat)(F:HF):Prop :=
 ∃(sp:List (Nat×Nat×Nat)) (acc:List Bs) (fv rv:Value) (chs:List (Nat×Nat)) (recs:List RecL),
  acc=co (S.K.map (·.1)) [] ((aH D).take i)/\AreaOk { S.A with spare:=sp }/\recs.map (·.bytes)=acc.map (frame 1)/\Jr rv recs/\bQ fv chs/\chs.length=i /\
  (∀e∈((aH D).take i).zip chs,e∈S.K++cz S.data.length acc) /\
  F=(B13,Is (cr ((S.data.length+bh acc:Nat):Int)))::(B12,Is (d9 Bm))::(Bm,Is (aR str (bA S.data.length 0 acc) acc.length))::(B11,Is (cf rv)) ::
   (fa rv recs++((B9,Is (cg Bv))::(bT ⟨Bv,num,D.length,fv,chs,0⟩++(R++arF { S with A:={ S.A with spare:=sp } }))))
theorem J7{l:List Bs}{chs:List (Nat×Nat)}{c:Bs}{q:Nat×Nat}{T T':List (Bs×Nat×Nat)}(hl:l.length=chs.length)(h:∀e∈l.zip chs,e∈T)(hT:∀e∈T,e∈T')(hq:(c,q)∈T'):∀e∈(l++[c]).zip (chs++[q]),e∈T':=by
 intro e he;rw[List.zip_append hl]at he;rcases List.mem_append.1 he with h'|h'
 ·exact hT e (h e h')
 ·simp only[List.zip_cons_cons,List.zip_nil_right,List.mem_singleton]at h';subst h';exact hq
theorem ei{D:Bs}{c:Bs}(h:c∈aH D):c.length<=D.length:=by
 obtain⟨i,hi,rfl⟩:=List.mem_iff_getElem.1 h;have hi':i<(aF D).length:=by rw[<- ce];exact hi
 have e:(aH D)[i]=(D.drop ((aF D).take i).sum).take (aF D)[i]:=i6 _ _ _ hi';rw[e,List.length_take,List.length_drop];omega
theorem JH{S:AS}{D:Bs}{i:Nat}(hD:D.length<=4000):∀c∈co (S.K.map (·.1)) [] ((aH D).take i),OkS c:=fun c hc=>by
 rcases ji _ _ _ c hc with h|⟨h,_⟩
 ·simp at h
 ·have:=ei (List.mem_of_mem_take h)
  unfold OkS;omega
theorem pz:∀(l:List Bs) (m:Nat),(∀c∈l,c.length<=m)->bh l<=l.length*(m+9)
 | [],_,_=>by simp[bh]
 | c::r,m,h=>by
  have h1:=h c (by simp)
  have h2:=pz r m (fun x hx=>h x (by simp[hx]))
  rw[il,List.length_cons,Nat.add_mul]
  omega
def qp:Code->Option (Code×Code)
 | .rangeFunc _ _ a b=>some (a,b)
 | .seq a b=>match qp a with|some r=>some r|none=>qp b
 | .block _ c=>qp c
 | .scope c=>qp c
 | _=>none
def G5:Code->Option Code
 | .seq a b=>if(qp a).isSome then some b else G5 b
 | _=>none
noncomputable def IX:Code:=((Tryz.f25.body.bind qp).map (·.2)).getD .skip
noncomputable def IY:Code:=(Tryz.f25.body.bind G5).getD .skip
end
section
open Go.RowKit Go.Maps
def kx(v:Value):Obj:=.cells #[v] 38 (0,0)
theorem EO{v:Value}{l:List (Nat×Nat)}(h:bQ v l){w:World}(hs:Sat w (aQ v l)):v.oneCell'=true/\v.cells=#[v]:=by
 obtain⟨sl,cap,rfl,_⟩:=gW hs h;exact⟨rfl,rfl⟩
theorem ni{w:World}{v:Value}{l:Bs}(h:bOk v l)(hs:Sat w (aK v l)):v.oneCell'=true/\v.cells=#[v]/\∃a cap,v=.slice a l.length cap:=by
 obtain⟨a,cap,rfl,_⟩:=aV (dX hs h);exact⟨rfl,rfl,a,cap,rfl⟩
theorem Dw{w:World}{e:Nat}{v:Value}{l:List Value}(hs:Sat w (bN e 1 v l.length l))(h:dj 1 v l.length l):v.oneCell'=true/\v.cells=#[v]:=by
 obtain⟨a,cap,rfl,_⟩:=aV (aW hs h);exact⟨rfl,rfl⟩
theorem Dt{lb n:Nat}(F1 Z:HF)(A:World)(B15 B9 Bv:Nat)(VV:VerL)(q:Nat×Nat)(fv:Value)(chs:List (Nat×Nat)){Q:Exit->Act->World->Prop}{w:World}{u0 u1 u2 u3 u4 u5 u6 u7 u8 aS aT ab ad ag aj ar av ax a0 a1 a2 a3 a4 a5 a6 a7 a9 bY bg bj bk bo bs bv bx b0 b1 b2 b3 b4 b6 b7 b9 ca cb cc ch ci cj cl cm cp cs ct cu cx c0 c1 c2 c3 c4 c5 c6 c7 dO dT df dn dp dv d0 d1 d2 d3 d4 d5 d6 d7 eA eC eQ eR eU eW eX ea eb ec eg el em ep es ev e0 e1 e2 e3 e4 e5 e6 e7 e8 e9 fE fl fn fr fs fz f0 f1 f2 f3 f4 f5 f6 f7 f8 f9 gD gb gg gp gs gu gx g0 g1 g2 g3 g4 g5 g6 g7 hB hD hE hF hG hH hI hJ hL hM hN hO hP hQ hR hU hV hW hX hY hZ ha hb hc hf hg hh hi hj hl hm hn hp hq hr ht hw hx hy hz:Value}{ds:List Deferred}(hT:Turns F1 ((B15,Is (aJ q))::(B9,Is (cg Bv))::(Bv,Is (dy VV))::(aQ fv chs++Z)) A w)(hpo:bQ fv chs)(hcv:VV.cv=fv)(hcl:chs.length<=100000)(hQo:¬LetsOut Q)(hk:∀(h6 h7 iF iN iS id ih ii i0 i1:Value) (w':World),bQ ii (chs++[q])->Turns F1 ((Bv,Is (.cells ((fW VV).setIfInBounds 2 ii) 152 (0,0)))::(B15,Is (aJ q))::(B9,Is (cg Bv))::(aQ ii (chs++[q])++Z)) A w'->Q .normal { tmps:=#[u0,u1,u2,u3,u4,u5,u6,u7,u8,.pointer (some ⟨B9,0,none⟩),aS,aT,ab,ad,ag,.pointer (some ⟨B15,0,none⟩),aj,ar,av,ax,a0,a1,a2,a3,a4,a5,a6,a7,a9,bY,bg,bj,bk,bo,bs,bv,bx,b0,b1,b2,b3,b4,b6,b7,b9,ca,cb,cc,ch,ci,cj,cl,cm,cp,cs,ct,cu,cx,c0,c1,c2,c3,c4,c5,c6,c7,dO,dT,df,dn,dp,dv,d0,d1,d2,d3,d4,d5,d6,d7,eA,eC,eQ,eR,eU,eW,eX,ea,eb,ec,eg,el,em,ep,es,ev,e0,e1,e2,e3,e4,e5,e6,e7,e8,e9,fE,fl,fn,fr,fs,fz,f0,f1,f2,f3,f4,f5,f6,f7,f8,f9,gD,gb,gg,gp,gs,gu,gx,h6,h7,iF,iN,iS,id,ih,ii,i0,i1,hE,hF,hG,hH,hI,hJ,hL,hM,hN,hO,hP,hQ,hR,hU,hV,hW,hX,hY,hZ,ha,hb,hc,hf,hg,hh,hi,hj,hl,hm,hn,hp,hq,hr,ht,hw,hx,hy,hz],defers:=ds } w'):
  (iq 28 Tryz.f25).wpIn (Fence.wide.inRound lb) n Tryz.prog Q { tmps:=#[u0,u1,u2,u3,u4,u5,u6,u7,u8,.pointer (some ⟨B9,0,none⟩),aS,aT,ab,ad,ag,.pointer (some ⟨B15,0,none⟩),aj,ar,av,ax,a0,a1,a2,a3,a4,a5,a6,a7,a9,bY,bg,bj,bk,bo,bs,bv,bx,b0,b1,b2,b3,b4,b6,b7,b9,ca,cb,cc,ch,ci,cj,cl,cm,cp,cs,ct,cu,cx,c0,c1,c2,c3,c4,c5,c6,c7,dO,dT,df,dn,dp,dv,d0,d1,d2,d3,d4,d5,d6,d7,eA,eC,eQ,eR,eU,eW,eX,ea,eb,ec,eg,el,em,ep,es,ev,e0,e1,e2,e3,e4,e5,e6,e7,e8,e9,fE,fl,fn,fr,fs,fz,f0,f1,f2,f3,f4,f5,f6,f7,f8,f9,gD,gb,gg,gp,gs,gu,gx,g0,g1,g2,g3,g4,g5,g6,g7,hB,hD,hE,hF,hG,hH,hI,hJ,hL,hM,hN,hO,hP,hQ,hR,hU,hV,hW,hX,hY,hZ,ha,hb,hc,hf,hg,hh,hi,hj,hl,hm,hn,hp,hq,hr,ht,hw,hx,hy,hz],defers:=ds } w:=by
 have HM:=qqH (show Tryz.prog.follows .mixedOrders=true by kernel_rfl);conv=>arg 4;whnf
 refine gO (A:=?A) (hA:=?hA) HM.out (by kernel_rfl) hQo (iT [fun v=>v=.pointer (some ⟨Bv,0,none⟩),fun v=>v=.pointer (some ⟨Bv,0,none⟩),fun v=>v=.pointer (some ⟨Bv,0,none⟩),fun v=>v=.pointer (some ⟨Bv,2,none⟩),fun v=>v=fv,fun v=>v=.agg #[.int .i64 q.1,.int .i64 q.2],fun _=>True,fun _=>True,fun v=>v=.pointer (some ⟨Bv,0,none⟩),fun v=>v=.pointer (some ⟨Bv,2,none⟩),fun _=>True])
  (fun vs1 W=>match vs1 with
  | []=>Turns F1 (aQ fv chs++((B15,Is (aJ q))::(B9,Is (cg Bv))::(Bv,Is (dy VV))::Z)) A W
  | [v]=>∃n:Nat,v=.slice (some ⟨n,0,none⟩) 1 1/\Turns F1 (aQ fv chs++((n,Is (aJ q))::(B15,Is (aJ q))::(B9,Is (cg Bv))::(Bv,Is (dy VV))::Z)) A W
  | [_,u]=>∃n:Nat,bQ u (chs++[q])/\Turns F1 (aQ u (chs++[q])++((n,Is (aJ q))::(B15,Is (aJ q))::(B9,Is (cg Bv))::(Bv,Is (dy VV))::Z)) A W
  | [_,u,_]=>∃n:Nat,bQ u (chs++[q])/\Turns F1 ((Bv,Is (.cells ((fW VV).setIfInBounds 2 u) 152 (0,0)))::(aQ u (chs++[q])++((n,Is (aJ q))::(B15,Is (aJ q))::(B9,Is (cg Bv))::Z))) A W
  | _=>False)
  (fun W=>W.heap[B9]?=some (cg Bv)/\W.heap[Bv]?=some (dy VV)/\W.heap[B15]?=some (aJ q)) [6,7,10] ?hC (by kernel_rfl) (by kernel_rfl) (by kernel_rfl) (by decide) (by decide) ?h0 ?hs ?he
 case hA=>intro x;simp only[aw,Act.put,List.setIfInBounds_toArray,List.set_cons_zero,List.set_cons_succ,Nat.reduceAdd];rfl
 case hs =>
  refine⟨ac rfl rfl (fun x wq hd hC K hK hKw=>?_),ac rfl rfl (fun x wq hd hC K hK hKw=>?_),ac rfl rfl (fun x wq hd hC K hK hKw=>?_),ac rfl rfl (fun x wq hd hC K hK hKw=>?_),ac rfl rfl (fun x wq hd hC K hK hKw=>?_),ac rfl rfl (fun x wq hd hC K hK hKw=>?_),au 0 rfl rfl (fun x wq hd hS K hK=>?_),au 1 rfl rfl (fun x wq hd hS K hK=>?_),ac rfl rfl (fun x wq hd hC K hK hKw=>?_),ac rfl rfl (fun x wq hd hC K hK hKw=>?_),au 2 rfl rfl (fun x wq hd hS K hK=>?_),trivial⟩
  ·exact bD Tryz.underlying149 rfl rfl (by rfl) (aa hC.1 0 rfl) (hK _ rfl)
  ·exact bD Tryz.underlying149 rfl rfl (by rfl) (aa hC.1 0 rfl) (hK _ rfl)
  ·have h1:x 1=.pointer (some ⟨Bv,0,none⟩):=ae hd 1 (by kernel_rfl);exact am (by rw[h1];kernel_rfl) (hK _ rfl)
  ·have h2:x 2=.pointer (some ⟨Bv,0,none⟩):=ae hd 2 (by kernel_rfl);exact am (by rw[h2];kernel_rfl) (hK _ rfl)
  ·have h3:x 3=.pointer (some ⟨Bv,2,none⟩):=ae hd 3 (by kernel_rfl);exact bD Tryz.underlying150 rfl rfl (by rw[h3];rfl) (aa hC.2.1 2 (by rw[<- hcv];rfl)) (hK _ rfl)
  ·exact wp_load_mid 161 (.tmp 15) rfl B15 0 rfl [.int .i64 q.1,.int .i64 q.2] _ (fun j v hv=>aa hC.2.2 (0+j) (by rw[Nat.zero_add,<- Array.getElem?_toList];exact hv)) Tryz.underlying161 rfl (by kernel_rfl) (hK _ rfl)
  ·have h5:x 5=.agg #[.int .i64 q.1,.int .i64 q.2]:=ae hd 5 (by kernel_rfl);refine am (v:=.slice (some ⟨wq.heap.size,0,none⟩) 1 1) (w':=wq.alloc (aJ q)) (by rw[h5];kernel_rfl) (hK _ _ trivial ⟨wq.heap.size,rfl,?_⟩);have h:=Turns.Q8 hS (aJ q);exact h.to af
  ·have h4:x 4=fv:=ae hd 4 (by kernel_rfl);obtain⟨n,en,hT⟩:=hS;have hno:=hT.sat.Q7 (b:=n) (o:=aJ q) (by simp)
   exact mW (.tmp 133) (.tmp 135) rfl fv chs (by rw[h4];rfl) hT hpo (some ⟨n,0,none⟩) 1 1 (by rw[en];rfl) [q] rfl (fun _=>⟨_,rfl,fun j u hu=>by
     rw[Addr.add_lit,Nat.zero_add];exact aa hno j (by rw[<- Array.getElem?_toList];exact hu)⟩) (by simp;omega) (fun v1 w1 h1 h2=>hK _ _ trivial ⟨n,h1,h2⟩)
  ·have h0:x 0=.pointer (some ⟨Bv,0,none⟩):=ae hd 0 (by kernel_rfl);exact am (by rw[h0];kernel_rfl) (hK _ rfl)
  ·have h8:x 8=.pointer (some ⟨Bv,0,none⟩):=ae hd 8 (by kernel_rfl);exact am (by rw[h8];kernel_rfl) (hK _ rfl)
  ·have h9:x 9=.pointer (some ⟨Bv,2,none⟩):=ae hd 9 (by kernel_rfl);obtain⟨n,ho,hT⟩:=hS;have h1:=EO ho hT.sat.left;exact bi 150 (.tmp 138) (.tmp 136) rfl Bv 2 (fW VV) 152 (x 7) (hT.to (H:=(Bv,Is (dy VV))::(aQ (x 7) (chs++[q])++((n,Is (aJ q))::(B15,Is (aJ q))::(B9,Is (cg Bv))::Z))) af) (by rw[h9];rfl) rfl (by simp[fW]) (by kernel_rfl) h1.1 h1.2 (fun w9 h9=>hK _ _ trivial ⟨n,ho,h9⟩)
 case hC =>
  intro vs1 W hlt hS;match vs1,hS,hlt with
  | [],hT,_=>exact⟨hT.sat.Q7 (by simp),hT.sat.Q7 (by simp),hT.sat.Q7 (by simp)⟩
  | [_],⟨_,_,hT⟩,_=>exact⟨hT.sat.Q7 (by simp),hT.sat.Q7 (by simp),hT.sat.Q7 (by simp)⟩
  | [_,_],⟨_,_,hT⟩,_=>exact⟨hT.sat.Q7 (by simp),hT.sat.Q7 (by simp),hT.sat.Q7 (by simp)⟩
  | [_,_,_],_,hlt=>exact absurd hlt (Nat.lt_irrefl _)
 case h0 =>
  exact(hT.to (H:=aQ fv chs++((B15,Is (aJ q))::(B9,Is (cg Bv))::(Bv,Is (dy VV))::Z)) af).drew
 case he =>
  intro x w3 hφ hS;obtain⟨n,hok3,hT3⟩:=hS;exact hk (x 0) (x 1) (x 2) (x 3) (x 4) (x 5) (x 6) (x 7) (x 8) (x 9) w3 hok3 (hT3.drop bw)
theorem Kt{lb n:Nat}(F1 Z:HF)(A:World)(B11:Nat)(rv:Value)(l:List Value)(c:Bs)(csl:Option Addr)(ccap:Nat){Q:Exit->Act->World->Prop}{w:World}{u0 u1 u2 u3 u4 u5 u6 u7 u8 u9 aS aT ab ad ag aj ar ax a0 a1 a2 a3 a4 a5 a6 a7 a9 bY bg bj bk bo bs bv bx b0 b1 b2 b3 b4 b6 b7 b9 ca cb cc ch ci cj cl cm cp cs ct cu cx c0 c1 c2 c3 c4 c5 c6 c7 dO dT df dn dp dv d0 d1 d2 d3 d4 d5 d6 d7 eA eC eQ eR eU eW eX ea eb ec eg el em ep es ev e0 e1 e2 e3 e4 e5 e6 e7 e8 e9 fE fl fn fr fs fv fz f0 f1 f2 f3 f4 f5 f6 f7 f8 f9 gD gb gg gp gs gu gx g0 g1 g2 g3 g4 g5 g6 g7 hB hD hE hF hG hH hI hJ hL hM hN hO hP hQ hR hU hV hW hX hY hZ ha hc hf hg hh hi hj hm hn hp hq hr ht hu hw hx hy hz:Value}{ds:List Deferred}(hT:Turns F1 ((B11,Is (cf rv))::(bN 38 1 rv l.length l++Z)) A w)(hro:dj 1 rv l.length l)(hl:l.length<=1000000)(hcc:∀W G,Turns F1 G A W->ak W csl (c.map ao))(hcl:c.length<=1000000)(hQo:¬LetsOut Q)(hk:∀(h2 h3 h4 h5 h6:Value) (w':World),bOk h4 (frame 1 c)->dj 1 h6 (l++[h4]).length (l++[h4])->Turns F1 ((B11,Is (cf h6))::(bN 38 1 h6 (l++[h4]).length (l++[h4])++(aK h4 (frame 1 c)++Z))) A w'->Q .normal { tmps:=#[u0,u1,u2,u3,u4,u5,u6,u7,u8,u9,aS,.pointer (some ⟨B11,0,none⟩),aT,ab,.slice csl c.length ccap,ad,ag,aj,ar,ax,a0,a1,a2,a3,a4,a5,a6,a7,a9,bY,bg,bj,bk,bo,bs,bv,bx,b0,b1,b2,b3,b4,b6,b7,b9,ca,cb,cc,ch,ci,cj,cl,cm,cp,cs,ct,cu,cx,c0,c1,c2,c3,c4,c5,c6,c7,dO,dT,df,dn,dp,dv,d0,d1,d2,d3,d4,d5,d6,d7,eA,eC,eQ,eR,eU,eW,eX,ea,eb,ec,eg,el,em,ep,es,ev,e0,e1,e2,e3,e4,e5,e6,e7,e8,e9,fE,fl,fn,fr,fs,fv,fz,f0,f1,f2,f3,f4,f5,h2,h3,h4,h5,h6,gb,gg,gp,gs,gu,gx,g0,g1,g2,g3,g4,g5,g6,g7,hB,hD,hE,hF,hG,hH,hI,hJ,hL,hM,hN,hO,hP,hQ,hR,hU,hV,hW,hX,hY,hZ,ha,hc,hf,hg,hh,hi,hj,hm,hn,hp,hq,hr,ht,hu,hw,hx,hy,hz],defers:=ds } w'):
  (iq 26 Tryz.f25).wpIn (Fence.wide.inRound lb) n Tryz.prog Q { tmps:=#[u0,u1,u2,u3,u4,u5,u6,u7,u8,u9,aS,.pointer (some ⟨B11,0,none⟩),aT,ab,.slice csl c.length ccap,ad,ag,aj,ar,ax,a0,a1,a2,a3,a4,a5,a6,a7,a9,bY,bg,bj,bk,bo,bs,bv,bx,b0,b1,b2,b3,b4,b6,b7,b9,ca,cb,cc,ch,ci,cj,cl,cm,cp,cs,ct,cu,cx,c0,c1,c2,c3,c4,c5,c6,c7,dO,dT,df,dn,dp,dv,d0,d1,d2,d3,d4,d5,d6,d7,eA,eC,eQ,eR,eU,eW,eX,ea,eb,ec,eg,el,em,ep,es,ev,e0,e1,e2,e3,e4,e5,e6,e7,e8,e9,fE,fl,fn,fr,fs,fv,fz,f0,f1,f2,f3,f4,f5,f6,f7,f8,f9,gD,gb,gg,gp,gs,gu,gx,g0,g1,g2,g3,g4,g5,g6,g7,hB,hD,hE,hF,hG,hH,hI,hJ,hL,hM,hN,hO,hP,hQ,hR,hU,hV,hW,hX,hY,hZ,ha,hc,hf,hg,hh,hi,hj,hm,hn,hp,hq,hr,ht,hu,hw,hx,hy,hz],defers:=ds } w:=by
 have HM:=qqH (show Tryz.prog.follows .mixedOrders=true by kernel_rfl);conv=>arg 4;whnf
 refine gO (A:=?A) (hA:=?hA) HM.out (by kernel_rfl) hQo (iT [fun v=>v=rv,fun v=>v=.slice csl c.length ccap,fun _=>True,fun _=>True,fun _=>True,fun _=>True])
  (fun vs1 W=>match vs1 with
  | []=>Turns F1 (bN 38 1 rv l.length l++((B11,Is (cf rv))::Z)) A W
  | [v]=>bOk v (frame 1 c)/\Turns F1 (bN 38 1 rv l.length l++((B11,Is (cf rv))::(aK v (frame 1 c)++Z))) A W
  | [v,s]=>∃n:Nat,bOk v (frame 1 c)/\s=.slice (some ⟨n,0,none⟩) 1 1/\Turns F1 (bN 38 1 rv l.length l++((B11,Is (cf rv))::(n,Is (kx v))::(aK v (frame 1 c)++Z))) A W
  | [v,_,u]=>∃n:Nat,bOk v (frame 1 c)/\dj 1 u (l++[v]).length (l++[v])/\Turns F1 (bN 38 1 u (l++[v]).length (l++[v])++((B11,Is (cf rv))::(n,Is (kx v))::(aK v (frame 1 c)++Z))) A W
  | [v,_,u,_]=>∃n:Nat,bOk v (frame 1 c)/\dj 1 u (l++[v]).length (l++[v])/\Turns F1 ((B11,Is (cf u))::(bN 38 1 u (l++[v]).length (l++[v])++((n,Is (kx v))::(aK v (frame 1 c)++Z)))) A W
  | _=>False)
  (fun W=>(∃G,Turns F1 G A W)/\W.heap[B11]?=some (cf rv)) [2,3,4,5] ?hC (by kernel_rfl) (by kernel_rfl) (by kernel_rfl) (by decide) (by decide) ?h0 ?hs ?he
 case hA=>intro x;simp only[aw,Act.put,List.setIfInBounds_toArray,List.set_cons_zero,List.set_cons_succ,Nat.reduceAdd];rfl
 case hs =>
  refine⟨ac rfl rfl (fun x wq hd hC K hK hKw=>?_),ac rfl rfl (fun x wq hd hC K hK hKw=>?_),au 0 rfl rfl (fun x wq hd hS K hK=>?_),au 1 rfl rfl (fun x wq hd hS K hK=>?_),au 2 rfl rfl (fun x wq hd hS K hK=>?_),au 3 rfl rfl (fun x wq hd hS K hK=>?_),trivial⟩
  ·exact bD Tryz.underlying61 rfl rfl (by rfl) (aa hC.2 0 rfl) (hK _ rfl)
  ·exact am (by kernel_rfl) (hK _ rfl)
  ·have h1:x 1=.slice csl c.length ccap:=ae hd 1 (by kernel_rfl);refine bd (by rw[h1];kernel_rfl) (je 1 csl ccap c wq (hcc wq _ hS) (by omega)) ?_;rintro e w3 ⟨v3,rfl,hb3,hT3⟩;refine⟨_,rfl,hK _ _ trivial ⟨hb3,?_⟩⟩;have h:=Turns.Qb hS hT3;exact h.to af
  ·obtain⟨hb,hT⟩:=hS;obtain⟨-,-,av,cv,hv⟩:=ni hb (hT.sat.sub (G:=aK (x 2) (frame 1 c)) bw);refine am (v:=.slice (some ⟨wq.heap.size,0,none⟩) 1 1) (w':=wq.alloc (kx (x 2))) (by rw[hv];kernel_rfl) (hK _ _ trivial ⟨wq.heap.size,hb,rfl,?_⟩);have h:=Turns.Q8 hT (kx (x 2));exact h.to af
  ·have h0:x 0=rv:=ae hd 0 (by kernel_rfl);obtain⟨n,hb,en,hT⟩:=hS;have hno:=hT.sat.Q7 (b:=n) (o:=kx (x 2)) (by simp);obtain⟨h1,-,-⟩:=ni hb (hT.sat.sub (G:=aK (x 2) (frame 1 c)) bw);exact lV (.tmp 119) (.tmp 122) rfl rv l (by rw[h0];rfl) hT hro n (x 2) (by rw[en];rfl) h1 (aa hno 0 rfl) hl (fun v1 w1 k1 k2=>hK _ _ trivial ⟨n,hb,k1,k2⟩)
  ·obtain⟨n,hb,ho,hT⟩:=hS;have h1:=Dw hT.sat.left ho;exact bi 61 (.tmp 11) (.tmp 123) rfl B11 0 #[rv] 61 (x 4) (hT.to (H:=(B11,Is (cf rv))::(bN 38 1 (x 4) (l++[(x 2)]).length (l++[(x 2)])++((n,Is (kx (x 2)))::(aK (x 2) (frame 1 c)++Z)))) af) rfl rfl (by simp) (by kernel_rfl) h1.1 h1.2 (fun w9 h9=>hK _ _ trivial ⟨n,hb,ho,h9⟩)
 case hC =>
  intro vs1 W hlt hS;match vs1,hS,hlt with
  | [],hT,_=>exact⟨⟨_,hT⟩,hT.sat.Q7 (by simp)⟩
  | [_],⟨_,hT⟩,_=>exact⟨⟨_,hT⟩,hT.sat.Q7 (by simp)⟩
  | [_,_],⟨_,_,_,hT⟩,_=>exact⟨⟨_,hT⟩,hT.sat.Q7 (by simp)⟩
  | [_,_,_],⟨_,_,_,hT⟩,_=>exact⟨⟨_,hT⟩,hT.sat.Q7 (by simp)⟩
  | [_,_,_,_],_,hlt=>exact absurd hlt (Nat.lt_irrefl _)
 case h0 =>
  exact(hT.to (H:=bN 38 1 rv l.length l++((B11,Is (cf rv))::Z)) af).drew
 case he =>
  intro x w3 hφ hS;obtain⟨n,hb,hok3,hT3⟩:=hS;exact hk (x 0) (x 1) (x 2) (x 3) (x 4) w3 hb hok3 (hT3.drop bw)
theorem Ku{lb n:Nat}(F1 Z:HF)(A:World)(B13:Nat)(e:Int)(c:Bs)(csl:Option Addr)(ccap:Nat){Q:Exit->Act->World->Prop}{w:World}{u0 u1 u2 u3 u4 u5 u6 u7 u8 u9 aS aT ab ad ag aj ar av ax a0 a1 a2 a3 a4 a5 a6 a7 a9 bY bg bj bk bo bs bv bx b0 b1 b2 b3 b4 b6 b7 b9 ca cb cc ch ci cj cl cm cp cs ct cu cv cx c0 c1 c2 c3 c4 c5 c6 c7 dO dT df dn dp dv d0 d1 d2 d3 d4 d5 d6 d7 eA eC eQ eR eU eW eX ea eb ec eg el em en ep es ev e0 e1 e3 e4 e5 e6 e7 e8 e9 fE fl fn fr fs fv fz f0 f1 f2 f3 f4 f5 f6 f7 f8 f9 gD gb gg gp gs gu gx g0 g1 g2 g3 g4 g5 g6 g7 hB hD hE hF hG hH hI hJ hL hM hN hO hP hQ hR hU hV hW hX hY hZ ha hb hc hf hg hh hi hj hl hm hn ho hp hq hr ht:Value}{ds:List Deferred}(hT:Turns F1 ((B13,Is (cr e))::Z) A w)(hcl:c.length<=1000000)(he : -4611686018427387904<=e/\e<=4611686018427387904)(hQo:¬LetsOut Q)(hk:∀(hu hv hw hx hy:Value) (w':World),Turns F1 ((B13,Is (cr (e+(c.length+9))))::Z) A w'->Q .normal { tmps:=#[u0,u1,u2,u3,u4,u5,u6,u7,u8,u9,aS,aT,ab,.pointer (some ⟨B13,0,none⟩),.slice csl c.length ccap,ad,ag,aj,ar,av,ax,a0,a1,a2,a3,a4,a5,a6,a7,a9,bY,bg,bj,bk,bo,bs,bv,bx,b0,b1,b2,b3,b4,b6,b7,b9,ca,cb,cc,ch,ci,cj,cl,cm,cp,cs,ct,cu,cv,cx,c0,c1,c2,c3,c4,c5,c6,c7,dO,dT,df,dn,dp,dv,d0,d1,d2,d3,d4,d5,d6,d7,eA,eC,eQ,eR,eU,eW,eX,ea,eb,ec,eg,el,em,en,ep,es,ev,e0,e1,e3,e4,e5,e6,e7,e8,e9,fE,fl,fn,fr,fs,fv,fz,f0,f1,f2,f3,f4,f5,f6,f7,f8,hu,hv,hw,hx,hy,gs,gu,gx,g0,g1,g2,g3,g4,g5,g6,g7,hB,hD,hE,hF,hG,hH,hI,hJ,hL,hM,hN,hO,hP,hQ,hR,hU,hV,hW,hX,hY,hZ,ha,hb,hc,hf,hg,hh,hi,hj,hl,hm,hn,ho,hp,hq,hr,ht],defers:=ds } w'):
  (iq 27 Tryz.f25).wpIn (Fence.wide.inRound lb) n Tryz.prog Q { tmps:=#[u0,u1,u2,u3,u4,u5,u6,u7,u8,u9,aS,aT,ab,.pointer (some ⟨B13,0,none⟩),.slice csl c.length ccap,ad,ag,aj,ar,av,ax,a0,a1,a2,a3,a4,a5,a6,a7,a9,bY,bg,bj,bk,bo,bs,bv,bx,b0,b1,b2,b3,b4,b6,b7,b9,ca,cb,cc,ch,ci,cj,cl,cm,cp,cs,ct,cu,cv,cx,c0,c1,c2,c3,c4,c5,c6,c7,dO,dT,df,dn,dp,dv,d0,d1,d2,d3,d4,d5,d6,d7,eA,eC,eQ,eR,eU,eW,eX,ea,eb,ec,eg,el,em,en,ep,es,ev,e0,e1,e3,e4,e5,e6,e7,e8,e9,fE,fl,fn,fr,fs,fv,fz,f0,f1,f2,f3,f4,f5,f6,f7,f8,f9,gD,gb,gg,gp,gs,gu,gx,g0,g1,g2,g3,g4,g5,g6,g7,hB,hD,hE,hF,hG,hH,hI,hJ,hL,hM,hN,hO,hP,hQ,hR,hU,hV,hW,hX,hY,hZ,ha,hb,hc,hf,hg,hh,hi,hj,hl,hm,hn,ho,hp,hq,hr,ht],defers:=ds } w:=by
 have HM:=qqH (show Tryz.prog.follows .mixedOrders=true by kernel_rfl);conv=>arg 4;whnf
 refine gO (A:=?A) (hA:=?hA) HM.out (by kernel_rfl) hQo (iT [fun v=>v=.int .i64 e,fun v=>v=.slice csl c.length ccap,fun v=>v=.int .i64 c.length,fun v=>v=.int .i64 (c.length+9),fun v=>v=.int .i64 (e+(c.length+9)),fun _=>True])
  (fun vs1 W=>match vs1 with
  | []=>Turns F1 ((B13,Is (cr e))::Z) A W
  | [_]=>Turns F1 ((B13,Is (cr (e+(c.length+9))))::Z) A W
  | _=>False)
  (fun W=>W.heap[B13]?=some (cr e)) [5] ?hC (by kernel_rfl) (by kernel_rfl) (by kernel_rfl) (by decide) (by decide) ?h0 ?hs ?he
 case hA=>intro x;simp only[aw,Act.put,List.setIfInBounds_toArray,List.set_cons_zero,List.set_cons_succ,Nat.reduceAdd];rfl
 case hs =>
  refine⟨ac rfl rfl (fun x wq hd hC K hK hKw=>?_),ac rfl rfl (fun x wq hd hC K hK hKw=>?_),ac rfl rfl (fun x wq hd hC K hK hKw=>?_),ac rfl rfl (fun x wq hd hC K hK hKw=>?_),ac rfl rfl (fun x wq hd hC K hK hKw=>?_),au 0 rfl rfl (fun x wq hd hS K hK=>?_),trivial⟩
  ·exact bD Tryz.underlying3 rfl rfl (by rfl) (aa hC 0 rfl) (hK _ rfl)
  ·exact am (by kernel_rfl) (hK _ rfl)
  ·have h1:x 1=.slice csl c.length ccap:=ae hd 1 (by kernel_rfl);exact am (by rw[h1];kernel_rfl) (hK _ rfl)
  ·have h2:x 2=.int .i64 c.length:=ae hd 2 (by kernel_rfl);refine bd (by rw[h2];kernel_rfl) (gH c.length (by omega) (by omega) wq) ?_;rintro e2 w3 ⟨rfl,rfl⟩;exact⟨_,rfl,hK _ rfl⟩
  ·have h0:x 0=.int .i64 e:=ae hd 0 (by kernel_rfl);have h3:x 3=.int .i64 (c.length+9):=ae hd 3 (by kernel_rfl);exact Jt .add 3 3 (.tmp 124) (.tmp 127) rfl (by rw[h0];rfl) (by rw[h3];rfl) (G6 (by omega) (by omega) wq) rfl (hK _ rfl)
  ·have h4:x 4=.int .i64 (e+(c.length+9)):=ae hd 4 (by kernel_rfl);exact bi 3 (.tmp 13) (.tmp 128) rfl B13 0 #[.int .i64 e] 3 (.int .i64 (e+(c.length+9))) hS rfl (by rw[h4];rfl) (by simp) (by kernel_rfl) rfl rfl (fun w9 h9=>hK _ _ trivial h9)
 case hC =>
  intro vs1 W hlt hS;match vs1,hS,hlt with
  | [],hT,_=>exact hT.sat.Q7 (by simp)
  | [_],_,hlt=>exact absurd hlt (Nat.lt_irrefl _)
 case h0 =>
  exact hT.drew
 case he =>
  intro x w3 hφ hS;exact hk (x 0) (x 1) (x 2) (x 3) (x 4) w3 hS
theorem Fd(w:World)(l:Bs):∃cap w',(convert 9 38 (str l)).run Tryz.prog w=.ok (.slice (some ⟨w.heap.size,0,none⟩) l.length cap) w'/\aX w w'/\ak w' (some ⟨w.heap.size,0,none⟩) (l.map ao):=by
 refine⟨_,_,Go.Lib.run_convert_string_bytes w 9 38 5 ⟨l.toArray⟩ Tryz.underlying9 Tryz.underlying38 Tryz.underlying5,⟨rfl,rfl,rfl,?_,fun k hk _=>?_⟩,fun _=>⟨_,_,rfl,fun j hj=>?_⟩⟩
 ·rw[Go.Lib.bytesWorld_size];omega
 ·exact Go.Lib.bytesWorld_at_old w _ _ k hk
 ·have hj':j<l.length:=by simpa using hj
  rw[Nat.zero_add,Go.Lib.bytesWorld_cell w _ _ j (by simpa[ByteArray.size]using hj')];simp[ao,List.getD,hj']
theorem CL{o:Oper}{a:Act}{w:World}{K:Act->World->Prop}{Q:Exit->Act->World->Prop}(x:Operand)(ho:o.op=.convert 9 38 x)(l:Bs)(hx:a.eval x=str l)(hk:∀n cap w',aX w w'->ak w' (some ⟨n,0,none⟩) (l.map ao)->w.heap.size<=n->K (a.put o.dst (.slice (some ⟨n,0,none⟩) l.length cap)) w'):o.wp Tryz.prog a w K Q:=by
 obtain⟨cap,w',h1,h2,h3⟩:=Fd w l;refine am (v:=.slice (some ⟨w.heap.size,0,none⟩) l.length cap) (w':=w') ?_ (hk _ cap w' h2 h3 (Nat.le_refl _));simp[execOp,ho,hx,h1,Result.andThen]
theorem Kv(F1 Z:HF)(A:World)(B11 B9:Nat)(V:VerL)(rv:Value)(rl:List Value)(l:Bs){Q:Exit->Act->World->Prop}{w:World}{u0 u2 u3 u4 u5 u6 u7 u8 aS aT ab ad ag aj ar ax a0 a1 a2 a3 a4 a5 a6 a7 a9 bY bg bj bk bo bs bv bx b0 b1 b2 b3 b4 b6 b7 b9 ca cb cc ch ci cj cl cm cp cs ct cu cx c0 c1 c2 c3 c4 c5 c6 c7 dO dT df dn dp dv d0 d1 d2 d3 d4 d5 d6 d7 eA eC eQ eR eU eW eX ea eb ec eg el em ep es ev e0 e1 e2 e5 e6 e7 e8 e9 fE fl fn fr fs fv fz f0 f1 f2 f3 f4 f5 f6 f7 f8 f9 gD gb gg gp gs gu gx g0 g1 g2 g3 g4 g5 g6 g7 hB hD hE hF hG hH hI hJ hL hM hN hO hP hQ hR hU hV hW hX hY hZ ha hf hg hh hi hj hm hn hp hq hr ht hu hw hx hy hz h3 h4 h5 h6:Value}{ds:List Deferred}(hT:Turns F1 (bN 38 1 rv rl.length rl++((B11,Is (cf rv))::(B9,Is (cg V.blk))::(bT V++Z))) A w)(hro:dj 1 rv rl.length rl)(hl:rl.length<=1000000)(hpo:bQ V.cv V.chs)(hcl:V.chs.length<=100000)(hpl:l.length<=255)(hnum:I64 V.num)(hsize:I64 V.size)(hat:∀n∈bC V.chs,I64 n)(hk:∀(h7 h8 iF iN iS id ih ii:Value) (w':World),bOk id (frame 2 (eF l V.num V.size (bC V.chs)))->dj 1 ii (rl++[id]).length (rl++[id])->Turns F1 ((B11,Is (cf ii))::(bN 38 1 ii (rl++[id]).length (rl++[id])++(aK id (frame 2 (eF l V.num V.size (bC V.chs)))++((B9,Is (cg V.blk))::(bT V++Z))))) A w'->Q .normal { tmps:=#[u0,str l,u2,u3,u4,u5,u6,u7,u8,.pointer (some ⟨B9,0,none⟩),aS,.pointer (some ⟨B11,0,none⟩),aT,ab,ad,ag,aj,ar,ax,a0,a1,a2,a3,a4,a5,a6,a7,a9,bY,bg,bj,bk,bo,bs,bv,bx,b0,b1,b2,b3,b4,b6,b7,b9,ca,cb,cc,ch,ci,cj,cl,cm,cp,cs,ct,cu,cx,c0,c1,c2,c3,c4,c5,c6,c7,dO,dT,df,dn,dp,dv,d0,d1,d2,d3,d4,d5,d6,d7,eA,eC,eQ,eR,eU,eW,eX,ea,eb,ec,eg,el,em,ep,es,ev,e0,e1,e2,e5,e6,e7,e8,e9,fE,fl,fn,fr,fs,fv,fz,f0,f1,f2,f3,f4,f5,f6,f7,f8,f9,gD,gb,gg,gp,gs,gu,gx,g0,g1,g2,g3,g4,g5,g6,g7,hB,hD,hE,hF,h7,h8,iF,iN,iS,id,ih,ii,hP,hQ,hR,hU,hV,hW,hX,hY,hZ,ha,hf,hg,hh,hi,hj,hm,hn,hp,hq,hr,ht,hu,hw,hx,hy,hz,h3,h4,h5,h6],defers:=ds } w'):
  (iq 29 Tryz.f25).wp Tryz.prog Q { tmps:=#[u0,str l,u2,u3,u4,u5,u6,u7,u8,.pointer (some ⟨B9,0,none⟩),aS,.pointer (some ⟨B11,0,none⟩),aT,ab,ad,ag,aj,ar,ax,a0,a1,a2,a3,a4,a5,a6,a7,a9,bY,bg,bj,bk,bo,bs,bv,bx,b0,b1,b2,b3,b4,b6,b7,b9,ca,cb,cc,ch,ci,cj,cl,cm,cp,cs,ct,cu,cx,c0,c1,c2,c3,c4,c5,c6,c7,dO,dT,df,dn,dp,dv,d0,d1,d2,d3,d4,d5,d6,d7,eA,eC,eQ,eR,eU,eW,eX,ea,eb,ec,eg,el,em,ep,es,ev,e0,e1,e2,e5,e6,e7,e8,e9,fE,fl,fn,fr,fs,fv,fz,f0,f1,f2,f3,f4,f5,f6,f7,f8,f9,gD,gb,gg,gp,gs,gu,gx,g0,g1,g2,g3,g4,g5,g6,g7,hB,hD,hE,hF,hG,hH,hI,hJ,hL,hM,hN,hO,hP,hQ,hR,hU,hV,hW,hX,hY,hZ,ha,hf,hg,hh,hi,hj,hm,hn,hp,hq,hr,ht,hu,hw,hx,hy,hz,h3,h4,h5,h6],defers:=ds } w:=by
 have HM:=qqH (show Tryz.prog.follows .mixedOrders=true by kernel_rfl);conv=>arg 2;whnf
 refine cB (A:=?A) (hA:=?hA) HM.out (iT [fun v=>v=rv,fun v=>v=str l,fun v=>v=.pointer (some ⟨V.blk,0,none⟩),fun _=>True,fun _=>True,fun _=>True,fun _=>True,fun _=>True,fun _=>True])
  (fun vs1 W=>match vs1 with
  | []=>Turns F1 (bN 38 1 rv rl.length rl++((B11,Is (cf rv))::(B9,Is (cg V.blk))::(bT V++Z))) A W
  | [v]=>∃av cv,v=.agg #[.int .u8 2,str l,.int .i64 V.num,.int .i64 V.size,.slice av (bC V.chs).length cv]/\ak W av ((bC V.chs).map dq)/\Turns F1 (bN 38 1 rv rl.length rl++((B11,Is (cf rv))::(B9,Is (cg V.blk))::(bT V++Z))) A W
  | [_,f]=>∃av cv,f=.iface 173 (.agg #[.int .u8 2,str l,.int .i64 V.num,.int .i64 V.size,.slice av (bC V.chs).length cv])/\ak W av ((bC V.chs).map dq)/\Turns F1 (bN 38 1 rv rl.length rl++((B11,Is (cf rv))::(B9,Is (cg V.blk))::(bT V++Z))) A W
  | [_,_,r]=>bOk r (frame 2 (eF l V.num V.size (bC V.chs)))/\Turns F1 (bN 38 1 rv rl.length rl++(aK r (frame 2 (eF l V.num V.size (bC V.chs)))++((B11,Is (cf rv))::(B9,Is (cg V.blk))::(bT V++Z)))) A W
  | [_,_,r,s]=>∃n:Nat,bOk r (frame 2 (eF l V.num V.size (bC V.chs)))/\s=.slice (some ⟨n,0,none⟩) 1 1/\Turns F1 (bN 38 1 rv rl.length rl++((n,Is (kx r))::(aK r (frame 2 (eF l V.num V.size (bC V.chs)))++((B11,Is (cf rv))::(B9,Is (cg V.blk))::(bT V++Z))))) A W
  | [_,_,r,_,u]=>∃n:Nat,bOk r (frame 2 (eF l V.num V.size (bC V.chs)))/\dj 1 u (rl++[r]).length (rl++[r])/\Turns F1 (bN 38 1 u (rl++[r]).length (rl++[r])++((n,Is (kx r))::(aK r (frame 2 (eF l V.num V.size (bC V.chs)))++((B11,Is (cf rv))::(B9,Is (cg V.blk))::(bT V++Z))))) A W
  | [_,_,r,_,u,_]=>∃n:Nat,bOk r (frame 2 (eF l V.num V.size (bC V.chs)))/\dj 1 u (rl++[r]).length (rl++[r])/\Turns F1 ((B11,Is (cf u))::(bN 38 1 u (rl++[r]).length (rl++[r])++((n,Is (kx r))::(aK r (frame 2 (eF l V.num V.size (bC V.chs)))++((B9,Is (cg V.blk))::(bT V++Z)))))) A W
  | _=>False)
  (fun W=>W.heap[B11]?=some (cf rv)/\W.heap[B9]?=some (cg V.blk)) [3,4,5,6,7,8] ?hC (by kernel_rfl) (by kernel_rfl) (by kernel_rfl) (by decide) (by decide) ?h0 ?hs ?he
 case hA=>intro x;simp only[aw,Act.put,List.setIfInBounds_toArray,List.set_cons_zero,List.set_cons_succ,Nat.reduceAdd];rfl
 case hs =>
  refine⟨ac rfl rfl (fun x wq hd hC K hK hKw=>?_),ac rfl rfl (fun x wq hd hC K hK hKw=>?_),ac rfl rfl (fun x wq hd hC K hK hKw=>?_),au 0 rfl rfl (fun x wq hd hS K hK=>?_),au 1 rfl rfl (fun x wq hd hS K hK=>?_),au 2 rfl rfl (fun x wq hd hS K hK=>?_),au 3 rfl rfl (fun x wq hd hS K hK=>?_),au 4 rfl rfl (fun x wq hd hS K hK=>?_),au 5 rfl rfl (fun x wq hd hS K hK=>?_),trivial⟩
  ·exact bD Tryz.underlying61 rfl rfl (by rfl) (aa hC.1 0 rfl) (hK _ rfl)
  ·exact am (by kernel_rfl) (hK _ rfl)
  ·exact bD Tryz.underlying149 rfl rfl (by rfl) (aa hC.2 0 rfl) (hK _ rfl)
  ·have h1:x 1=str l:=ae hd 1 (by kernel_rfl);have h2:x 2=.pointer (some ⟨V.blk,0,none⟩):=ae hd 2 (by kernel_rfl);refine bd (by rw[h1,h2];kernel_rfl) (nI l V wq (hS.sat.sub bw) hpo hcl) ?_;rintro e w3 ⟨av,cv,rfl,hc,hs⟩;exact⟨_,rfl,hK _ _ trivial ⟨av,cv,rfl,hc,hS.Q9 hs⟩⟩
  ·obtain⟨av,cv,e3,hc,hT⟩:=hS;exact am (v:=.iface 173 (x 3)) (by rw[e3];kernel_rfl) (hK _ _ trivial ⟨av,cv,by rw[e3],hc,hT⟩)
  ·obtain⟨av,cv,e4,hc,hT⟩:=hS;refine bd (by rw[e4];kernel_rfl) (uf 2 l V.num V.size av cv (bC V.chs) wq hc hpl hnum hsize hat (by unfold bC;rw[List.length_map];exact hcl)) ?_;rintro e w3 ⟨v3,rfl,hb3,hT3⟩;refine⟨_,rfl,hK _ _ trivial ⟨hb3,?_⟩⟩;have h:=Turns.Qb hT hT3;exact h.to af
  ·obtain⟨hb,hT⟩:=hS;obtain⟨-,-,av,cv,hv⟩:=ni hb (hT.sat.sub (G:=aK (x 5) (frame 2 (eF l V.num V.size (bC V.chs)))) bw);refine am (v:=.slice (some ⟨wq.heap.size,0,none⟩) 1 1) (w':=wq.alloc (kx (x 5))) (by rw[hv];kernel_rfl) (hK _ _ trivial ⟨wq.heap.size,hb,rfl,?_⟩);have h:=Turns.Q8 hT (kx (x 5));exact h.to af
  ·have h0:x 0=rv:=ae hd 0 (by kernel_rfl);obtain⟨n,hb,en,hT⟩:=hS;have hno:=hT.sat.Q7 (b:=n) (o:=kx (x 5)) (by simp);obtain⟨h1,-,-⟩:=ni hb (hT.sat.sub (G:=aK (x 5) (frame 2 (eF l V.num V.size (bC V.chs)))) bw);exact lV (.tmp 139) (.tmp 145) rfl rv rl (by rw[h0];rfl) hT hro n (x 5) (by rw[en];rfl) h1 (aa hno 0 rfl) hl (fun v1 w1 k1 k2=>hK _ _ trivial ⟨n,hb,k1,k2⟩)
  ·obtain⟨n,hb,ho,hT⟩:=hS;have h1:=Dw hT.sat.left ho;exact bi 61 (.tmp 11) (.tmp 146) rfl B11 0 #[rv] 61 (x 7) (hT.to (H:=(B11,Is (cf rv))::(bN 38 1 (x 7) (rl++[(x 5)]).length (rl++[(x 5)])++((n,Is (kx (x 5)))::(aK (x 5) (frame 2 (eF l V.num V.size (bC V.chs)))++((B9,Is (cg V.blk))::(bT V++Z)))))) af) rfl rfl (by simp) (by kernel_rfl) h1.1 h1.2 (fun w9 h9=>hK _ _ trivial ⟨n,hb,ho,h9⟩)
 case hC =>
  intro vs1 W hlt hS;match vs1,hS,hlt with
  | [],hT,_=>exact⟨hT.sat.Q7 (by simp),hT.sat.Q7 (by simp)⟩
  | [_],⟨_,_,_,_,hT⟩,_=>exact⟨hT.sat.Q7 (by simp),hT.sat.Q7 (by simp)⟩
  | [_,_],⟨_,_,_,_,hT⟩,_=>exact⟨hT.sat.Q7 (by simp),hT.sat.Q7 (by simp)⟩
  | [_,_,_],⟨_,hT⟩,_=>exact⟨hT.sat.Q7 (by simp),hT.sat.Q7 (by simp)⟩
  | [_,_,_,_],⟨_,_,_,hT⟩,_=>exact⟨hT.sat.Q7 (by simp),hT.sat.Q7 (by simp)⟩
  | [_,_,_,_,_],⟨_,_,_,hT⟩,_=>exact⟨hT.sat.Q7 (by simp),hT.sat.Q7 (by simp)⟩
  | [_,_,_,_,_,_],_,hlt=>exact absurd hlt (Nat.lt_irrefl _)
 case h0 =>
  exact hT.drew
 case he =>
  intro x w3 hφ hS;obtain⟨n,hb,hok3,hT3⟩:=hS;exact hk (x 0) (x 1) (x 2) (x 3) (x 4) (x 5) (x 6) (x 7) w3 hb hok3 (hT3.drop bw)
theorem Kw(F1 Z:HF)(A:World)(B3 B22 a:Nat)(X:ArchL)(cs:List ll)(cc:Nat)(c:Bs)(q:Nat×Nat){Q:Exit->Act->World->Prop}{w:World}{u0 u1 u2 u4 u5 u6 u7 u8 u9 aS aT ab ad ag aj ar av ax a0 a1 a2 a3 a4 a5 a6 a7 a9 bY bg bj bk bo bs bv bx b0 b1 b2 b3 b4 b6 b7 b9 ca cb ch ci cj cl cp ct cu cv cx c0 c1 c2 c3 c4 c5 c6 c7 dO dT df dn dp dv d0 d1 d2 d3 d4 d5 d6 d7 eA eC eQ eR eU eW eX ea eb ec eg el em en ep es ev e0 e1 e2 e3 e5 e6 e7 e8 e9 fE fl fn fr fs fv fz f0 f1 f2 f3 f4 f5 f6 f7 f8 f9 gD gb gg gp gs gu gx g0 g1 g2 g3 g4 g5 g6 g7 hB hD hE hF hG hH hI hJ hL hM hN hO hP hQ hR hU hV hW hX hY hZ ha hb hf hg hh hi hj hl hm hn ho hq hr ht hu hw hx hy hz:Value}{ds:List Deferred}(hT:Turns F1 (((a,Is (.cells (bf X) 128 (0,0)))::bm X.cm cs cc)++((B3,Is (c9 a))::(B22,Is (aJ q))::Z)) A w)(hok:ChunksOk cs cc)(hlen:(aY cs (be (cJ 1 c) 4)).length<=100000)(hbl:c.length<=1000000)(hsc : -4611686018427387904<=X.sc/\X.sc<=4611686018427387904)(hsb : -4611686018427387904<=X.sb/\X.sb<=4611686018427387904)(hk:∀(h6 h7 h8 h9 iF iN iS:Value) (w':World),(∃v',bQ v' (aY cs (be (cJ 1 c) 4)++[q])/\Turns F1 (((a,Is (.cells (((bf X).setIfInBounds 3 (.int .i64 (X.sc+1))).setIfInBounds 4 (.int .i64 (X.sb+c.length))) 128 (0,0)))::bm X.cm (eO cs cc (be (cJ 1 c) 4) v' (aY cs (be (cJ 1 c) 4)++[q])) (cD (cs.map aN) cc (be (cJ 1 c) 4)))++((B3,Is (c9 a))::(B22,Is (aJ q))::Z)) A w')->Q .normal { tmps:=#[u0,u1,u2,.pointer (some ⟨B3,0,none⟩),u4,u5,u6,u7,u8,u9,aS,aT,ab,ad,ag,aj,ar,av,ax,a0,a1,str c,.pointer (some ⟨B22,0,none⟩),a2,a3,a4,a5,a6,a7,a9,bY,bg,bj,bk,bo,bs,bv,bx,b0,b1,b2,b3,b4,b6,b7,b9,ca,cb,ch,ci,cj,cl,cp,ct,cu,cv,cx,c0,c1,c2,c3,c4,c5,c6,c7,dO,dT,df,dn,dp,dv,d0,d1,d2,d3,d4,d5,d6,d7,eA,eC,eQ,eR,eU,eW,eX,ea,eb,ec,eg,el,em,en,ep,es,ev,e0,e1,e2,e3,e5,e6,e7,e8,e9,fE,fl,fn,fr,fs,fv,fz,f0,f1,f2,f3,f4,f5,f6,f7,f8,f9,gD,gb,gg,gp,gs,gu,gx,g0,g1,g2,g3,g4,g5,g6,g7,hB,hD,hE,hF,hG,hH,hI,hJ,hL,hM,hN,hO,hP,hQ,hR,hU,hV,hW,hX,hY,hZ,ha,hb,h6,h7,h8,h9,iF,iN,iS,hn,ho,hq,hr,ht,hu,hw,hx,hy,hz],defers:=ds } w'):
  (iq 36 Tryz.f25).wp Tryz.prog Q { tmps:=#[u0,u1,u2,.pointer (some ⟨B3,0,none⟩),u4,u5,u6,u7,u8,u9,aS,aT,ab,ad,ag,aj,ar,av,ax,a0,a1,str c,.pointer (some ⟨B22,0,none⟩),a2,a3,a4,a5,a6,a7,a9,bY,bg,bj,bk,bo,bs,bv,bx,b0,b1,b2,b3,b4,b6,b7,b9,ca,cb,ch,ci,cj,cl,cp,ct,cu,cv,cx,c0,c1,c2,c3,c4,c5,c6,c7,dO,dT,df,dn,dp,dv,d0,d1,d2,d3,d4,d5,d6,d7,eA,eC,eQ,eR,eU,eW,eX,ea,eb,ec,eg,el,em,en,ep,es,ev,e0,e1,e2,e3,e5,e6,e7,e8,e9,fE,fl,fn,fr,fs,fv,fz,f0,f1,f2,f3,f4,f5,f6,f7,f8,f9,gD,gb,gg,gp,gs,gu,gx,g0,g1,g2,g3,g4,g5,g6,g7,hB,hD,hE,hF,hG,hH,hI,hJ,hL,hM,hN,hO,hP,hQ,hR,hU,hV,hW,hX,hY,hZ,ha,hb,hf,hg,hh,hi,hj,hl,hm,hn,ho,hq,hr,ht,hu,hw,hx,hy,hz],defers:=ds } w:=by
 have HM:=qqH (show Tryz.prog.follows .mixedOrders=true by kernel_rfl);conv=>arg 2;whnf
 refine cB (A:=?A) (hA:=?hA) HM.out (iT [fun v=>v=.pointer (some ⟨a,0,none⟩),fun v=>v=.pointer (some ⟨a,0,none⟩),fun v=>v=.pointer (some ⟨a,0,none⟩),fun v=>v=str c,fun _=>True,fun v=>v=.agg #[.int .i64 q.1,.int .i64 q.2],fun _=>True])
  (fun vs1 W=>match vs1 with
  | []=>Turns F1 (((a,Is (.cells (bf X) 128 (0,0)))::bm X.cm cs cc)++((B3,Is (c9 a))::(B22,Is (aJ q))::Z)) A W
  | [v]=>∃(n cap:Nat),v=.slice (some ⟨n,0,none⟩) c.length cap/\ak W (some ⟨n,0,none⟩) (c.map ao)/\Turns F1 (((a,Is (.cells (bf X) 128 (0,0)))::bm X.cm cs cc)++((B3,Is (c9 a))::(B22,Is (aJ q))::Z)) A W
  | [_,_]=>∃v',bQ v' (aY cs (be (cJ 1 c) 4)++[q])/\Turns F1 (((a,Is (.cells (((bf X).setIfInBounds 3 (.int .i64 (X.sc+1))).setIfInBounds 4 (.int .i64 (X.sb+c.length))) 128 (0,0)))::bm X.cm (eO cs cc (be (cJ 1 c) 4) v' (aY cs (be (cJ 1 c) 4)++[q])) (cD (cs.map aN) cc (be (cJ 1 c) 4)))++((B3,Is (c9 a))::(B22,Is (aJ q))::Z)) A W
  | _=>False)
  (fun W=>W.heap[B3]?=some (c9 a)/\W.heap[B22]?=some (aJ q)) [4,6] ?hC (by kernel_rfl) (by kernel_rfl) (by kernel_rfl) (by decide) (by decide) ?h0 ?hs ?he
 case hA=>intro x;simp only[aw,Act.put,List.setIfInBounds_toArray,List.set_cons_zero,List.set_cons_succ,Nat.reduceAdd];rfl
 case hs =>
  refine⟨ac rfl rfl (fun x wq hd hC K hK hKw=>?_),ac rfl rfl (fun x wq hd hC K hK hKw=>?_),ac rfl rfl (fun x wq hd hC K hK hKw=>?_),ac rfl rfl (fun x wq hd hC K hK hKw=>?_),au 0 rfl rfl (fun x wq hd hS K hK=>?_),ac rfl rfl (fun x wq hd hC K hK hKw=>?_),au 1 rfl rfl (fun x wq hd hS K hK=>?_),trivial⟩
  ·exact bD Tryz.underlying32 rfl rfl (by rfl) (aa hC.1 0 rfl) (hK _ rfl)
  ·have h0:x 0=.pointer (some ⟨a,0,none⟩):=ae hd 0 (by kernel_rfl);exact am (by rw[h0];kernel_rfl) (hK _ rfl)
  ·have h1:x 1=.pointer (some ⟨a,0,none⟩):=ae hd 1 (by kernel_rfl);exact am (by rw[h1];kernel_rfl) (hK _ rfl)
  ·exact am (by kernel_rfl) (hK _ rfl)
  ·have h3:x 3=str c:=ae hd 3 (by kernel_rfl);exact CL (.tmp 163) rfl c (by rw[h3];rfl) (fun n cap w1 h1 h2 h4=>hK _ _ trivial ⟨n,cap,rfl,h2,hS.Q9 h1⟩)
  ·exact wp_load_mid 161 (.tmp 22) rfl B22 0 rfl [.int .i64 q.1,.int .i64 q.2] _ (fun j v hv=>aa hC.2 (0+j) (by rw[Nat.zero_add,<- Array.getElem?_toList];exact hv)) Tryz.underlying161 rfl (by kernel_rfl) (hK _ rfl)
  ·have h2:x 2=.pointer (some ⟨a,0,none⟩):=ae hd 2 (by kernel_rfl);have h5:x 5=.agg #[.int .i64 q.1,.int .i64 q.2]:=ae hd 5 (by kernel_rfl);obtain⟨n,cap,e4,hc,hT⟩:=hS;refine bd (by rw[h2,h5];rw[e4];kernel_rfl) (sX a X.pm X.tm X.cm cc X.sc X.sb X.used cs c (some ⟨n,0,none⟩) cap q (bf X) 128 wq hT.sat.left ⟨rfl,rfl,rfl,rfl,rfl,rfl⟩ hok hc hlen hbl hsc hsb) ?_;rintro e w3 ⟨v',rfl,hp,hT3⟩;exact⟨_,rfl,hK _ _ trivial ⟨v',hp,hT.step (List.Perm.refl _) hT3⟩⟩
 case hC =>
  intro vs1 W hlt hS;match vs1,hS,hlt with
  | [],hT,_=>exact⟨hT.sat.Q7 (by simp),hT.sat.Q7 (by simp)⟩
  | [_],⟨_,_,_,_,hT⟩,_=>exact⟨hT.sat.Q7 (by simp),hT.sat.Q7 (by simp)⟩
  | [_,_],_,hlt=>exact absurd hlt (Nat.lt_irrefl _)
 case h0 =>
  exact hT.drew
 case he =>
  intro x w3 hφ hS;exact hk (x 0) (x 1) (x 2) (x 3) (x 4) (x 5) (x 6) w3 hS
theorem mD(c:Bs)(r:List Bs):dY (c::r)=frame 1 c++dY r:=by simp[dY]
theorem gq:∀l:List Bs,(dY l).length=bh l
 | []=>rfl
 | c::r=>by rw[mD,List.length_append,bL,il,gq r]
theorem qz(rest:Bs):∀(l:List Bs) (data:Bs),(∀c∈l,c.length<65536)->∀e∈cz data.length l,e.2.2=e.1.length/\ex (data++dY l++rest) e.2.1 e.1
 | [],_,_,e,h=>by simp[cz]at h
 | c::r,data,hl,e,h=>by
  simp only[cz,List.mem_cons]at h
  rcases h with rfl|h
  ·refine⟨rfl,?_⟩
   have:=ex.frame (data:=data) (body:=c) (rest:=dY r++rest) (hl c (by simp))
   rw[mD]
   simpa[List.append_assoc]using this
  ·have h2:=qz rest r (data++frame 1 c) (fun x hx=>hl x (by simp[hx])) e (by rw[List.length_append,bL,<- Nat.add_assoc];exact h)
   rw[mD]
   simpa[List.append_assoc]using h2
theorem q9{ps:List bl}{pc:Nat}(hok:PathsOk ps pc){l:Bs}(hl:OkS l){v:Value}{V:VerL}(hv:et v (ai ps l++[V]))(hV:bQ V.cv V.chs):PathsOk (mn ps pc l v V) (cD (ps.map aN) pc l) where
 map:=by unfold mn;rw[iv];exact hok.map.put hl v
 rows:=fun p hp=>by
  rcases fh hp with⟨h1,_⟩|⟨_,h2,h3⟩
  ·exact hok.rows p h1
  ·refine⟨by rw[h2,h3];exact hv,fun U hU=>?_⟩
   rw[h3]at hU
   rcases List.mem_append.1 hU with h|h
   ·unfold ai gOf at h
    cases hf:ps.find? (fun p=>decide (p.key=l))with
    | none=>rw[hf]at h;simp at h
    | some p'=>rw[hf]at h;exact(hok.rows p' (List.mem_of_find?_eq_some hf)).2 U h
   ·simp only[List.mem_singleton]at h;subst h;exact hV
theorem di{ps:List bl}{l:Bs}(h:ai ps l≠[]):∃p∈ps,p.key=l/\p.g=ai ps l:=by
 unfold ai gOf at h ⊢
 cases hf:ps.find? (fun p=>decide (p.key=l))with
 | none=>rw[hf]at h;exact absurd rfl h
 | some p=>exact⟨p,List.mem_of_find?_eq_some hf,by simpa using List.find?_some hf,rfl⟩
theorem G9{γ:Type}(ps:List (GE γ))(c:Nat)(l:Bs)(v:Value)(g:γ):(eO ps c l v g).length<=ps.length+1:=by
 unfold eO;split<;>simp
theorem kO{α β:Type}:∀{l:List α} {m:List β},l.length=m.length->∀b∈m,∃a∈l,(a,b)∈l.zip m
 | [],[],_,b,hb=>by simp at hb
 | a::l,x::m,h,b,hb=>by
  rcases List.mem_cons.1 hb with rfl|hb
  ·exact⟨a,by simp,by simp⟩
  ·obtain⟨a',h1,h2⟩:=kO (by simpa using h) b hb
   exact⟨a',by simp[h1],by simp[h2]⟩
theorem C7:∀{l:List Bs} {m:List (Nat×Nat)},l.length=m.length->(∀e∈l.zip m,e.2.2=e.1.length)->(m.map (·.2)).sum=(l.map List.length).sum
 | [],[],_,_=>rfl
 | c::l,q::m,h,hz=>by
  have h1:=hz (c,q) (by simp)
  have h2:=C7 (l:=l) (m:=m) (by simpa using h) (fun e he=>hz e (by simp[he]))
  simp only[List.map_cons,List.sum_cons]
  rw[h2]
  simp only at h1
  rw[h1]
theorem mq:∀(l:List Nat) (d:Bs),l.sum=d.length->((dc l d).map List.length).sum=d.length
 | [],d,h=>by simpa[dc]using h
 | n::r,d,h=>by
  simp only[List.sum_cons]at h
  simp only[dc,List.map_cons,List.sum_cons,List.length_take]
  rw[mq r (d.drop n) (by rw[List.length_drop];omega),List.length_drop]
  omega
theorem pq(D:Bs):((aH D).map List.length).sum=D.length:=mq _ _ (gL D)
theorem qG(has:List Bs):∀(l acc:List Bs),((co has acc l).map List.length).sum<=(acc.map List.length).sum+(l.map List.length).sum
 | [],acc=>by simp[co]
 | c::l,acc=>by
  simp only[co]
  split
  ·have:=qG has l acc;simp;omega
  ·have:=qG has l (acc++[c]);simp at this ⊢;omega
theorem jv(l:List Bs):bh l=(l.map List.length).sum+9*l.length:=by
 induction l with
 | nil=>rfl
 | cons c r ih=>rw[il,ih];simp;omega
theorem iO(S:AS)(D:Bs):((bJ S D).map List.length).sum<=D.length:=by
 have:=qG (S.K.map (·.1)) (aH D) [];rw[pq]at this;unfold bJ;simpa using this
theorem oE(S:AS)(D:Bs):(bJ S D).length<=D.length:=by
 have h1:=kq (S.K.map (·.1)) (aH D) [];have h2:=dh D;rw[ce]at h1;unfold bJ;simp at h1;omega
theorem oG{S:AS}{D c:Bs}(h:c∈bJ S D):c∈aH D/\c∉S.K.map (·.1):=by
 rcases ji _ _ _ c h with h|h
 ·simp at h
 ·exact h
theorem oT(data:Bs):(cE data).length=128:=by
 unfold cE;have:=fo data;simp[aq];omega
theorem sY{S:AS}{b:Nat}(hB:ArB S b)(l:Bs):eJ (ai S.ps l)<=4294967296+b:=by
 unfold eJ
 cases hg:(ai S.ps l).getLast? with
 | none=>simp
 | some V =>
  have hV:=List.mem_of_getLast? hg;obtain⟨p,hp,_,h2⟩:=di (ps:=S.ps) (l:=l) (fun e=>by rw[e]at hV;simp at hV);rw[<- h2]at hV;exact((hB.vers p hp).2.2 V hV).1
theorem iM(l:Bs)(n s:Int)(chs:List (Nat×Nat)):(frame 2 (eF l n s (bC chs))).length=l.length+16+4*chs.length:=by
 simp only[bL,eF,List.length_append,bF,bW,cy,bC,List.length_map];omega
theorem GX{S:AS}{l D:Bs}{b:Nat}(hok:ArOk S)(hB:ArB S b)(hl:l.length<=20)(hD:D.length<=4000){sp:List (Nat×Nat×Nat)}(hA:AreaOk { S.A with spare:=sp }){V:VerL}(hnum:V.num=eJ (ai S.ps l)+1)(hsize:V.size=D.length)(hheld:V.held=0)(hnc:V.chs.length=(aH D).length)(hchs:∀e∈(aH D).zip V.chs,e∈S.K++cz S.data.length (bJ S D))(hV:bQ V.cv V.chs){L':DevL}(hL:DevOk L')(hLn:L'.n=S.L.n)(hdat:gf L'.now S.A.first S.A.count (S.data++dY (bJ S D)++frame 2 (eF l V.num V.size (bC V.chs))))(hoth:∀f2 c2,(f2+c2<=S.A.first\/S.A.first+S.A.count<=f2)->aP L'.now f2 c2=aP S.L.now f2 c2)(hLc:L'.chs.length<=S.L.chs.length+(dY (bJ S D)++frame 2 (eF l V.num V.size (bC V.chs))).length){cs':List ll}{cc':Nat}(hcs:ChunksOk cs' cc')(hkin:∀k,(aY cs' k).Perm (((S.K++cz S.data.length (bJ S D)).filter (fun e=>decide (ff e.1=k))).map (·.2))){v':Value}(hv:et v' (ai S.ps l++[V])):
  ∀S',S'={ S with X:={ S.X with sc:=S.X.sc+(bJ S D).length,sb:=S.X.sb+((bJ S D).map List.length).sum,used:=S.X.used+D.length },A:={ S.A with spare:=sp,end_:=(S.data++dY (bJ S D)++frame 2 (eF l V.num V.size (bC V.chs))).length,tail:=cE (S.data++dY (bJ S D)++frame 2 (eF l V.num V.size (bC V.chs))) },L:=L',ps:=mn S.ps S.pc l v' V,pc:=cD (S.ps.map aN) S.pc l,cs:=cs',cc:=cc',data:=S.data++dY (bJ S D)++frame 2 (eF l V.num V.size (bC V.chs)),K:=S.K++cz S.data.length (bJ S D) } ->
  PutStep S S' l D V/\ArOk S'/\AM S D b S':=by
 rintro S' rfl;have hfl:=oE S D;have hfs:=iO S D
 have hkat:∀e∈S.K++cz S.data.length (bJ S D),e.2.2=e.1.length/\ex (S.data++dY (bJ S D)++frame 2 (eF l V.num V.size (bC V.chs))) e.2.1 e.1:=fun e he=>by
  rcases List.mem_append.1 he with h|h
  ·refine⟨(hok.kat e h).1,?_⟩;rw[List.append_assoc];exact(hok.kat e h).2.more
  ·exact qz _ _ _ (fun c hc=>by have:=ei (oG hc).1;omega) e h
 have hpl:(cz S.data.length (bJ S D)).length=(bJ S D).length:=by
  have:=congrArg List.length (sK (bJ S D) S.data.length 0);simp only[List.length_map]at this;rw[<- this,oC]
 have hln:=sY hB l;have hcn:=dh D;rw[ce]at hnc
 have hvers:∀p∈mn S.ps S.pc l v' V,(p∈S.ps/\p.key≠l)\/(p.key=l/\p.g=ai S.ps l++[V]):=fun p hp=>by
  rcases fh hp with h|⟨h1,_,h3⟩
  ·exact .inl h
  ·exact .inr ⟨h1,h3⟩
 refine⟨⟨rfl,rfl,rfl,rfl,rfl,hLn,rfl,rfl,rfl,rfl,rfl,fun m=>?_,hnum,hsize,hheld,by rw[hnc,ce],hchs,rfl,hoth⟩,?_,?_⟩
 ·simp only[ai,mn,pB]
 ·exact {
   dev:=hL,n16:=by rw[hLn];exact hok.n16,nmax:=by rw[hLn];exact hok.nmax,area:=⟨oT _,hA.few,hA.caps⟩,first:=by rw[hLn];exact hok.first,count:=by rw[hLn];exact hok.count
   end_:=rfl,tail:=rfl,dat:=hdat,paths:=q9 hok.paths (by unfold OkS;omega) hv hV,tags:=hok.tags,chunks:=hcs,kin:=hkin,kat:=hkat
   vers:=fun p hp U hU=>by
    have old:∀p∈S.ps,∀U∈p.g,(∀q∈U.chs,∃e∈S.K++cz S.data.length (bJ S D),e.2=q)/\U.size=(U.chs.map (·.2)).sum:=fun p hp U hU =>
     ⟨fun q hq=>by obtain⟨e,he,h⟩:=(hok.vers p hp U hU).1 q hq;exact⟨e,List.mem_append_left _ he,h⟩,(hok.vers p hp U hU).2⟩
    rcases hvers p hp with⟨h1,_⟩|⟨_,h3⟩
    ·exact old p h1 U hU
    ·rw[h3]at hU
     rcases List.mem_append.1 hU with h|h
     ·obtain⟨p',hp',_,h2⟩:=di (ps:=S.ps) (l:=l) (fun e=>by rw[e]at h;simp at h)
      rw[<- h2]at h
      exact old p' hp' U h
     ·simp only[List.mem_singleton]at h
      subst h
      have hll:(aH D).length=U.chs.length:=by rw[hnc,ce]
      refine⟨fun q hq=>?_,?_⟩
      ·obtain⟨c,_,h2⟩:=kO hll q hq
       exact⟨(c,q),hchs _ h2,rfl⟩
      ·rw[hsize,C7 hll (fun e he=>(hkat e (hchs e he)).1),pq]
   some:=fun p hp=>by
    rcases hvers p hp with⟨h1,_⟩|⟨_,h3⟩
    ·exact hok.some p h1
    ·rw[h3];simp
   sound:=hok.sound,ep:=hok.ep }
 ·intro b' hb1 hb3;rw[ce]at hb3
  have hfr:(dY (bJ S D)++frame 2 (eF l V.num V.size (bC V.chs))).length<=262144*2:=by
   rw[List.length_append,gq,jv,iM];omega
  have hb2:b<=b':=by omega
  exact {
   K:=by have:=hB.K;simp only[List.length_append,hpl];omega
   np:=by have h1:=G9 S.ps S.pc l v' (ai S.ps l++[V]);have:=hB.np;show(eO S.ps S.pc l v' (ai S.ps l++[V])).length<=_;omega
   nt:=by have:=hB.nt;show S.ts.length<=_;omega
   vers:=fun p hp=>by
    have old:∀U:VerL,U.num<=4294967296+b/\U.chs.length<=b/\U.size<=65536*b/\U.held.natAbs<=b->U.num<=4294967296+b'/\U.chs.length<=b'/\U.size<=65536*b'/\U.held.natAbs<=b':=fun U h=>by omega
    rcases hvers p hp with⟨h1,_⟩|⟨h0,h3⟩
    ·obtain⟨k1,k2,k3⟩:=hB.vers p h1
     exact⟨k1,by omega,fun U hU=>old U (k3 U hU)⟩
    ·rw[h0,h3]
     have hlen:(ai S.ps l).length<=b/\∀U∈ai S.ps l,U.num<=4294967296+b/\U.chs.length<=b/\U.size<=65536*b/\U.held.natAbs<=b:=by
      by_cases hn:ai S.ps l=[]
      ·rw[hn];exact⟨by simp,fun U hU=>by simp at hU⟩
      ·obtain⟨p',hp',_,h2⟩:=di hn
       rw[<- h2];exact⟨(hB.vers p' hp').2.1,(hB.vers p' hp').2.2⟩
     refine⟨by omega,by simp;omega,fun U hU=>?_⟩
     rcases List.mem_append.1 hU with h|h
     ·exact old U (hlen.2 U h)
     ·simp only[List.mem_singleton]at h
      subst h
      rw[hnum,hsize,hheld,hnc]
      exact⟨by omega,by omega,by omega,by simp⟩
   tags:=fun p hp=>by obtain⟨k1,k2,k3⟩:=hB.tags p hp;exact⟨k1,k2,by omega⟩
   used:=by have:=hB.used;simp only;omega
   sc:=by have:=hB.sc;simp only;omega
   sb:=by have:=hB.sb;simp only;omega
   quota:=hB.quota
   chs:=by have:=hB.chs;simp only at hLc ⊢;omega }
end
end Go.Proofs.YtdhobpbngkainaaGreatDoor
