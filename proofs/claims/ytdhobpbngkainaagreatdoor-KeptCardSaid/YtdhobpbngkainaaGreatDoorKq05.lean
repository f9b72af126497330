/- Ours. A part of the proof, made small by a program. -/
import Derived.Test.YtdhobpbngkainaaGreatDoorKq04
set_option maxRecDepth 100000
set_option maxHeartbeats 4000000
namespace Go.Proofs.YtdhobpbngkainaaGreatDoor
section
open Go.RowKit Go.Maps
def OkI(n:Int):Prop:=-9223372036854775808<=n/\n<=9223372036854775807
theorem BS:EncOk Tryz.prog 3 dq OkI where
 keyed:=int_keyed Tryz.underlying3
 inj:=fun a b h=>by simpa[dq]using h
 key:=fun a h=>⟨_,Go.Maps.keyOf_int_mk Tryz.underlying3 (by
  unfold OkI at h
  simp[Lit.wf,IntKind.signed,IntKind.bits,IntKind.min,IntKind.max]
  omega)⟩
theorem Ju(w:World):(zeroValue 3).run Tryz.prog w=.ok (.int .i64 0) w:=by kernel_rfl
def dF(szf:Int->Option Nat):List Int->Option (List (Nat×Nat))
 | []=>some []
 | a::r=>match szf a,dF szf r with
  | some s,some l=>some ((a.toNat,s)::l)
  | _,_=>none
theorem oi(szf:Int->Option Nat)(a:Int):∀l:List Int,dF szf (l++[a])=match dF szf l,szf a with|some m,some s=>some (m++[(a.toNat,s)])|_,_=>none
 | []=>by simp only[List.nil_append,dF];cases szf a<;>rfl
 | b::r=>by
  simp only[List.cons_append,dF,oi szf a r]
  cases szf b<;>cases dF szf r<;>cases szf a<;>rfl
theorem sq{szf:Int->Option Nat}:∀{l m:List Int},dF szf l=none->dF szf (l++m)=none
 | [],_,h=>by cases h
 | b::r,m,h=>by
  simp only[List.cons_append,dF]at h ⊢
  cases hb:szf b with
  | none=>rfl
  | some s =>
   rw[hb]at h
   cases hr:dF szf r with
   | none=>rw[sq hr]
   | some l=>rw[hr]at h;cases h
theorem qi{szf:Int->Option Nat}:∀{l:List Int} {m:List (Nat×Nat)},dF szf l=some m->m.length=l.length
 | [],m,h=>by simp only[dF,Option.some.injEq]at h;subst h;rfl
 | b::r,m,h=>by
  simp only[dF]at h
  cases hb:szf b with
  | none=>rw[hb]at h;cases h
  | some s =>
   cases hr:dF szf r with
   | none=>rw[hb,hr]at h;cases h
   | some l=>rw[hb,hr]at h;simp only[Option.some.injEq]at h;subst h;simp[qi hr]
theorem vu{szf:Int->Option Nat}(hs:∀a s,szf a=some s->s<=65535):∀{l:List Int} {m:List (Nat×Nat)},dF szf l=some m->(m.map (·.2)).sum<=65535*l.length
 | [],m,h=>by simp only[dF,Option.some.injEq]at h;subst h;simp
 | b::r,m,h=>by
  simp only[dF]at h
  cases hb:szf b with
  | none=>rw[hb]at h;cases h
  | some s =>
   cases hr:dF szf r with
   | none=>rw[hb,hr]at h;cases h
   | some l =>
    rw[hb,hr]at h
    simp only[Option.some.injEq]at h
    subst h
    have h1:=vu hs hr
    have h2:=hs b s hb
    simp only[List.map_cons,List.sum_cons,List.length_cons]
    omega
theorem D2(X:ArchL)(s:Int):(bf X).setIfInBounds 5 (.int .i64 s)=bf { X with used:=s }:=rfl
theorem Ka(F1 Z:HF)(A:World)(a tb:Nat)(X:ArchL)(ps:List bl)(pc:Nat)(p:Bs)(n m:Nat)(v:Value)(V:VerL){Q:Exit->Act->World->Prop}{w:World}{u1 u2 u3 u4 u5 u6 u9 aS aT ab ad ag aj ar av ax a0 a1 a2 a3 a4 a5 a6 a7 a9 bY bg bj bk bo bs bv bx b0 b1 b2 b3 b4 b6 b7 b9 ca cb cc ch ci cj cl cp cs ct cu cv cx c0 c1 c2 c3 c4 c5 c6 c7 dO dT df dn dp dv d0 d1 d2 d3 d4 d5 d6 d7 eA eC eQ eR eU eW eX ea eb ec eg el em en ep es ev e0 e1 e2 e3 fn fr fs fv fz f0 f1 f2 f3 f4 f5 f6 f7 f8 f9 gD gb gg gp gs gu gx g0:Value}{ds:List Deferred}(hT:Turns F1 ((a,Is (aO X))::((aU X.pm ps pc++bT V)++((tb,Is (fC p n m v))::Z))) A w)(hok:PathsOk ps pc)(hl:OkS p)(hlen:(ai ps p).length<=100000)(hus : -4611686018427387904<=X.used/\X.used+V.size<=4611686018427387904)(hvs:V.size<=4611686018427387904)(hk:∀(e4 e5 e6 e7 e8 e9 fE fl:Value) (w':World),(∃v',et v' (ai ps p++[V])/\Turns F1 ((a,Is (aO { X with used:=X.used+V.size }))::(aU X.pm (mn ps pc p v' V) (cD (ps.map aN) pc p)++((tb,Is (fC p n m v))::Z))) A w')->Q .normal { tmps:=#[.pointer (some ⟨a,0,none⟩),u1,u2,u3,u4,u5,u6,.pointer (some ⟨tb,0,none⟩),dz V,u9,aS,aT,ab,ad,ag,aj,ar,av,ax,a0,a1,a2,a3,a4,a5,a6,a7,a9,bY,bg,bj,bk,bo,bs,bv,bx,b0,b1,b2,b3,b4,b6,b7,b9,ca,cb,cc,ch,ci,cj,cl,cp,cs,ct,cu,cv,cx,c0,c1,c2,c3,c4,c5,c6,e4,e5,e6,e7,e8,e9,fE,fl,d1,d2,d3,d4,d5,d6,d7,eA,eC,eQ,eR,eU,eW,eX,ea,eb,ec,eg,el,em,en,ep,es,ev,e0,e1,e2,e3,fn,fr,fs,fv,fz,f0,f1,f2,f3,f4,f5,f6,f7,f8,f9,gD,gb,gg,gp,gs,gu,gx,g0],defers:=ds } w'):
  (iq 17 Tryz.f100).wp Tryz.prog Q { tmps:=#[.pointer (some ⟨a,0,none⟩),u1,u2,u3,u4,u5,u6,.pointer (some ⟨tb,0,none⟩),dz V,u9,aS,aT,ab,ad,ag,aj,ar,av,ax,a0,a1,a2,a3,a4,a5,a6,a7,a9,bY,bg,bj,bk,bo,bs,bv,bx,b0,b1,b2,b3,b4,b6,b7,b9,ca,cb,cc,ch,ci,cj,cl,cp,cs,ct,cu,cv,cx,c0,c1,c2,c3,c4,c5,c6,c7,dO,dT,df,dn,dp,dv,d0,d1,d2,d3,d4,d5,d6,d7,eA,eC,eQ,eR,eU,eW,eX,ea,eb,ec,eg,el,em,en,ep,es,ev,e0,e1,e2,e3,fn,fr,fs,fv,fz,f0,f1,f2,f3,f4,f5,f6,f7,f8,f9,gD,gb,gg,gp,gs,gu,gx,g0],defers:=ds } w:=by
 have HM:=qqH (show Tryz.prog.follows .mixedOrders=true by kernel_rfl);conv=>arg 2;whnf
 refine cB (A:=?A) (hA:=?hA) HM.out (iT [fun v=>v=.pointer (some ⟨a,0,none⟩),fun v=>v=.pointer (some ⟨a,0,none⟩),fun v=>v=.pointer (some ⟨a,0,none⟩),fun v=>v=.pointer (some ⟨tb,0,none⟩),fun v=>v=.pointer (some ⟨tb,1,none⟩),fun v=>v=str p,fun v=>v=dz V,fun _=>True])
  (fun vs1 W=>match vs1 with
  | []=>Turns F1 (((a,Is (aO X))::(aU X.pm ps pc++bT V))++((tb,Is (fC p n m v))::Z)) A W
  | [_]=>∃v',et v' (ai ps p++[V])/\Turns F1 ((a,Is (aO { X with used:=X.used+V.size }))::(aU X.pm (mn ps pc p v' V) (cD (ps.map aN) pc p)++((tb,Is (fC p n m v))::Z))) A W
  | _=>False)
  (fun W=>W.heap[tb]?=some (fC p n m v)) [7] ?hC (by kernel_rfl) (by kernel_rfl) (by kernel_rfl) (by decide) (by decide) ?h0 ?hs ?he
 case hA=>intro x;simp only[aw,Act.put,List.setIfInBounds_toArray,List.set_cons_zero,List.set_cons_succ,Nat.reduceAdd];rfl
 case hs =>
  refine⟨ac rfl rfl (fun x wq hd hC K hK hKw=>?_),ac rfl rfl (fun x wq hd hC K hK hKw=>?_),ac rfl rfl (fun x wq hd hC K hK hKw=>?_),ac rfl rfl (fun x wq hd hC K hK hKw=>?_),ac rfl rfl (fun x wq hd hC K hK hKw=>?_),ac rfl rfl (fun x wq hd hC K hK hKw=>?_),ac rfl rfl (fun x wq hd hC K hK hKw=>?_),au 0 rfl rfl (fun x wq hd hS K hK=>?_),trivial⟩
  ·exact am (by kernel_rfl) (hK _ rfl)
  ·have h0:x 0=.pointer (some ⟨a,0,none⟩):=ae hd 0 (by kernel_rfl);exact am (by rw[h0];kernel_rfl) (hK _ rfl)
  ·have h1:x 1=.pointer (some ⟨a,0,none⟩):=ae hd 1 (by kernel_rfl);exact am (by rw[h1];kernel_rfl) (hK _ rfl)
  ·exact am (by kernel_rfl) (hK _ rfl)
  ·have h3:x 3=.pointer (some ⟨tb,0,none⟩):=ae hd 3 (by kernel_rfl);exact am (by rw[h3];kernel_rfl) (hK _ rfl)
  ·have h4:x 4=.pointer (some ⟨tb,1,none⟩):=ae hd 4 (by kernel_rfl);exact bD Tryz.underlying9 rfl rfl (by rw[h4];rfl) (aa hC 1 rfl) (hK _ rfl)
  ·exact am (by kernel_rfl) (hK _ rfl)
  ·have h2:x 2=.pointer (some ⟨a,0,none⟩):=ae hd 2 (by kernel_rfl);have h5:x 5=str p:=ae hd 5 (by kernel_rfl);have h6:x 6=dz V:=ae hd 6 (by kernel_rfl);refine bd (by rw[h2,h5,h6];kernel_rfl) (vh a X.pm X.tm X.cm pc X.sc X.sb X.used ps p V (bf X) 128 wq hS.sat.left ⟨rfl,rfl,rfl,rfl,rfl,rfl⟩ hok hl hlen hus hvs) ?_;rintro e w3 ⟨v',rfl,hp,hT3⟩;exact⟨_,rfl,hK _ _ trivial ⟨v',hp,(hS.step (List.Perm.refl _) hT3).to (by rw[D2];exact List.Perm.refl _)⟩⟩
 case hC =>
  intro vs1 W hlt hS;match vs1,hS,hlt with
  | [],hT,_=>exact hT.sat.Q7 (by simp)
  | [_],_,hlt=>exact absurd hlt (Nat.lt_irrefl _)
 case h0 =>
  exact hT.drew
 case he =>
  intro x w3 hφ hS;exact hk (x 0) (x 1) (x 2) (x 3) (x 4) (x 5) (x 6) (x 7) w3 hS
theorem D5(c:Array Value)(w:World):(Instr.typeAssert (.iface 173 (.agg c)) 215 173 true).run Tryz.prog w=.ok (.tuple #[.agg c,.bool true]) w:=by kernel_rfl
def iD(a:Nat)(X:ArchL)(ps:List bl)(pc sm:Nat)(sz:List (Ent Int))(szc:Nat)(v:Value)(ats:List Int):HF :=
 (a,Is (aO X))::(aU X.pm ps pc++((sm,Is (aR dq sz szc))::bZ v ats))
def DU(a:Nat)(X:ArchL)(ps:List bl)(pc sm:Nat)(sz:List (Ent Int))(szc:Nat)(v:Value)(szf:Int->Option Nat)(p:Bs)(n m:Nat)(ats:List Int)(w:World)(e:Ending)(w':World):Prop :=
 ((∀chs,dF szf ats=some chs->(chs.map (·.2)).sum≠m)/\e=.returned (.bool false)/\Turns (iD a X ps pc sm sz szc v ats) (iD a X ps pc sm sz szc v ats) w w') \/
 (∃chs b cv v',dF szf ats=some chs/\(chs.map (·.2)).sum=m/\e=.returned (.bool true)/\bQ cv chs/\et v' (ai ps p++[⟨b,n,m,cv,chs,0⟩]) /\
  Turns (iD a X ps pc sm sz szc v ats) (iD a { X with used:=X.used+m } (mn ps pc p v' ⟨b,n,m,cv,chs,0⟩) (cD (ps.map aN) pc p) sm sz szc v ats) w w')
def Ie(F1:HF)(szf:Int->Option Nat)(ats:List Int)(n m tb:Nat)(p:Bs)(v:Value)(vb:Nat)(w:World)(sum i:Value)(W:World):Prop :=
 ∃(k:Nat) (cv:Value) (chs:List (Nat×Nat)) (J:HF),k<=ats.length/\i=.int .i64 k/\dF szf (ats.take k)=some chs/\sum=.int .i64 ((chs.map (·.2)).sum:Nat)/\bQ cv chs /\
  Turns F1 ((vb,Is (dy ⟨vb,n,m,cv,chs,0⟩))::(aQ cv chs++((tb,Is (fC p n m v))::(F1++J)))) w W
theorem zX(a:Nat)(X:ArchL)(ps:List bl)(pc sm:Nat)(sz:List (Ent Int))(szc:Nat)(v:Value)(szf:Int->Option Nat)(p:Bs)(n m:Nat)(ats:List Int)(w:World)(h:Sat w (iD a X ps pc sm sz szc v ats))(hio:iOk v ats)(hsz:MapOk OkI sz szc)(hz:∀k,dW sz k=(szf k).map (fun s=>.int .i64 (s:Nat)))(hs:∀a s,szf a=some s->s<=65535)(hat:∀x∈ats,0<=x/\x<=4294967296)(hal:ats.length<=100000)(hok:PathsOk ps pc)(hl:OkS p)(hlen:(ai ps p).length<=100000)(hus : -2305843009213693952<=X.used/\X.used<=2305843009213693952)(hm:m<=4294967296):
  Calls Tryz.prog 100 #[.pointer (some ⟨a,0,none⟩),tD (.ver p n m ats) v,.map (some sm)] w (DU a X ps pc sm sz szc v szf p n m ats w):=by
 obtain⟨F1,hF1⟩:∃F1,F1=iD a X ps pc sm sz szc v ats:=⟨_,rfl⟩;have hsm:=h.Q7 (b:=sm) (o:=aR dq sz szc) (by simp[iD])
 obtain⟨av,cap,hv,-,hcap,hcap2,hcell⟩:∃av cap,v=.slice av ats.length cap/\True/\ats.length<=cap/\cap<=9223372036854775807/\ak w av (ats.map dq):=by
  obtain⟨a',c',e1,-,h3,h4,h5⟩:=aV (aW (h.sub (G:=bZ v ats) (fun x=>by simp only[iD,aB,an];omega)) hio);exact⟨a',c',e1,trivial,h3,by have:=ew (h.sub (G:=bZ v ats) (fun x=>by simp only[iD,aB,an];omega)) hio;obtain⟨-,-,a2,c2,e2,-,h2⟩:=this;rw[e1]at e2;simp only[Value.slice.injEq]at e2;obtain⟨-,-,rfl⟩:=e2;exact h2,h4⟩
 have HH:=qqH (And.intro h (And.intro hio (And.intro hsz (And.intro hz (And.intro hs (And.intro hat (And.intro hok (And.intro hl (And.intro hlen (And.intro hus (And.intro hF1 hv)))))))))));clear h hio hsz hz hs hat hok hl hlen hcell;have hT0:Turns F1 F1 w w:=by rw[hF1];exact Turns.refl HH.a
 subst hv;unfold tD;obtain⟨tb,htb⟩:∃tb,tb=w.heap.size:=⟨_,rfl⟩;obtain⟨vb,hvb⟩:∃vb,vb=w.heap.size+1:=⟨_,rfl⟩
 have hT1:Turns F1 ((vb,Is (dy ⟨vb,n,m,.slice none 0 0,[],0⟩))::((tb,Is (fC p n m (.slice av ats.length cap)))::F1)) w ((w.alloc (fC p n m (.slice av ats.length cap))).alloc (dy ⟨vb,n,m,.slice none 0 0,[],0⟩)):=by
  have:=(hT0.Q8 (fC p n m (.slice av ats.length cap))).Q8 (dy ⟨vb,n,m,.slice none 0 0,[],0⟩);rw[World.size_alloc,<- htb]at this;rw[hvb,<- htb];exact this
 have HT1:=qqH hT1;have HB:=Hq3 htb hvb hF1;clear hT0 hT1 hF1 hsm htb hvb;go_enter Tryz.func100,Tryz.ntmps100;have hta:=D5 #[.int .u8 2,str p,.int .i64 n,.int .i64 m,.slice av ats.length cap] w;go_wp2_with fail;rw[<- HB.b,<- HB.a];clear hta;go_loopw [9,32] (fun sum i wr=>Ie F1 szf ats n m tb p (.slice av ats.length cap) vb w sum i wr) (fun _ i _=>ats.length-(intOf i).toNat)
 case atStart=>exact⟨0,.slice none 0 0,[],[],Nat.zero_le _,rfl,rfl,rfl,⟨rfl,fun _=>⟨rfl,rfl⟩⟩,by rw[List.append_nil];exact HT1.out⟩
 case round =>
  obtain⟨k,cv,chs,J,hk,rfl,hch,rfl,hpo,hT⟩:=hrel;obtain⟨sm1,hsm1⟩:∃sm1,sm1=(chs.map (·.2)).sum:=⟨_,rfl⟩;have hsl:sm1<=65535*k:=by have:=vu HH.e hch;rw[List.length_take]at this;rw[hsm1];omega
  have hcl:chs.length=k:=by rw[qi hch,List.length_take];omega
  rw[<- hsm1];have htb:=hT.sat.Q7 (b:=tb) (o:=fC p n m (.slice av ats.length cap)) (by simp);have t2:wr.cell? ⟨tb,3,none⟩=some (.int .i64 m):=aa htb 3 rfl;have htl:=ah htb;by_cases hlt:k<ats.length
  ·have hrow:ak wr av (ats.map dq):=by
    have hs:=hT.sat.sub (G:=bZ (.slice av ats.length cap) ats) (fun x=>by rw[HB.y];simp only[iD,aB,an];omega);obtain⟨a',c',e1,-,-,h4,-⟩:=aV (aW hs HH.b);simp only[Value.slice.injEq]at e1;obtain⟨rfl,-,-⟩:=e1;exact h4
   obtain⟨g,off,hg,hcell⟩:=hrow (by rw[List.length_map];omega);subst hg;have hc1:=hcell k (by rw[List.length_map];exact hlt);rw[List.getElem_map]at hc1;obtain⟨x,hx⟩:∃x,x=ats[k]:=⟨_,rfl⟩;rw[<- hx]at hc1;unfold dq at hc1;have hxr:=HH.f x (by rw[hx];exact List.getElem_mem hlt);have htk:ats.take (k+1)=ats.take k++[x]:=by rw[List.take_succ_eq_append_getElem hlt,hx]
   have hsb:=hT.sat.Q7 (b:=sm) (o:=aR dq sz szc) (by rw[HB.y];simp[iD]);have hget:=HH.d x;have hhas:=gt (l:=sz) (k:=x);have hvbo:=hT.sat.Q7 (b:=vb) (o:=dy ⟨vb,n,m,cv,chs,0⟩) (by simp);have v2:wr.cell? ⟨vb,2,none⟩=some cv:=aa hvbo 2 rfl;have hvl:=ah hvbo;rw[hget]at hhas
   cases hzx:szf x with
   | none =>
    rw[hzx]at hget hhas;have HR:=Hq7 hT hsb hget hhas htk hzx hxr;clear hT hsb hget hhas htk hzx hx hcell hrow hpo hvbo htb hxr;go_wp2_with ((refine al rfl (j9 BS (.tmp 37) (.tmp 38) rfl Tryz.underlying212 HR.b HH.c (Ju _) x rfl rfl ⟨by have:=HR.u;omega,by have:=HR.u;omega⟩ ?_);rw[HR.c,HR.d];simp only[Option.map_none,Option.getD_none,Option.isSome_none]));refine bodyPost_ret (results_tmp rfl _ _ _) rfl (.inl ⟨fun c' hc'=>?_,rfl,?_⟩)
    ·have h1:dF szf (ats.take (k+1))=none:=by rw[HR.e,oi,HR.f];cases dF szf (ats.take k)<;>rfl
     have h2:=sq (m:=ats.drop (k+1)) h1;rw[List.take_append_drop]at h2;rw[h2]at hc';cases hc'
    ·rw[<- HB.y];exact HR.a.drop (fun x=>by simp only[aB,an];omega)
   | some s =>
    rw[hzx]at hget hhas;have hs6:=HH.e x s hzx;have hch2:dF szf (ats.take (k+1))=some (chs++[(x.toNat,s)]):=by rw[htk,oi,hch,hzx]
    have hx2:(x.toNat:Int)=x:=by omega
    have hTp:=hT.to (H:=aQ cv chs++((vb,Is (dy ⟨vb,n,m,cv,chs,0⟩))::((tb,Is (fC p n m (.slice (some ⟨g,off,none⟩) ats.length cap)))::(F1++J)))) af;have HR:=Hq9 hTp hsb hget hhas hch2 hpo hxr hsm1 hx2;clear hT hTp hsb hget hhas htk hzx hx hcell hrow hpo hvbo htb hxr hch2 hch hx2 hsm1
    go_wp2_with (first
     | (refine al rfl (j9 BS (.tmp 37) (.tmp 38) rfl Tryz.underlying212 HR.b HH.c (Ju _) x rfl rfl ⟨by have:=HR.g;omega,by have:=HR.g;omega⟩ ?_);rw[HR.c,HR.d];simp only[Option.map_some,Option.getD_some,Option.isSome_some])
     | (at_builtin;refine al rfl ?_;refine mW (.tmp 51) (.tmp 55) rfl _ chs rfl (HR.a.alloc _) HR.f _ 1 1 rfl [(x.toNat,s)] rfl (fun _=>⟨_,rfl,fun j u hu=>gQ _ _ _ j u (by simpa only[cV,List.flatMap_cons,List.flatMap_nil,List.append_nil,qy,HR.out.2.2.2.2.2.2.2.2]using hu)⟩) (by simp;omega) ?_;intro v5 w5 hok5 hT5;have hb5:=hT5.sat.Q7 (b:=vb) (o:=dy ⟨vb,n,m,cv,chs,0⟩) (by simp);have v5c:w5.cell? ⟨vb,2,none⟩=some cv:=aa hb5 2 rfl;have hv5l:=ah hb5;have h51:=ew hT5.sat.left hok5;have H5:=Hq3 hok5 hT5 h51;clear hok5 hT5 hb5 h51)
     | (refine al rfl (bi 150 (.tmp 58) (.tmp 56) rfl vb 2 (fW ⟨vb,n,m,cv,chs,0⟩) 152 v5 (H5.b.to (H:=(vb,Is (dy ⟨vb,n,m,cv,chs,0⟩))::(aQ v5 (chs++[(x.toNat,s)])++((tb,Is (fC p n m (.slice (some ⟨g,off,none⟩) ats.length cap)))::(F1++J)))) af) rfl rfl (by simp[fW]) (by kernel_rfl) H5.c H5.d ?_);intro w6 hT6;have HT6:=qqH hT6;clear hT6;simp only[Act.put])
     | fail)
    go_roundw
    case rel =>
     refine⟨k+1,v5,chs++[(x.toNat,s)],J,by omega,by go_num,HR.e,?_,H5.a,?_⟩
     ·rw[List.map_append,List.sum_append,<- HR.h];simp
     ·exact HT6.out
    case measure=>simp[intOf];omega
  ·obtain rfl:k=ats.length:=by omega
   rw[List.take_length]at hch;by_cases hse:sm1=m
   ·have hTp:=hT.to (H:=(tb,Is (fC p n m (.slice av ats.length cap)))::((a,Is (aO X))::((aU X.pm ps pc++bT ⟨vb,n,m,cv,chs,0⟩)++((sm,Is (aR dq sz szc))::(bZ (.slice av ats.length cap) ats++J))))) (by rw[HB.y];unfold iD bT;exact af);have HR:=Hq4 hTp hch hpo hsm1;clear hT hTp hch hpo hsm1 htb;subst hse;go_upto_region 17 with(fail);refine Ka F1 ((sm,Is (aR dq sz szc))::(bZ (.slice av ats.length cap) ats++J)) w a tb X ps pc p n sm1 (.slice av ats.length cap) ⟨vb,n,sm1,cv,chs,0⟩ (HR.a.to af) HH.g HH.h HH.out.2.2.2.2.2.2.2.2.1 (by have:=HH.out.2.2.2.2.2.2.2.2.2.1;simp only;omega) (by simp only;omega) ?_;intro _ _ _ _ _ _ _ _ w7 h7;have H7:=qqH h7;clear h7;go_wp2_with fail;obtain⟨v7,hv7,hT7⟩:=H7.out;refine bodyPost_ret (results_tmp rfl _ _ _) rfl (.inr ⟨chs,vb,cv,v7,HR.b,HR.x.symm,rfl,HR.c,hv7,?_⟩);rw[<- HB.y];exact hT7.drop (fun x=>by unfold iD;simp only[aB,an];omega)
   ·have HR:=Hq3 hT hch hsm1;have hse2:¬((sm1:Int)=(m:Int)):=by omega
    clear hT hch hpo hsm1 htb;go_wp2_with fail;refine bodyPost_ret (results_tmp rfl _ _ _) rfl (.inl ⟨fun c' hc'=>?_,rfl,?_⟩)
    ·rw[HR.b]at hc';obtain rfl:=Option.some.inj hc';rw[<- HR.y];exact hse
    ·rw[<- HB.y];exact HR.a.drop (fun x=>by simp only[aB,an];omega)
def AN(S:AS)(l D:Bs)(b num:Nat)(B6 B7:Nat)(F:HF)(B w':World)(n:Int)(ev:Value):Prop :=
 (∃sp chs J,n=0/\ev=cC 8/\AreaOk { S.A with spare:=sp }/\Turns F ((B6,Is (cr 0))::(B7,Is (eS (cC 8)))::(arF { S with A:={ S.A with spare:=sp } }++J)) B w' /\
  128*S.A.count<S.data.length+(dY (bJ S D)).length+(frame 2 (eF l num D.length (bC chs))).length/\chs.length=(aH D).length) \/
 (∃S' V J,n=num/\ev=.nilIface/\PutStep S S' l D V/\ArOk S'/\AM S D b S'/\Turns F ((B6,Is (cr num))::(B7,Is (eS (.nilIface)))::(arF S'++J)) B w')
theorem Ds{w:World}{b e n:Nat}{v:Value}{xs:List Value}{a:Option Addr}{cap:Nat}(h:w.ownsRow b e 1 v n xs)(hv:v=.slice a n cap):cap<=9223372036854775807:=by
 obtain⟨a',c',h1,_,_,h2,_⟩:=oK h;rw[hv]at h1;simp only[Value.slice.injEq]at h1;omega
def Kn:Value->Nat
 | .int _ a=>a.toNat
 | _=>0
def Jm(i:Nat):Value->Value
 | .agg c=>c.getD i undef
 | _=>undef
def BA(e:Ent Bs):Bs×Nat×Nat:=(e.key,Kn (Jm 0 e.val),Kn (Jm 1 e.val))
theorem sF:∀(l:List Bs) (at_ b:Nat),(bA at_ b l).map BA=cz at_ l
 | [],_,_=>rfl
 | c::r,at_,b=>by
  simp only[bA,cz,List.map_cons,sF r]
  congr 1
def XK(X:ArchL)(done:List (Ent Bs)):ArchL:={ X with sc:=X.sc+done.length,sb:=X.sb+(done.map (fun e=>e.key.length)).sum }
def CT(S:AS)(S1:HF)(acc:List Bs)(F Z:HF)(B:World)(Bm r:Nat)(w:World):Prop :=
 ∃(done todo:List (Ent Bs)) (cs:List ll) (cc:Nat) (J:HF),(done++todo).Perm (bA S.data.length 0 acc)/\ChunksOk cs cc /\
  (∀k,(aY cs k).Perm (((S.K++done.map BA).filter (fun e=>decide (ff e.1=k))).map (·.2))) /\
  Turns F ((r,Is (dR Bm acc.length done))::(Bm,Is (aR str (bA S.data.length 0 acc) acc.length))::(S.a,Is (aO (XK S.X done)))::(bm S.X.cm cs cc++(S1++(J++Z)))) B w
def mH(r n:Nat)(w:World):Nat:=match w.heap[r]? with
 | some (.mapIter _ _ seen _)=>n-seen.size
 | _=>0
theorem Ik(X:ArchL)(done:List (Ent Bs))(e:Ent Bs):(.cells (((bf (XK X done)).setIfInBounds 3 (.int .i64 ((XK X done).sc+1))).setIfInBounds 4 (.int .i64 ((XK X done).sb+e.key.length))) 128 (0,0):Obj)=aO (XK X (done++[e])):=by
 have h1:X.sc+(done.length:Int)+1=X.sc+((done++[e]).length:Nat):=by simp;omega
 have h2:X.sb+((done.map (fun e=>e.key.length)).sum:Nat)+(e.key.length:Int)=X.sb+(((done++[e]).map (fun e=>e.key.length)).sum:Nat):=by simp;omega
 unfold aO;congr 1;simp only[bf,XK];rw[h1,h2];rfl
theorem JG(X:ArchL){done fE:List (Ent Bs)}{acc:List Bs}{at_:Nat}(size n:Nat)(hs:size=n)(h:done.Perm fE)(hf:fE=bA at_ 0 acc):(.cells ((bf (XK X done)).setIfInBounds 5 (.int .i64 ((XK X done).used+size))) 128 (0,0):Obj)=aO { X with sc:=X.sc+acc.length,sb:=X.sb+(acc.map List.length).sum,used:=X.used+n }:=by
 have h1:done.length=acc.length:=by rw[h.length_eq,hf,oC]
 have h2:(done.map (fun e=>e.key.length)).sum=(acc.map List.length).sum:=by
  rw[((h.map (fun e=>e.key.length)).sum_nat),hf];conv=>rhs;rw[<- fL acc at_ 0,List.map_map]
  rfl
 subst hs;unfold aO;congr 1;simp only[bf,XK];rw[h1,h2];rfl
theorem pr{cs:List ll}{cc:Nat}(h:ChunksOk cs cc){k:Bs}(hk:Ok4 k){v:Value}{g:List (Nat×Nat)}(hv:bQ v g):ChunksOk (eO cs cc k v g) (cD (cs.map aN) cc k) where
 map:=by rw[iv];exact h.map.put hk v
 rows:=fun p hp=>by
  rcases fh hp with⟨h1,_⟩|⟨_,h2,h3⟩
  ·exact h.rows p h1
  ·rw[h2,h3];exact hv
theorem Gr{done todo fE:List (Ent Bs)}{acc:List Bs}{at_ m:Nat}(h:(done++todo).Perm fE)(hf:fE=bA at_ 0 acc)(hm:(acc.map List.length).sum<=m):(done.map (fun e=>e.key.length)).sum<=m:=by
 have h1:=((h.map (fun e=>e.key.length)).sum_nat)
 have h2:fE.map (fun e=>e.key.length)=acc.map List.length:=by
  rw[hf];conv=>rhs;rw[<- fL acc at_ 0,List.map_map]
  rfl
 rw[h2,List.map_append,List.sum_append]at h1;omega
theorem zw{cs:List ll}{cc:Nat}{T:List (Bs×Nat×Nat)}(h:∀k,(aY cs k).Perm ((T.filter (fun e=>decide (ff e.1=k))).map (·.2)))(c:Bs)(q:Nat×Nat)(v:Value):
  ∀k,(aY (eO cs cc (ff c) v (aY cs (ff c)++[q])) k).Perm (((T++[(c,q)]).filter (fun e=>decide (ff e.1=k))).map (·.2)):=by
 intro k;rw[List.filter_append,List.map_append];have e1:aY (eO cs cc (ff c) v (aY cs (ff c)++[q])) k=if k=ff c then aY cs (ff c)++[q]else aY cs k:=pB [] cs cc (ff c) k v _
 rw[e1];by_cases hk:k=ff c
 ·subst hk;simp only[if_true,List.filter_cons,decide_true,List.filter_nil,List.map_cons,List.map_nil];exact(h _).append_right _
 ·have hk2:¬ff c=k:=fun e=>hk e.symm
  simp only[hk,if_false,List.filter_cons,hk2,decide_false,Bool.false_eq_true,List.filter_nil,List.map_nil,List.append_nil];exact h k
theorem Co(S:AS)(hok:ArOk S)(b:Nat)(hB:ArB S b)(hb:b<=90000)(l D:Bs)(_:aA l=true)(hll:l.length<=20)(hDl:D.length<=4000)(B3 B6 B7 B9 B11 B12 B13 Bm Bv num:Nat)(hnum:num=eJ (ai S.ps l)+1)(F:HF)(B:World)(hJ:FL S D B9 B11 B12 B13 Bm Bv num ((B3,Is (c9 S.a))::[(B6,Is (cr 0)),(B7,Is (eS .nilIface))]) (aF D).length F)(hF:Sat B F){u0 u2 u4 u5 u8 aS aT ad ag aj ar av ax a0 a1 a2 a3 a4 a5 a6 a7 a9 bY bg bj bk bo bs bv bx b0 b1 b2 b4 b6 b7 ca cb ch ci cj cl cp ct cu cv cx c0 c1 c2 c3 c4 c5 dO dT df dn dp dv d0 d1 d2 d3 d4 d5 d6 d7 eA eC eQ eR eU eW eX ea eb ec eg el em en ep es e3 e4 e5 e6 e7 e8 e9 fl fn fr fs fz f0 f1 f2 f3 f4 f5 f8 f9 gD gb gg gp gs gu gx g0 g1 g2 g3 g4 g5 g6 g7 hA hC hD hE hG hH hI hK hL hM hN hO hP hR hS hU hW hX ha hf hg hh hi hj hk hl hm ho hs hu hv hw hy h5 h6 h7 h8 h9 iF iN iS id ih ii i0 i1 i2 i3 j1 j2 j3 j4:Value}{ds:List Deferred}{Q:Exit->Act->World->Prop}(hQ:∀(tmps:Array Value) (w':World) (n:Int) (ev:Value),tmps.getD 6 undef=.pointer (some ⟨B6,0,none⟩)->tmps.getD 7 undef=.pointer (some ⟨B7,0,none⟩)->AN S l D b num B6 B7 F B w' n ev->Q .ret { tmps:=tmps,defers:=ds } w'):
  IY.wp Tryz.prog Q { tmps:=#[u0,str l,u2,.pointer (some ⟨B3,0,none⟩),u4,u5,.pointer (some ⟨B6,0,none⟩),.pointer (some ⟨B7,0,none⟩),u8,.pointer (some ⟨B9,0,none⟩),aS,.pointer (some ⟨B11,0,none⟩),.pointer (some ⟨B12,0,none⟩),aT,ad,ag,aj,ar,av,ax,a0,a1,a2,a3,a4,a5,a6,a7,a9,bY,bg,bj,bk,bo,bs,bv,bx,b0,b1,b2,b4,b6,b7,ca,cb,ch,ci,cj,cl,cp,ct,cu,cv,cx,c0,c1,c2,c3,c4,c5,dO,dT,df,dn,dp,dv,d0,d1,d2,d3,d4,d5,d6,d7,eA,eC,eQ,eR,eU,eW,eX,ea,eb,ec,eg,el,em,en,ep,es,e3,e4,e5,e6,e7,e8,e9,fl,fn,fr,fs,fz,f0,f1,f2,f3,f4,f5,f8,f9,gD,gb,gg,gp,gs,gu,gx,g0,g1,g2,g3,g4,g5,g6,g7,hA,hC,hD,hE,hG,hH,hI,hK,hL,hM,hN,hO,hP,hR,hS,hU,hW,hX,ha,hf,hg,hh,hi,hj,hk,hl,hm,ho,hs,hu,hv,hw,hy,h5,h6,h7,h8,h9,iF,iN,iS,id,ih,ii,i0,i1,i2,i3,j1,j2,j3,j4],defers:=ds } B:=by
 obtain⟨sp,acc,fv,rv,chs,recs,hacc,hAo,hrb,hro,hpo,hcl,hin,hFe⟩:=hJ;have hacc2:acc=bJ S D:=by rw[hacc,<- ce,List.take_length];rfl
 rw[<- ce,List.take_length]at hin;obtain⟨V,hV⟩:∃V:VerL,V=⟨Bv,num,D.length,fv,chs,0⟩:=⟨_,rfl⟩;have hchl:chs.length<=4000:=by have:=dh D;omega
 obtain⟨Y,hY⟩:∃Y,Y=(B3,Is (c9 S.a))::(B6,Is (cr 0))::(B7,Is (eS .nilIface))::(S.a,Is (aO S.X))::(ay S.X.ab S.X.d { S.A with spare:=sp }++(aE S.X.d S.L++(aU S.X.pm S.ps S.pc++(dm S.X.tm S.ts S.tc++bm S.X.cm S.cs S.cc)))):=⟨_,rfl⟩;obtain⟨Z,hZ⟩:∃Z,Z=(B13,Is (cr ((S.data.length+bh acc:Nat):Int)))::(B12,Is (d9 Bm))::(Bm,Is (aR str (bA S.data.length 0 acc) acc.length))::((recs.flatMap fun r=>aK r.val r.bytes)++Y):=⟨_,rfl⟩
 have hT:Turns F (bN 38 1 rv (recs.map (·.val)).length (recs.map (·.val))++((B11,Is (cf rv))::(B9,Is (cg V.blk))::(bT V++Z))) B B:=by
  refine(Turns.refl hF).to ?_;rw[hFe,hZ,hY,hV];unfold fa arF;exact af
 have hrl:(recs.map (·.val)).length=acc.length:=by
  have:=congrArg List.length hrb;simpa using this
 have hal:=oE S D;rw[<- hacc2]at hal
 have hKat:∀e∈S.K,e.2.1<=137438953472:=fun e he=>by
  have h1:=(hok.kat e he).2.1;have h2:=hok.dat.2;have h3:=hok.fits;have h4:=hok.nmax;omega
 have hln:=sY hB l;have hdl:=hok.dat.2;have hnn:=hok.nmax;have hfit:=hok.fits
 have hat:∀n∈bC chs,I64 n:=fun n hn=>by
  obtain⟨q,hq,rfl⟩:=List.mem_map.1 hn;obtain⟨c,hc,hz⟩:=kO (l:=aH D) (by rw[hcl,ce]) q hq
  have hbig:q.1<=1099511627776:=by
   rcases List.mem_append.1 (hin _ hz)with h|h
   ·have:=hKat _ h;simp only at this;omega
   ·rw[hacc2]at h;have h2:=qz [] (bJ S D) S.data (fun x hx=>by have:=ei (oG hx).1;omega) _ h;have h3:=h2.2.1;have h4:=iO S D;rw[<- hacc2]at h3 h4;simp only[List.append_nil,List.length_append,gq,jv]at h3;omega
  unfold I64;omega
 have HM:=qqH (show Tryz.prog.follows .mixedOrders=true by kernel_rfl);have HH:=qqH (And.intro hok (And.intro hB (And.intro hF (And.intro hacc2 (And.intro hAo (And.intro hrb (And.intro hro (And.intro hpo (And.intro hcl (And.intro hin (And.intro hFe (And.intro hV (And.intro hY (And.intro hZ (And.intro hT (And.intro hrl (And.intro hat hQ)))))))))))))))));have HN:=Hq7 hnum hln hal hdl hnn hfit hchl;clear hok hB hF hacc hacc2 hAo hrb hro hpo hcl hin hFe hV hY hZ hT hrl hat hQ hnum hln hal hdl hnn hfit hKat hchl;conv=>arg 2;whnf
 go_wp2_with fail;refine Kv F Z B B11 B9 V rv (recs.map (·.val)) l HH.out.2.2.2.2.2.2.2.2.2.2.2.2.2.2.1 HH.g.1 (by have:=HH.out.2.2.2.2.2.2.2.2.2.2.2.2.2.2.2.1;have:=HN.c;omega) (by rw[HH.out.2.2.2.2.2.2.2.2.2.2.2.1];exact HH.h) (by rw[HH.out.2.2.2.2.2.2.2.2.2.2.2.1];have:=HN.u;show chs.length<=_;omega) (by omega) (by rw[HH.out.2.2.2.2.2.2.2.2.2.2.2.1];show I64 (num:Int);unfold I64;have:=HN.a;have:=HN.b;omega) (by rw[HH.out.2.2.2.2.2.2.2.2.2.2.2.1];show I64 (D.length:Int);unfold I64;omega) (by rw[HH.out.2.2.2.2.2.2.2.2.2.2.2.1];exact HH.out.2.2.2.2.2.2.2.2.2.2.2.2.2.2.2.2.1) ?_;intro _ _ _ _ _ vb _ rv2 w1 hb1 hr1 hT1;obtain⟨recs2,hrecs2⟩:∃recs2:List RecL,recs2=recs++[⟨vb,frame 2 (eF l V.num V.size (bC V.chs))⟩]:=⟨_,rfl⟩;have hrm:recs.map (·.val)++[vb]=recs2.map (·.val):=by rw[hrecs2,List.map_append];rfl
 rw[hrm]at hr1 hT1
 have hrb2:∀r∈recs2,bOk r.val r.bytes:=fun r hr=>by
  rw[hrecs2]at hr;rcases List.mem_append.1 hr with h|h
  ·exact HH.g.2 r h
  ·simp only[List.mem_singleton]at h;subst h;exact hb1
 obtain⟨sl2,cap2,rfl,-,-,hrc,hrow⟩:=aV (aW hT1.sat.tail.left hr1);obtain⟨RB,hRB⟩:∃RB,RB=recs2.flatMap fun r=>aK r.val r.bytes:=⟨_,rfl⟩
 obtain⟨G1,hG1⟩:∃G1,G1=(B9,Is (cg V.blk))::(bT V++((B13,Is (cr ((S.data.length+bh acc:Nat):Int)))::(B12,Is (d9 Bm))::(Bm,Is (aR str (bA S.data.length 0 acc) acc.length))::(B3,Is (c9 S.a))::(B6,Is (cr 0))::(B7,Is (eS .nilIface))::(aU S.X.pm S.ps S.pc++(dm S.X.tm S.ts S.tc++bm S.X.cm S.cs S.cc)))):=⟨_,rfl⟩
 have hT2:Turns F (((S.a,Is (aO S.X))::(ay S.X.ab S.X.d { S.A with spare:=sp }++aE S.X.d S.L))++((B11,Is (cf (.slice sl2 (recs2.map (·.val)).length cap2)))::(bN 38 1 (.slice sl2 (recs2.map (·.val)).length cap2) (recs2.map (·.val)).length (recs2.map (·.val))++(RB++G1)))) B w1:=by
  refine hT1.to ?_;rw[HH.out.2.2.2.2.2.2.2.2.2.2.2.2.2.1,HH.out.2.2.2.2.2.2.2.2.2.2.2.2.1,hRB,hG1,hrecs2];simp only[List.flatMap_append,List.flatMap_cons,List.flatMap_nil,List.append_nil];exact af
 obtain⟨rs,hrs⟩:∃rs,rs=recs2.map (·.bytes):=⟨_,rfl⟩;have hrsl:(recs2.map (·.val)).length=rs.length:=by rw[hrs,List.length_map,List.length_map]
 have hflat:rs.flatten=dY (bJ S D)++frame 2 (eF l V.num V.size (bC V.chs)):=by
  rw[hrs,hrecs2,List.map_append,HH.f,<- HH.d];simp[dY]
 have hrb3:RB=recs2.flatMap fun r=>aK r.val r.bytes:=hRB
 have hsum:fx rs<=200000:=by
  rw[<- kz,hflat,List.length_append,gq,jv,iM];have h1:=iO S D;have h2:=oE S D;have h3:=HN.u;have h4:V.chs.length=chs.length:=by rw[HH.out.2.2.2.2.2.2.2.2.2.2.2.1]
  omega
 have hlen5:rs.length<=5000:=by
  rw[<- hrsl,<- hrm,List.length_append];have:=HH.out.2.2.2.2.2.2.2.2.2.2.2.2.2.2.2.1;have:=HN.c;simp at *;omega
 have HCh:=qqH (pp S.a S.X S.X.ab S.X.d rfl { S.A with spare:=sp } S.L S.data rs (recs2.map (·.val)) sl2 cap2 w1 hT2.sat.left HH.a.sound HH.a.dev HH.a.fits HH.a.nmax HH.a.end_ HH.a.tail HH.a.dat hrsl (by omega) (by omega) (by have:=HH.b.chs;omega)
  hrc (fun x hx=>?hx1) (fun k h1 h2=>?hx2))
 case hx1 =>
  have hb:=hrow x hx;have hin:x.block∈dom (bN 38 1 (.slice sl2 (recs2.map (·.val)).length cap2) (recs2.map (·.val)).length (recs2.map (·.val))):=(ga _ _ _ _ _ _).2 hb;intro hd;exact hT2.sat.Qh (b:=x.block) (by rw[gm];exact List.mem_cons_of_mem _ hd) (by rw[gm,cT];exact List.mem_cons_of_mem _ (List.mem_append_left _ hin))
 case hx2 =>
  have hk2:k<recs2.length:=by simpa using h1
  have hmem:recs2[k]∈recs2:=List.getElem_mem hk2;have hsub:Sat w1 (aK recs2[k].val recs2[k].bytes):=Sat.flat (f:=fun r:RecL=>aK r.val r.bytes) (by rw[<- hrb3];exact hT2.sat.right.tail.right.left) hmem;obtain⟨ka,kc,ke,-,kcap,kcells,kown⟩:=aV (dX hsub (hrb2 _ hmem));have e2:rs[k]=recs2[k].bytes:=by simp[hrs]
  refine⟨ka,kc,?_,by rw[e2];exact kcap,Ds (dX hsub (hrb2 _ hmem)) ke,?_,fun x hx=>?_⟩
  ·rw[List.getElem_map,ke,e2]
  ·rw[e2];exact kcells
  ·have hin:x.block∈dom (aK recs2[k].val recs2[k].bytes):=(ga _ _ _ _ _ _).2 (kown x hx)
   have hin2:x.block∈dom RB:=by
    obtain⟨p,hp,hpe⟩:=List.mem_map.1 hin;rw[hrb3];exact List.mem_map.2 ⟨p,List.mem_flatMap.2 ⟨_,hmem,hp⟩,hpe⟩
   exact⟨fun hd=>hT2.sat.Qh (b:=x.block) (by rw[gm];exact List.mem_cons_of_mem _ hd) (by simp only[gm,cT];exact List.mem_cons_of_mem _ (List.mem_append_right _ (List.mem_append_left _ hin2))),hsub.lt hin⟩
 have HR1:=Hq6 hT2 hrs hflat hsum hG1 hrsl;have b3:w1.cell? ⟨B3,0,none⟩=some (.pointer (some ⟨S.a,0,none⟩)):=aa (hT2.sat.Q7 (b:=B3) (o:=c9 S.a) (by rw[hG1];simp)) 0 rfl;have b11:w1.cell? ⟨B11,0,none⟩=some (.slice sl2 (recs2.map (·.val)).length cap2):=aa (hT2.sat.Q7 (b:=B11) (o:=cf (.slice sl2 (recs2.map (·.val)).length cap2)) (by simp)) 0 rfl;rw[hrsl]at b11;clear hb1 hr1 hT1 hrc hrow hRB hG1 hT2 hrs hflat hrb3 hrb2 hrm;go_wp2_with fail;refine HCh.out.mono ?_;rintro e w2 (⟨hfull,rfl,hs2⟩|⟨hfit,rfl,hch⟩)
 ·have HR2:=Hq2 hfull (HR1.a.Q9 hs2);have hb6:=HR2.z.sat.Q7 (b:=B6) (o:=cr 0) (by rw[HR1.e];simp);have hb7:=HR2.z.sat.Q7 (b:=B7) (o:=eS .nilIface) (by rw[HR1.e];simp);have c6:w2.cell? ⟨B6,0,none⟩=some (.int .i64 0):=aa hb6 0 rfl;have c7:w2.cell? ⟨B7,0,none⟩=some .nilIface:=aa hb7 0 rfl;have f6:=aZ hb6 0;have f7:=aZ hb7 0;have hnd:(dom [(B6,Is (cr 0)),(B7,Is (eS .nilIface))]).Nodup:=(HR2.z.sat.sub (G:=[(B6,Is (cr 0)),(B7,Is (eS .nilIface))]) (by rw[HR1.e];exact bw)).nodup;have h67:¬B6=B7:=by simpa using hnd
  have h76:¬B7=B6:=fun h=>h67 h.symm
  clear hfull hs2 hb6 hb7 hnd;unfold cC;go_wp2_with fail;refine HH.out.2.2.2.2.2.2.2.2.2.2.2.2.2.2.2.2.2 _ _ 0 (cC 8) rfl rfl (.inl ⟨sp,chs,((B11,Is (cf (.slice sl2 (recs2.map (·.val)).length cap2)))::(bN 38 1 (.slice sl2 (recs2.map (·.val)).length cap2) (recs2.map (·.val)).length (recs2.map (·.val))++(RB++((B9,Is (cg V.blk))::(bT V++[(B13,Is (cr ((S.data.length+bh acc:Nat):Int))),(B12,Is (d9 Bm)),(Bm,Is (aR str (bA S.data.length 0 acc) acc.length)),(B3,Is (c9 S.a))]))))),rfl,rfl,HH.e,?_,?_,by rw[ce];exact HH.out.2.2.2.2.2.2.2.2.1⟩)
  ·have hq:=HR2.z;rw[HR1.e]at hq;have q1:=hq.to (H:=(B6,Is (cr 0))::(B7,Is (eS .nilIface))::(arF { S with A:={ S.A with spare:=sp } }++((B11,Is (cf (.slice sl2 (recs2.map (·.val)).length cap2)))::(bN 38 1 (.slice sl2 (recs2.map (·.val)).length cap2) (recs2.map (·.val)).length (recs2.map (·.val))++(RB++((B9,Is (cg V.blk))::(bT V++[(B13,Is (cr ((S.data.length+bh acc:Nat):Int))),(B12,Is (d9 Bm)),(Bm,Is (aR str (bA S.data.length 0 acc) acc.length)),(B3,Is (c9 S.a))]))))))) (by unfold arF;exact af);have q2:=q1.Qa (o:=cr 0) ((Mods.refl (fun k=>k=B6) w2).set1 (i:=0) (.int .i64 0)) (bt q1.sat.Q5 0 (.int .i64 0));have q3:=q2.to (H:=(B7,Is (eS .nilIface))::(B6,Is (cr 0))::_) (List.Perm.swap _ _ _);have q4:=q3.Qa (o:=eS (cC 8)) ((Mods.refl (fun k=>k=B7) _).set1 (i:=0) (cC 8)) (bt q3.sat.Q5 0 (cC 8));exact q4.to (List.Perm.swap _ _ _)
  ·have h1:=HR2.a;rw[<- kz,HR1.c,List.length_append,HH.out.2.2.2.2.2.2.2.2.2.2.2.1]at h1;have h2:=iM l num D.length chs;have h3:=iM l (num:Int) ((⟨Bv,num,D.length,fv,chs,0⟩:VerL).size) chs;simp only at h1 h2 h3 ⊢;omega
 ·obtain⟨L',hTc,hDv,hLn,hdat,hoth,hlc⟩:=hch;obtain⟨S1,hS1⟩:∃S1,S1=ay S.X.ab S.X.d { S.A with spare:=sp,end_:=(S.data++rs.flatten).length,tail:=cE (S.data++rs.flatten) }++(aE S.X.d L'++(aU S.X.pm S.ps S.pc++dm S.X.tm S.ts S.tc)):=⟨_,rfl⟩;obtain⟨Z0,hZ0⟩:∃Z0,Z0=(B3,Is (c9 S.a))::(B6,Is (cr 0))::(B7,Is (eS .nilIface))::(B9,Is (cg V.blk))::(B12,Is (d9 Bm))::bT V:=⟨_,rfl⟩
  have hT3:Turns F ((Bm,Is (aR str (bA S.data.length 0 acc) acc.length))::(S.a,Is (aO S.X))::(bm S.X.cm S.cs S.cc++(S1++(((B11,Is (cf (.slice sl2 (recs2.map (·.val)).length cap2)))::(bN 38 1 (.slice sl2 (recs2.map (·.val)).length cap2) (recs2.map (·.val)).length (recs2.map (·.val))++(RB++[(B13,Is (cr ((S.data.length+bh acc:Nat):Int)))])))++Z0)))) B w2:=by
   have q:=HR1.a.step (R:=(S.a,Is (aO S.X))::((B11,Is (cf (.slice sl2 (recs2.map (·.val)).length cap2)))::(bN 38 1 (.slice sl2 (recs2.map (·.val)).length cap2) (recs2.map (·.val)).length (recs2.map (·.val))++(RB++G1)))) af hTc;refine q.to ?_;rw[HR1.e,hS1,hZ0];exact af
  have hmk:MapOk OkS (bA S.data.length 0 acc) acc.length:=by
   rw[HH.d];exact vG (i8 _ _ _ List.nodup_nil) (fun c hc=>by have:=ei (oG hc).1;unfold OkS;omega) _
  obtain⟨fE,hfE⟩:∃fE,fE=bA S.data.length 0 acc:=⟨_,rfl⟩;rw[<- hfE]at hmk hT3;have hbm:=hT3.sat.Q5;have b12:w2.cell? ⟨B12,0,none⟩=some (.map (some Bm)):=aa (hT3.sat.Q7 (b:=B12) (o:=d9 Bm) (by rw[hZ0];simp)) 0 rfl;obtain⟨r,hr⟩:∃r,r=w2.heap.size:=⟨_,rfl⟩
  have hrel0:CT S S1 acc F Z0 B Bm r (w2.alloc (dR Bm acc.length ([]:List (Ent Bs)))):=by
   refine⟨[],fE,S.cs,S.cc,((B11,Is (cf (.slice sl2 (recs2.map (·.val)).length cap2)))::(bN 38 1 (.slice sl2 (recs2.map (·.val)).length cap2) (recs2.map (·.val)).length (recs2.map (·.val))++(RB++[(B13,Is (cr ((S.data.length+bh acc:Nat):Int)))]))),by rw[hfE];exact List.Perm.refl _,HH.a.chunks,fun k=>by simpa using HH.a.kin k,?_⟩;rw[<- hfE];have hx:aO (XK S.X [])=aO S.X:=by simp[XK]
   rw[hx,hr];exact(hT3.Q8 _).to af
  have HR3:=qqH (And.intro hDv (And.intro hLn (And.intro hdat (And.intro hoth (And.intro hlc (And.intro hS1 (And.intro hZ0 (And.intro hmk (And.intro hfE (And.intro hr (And.intro hrel0 hbm)))))))))));clear hfit hTc hDv hLn hdat hoth hlc hS1 hZ0 hT3 hmk hfE hbm hrel0 hr;go_wp2_with ((refine al rfl (DE (.tmp 153) rfl Tryz.underlying154 HR3.out.2.2.2.2.2.2.2.2.2.2.2 rfl ?_);rw[<- HR3.out.2.2.2.2.2.2.2.2.2.1]));go_frame;go_loopw [155] (fun _ wr=>CT S S1 acc F Z0 B Bm r wr) (fun _ wr=>mH r acc.length wr)
  case atStart=>exact HR3.out.2.2.2.2.2.2.2.2.2.2.1
  case round =>
   obtain⟨done,todo,cs,cc,J,hperm,hcsok,hkin,hTr⟩:=hrel;rw[<- HR3.out.2.2.2.2.2.2.2.2.1]at hperm hTr;have hri:=hTr.sat.Q5;have hrm:=hTr.sat.Q7 (b:=Bm) (o:=aR str fE acc.length) (by simp);have hal2:acc.length<=4000:=by have:=HN.c;omega
   have hfl:fE.length=acc.length:=by rw[HR3.out.2.2.2.2.2.2.2.2.1,oC]
   have hdl:done.length+todo.length=acc.length:=by rw[<- hfl,<- hperm.length_eq,List.length_append]
   rcases wi (P:=Tryz.prog) (ty:=0) hri hrm HR3.h hperm with⟨ht,hnx⟩|⟨e,rest,w4,ht,hw4,hnx⟩
   ·have hte:done.Perm fE:=by rw[ht,List.append_nil]at hperm;exact hperm
    have HD:=Hq6 hte hcsok hkin hTr hfl hdl;clear hte hcsok hkin hTr hfl hdl hperm hri hrm ht;go_wp2_with fail;have h:=HD.d;rw[HR3.g,HR3.f]at h;have h:=h.to (H:=((S.a,Is (aO (XK S.X done)))::(aU S.X.pm S.ps S.pc++bT V))++((B3,Is (c9 S.a))::(B9,Is (cg V.blk))::((r,Is (dR Bm acc.length done))::(Bm,Is (aR str fE acc.length))::(bm S.X.cm cs cc++(J++((B6,Is (cr 0))::(B7,Is (eS .nilIface))::(B12,Is (d9 Bm))::(ay S.X.ab S.X.d { S.A with spare:=sp,end_:=(S.data++rs.flatten).length,tail:=cE (S.data++rs.flatten) }++(aE S.X.d L'++dm S.X.tm S.ts S.tc)))))))) af;have k3:=aa (h.sat.Q7 (b:=B3) (o:=c9 S.a) (by simp)) 0 (v:=.pointer (some ⟨S.a,0,none⟩)) rfl;have k9:=aa (h.sat.Q7 (b:=B9) (o:=cg V.blk) (by simp)) 0 (v:=.pointer (some ⟨V.blk,0,none⟩)) rfl
    have HA:=qqH (vh S.a (XK S.X done).pm (XK S.X done).tm (XK S.X done).cm S.pc (XK S.X done).sc (XK S.X done).sb (XK S.X done).used S.ps l V (bf (XK S.X done)) 128 wr.drew h.drew.sat.left ⟨rfl,rfl,rfl,rfl,rfl,rfl⟩ HH.a.paths (by unfold OkS;omega) (by
     by_cases hn:ai S.ps l=[]
     ·rw[hn];simp
     ·obtain⟨p',hp',_,h2⟩:=di hn;rw[<- h2];have:=(HH.b.vers p' hp').2.1;omega) (by
     have h1:=HH.b.used;rw[HH.out.2.2.2.2.2.2.2.2.2.2.2.1];simp only[XK];omega) (by
     rw[HH.out.2.2.2.2.2.2.2.2.2.2.2.1];simp only;omega))
    have H0:=qqH h;clear h;refine wp_region_still_tail 5 HM.out (by kernel_rfl) ?_;simp only[List.take_succ_cons,List.take_zero,List.drop_succ_cons,List.drop_zero];repeat still_step
    refine wpStill_nil ?_;change wpList _ _ _ _ _ wr.drew;go_wp2_with fail;refine HA.out.mono ?_;rintro e w6 ⟨v',rfl,hv',hT6⟩;have hT6:=H0.out.drew.step (List.Perm.refl _) hT6;clear k3 k9;have hps:Sat w6 (aU S.X.pm (mn S.ps S.pc l v' V) (cD (S.ps.map aN) S.pc l)):=hT6.sat.left.tail;have hver:w6.heap[V.blk]?=some (dy V):=((hps.tail.perm (vU S.pc l v' V (by rw[<- eL];exact HH.a.paths.map.nodup))).right.right).Q5
    have hT7:Turns F ((B6,Is (cr 0))::(B7,Is (eS .nilIface))::((S.a,Is (.cells ((bf (XK S.X done)).setIfInBounds 5 (.int .i64 ((XK S.X done).used+V.size))) 128 (0,0)))::(ay S.X.ab S.X.d { S.A with spare:=sp,end_:=(S.data++rs.flatten).length,tail:=cE (S.data++rs.flatten) }++(aE S.X.d L'++(aU S.X.pm (mn S.ps S.pc l v' V) (cD (S.ps.map aN) S.pc l)++(dm S.X.tm S.ts S.tc++bm S.X.cm cs cc))))++((r,Is (dR Bm acc.length done))::(Bm,Is (aR str fE acc.length))::(J++((B3,Is (c9 S.a))::(B9,Is (cg V.blk))::(B12,Is (d9 Bm))::[]))))) B w6:=by
     have e0:(XK S.X done).pm=S.X.pm:=rfl;rw[e0]at hT6;exact hT6.to af
    have hb6:=hT7.sat.Q5;have hb7:=hT7.sat.tail.Q5;have hnd:=(hT7.sat.sub (G:=[(B6,Is (cr 0)),(B7,Is (eS .nilIface))]) bw).nodup;have h67:¬B6=B7:=by simpa using hnd
    have h76:¬B7=B6:=fun h=>h67 h.symm
    have c6:w6.cell? ⟨B6,0,none⟩=some (.int .i64 0):=aa hb6 0 rfl;have c7:w6.cell? ⟨B7,0,none⟩=some .nilIface:=aa hb7 0 rfl;have f6:=aZ hb6 0;have f7:=aZ hb7 0;have b9:w6.cell? ⟨B9,0,none⟩=some (.pointer (some ⟨V.blk,0,none⟩)):=aa (hT7.sat.Q7 (b:=B9) (o:=cg V.blk) (by simp)) 0 rfl;have bv0:w6.cell? ⟨V.blk,0,none⟩=some (.int .i64 V.num):=aa hver 0 rfl;have HG:=Hq2 hT7 hv';clear hT6 hps hver hT7 hb6 hb7 hnd hv';go_wp2_with fail;have hT8:=HG.a.Qa (o:=cr V.num) ((Mods.refl (fun k=>k=B6) w6).set1 (i:=0) (.int .i64 V.num)) (bt HG.a.sat.Q5 0 (.int .i64 V.num));have hT9:=hT8.to (H:=(B7,Is (eS .nilIface))::(B6,Is (cr V.num))::_) (List.Perm.swap _ _ _);have hT10:=hT9.Qa (o:=eS .nilIface) ((Mods.refl (fun k=>k=B7) _).set1 (i:=0) .nilIface) (bt hT9.sat.Q5 0 .nilIface)
    have hfin:∃S',PutStep S S' l D V/\ArOk S'/\AM S D b S'/\arF S'=((S.a,Is (.cells ((bf (XK S.X done)).setIfInBounds 5 (.int .i64 ((XK S.X done).used+V.size))) 128 (0,0)))::(ay S.X.ab S.X.d { S.A with spare:=sp,end_:=(S.data++rs.flatten).length,tail:=cE (S.data++rs.flatten) }++(aE S.X.d L'++(aU S.X.pm (mn S.ps S.pc l v' V) (cD (S.ps.map aN) S.pc l)++(dm S.X.tm S.ts S.tc++bm S.X.cm cs cc))))):=by
     have hVe:=HH.out.2.2.2.2.2.2.2.2.2.2.2.1;have hfl:=HR1.c;have hap:S.data++rs.flatten=S.data++dY (bJ S D)++frame 2 (eF l V.num V.size (bC V.chs)):=by rw[hfl,List.append_assoc]
     have hdk:(done.map BA).Perm (cz S.data.length (bJ S D)):=by
      have:=HD.a.map BA;rw[HR3.out.2.2.2.2.2.2.2.2.1,sF,HH.d]at this;exact this
     obtain⟨p1,p2,p3⟩:=GX HH.a HH.b (by omega) hDl (V:=V) HH.e (by rw[hVe];exact HN.a) (by rw[hVe]) (by rw[hVe]) (by rw[hVe,ce];exact HH.out.2.2.2.2.2.2.2.2.1) (by rw[hVe,<- HH.d];exact HH.out.2.2.2.2.2.2.2.2.2.1) (by rw[hVe];exact HH.h)
      HR3.a HR3.b (by rw[<- hap];exact HR3.c) HR3.d (by rw[<- hfl];exact HR3.e) HD.b (fun k=>(HD.c k).trans (((hdk.append_left S.K).filter _).map _)) HG.z _ rfl
     refine⟨_,p1,p2,p3,?_⟩;unfold arF;simp only;rw[hap];have hx:=JG S.X V.size D.length (by rw[hVe]) HD.a (HR3.out.2.2.2.2.2.2.2.2.1.trans (by rw[HH.d]));rw[hx]
    obtain⟨S',p1,p2,p3,p4⟩:=hfin;refine HH.out.2.2.2.2.2.2.2.2.2.2.2.2.2.2.2.2.2 _ _ num .nilIface rfl rfl (.inr ⟨S',V,((r,Is (dR Bm acc.length done))::(Bm,Is (aR str fE acc.length))::(J++((B3,Is (c9 S.a))::(B9,Is (cg V.blk))::(B12,Is (d9 Bm))::[]))),rfl,rfl,p1,p2,p3,?_⟩);have hnv:(V.num:Int)=num:=by rw[HH.out.2.2.2.2.2.2.2.2.2.2.2.1]
    rw[p4,<- hnv];exact hT10.to (List.Perm.swap _ _ _)
   ·obtain⟨w5,hw5⟩:∃w5,w5=Go.ChangeMaps.setBlock w4 r (dR Bm acc.length (done++[e])):=⟨_,rfl⟩;rw[<- hw5]at hnx
    have hT5:Turns F ((r,Is (dR Bm acc.length (done++[e])))::(Bm,Is (aR str fE acc.length))::(S.a,Is (aO (XK S.X done)))::(bm S.X.cm cs cc++(S1++(J++Z0)))) B w5:=by
     rw[hw5];rcases hw4 with rfl|rfl
     ·exact hTr.Qa (cQ _ _ _) (dU hri)
     ·exact(hTr.drew).Qa (cQ _ _ _) (dU (by exact hri))
    have heE:e∈fE:=hperm.mem_iff.1 (List.mem_append_right _ (ht.mem_iff.2 (by simp)));have hri5:=hT5.sat.Q5;have hrm5:=hT5.sat.Q7 (b:=Bm) (o:=aR str fE acc.length) (by simp);have hen:=tL (P:=Tryz.prog) hri5 hrm5 HR3.h heE;obtain⟨q,hq,hev⟩:=oD acc S.data.length 0 e (by rw[<- HR3.out.2.2.2.2.2.2.2.2.1];exact heE);obtain⟨c,hc⟩:∃c,c=e.key:=⟨_,rfl⟩;rw[hev,<- hc]at hnx hen;simp only[gz]at hnx hen;have b3':w5.cell? ⟨B3,0,none⟩=some (.pointer (some ⟨S.a,0,none⟩)):=aa (hT5.sat.Q7 (b:=B3) (o:=c9 S.a) (by rw[HR3.g];simp)) 0 rfl;have HD:=qqH (And.intro hperm (And.intro hcsok (And.intro hkin (And.intro hT5 (And.intro heE (And.intro hev (And.intro hc (And.intro hq (And.intro ht (And.intro hdl (And.intro hri hri5)))))))))));clear hperm hcsok hkin hTr hrm hw5 hw4 heE hri5 hrm5 hev hc hq ht hT5 hri;go_wp2_with fail;refine Kw F ((r,Is (dR Bm acc.length (done++[e])))::(Bm,Is (aR str fE acc.length))::(S1++(J++((B6,Is (cr 0))::(B7,Is (eS .nilIface))::(B9,Is (cg V.blk))::(B12,Is (d9 Bm))::bT V)))) B B3 w5.heap.size S.a (XK S.X done) cs cc c q ?_ HD.b ?_ ?_ ?_ ?_ ?_
    ·have h:=Turns.Q8 HD.d (aJ q);rw[HR3.g]at h;show Turns F (((S.a,Is (aO (XK S.X done)))::bm S.X.cm cs cc)++_) B _;exact h.to af
    ·have h:=(HD.c (ff c)).length_eq;have h2:=List.length_filter_le (fun e=>decide (ff e.1=ff c)) (S.K++done.map BA);have h3:=HH.b.K;rw[List.length_map]at h;rw[List.length_append,List.length_map]at h2;unfold ff at h h2;omega
    ·rw[HD.g];have:=HR3.h.ok e HD.e;exact this
    ·have:=HH.b.sc;simp only[XK];omega
    ·have h1:=HH.b.sb;have h2:(done.map (fun e=>e.key.length)).sum<=4000:=Gr HD.a HR3.out.2.2.2.2.2.2.2.2.1 (by rw[HH.d];exact Nat.le_trans (iO S D) hDl);simp only[XK];omega
    intro _ _ _ _ _ _ _ w6 hw6;obtain⟨v',hv',hT6⟩:=hw6;go_frame;go_roundw
    case rel =>
     refine⟨_,_,_,_,_,_,_,_,_,_,_,_,_,_,?_,rfl⟩;have hwho:=HD.g;refine⟨done++[e],rest,eO cs cc (ff c) v' (aY cs (ff c)++[q]),cD (cs.map aN) cc (ff c),(w5.heap.size,Is (aJ q))::J,by rw[<- HR3.out.2.2.2.2.2.2.2.2.1];exact EB HD.a HD.out.2.2.2.2.2.2.2.2.1,pr HD.b (ck _ _) hv',?_,?_⟩
     ·rw[List.map_append,<- List.append_assoc]
      have he:[e].map BA=[(c,q)]:=by
       simp only[List.map_cons,List.map_nil,BA,HD.f,<- hwho];rfl
      rw[he];exact zw HD.c c q v'
     ·have hx:=Ik S.X done e;rw[<- hwho]at hx;have e0:(XK S.X done).cm=S.X.cm:=rfl;rw[hx,e0]at hT6;refine hT6.to ?_;rw[HR3.g,HR3.out.2.2.2.2.2.2.2.2.1];unfold ff;exact af
    case measure =>
     have e1:mH r acc.length wr=acc.length-done.length:=by unfold mH;rw[HD.out.2.2.2.2.2.2.2.2.2.2.1];simp[dR]
     have e2:mH r acc.length w6=acc.length-(done.length+1):=by unfold mH;rw[hT6.sat.Q7 (b:=r) (o:=dR Bm acc.length (done++[e])) (by simp)];simp[dR]
     rw[e1,e2];have h3:=HD.out.2.2.2.2.2.2.2.2.2.1;have h4:=HD.out.2.2.2.2.2.2.2.2.1.length_eq;simp only[List.length_cons]at h4;omega
theorem EV(x rest:Bs):da (x++rest) false x.length=bG x:=by
 unfold da;rw[if_neg (by simp),List.take_left]
theorem GY(x rest:Bs):rN (x++rest,false) x.length=(rest,false):=by
 unfold rN fw iC;rw[if_neg (by simp),List.drop_left];simp
theorem vp{n:Int}{k:Nat}(h0:0<=n)(h1:n<256 ^ k):(bG (beI n k):Int)=n:=by
 obtain⟨m,rfl⟩:∃m:Nat,n=m:=⟨n.toNat,by omega⟩;have h2:m<256 ^ k:=by have:((256 ^ k:Nat):Int)=256 ^ k:=Int.natCast_pow 256 k;omega
 rw[wM,ph,Nat.mod_eq_of_lt h2]
theorem qB{n:Int}{k:Nat}(h0:0<=n)(h1:n<256 ^ k)(rest:Bs):(da (beI n k++rest) false k:Int)=n:=by
 have:=EV (beI n k) rest;rw[bW]at this;rw[this];exact vp h0 h1
theorem Cq(n:Int)(k:Nat)(rest:Bs):rN (beI n k++rest,false) k=(rest,false):=by
 have:=GY (beI n k) rest;rwa [bW]at this
theorem Fh{p:Bs}(hp:p.length<=255)(rest:Bs):da (cP p++rest) false 1=p.length/\fw (cP p++rest) false 1=p++rest/\iC (cP p++rest) false 1=false:=by
 unfold cP da fw iC;refine⟨?_,?_,?_⟩
 ·rw[if_neg (by simp)];simp only[List.cons_append,List.take_succ_cons,List.take_zero];unfold bG;simp only[List.foldl_cons,List.foldl_nil,Nat.zero_mul,Nat.zero_add];rw[UInt8.toNat_ofNat'];exact Nat.mod_eq_of_lt (by omega)
 ·rw[if_neg (by simp)];rfl
 ·simp
theorem lQ{p:Bs}(hp:p.length<=255)(rest:Bs):gj (cP p++rest) false=p/\rT (cP p++rest,false)=(rest,false):=by
 obtain⟨h1,h2,h3⟩:=Fh hp rest;have hN:tZ (cP p++rest) false=p.length:=by unfold tZ;exact h1
 refine⟨?_,?_⟩
 ·unfold gj;rw[h2,h3,hN,if_neg (by simp),List.take_left]
 ·unfold rT pU xN;simp only[h2,h3,hN];have:=GY p rest;exact this
theorem tg(a:Int)(r:List Int):dS (a::r)=beI a 4++dS r:=by simp[dS]
theorem zE:∀(l:List Int) (i:Nat) (hi:i<l.length),((dS l).drop (4*i)).take 4=beI l[i] 4
 | [],i,hi=>by simp at hi
 | a::r,0,_=>by
  rw[tg,Nat.mul_zero,List.drop_zero]
  have:=List.take_left (l₁:=beI a 4) (l₂:=dS r)
  rw[bW]at this;exact this
 | a::r,i+1,hi=>by
  have e1:(dS (a::r)).drop (4*(i+1))=(dS r).drop (4*i):=by
   have h4:4*(i+1)=(beI a 4).length+4*i:=by rw[bW];omega
   rw[tg,h4,<- List.drop_drop,List.drop_left]
  rw[e1];exact zE r i (by simpa using hi)
theorem vQ{l:List Int}(h:∀n∈l,0<=n/\n<4294967296):gU (dS l)=l:=by
 refine List.ext_getElem (by rw[jH,cy];omega) (fun i h1 h2=>?_)
 have e1:(gU (dS l))[i]?=some ((bG (((dS l).drop (4*i)).take 4):Nat):Int):=by
  unfold gU;rw[List.getElem?_map,List.getElem?_range (by rw[cy];omega)];rfl
 rw[List.getElem?_eq_getElem h1]at e1;rw[Option.some.inj e1,zE l i h2];have:=h l[i] (List.getElem_mem h2);exact vp this.1 (by omega)
theorem EW{p:Bs}{num size:Nat}{ats:List Int}(hp:p.length<=255)(hn:num<4294967296)(hs:size<65536)(ha:∀n∈ats,0<=n/\n<4294967296):fR 2 (eF p num size ats)=some (.ver p num size ats):=by
 have e0:eF p num size ats=cP p++(beI num 4++(beI size 2++dS ats)):=by unfold eF;simp
 obtain⟨t1,t2⟩:=lQ hp (beI num 4++(beI size 2++dS ats));rw[xB,e0,t1,t2,Cq,Cq];rw[if_pos ⟨rfl,by rw[cy];omega⟩,vQ ha];have h1:=qB (n:=(num:Int)) (k:=4) (by omega) (by omega) (beI size 2++dS ats);have h2:=qB (n:=(size:Int)) (k:=2) (by omega) (by omega) (dS ats);simp only[Option.some.injEq,RecR.ver.injEq,true_and,and_true];exact⟨by omega,by omega⟩
theorem Ct{p:Bs}{ns:List Int}(hp:p.length<=255)(ha:∀n∈ns,0<=n/\n<4294967296):fR 3 (dI p ns)=some (.gone p ns):=by
 have e0:dI p ns=cP p++dS ns:=rfl;obtain⟨t1,t2⟩:=lQ hp (dS ns);unfold fR;simp only[e0,t1,t2];rw[if_neg (by decide),if_pos trivial,if_pos ⟨trivial,by rw[cy];omega⟩,vQ ha]
theorem vY{k:UInt8}(hk:k=4\/k=5){p name:Bs}{num:Nat}(hp:p.length<=255)(hq:name.length<=255)(hn:num<4294967296):fR k (fN p name num)=some (.pin k p name num):=by
 have e0:fN p name num=cP p++(cP name++beI num 4):=by unfold fN;simp
 obtain⟨t1,t2⟩:=lQ hp (cP name++beI num 4);obtain⟨t3,t4⟩:=lQ hq (beI num 4);have t5:=Cq num 4 [];rw[List.append_nil]at t5;have h1:=qB (n:=(num:Int)) (k:=4) (by omega) (by omega) [];rw[List.append_nil]at h1;unfold fR;simp only[e0,t1,t2,t3,t4,t5];rw[if_neg (by rcases hk with rfl|rfl<;>decide),if_neg (by rcases hk with rfl|rfl<;>decide),if_pos hk,if_pos ⟨trivial,trivial⟩];simp only[Option.some.injEq,RecR.pin.injEq,true_and];omega
abbrev KL:=List (Bs×Nat×Nat)
abbrev Tg:=Bs×Bs×Int
def ia(p:ib):Tg:=(p.key,p.g.1,p.g.2)
structure HV where
 p:Bs
 num:Nat
 size:Nat
 chs:List (Nat×Nat)
 held:Int
structure PSt where
 K:KL
 H:List HV
 T:List Tg
def lk(K:KL)(a:Int):Option Nat:=(K.find? (fun e=>decide ((e.2.1:Int)=a))).map (·.2.2)
def jV(H:List HV)(p:Bs)(ns:List Int):List HV:=H.filter (fun h => !(decide (h.p=p)&&ns.contains (h.num:Int)))
def gT(H:List HV)(p:Bs)(n:Int)(d:Int):List HV:=H.map (fun h=>if h.p=p/\(h.num:Int)=n then { h with held:=h.held+d } else h)
def uz(T:List Tg)(x:Tg):List Tg:=if T.any (fun t=>decide (t.1=x.1))then T.map (fun t=>if t.1=x.1 then x else t)else T++[x]
def Ei(T:List Tg)(m:Bs):List Tg:=T.filter (fun t => !decide (t.1=m))
def gY(at_:Nat)(s:PSt)(k:UInt8)(body:Bs):Option PSt :=
 if k=1 then some { s with K:=s.K++[(body,at_,body.length)] }
 else match fR k body with
  | none=>none
  | some (.ver p n m ats)=>match dF (lk s.K) ats with
   | none=>none
   | some chs=>if(chs.map (·.2)).sum=m then some { s with H:=s.H++[⟨p,n,m,chs,0⟩] } else none
  | some (.gone p ns)=>if s.H.any (fun h=>decide (h.p=p))then some { s with H:=jV s.H p ns } else none
  | some (.pin q p m n)=>if q=4 then some { s with H:=gT s.H p n 1,T:=uz s.T (m,p,n) } else some { s with H:=gT s.H p n (-1),T:=Ei s.T m }
inductive Reach (D:Bs):Nat->PSt->Prop
 | zero:Reach D 0 ⟨[],[],[]⟩
 | next {at_ s s' k body n}:Reach D at_ s->cG (D.drop at_)=some (k,body,n)->gY at_ s k body=some s'->Reach D (at_+n) s'
def rH(D:Bs)(at_:Nat)(s:PSt):Prop:=∀k body n,cG (D.drop at_)=some (k,body,n)->gY at_ s k body=none
abbrev kB:=List (UInt8×Bs)
def dd(rs:kB):Bs:=(rs.map fun r=>frame r.1 r.2).flatten
def AQ(rs:kB):Prop:=∀r∈rs,r.1≠0/\r.2.length<65536
def nH:Nat->PSt->kB->Option PSt
 | _,s,[]=>some s
 | a,s,r::q=>(gY a s r.1 r.2).bind (fun s'=>nH (a+(r.2.length+9)) s' q)
theorem ey(a b:kB):dd (a++b)=dd a++dd b:=by simp[dd]
theorem mr(r:UInt8×Bs)(b:kB):dd (r::b)=frame r.1 r.2++dd b:=by simp[dd]
theorem Bw(k:UInt8)(b:Bs):(dd [(k,b)]).length=b.length+9:=by simp[dd,bL]
theorem gX(q:kB):∀(r:kB) (a:Nat) (s:PSt),nH a s (r++q)=(nH a s r).bind (fun s'=>nH (a+(dd r).length) s' q)
 | [],a,s=>by simp[nH,dd]
 | x::r,a,s=>by
  simp only[List.cons_append,nH,Option.bind_assoc,mr,List.length_append,bL]
  congr 1
  funext s'
  rw[gX q r]
  congr 1
  funext t
  rw[Nat.add_assoc]
theorem pG(n:Nat):cG (aq n)=none:=by
 unfold cG;split
 ·rfl
 ·rw[if_pos];unfold aq
  cases n with
  | zero=>rfl
  | succ n=>simp[List.replicate_succ]
theorem vX{rs:kB}(h:AQ rs){z:Nat}{at_:Nat}{s:PSt}(hr:Reach (dd rs++aq z) at_ s):∃a b,rs=a++b/\at_=(dd a).length/\nH 0 ⟨[],[],[]⟩ a=some s:=by
 induction hr with
 | zero=>exact⟨[],rs,rfl,rfl,rfl⟩
 | @next at_ s s' k body n _ ho hs ih =>
  obtain⟨a,b,rfl,rfl,hrun⟩:=ih;rw[ey,List.append_assoc,List.drop_left]at ho
  cases b with
  | nil=>rw[show dd []=[]from rfl,List.nil_append,pG]at ho;cases ho
  | cons r b =>
   have hk:=h r (by simp);rw[mr,List.append_assoc,ku _ _ _ hk.1 hk.2]at ho;simp only[Option.some.injEq,Prod.mk.injEq]at ho;obtain⟨rfl,rfl,rfl⟩:=ho;exact⟨a++[r],b,by simp,by rw[ey,List.length_append,Bw],by rw[gX,hrun];simp[nH,hs]⟩
theorem E4{rs:kB}(h:AQ rs){z at_:Nat}{s t:PSt}(hr:Reach (dd rs++aq z) at_ s)(hf:rH (dd rs++aq z) at_ s)(ht:nH 0 ⟨[],[],[]⟩ rs=some t):at_=(dd rs).length/\s=t:=by
 obtain⟨a,b,rfl,rfl,hrun⟩:=vX h hr
 cases b with
 | nil =>
  rw[List.append_nil]at ht ⊢;rw[hrun]at ht;exact⟨rfl,Option.some.inj ht⟩
 | cons r b =>
  have hk:=h r (by simp);have h1:=hf r.1 r.2 (r.2.length+9) (by rw[ey,List.append_assoc,List.drop_left,mr,List.append_assoc,ku _ _ _ hk.1 hk.2]);rw[gX,hrun]at ht;simp[nH,h1]at ht
def dg(h:HV):Nat×Nat×List (Nat×Nat)×Int:=(h.num,h.size,h.chs,h.held)
def bS(V:VerL):Nat×Nat×List (Nat×Nat)×Int:=(V.num,V.size,V.chs,V.held)
structure Cnt (at_:Nat) (s:PSt):Prop where
 n:9*(s.K.length+s.H.length+s.T.length)<=at_
 held:∀h∈s.H,9*h.held.natAbs<=at_
 size:∀h∈s.H,h.p.length<=255/\h.num<4294967296/\h.size<=65535/\h.chs.length<=65536
 tag:∀t∈s.T,t.1.length<=255/\t.2.1.length<=255/\0<=t.2.2/\t.2.2<4294967296
structure CtOk (D:Bs) (X:ArchL) (ps:List bl) (pc:Nat) (cs:List ll) (cc:Nat) (ts:List ib) (tc:Nat) (sz:List (Ent Int)) (szc:Nat) (at_:Nat) (s:PSt):Prop where
 reach:Reach D at_ s
 le:at_<=D.length
 cnt:Cnt at_ s
 paths:PathsOk ps pc
 chunks:ChunksOk cs cc
 tags:TagsOk ts tc
 kin:∀k,(aY cs k).Perm ((s.K.filter (fun e=>decide (ff e.1=k))).map (·.2))
 kat:∀e∈s.K,e.2.2=e.1.length/\e.1.length<=65535/\ex (D.take at_) e.2.1 e.1
 hist:∀l,(ai ps l).map bS=(s.H.filter (fun h=>decide (h.p=l))).map dg
 nem:∀p∈ps,p.g≠[]
 chsK:∀h∈s.H,(∀q∈h.chs,∃e∈s.K,e.2=q)/\h.size=(h.chs.map (·.2)).sum
 used:X.used=((s.H.map (·.size)).sum:Nat)
 sc:X.sc=s.K.length
 sb:X.sb=((s.K.map (·.1.length)).sum:Nat)
 map:MapOk OkI sz szc
 get:∀k,dW sz k=(lk s.K k).map (fun m=>.int .i64 (m:Nat))
 tagT:ts.map ia=s.T
theorem Am(K:KL)(e:Bs×Nat×Nat)(a:Int):lk (K++[e]) a=(lk K a).or (if(e.2.1:Int)=a then some e.2.2 else none):=by
 unfold lk;rw[List.find?_append]
 cases hf:K.find? (fun e=>decide ((e.2.1:Int)=a))with
 | some x=>simp
 | none =>
  simp only[Option.none_or,Option.map_none,List.find?_cons,List.find?_nil];by_cases h:(e.2.1:Int)=a<;>simp[h]
theorem Fg{K:KL}{n:Nat}(h:∀e∈K,e.2.1<n):lk K n=none:=by
 unfold lk;rw[List.find?_eq_none.2]
 ·rfl
 ·intro e he;have:=h e he;simp;omega
theorem An{K:KL}{a:Int}{s:Nat}(h:lk K a=some s):∃e∈K,e.2=(a.toNat,s):=by
 unfold lk at h
 cases hf:K.find? (fun e=>decide ((e.2.1:Int)=a))with
 | none=>rw[hf]at h;cases h
 | some e =>
  rw[hf]at h;have h1:(e.2.1:Int)=a:=by simpa using List.find?_some hf
  refine⟨e,List.mem_of_find?_eq_some hf,?_⟩;simp only[Option.map_some,Option.some.injEq]at h;rw[<- h,<- h1];rfl
theorem vt{K:KL}:∀{l:List Int} {m:List (Nat×Nat)},dF (lk K) l=some m->∀q∈m,∃e∈K,e.2=q
 | [],m,h,q,hq=>by simp only[dF,Option.some.injEq]at h;subst h;cases hq
 | b::r,m,h,q,hq=>by
  simp only[dF]at h
  cases hb:lk K b with
  | none=>rw[hb]at h;cases h
  | some s =>
   cases hr:dF (lk K) r with
   | none=>rw[hb,hr]at h;cases h
   | some l =>
    rw[hb,hr]at h
    simp only[Option.some.injEq]at h
    subst h
    rcases List.mem_cons.1 hq with rfl|hq
    ·exact An hb
    ·exact vt hr q hq
theorem mK{b c:Bs}{k:UInt8}{body:Bs}{n:Nat}(h:cG b=some (k,body,n))(hc:c.take n=b.take n):cG c=some (k,body,n):=by
 obtain⟨-,hn,hnb,hbody,-⟩:=iR h
 have hlen:n<=c.length:=by
  have:=congrArg List.length hc;rw[List.length_take,List.length_take]at this;omega
 have hg:∀j,j<n->c.getD j 0=b.getD j 0:=fun j hj=>by
  have:=congrArg (fun l=>l[j]?) hc;simp only[List.getElem?_take_of_lt hj]at this;rw[List.getD_eq_getElem?_getD,List.getD_eq_getElem?_getD,this]
 have hd:∀i m,i+m<=n->(c.drop i).take m=(b.drop i).take m:=fun i m hi=>by
  have:=congrArg (fun l=>(l.drop i).take m) hc;simp only[List.drop_take,List.take_take]at this;rwa [Nat.min_eq_left (by omega)]at this
 unfold cG at h;split at h
 ·cases h
 split at h
 ·cases h
 simp only at h;split at h
 ·cases h
 split at h
 ·cases h
 split at h
 ·cases h
 rename_i h1 h2 h3 h4 h5;simp only[Option.some.injEq,Prod.mk.injEq]at h;obtain⟨rfl,hb,rfl⟩:=h;unfold cG;rw[if_neg (by omega),hg 0 (by omega),if_neg h2];simp only;rw[hg 1 (by omega),hg 2 (by omega),hg 3 (by omega),hg 4 (by omega),if_neg h3,if_neg (by omega),hd 5 _ (by omega),hd _ 4 (by omega),if_neg h5,hb]
theorem ex.at_{D body:Bs}{at_ n:Nat}(h:cG (D.drop at_)=some (1,body,n))(hle:at_<=D.length):n=body.length+9/\at_+n<=D.length/\body.length<=65535/\ex (D.take (at_+n)) at_ body:=by
 obtain⟨-,h2,h3,h4,h5⟩:=iR h;rw[List.length_drop]at h3;refine⟨h2,by omega,by omega,by rw[List.length_take];omega,?_⟩;rw[List.drop_take,List.take_take,show min (body.length+9) (at_+n-at_)=n by omega,<- h2];have:=mK (c:=(D.drop at_).take n) h (by rw[List.take_take,Nat.min_self]);rw[this]
theorem ex.grow{D body:Bs}{a b q:Nat}(h:ex (D.take a) q body)(hab:a<=b):ex (D.take b) q body:=by
 have:D.take b=D.take a++(D.drop a).take (b-a):=by
  rw[<- List.take_append_drop a (D.take b),List.take_take,Nat.min_eq_left hab,List.drop_take]
 rw[this];exact h.more
theorem zq(sl:Option Addr)(cap:Nat)(ns:List Int)(x:Int)(w:World)(h:ak w sl (ns.map dq))(hl:ns.length<=1099511627776):
  Calls Tryz.prog 176 #[.slice sl ns.length cap,.int .i64 x] w (fun e w'=>(∃i:Int,e=.returned (.int .i64 i)/\decide (0<=i)=ns.contains x)/\w'=w):=by
 have HH:=qqH h;clear h;go_enter Tryz.func176,Tryz.ntmps176;go_wp2_with fail;go_loopw [8] (fun v wr=>∃k:Nat,k<=ns.length/\v=.int .i64 k/\wr=w/\x∉ns.take k) (fun v _=>ns.length-(intOf v).toNat)
 case atStart=>exact⟨0,Nat.zero_le _,rfl,by first|rfl|trivial,by simp⟩
 case round =>
  obtain⟨k,hk,rfl,rfl,hn⟩:=hrel;by_cases hlt:k<ns.length
  ·obtain⟨g,off,hg,hcell⟩:=HH.out (by rw[List.length_map];omega);subst hg;obtain⟨y,hy⟩:∃y,y=ns[k]:=⟨_,rfl⟩;have hck:wr.cell? ⟨g,off+k,none⟩=some (.int .i64 y):=by rw[hcell k (by simpa using hlt)];simp[hy,dq]
   have HR:=Hq2 hn hy;clear hn hy hcell;by_cases c1:x=y
   ·go_wp2_with fail;refine bodyPost_ret (results_tmp rfl _ _ _) rfl ?_;refine⟨⟨k,rfl,?_⟩,by first|rfl|trivial⟩;have:x∈ns:=by rw[c1,HR.z];exact List.getElem_mem hlt
    simp[this]
   ·have hrel:x∉ns.take (k+1):=by rw[List.take_succ_eq_append_getElem hlt,List.mem_append,List.mem_singleton,<- HR.z];exact fun h=>h.elim HR.a c1
    have HREL:=qqH hrel;clear hrel;go_wp2_with fail;go_roundw
    case rel=>exact⟨k+1,by omega,by go_num,by first|rfl|trivial,HREL.out⟩
    case measure=>simp[intOf];omega
  ·obtain rfl:k=ns.length:=by omega
   rw[List.take_length]at hn;go_wp2_with fail;refine bodyPost_ret (results_tmp rfl _ _ _) rfl ?_;exact⟨⟨-1,rfl,by simp[hn]⟩,by first|rfl|trivial⟩
theorem sw(sl:Option Addr)(cap:Nat)(ns:List Int)(x:Int)(w:World)(h:ak w sl (ns.map dq))(hl:ns.length<=1099511627776):
  Calls Tryz.prog 161 #[.slice sl ns.length cap,.int .i64 x] w (fun e w'=>e=.returned (.bool (ns.contains x))/\w'=w):=by
 have HI:=qqH (zq sl cap ns x w h hl);clear h;go_enter Tryz.func161,Tryz.ntmps161;go_wp2_with fail;refine HI.out.mono ?_;rintro e w1 ⟨⟨i,rfl,hi⟩,rfl⟩;have HC:=qqH hi;clear hi;by_cases c1:0<=i
 ·go_wp2_with fail;refine bodyPost_ret (results_tmp rfl _ _ _) rfl ?_;rw[<- HC.out];simp[c1]
 ·go_wp2_with fail;refine bodyPost_ret (results_tmp rfl _ _ _) rfl ?_;rw[<- HC.out];simp[]
def iV(X:ArchL)(u:Int):ArchL:={ X with used:=u }
def goB(ns:List Int)(V:VerL):Bool:=ns.contains (V.num:Int)
def gw(ns:List Int)(V:VerL):Bool:=!goB ns V
def bP(ns:List Int)(vs:List VerL):Nat:=((vs.filter (goB ns)).map (·.size)).sum
structure DelEnv (a g nb cb:Nat) (sl:Option Addr) (cap2:Nat) (ns:List Int) (vs:List VerL) (W:World):Prop where
 ag:a≠g
 vs:∀V∈vs,V.blk≠a/\V.blk≠g/\W.heap[V.blk]?=some (dy V)
 nb:nb≠a/\nb≠g/\W.heap[nb]?=some (.cells #[.slice sl ns.length cap2] 171 (0,0))
 cb:cb≠a/\cb≠g/\W.heap[cb]?=some (.cells #[.pointer (some ⟨a,0,none⟩)] 258 (0,0))
 ns:ak W sl (ns.map dq)
 nsb:∀x,sl=some x->x.block≠a/\x.block≠g
theorem DelEnv.keep{a g nb cb:Nat}{sl:Option Addr}{cap2:Nat}{ns:List Int}{vs:List VerL}{W W':World}(h:DelEnv a g nb cb sl cap2 ns vs W)(hm:Mods (fun k=>k=a\/k=g) W W'):DelEnv a g nb cb sl cap2 ns vs W' where
 ag:=h.ag
 vs:=fun V hV=>by
  obtain⟨h1,h2,h3⟩:=h.vs V hV
  exact⟨h1,h2,hm.at h3 (by rintro(h|h);exact h1 h;exact h2 h)⟩
 nb:=⟨h.nb.1,h.nb.2.1,hm.at h.nb.2.2 (by rintro(k|k);exact h.nb.1 k;exact h.nb.2.1 k)⟩
 cb:=⟨h.cb.1,h.cb.2.1,hm.at h.cb.2.2 (by rintro(k|k);exact h.cb.1 k;exact h.cb.2.1 k)⟩
 ns:=h.ns.keep hm (fun g' off e=>by
  have:=h.nsb _ e
  rintro(k|k);exact this.1 k;exact this.2 k)
 nsb:=h.nsb
def Hu(a:Nat)(X:ArchL)(u:Int)(ns:List Int)(V:VerL)(w:World)(e:Ending)(w':World):Prop :=
 e=.returned (.bool (goB ns V))/\Mods (fun k=>k=a) w w'/\w'.heap[a]?=some (aO (iV X (u-(if goB ns V then V.size else 0:Nat))))
theorem yY(a nb cb:Nat)(X:ArchL)(u:Int)(V:VerL)(sl:Option Addr)(cap2:Nat)(ns:List Int)(w:World)(ha:w.heap[a]?=some (aO (iV X u)))(hv:w.heap[V.blk]?=some (dy V))(hn:w.heap[nb]?=some (.cells #[.slice sl ns.length cap2] 171 (0,0)))(hc:w.heap[cb]?=some (.cells #[.pointer (some ⟨a,0,none⟩)] 258 (0,0)))(hs:ak w sl (ns.map dq))(hl:ns.length<=1099511627776)(hu : -2305843009213693952<=u/\u<=2305843009213693952)(hsz:V.size<=2305843009213693952):
  Calls Tryz.prog 160 #[.pointer (some ⟨V.blk,0,none⟩),.pointer (some ⟨nb,0,none⟩),.pointer (some ⟨cb,0,none⟩)] w (Hu a X u ns V w):=by
 have n0:w.cell? ⟨nb,0,none⟩=some (.slice sl ns.length cap2):=aa hn 0 rfl;have v0:w.cell? ⟨V.blk,0,none⟩=some (.int .i64 V.num):=aa hv 0 rfl;have HW:=qqH (show IntKind.i64.wrap (u-V.size)=u-V.size from IntWalk.i64_in _ (by omega));obtain⟨gb,hgb⟩:∃gb,gb=goB ns V:=⟨_,rfl⟩;have HCo:=qqH (fun n=>(show Calls Tryz.prog 161 #[.slice sl ns.length cap2,.int .i64 V.num] (w.drewN n) (fun e w'=>e=.returned (.bool gb)/\w'=w.drewN n) by rw[hgb];exact sw sl cap2 ns V.num _ hs hl));have HH:=Hq5 ha hv hc hs hgb;have HM:=qqH (show Tryz.prog.follows .mixedOrders=true by kernel_rfl);clear ha hv hn hc hs hgb;go_enter Tryz.func160,Tryz.ntmps160;go_wp2_with fail;go_quiet ((go_at_call 161;exact(HCo.out _).mono (fun e w' ⟨he,hw⟩=>⟨he,_,hw⟩)))
 cases gb with
 | false =>
  go_wp2_with fail;refine bodyPost_ret (results_tmp rfl _ _ _) rfl ?_;refine⟨by rw[<- HH.w];rfl,(Mods.refl _ w).drewN _,?_⟩;rw[<- HH.w];simpa using HH.a
 | true =>
  go_wp2_with fail;generalize hw1:w.drewN nq=w1;have a5:w1.cell? ⟨a,5,none⟩=some (.int .i64 u):=by rw[<- hw1];exact aa (w:=w) HH.a 5 rfl
  have f5:w1.frozen? ⟨a,5,none⟩=false:=by rw[<- hw1];exact aZ (w:=w) HH.a 5
  have v1:w1.cell? ⟨V.blk,1,none⟩=some (.int .i64 V.size):=by rw[<- hw1];exact aa (w:=w) HH.b 1 rfl
  have c0:w1.cell? ⟨cb,0,none⟩=some (.pointer (some ⟨a,0,none⟩)):=by rw[<- hw1];exact aa (w:=w) HH.c 0 rfl
  have H1:=qqH hw1;clear hw1;refine wp_region_still_tail 11 HM.out (by kernel_rfl) ?_;simp only[List.take_succ_cons,List.take_zero,List.drop_succ_cons,List.drop_zero];repeat still_step
  refine wpStill_nil ?_;change wpList _ _ _ _ _ w1.drew;go_wp2_with fail;refine bodyPost_ret (results_tmp rfl _ _ _) rfl ?_;have ho:w1.heap[a]?=some (aO (iV X u)):=by rw[<- H1.out];exact HH.a
  refine⟨by rw[<- HH.w];rfl,?_,?_⟩
  ·refine(Mods.set1 ?_ _).drew;rw[<- H1.out];exact(Mods.refl _ w).drewN _
  ·refine(bt ho 5 _).trans ?_;rw[<- HH.w];rfl
theorem xe(ns:List Int)(vs:List VerL)(V:VerL):bP ns (vs++[V])=bP ns vs+(if goB ns V then V.size else 0):=by
 unfold bP;rw[List.filter_append]
 cases h:goB ns V<;>simp[h]
theorem BK(ns:List Int)(vs:List VerL):bP ns vs<=(vs.map (·.size)).sum:=by
 induction vs with
 | nil=>simp[bP]
 | cons V r ih =>
  unfold bP at ih ⊢;rw[List.filter_cons];split<;>simp only[List.map_cons,List.sum_cons]<;>omega
theorem tR(vs:List VerL)(k:Nat):((vs.take k).map (·.size)).sum<=(vs.map (·.size)).sum:=by
 conv=>rhs;rw[<- List.take_append_drop k vs,List.map_append,List.sum_append]
 omega
def qO(u:Int)(vs:List VerL):Prop:=-1152921504606846976<=u/\u<=1152921504606846976/\(vs.map (·.size)).sum<=1152921504606846976/\vs.length<=1099511627776
theorem qO.at_{u:Int}{vs:List VerL}(h:qO u vs)(ns:List Int)(k:Nat)(hk:k<vs.length):(-2305843009213693952<=u-(bP ns (vs.take k):Nat)/\u-(bP ns (vs.take k):Nat)<=2305843009213693952)/\vs[k].size<=2305843009213693952:=by
 have h1:=BK ns (vs.take k);have h2:=tR vs k;have h3:=tR vs (k+1);rw[List.take_succ_eq_append_getElem hk,List.map_append,List.sum_append]at h3;simp only[List.map_cons,List.map_nil,List.sum_cons,List.sum_nil]at h3;obtain⟨a,b,c,d⟩:=h;omega
theorem DelEnv.call{a g nb cb:Nat}{sl:Option Addr}{cap2:Nat}{ns:List Int}{vs:List VerL}{W:World}(h:DelEnv a g nb cb sl cap2 ns vs W){X:ArchL}{u:Int}(hu:qO u vs)(hl:ns.length<=1099511627776){k:Nat}(hk:k<vs.length)(ha:W.heap[a]?=some (aO (iV X (u-(bP ns (vs.take k):Nat))))):
  Calls Tryz.prog 160 #[.pointer (some ⟨vs[k].blk,0,none⟩),.pointer (some ⟨nb,0,none⟩),.pointer (some ⟨cb,0,none⟩)] W (fun e w'=>e=.returned (.bool (goB ns vs[k]))/\Mods (fun k=>k=a) W w'/\w'.heap[a]?=some (aO (iV X (u-(bP ns (vs.take (k+1)):Nat))))):=by
 obtain⟨h1,h2⟩:=hu.at_ ns k hk;refine(yY a nb cb X _ vs[k] sl cap2 ns W ha (h.vs _ (List.getElem_mem hk)).2.2 h.nb.2.2 h.cb.2.2 h.ns hl h1 h2).mono ?_;rintro e w' ⟨rfl,hm,hh⟩;refine⟨rfl,hm,?_⟩;rw[hh,List.take_succ_eq_append_getElem hk,xe];congr 3;omega
def Hw(a:Nat)(X:ArchL)(u:Int)(ns:List Int)(vs:List VerL)(w:World)(e:Ending)(w':World):Prop :=
 ∃k,k<=vs.length/\(∀V∈vs.take k,goB ns V=false)/\((∃h:k<vs.length,goB ns vs[k]=true/\e=.returned (.int .i64 (k:Nat)))\/(k=vs.length/\e=.returned (.int .i64 (-1))))/\Mods (fun k=>k=a) w w'/\w'.heap[a]?=some (aO (iV X (u-(bP ns (vs.take (k+1)):Nat))))
theorem rx(a g nb cb:Nat)(X:ArchL)(u:Int)(vs:List VerL)(pl:Option Addr)(cap:Nat)(sl:Option Addr)(cap2:Nat)(ns:List Int)(w:World)(hE:DelEnv a g nb cb sl cap2 ns vs w)(ha:w.heap[a]?=some (aO (iV X u)))(hp:ak w pl (vs.map dz))(hpb:∀x,pl=some x->x.block≠a)(hu:qO u vs)(hl:ns.length<=1099511627776):
  Calls Tryz.prog 175 #[.slice pl vs.length cap,.func (.func 160) #[] #[.pointer (some ⟨nb,0,none⟩),.pointer (some ⟨cb,0,none⟩)]] w (Hw a X u ns vs w):=by
 have hvl:=hu.2.2.2;have HH:=Hq5 hE ha hp hpb hu;clear hE ha hp hpb hu;go_enter Tryz.func175,Tryz.ntmps175;go_wp2_with fail;go_loopw [8] (fun v wr=>∃k:Nat,k<=vs.length/\v=.int .i64 k/\Mods (fun k=>k=a) w wr/\wr.heap[a]?=some (aO (iV X (u-(bP ns (vs.take k):Nat))))/\∀V∈vs.take k,goB ns V=false) (fun v _=>vs.length-(intOf v).toNat)
 case atStart=>exact⟨0,Nat.zero_le _,rfl,Mods.refl _ _,by rw[HH.b,List.take_zero];simp[bP],by simp⟩
 case round =>
  obtain⟨k,hk,rfl,hm,hh,hn⟩:=hrel;by_cases hlt:k<vs.length
  ·obtain⟨g',off,hg,hcell⟩:=HH.c.keep hm (fun g off e=>HH.d _ e) (by rw[List.length_map];omega);subst hg;have hck:wr.cell? ⟨g',off+k,none⟩=some (dz vs[k]):=by rw[hcell k (by simpa using hlt)];simp
   unfold dz at hck;obtain⟨V,hV⟩:∃V,V=vs[k]:=⟨_,rfl⟩;obtain⟨gb,hgb⟩:∃gb,gb=goB ns V:=⟨_,rfl⟩;have hc:=(HH.a.keep (hm.mono (fun _ h=>.inl (.inl h)))).call HH.w hl hlt hh;rw[<- hV]at hc hck;rw[<- hgb]at hc;have HC:=qqH hc;have HR:=Hq4 hm hn hV hgb;clear hm hh hn hcell hc hV hgb;go_wp2_with fail;refine HC.out.mono ?_;rintro e w2 ⟨rfl,hm2,hh2⟩;have hm3:Mods (fun k=>k=a) w w2:=HR.a.trans hm2;have H2:=Hq2 hm3 hh2;clear hm2 hh2 hm3
   cases gb with
   | true =>
    go_wp2_with fail;refine bodyPost_ret (results_tmp rfl _ _ _) rfl ?_;exact⟨k,by omega,HR.b,.inl ⟨hlt,by rw[<- HR.c,<- HR.x],rfl⟩,H2.a,H2.z⟩
   | false =>
    go_wp2_with fail;go_roundw
    case rel =>
     refine⟨k+1,by omega,by go_num,H2.a,H2.z,?_⟩;rw[List.take_succ_eq_append_getElem hlt];intro V hV;rcases List.mem_append.1 hV with hV|hV
     ·exact HR.b V hV
     ·rw[List.mem_singleton.1 hV,<- HR.c,<- HR.x]
    case measure=>simp[intOf];omega
  ·obtain rfl:k=vs.length:=by omega
   have HR:=Hq3 hm hh hn;clear hm hh hn;go_wp2_with fail;refine bodyPost_ret (results_tmp rfl _ _ _) rfl ?_;have h2:=HR.b;rw[List.take_length]at h2;exact⟨vs.length,by omega,HR.y,.inr ⟨rfl,rfl⟩,HR.a,by rw[List.take_of_length_le (by omega)];exact h2⟩
theorem Hr(w:World):(zeroValue 149).run Tryz.prog w=.ok (.pointer none) w:=by kernel_rfl
def Fx(a g:Nat)(X:ArchL)(u:Int)(vs:List VerL)(cap:Nat)(ns:List Int)(w:World)(e:Ending)(w':World):Prop :=
 ∃cur:List Value,e=.returned (.slice (some ⟨g,0,none⟩) (vs.filter (gw ns)).length cap)/\Mods (fun k=>k=a\/k=g) w w'/\w'.heap[a]?=some (aO (iV X (u-(bP ns vs:Nat))))/\w'.heap[g]?=some (.cells cur.toArray 149 (0,0))/\cur.length=cap/\cur.take (vs.filter (gw ns)).length=(vs.filter (gw ns)).map dz
def Fy(a g:Nat)(X:ArchL)(u:Int)(vs:List VerL)(cap:Nat)(ns:List Int)(w:World)(s5 s6 _s7:Value)(W:World):Prop :=
 ∃(i j:Nat) (cur:List Value),s5=.int .i64 i/\s6=.int .i64 j/\i=((vs.take j).filter (gw ns)).length/\i<j/\j<=vs.length/\Mods (fun k=>k=a\/k=g) w W/\W.heap[a]?=some (aO (iV X (u-(bP ns (vs.take j):Nat))))/\W.heap[g]?=some (.cells cur.toArray 149 (0,0))/\cur.length=cap/\cur.take i=((vs.take j).filter (gw ns)).map dz/\∀m (h:m<vs.length),j<=m->cur[m]?=some (dz vs[m])
theorem qm(a g nb cb:Nat)(X:ArchL)(u:Int)(vs:List VerL)(cap:Nat)(cur:List Value)(sl:Option Addr)(cap2:Nat)(ns:List Int)(w:World)(hE:DelEnv a g nb cb sl cap2 ns vs w)(ha:w.heap[a]?=some (aO (iV X u)))(hg:w.heap[g]?=some (.cells cur.toArray 149 (0,0)))(hcl:cur.length=cap)(hct:cur.take vs.length=vs.map dz)(hcap:vs.length<=cap)(hu:qO u vs)(hl:ns.length<=1099511627776):
  Calls Tryz.prog 159 #[.slice (some ⟨g,0,none⟩) vs.length cap,.func (.func 160) #[] #[.pointer (some ⟨nb,0,none⟩),.pointer (some ⟨cb,0,none⟩)]] w (Fx a g X u vs cap ns w):=by
 have hvl:=hu.2.2.2
 have hcu:∀m (h:m<vs.length),cur[m]?=some (dz vs[m]):=fun m h=>by
  have:=congrArg (fun l=>l[m]?) hct;simpa[List.getElem?_take_of_lt h,h]using this
 have hI:=rx a g nb cb X u vs (some ⟨g,0,none⟩) cap sl cap2 ns w hE ha (fun hp=>⟨g,0,rfl,fun j hj=>by
  rw[List.length_map]at hj;have:=aa hg j (v:=dz vs[j]) (by simpa using hcu j hj);simpa using this⟩) (fun x hx=>by simp only[Option.some.injEq]at hx;subst hx;exact fun e=>hE.ag e.symm) hu hl
 have HI:=qqH hI;have HH:=Hq7 hE ha hg hcl hct hu hcu;clear hE ha hg hct hcl hu hI hcu;go_enter Tryz.func159,Tryz.ntmps159;go_wp2_with fail;refine HI.out.mono ?_;rintro e w1 ⟨k,hk,hn,hres,hm1,hh1⟩;have hg1:=hm1.at HH.c (fun e=>HH.a.ag e.symm);rcases hres with⟨hlt,hgk,rfl⟩|⟨rfl,rfl⟩
 ·have hkeep:(vs.take k).filter (gw ns)=vs.take k:=List.filter_eq_self.2 (fun V hV=>by simp[gw,hn V hV]);have hk1:(vs.take (k+1)).filter (gw ns)=vs.take k:=by rw[List.take_succ_eq_append_getElem hlt,List.filter_append,hkeep];simp[gw,hgk]
  have hst:Fy a g X u vs cap ns w (.int .i64 k) (.int .i64 (k+1:Nat)) undef w1:=⟨k,k+1,cur,rfl,rfl,by rw[hk1,List.length_take];omega,by omega,hlt,hm1.mono (fun _ h=>.inl (.inl h)),hh1,hg1,HH.d,by
   rw[hk1,List.map_take,<- HH.e,List.take_take];congr 1;omega,fun m h _=>HH.u m h⟩
  have H1:=qqH hst;have hk1m:((k:Int) == -1)=false:=by simp
  have hkm:¬(k:Int)=-1:=by omega
  clear hst hk1 hkeep hgk hn hm1 hh1 hg1;go_wp2_with fail;go_loopw [5,6,7] (fun s5 s6 s7 wr=>Fy a g X u vs cap ns w s5 s6 s7 wr) (fun _ s6 _ _=>vs.length-(intOf s6).toNat)
  case atStart=>exact H1.out
  case round =>
   obtain⟨i,j,cu,rfl,rfl,hi,hij,hj,hm,hh,hg,hcl,hct,hcu⟩:=hrel;by_cases hjl:j<vs.length
   ·obtain⟨V,hV⟩:∃V,V=vs[j]:=⟨_,rfl⟩;have hck:wr.cell? ⟨g,j,none⟩=some (dz V):=aa hg j (by rw[hV];simpa using hcu j hjl (Nat.le_refl _));unfold dz at hck;obtain⟨old,hold⟩:∃old,wr.cell? ⟨g,i,none⟩=some old:=⟨cu[i],aa hg i (by simp)⟩;have hfr:=aZ hg i;have hc:=(HH.a.keep hm).call HH.f hl hjl hh;obtain⟨gb,hgb⟩:∃gb,gb=goB ns V:=⟨_,rfl⟩;rw[<- hV]at hc;rw[<- hgb]at hc;have HC:=qqH hc;have HR:=Hq8 hm hg hcl hct hcu hV hgb hi;clear hm hh hg hcl hct hcu hc hV hgb hi;go_wp2_with fail;refine HC.out.mono ?_;rintro e w2 ⟨rfl,hm2,hh2⟩;have hg2:=hm2.at HR.b (fun e=>HH.a.ag e.symm);have hold2:w2.cell? ⟨g,i,none⟩=some old:=by rw[<- hold];exact World.cell?_of_block (hm2.block g (ah HR.b) (fun e=>HH.a.ag e.symm))
    have hfr2:=aZ hg2 i;have hm3:Mods (fun k=>k=a\/k=g) w w2:=HR.a.trans (hm2.mono (fun _ h=>.inl (.inl h)));have H2:=Hq3 hg2 hm3 hh2;clear hg2 hm3 hh2 hm2 hck hold hfr
    cases gb with
    | true =>
     go_wp2_with fail;go_roundw
     case rel =>
      refine⟨i,j+1,cu,rfl,by go_num,?_,by omega,hjl,H2.b,H2.y,H2.a,HR.c,?_,fun m h hjm=>HR.e m h (by omega)⟩
      all_goals
       rw[List.take_succ_eq_append_getElem hjl,List.filter_append,<- HR.f];simp only[List.filter_cons,List.filter_nil,gw,<- HR.g,Bool.not_true,Bool.false_eq_true,if_false,List.append_nil]
      ·exact HR.t
      ·exact HR.d
     case measure=>simp[intOf];omega
    | false =>
     go_wp2_with fail;go_roundw
     case rel =>
      have hkV:gw ns V=true:=by simp[gw,<- HR.g]
      have hf:(vs.take (j+1)).filter (gw ns)=(vs.take j).filter (gw ns)++[V]:=by
       rw[List.take_succ_eq_append_getElem hjl,List.filter_append,<- HR.f];simp[hkV]
      have hs:=bt H2.a i (dz V);rw[List.setIfInBounds_toArray]at hs;have hil:i<cu.length:=by rw[HR.c];omega
      refine⟨i+1,j+1,cu.set i (dz V),by go_num,by go_num,?_,by omega,hjl,H2.b.setCell (.inl (.inr rfl)) _,?_,hs,by rw[List.length_set];exact HR.c,?_,fun m h hjm=>?_⟩
      ·rw[hf,List.length_append,<- HR.t];rfl
      ·refine Eq.trans ?_ H2.y;exact((Mods.refl (fun k=>k=g) w2).set1 (i:=i) (dz V)).block a (ah H2.y) HH.a.ag
      ·rw[hf,List.map_append,<- HR.d,List.take_succ_eq_append_getElem (by rw[List.length_set];exact hil),List.take_set_of_le (Nat.le_refl i)];simp
      ·rw[List.getElem?_set_ne (by omega)];exact HR.e m h (by omega)
     case measure=>simp[intOf];omega
   ·obtain rfl:j=vs.length:=by omega
    rw[List.take_length]at hh hi hct;have hilc:i<cap:=by omega
    have hCl:∀ty,(Builtin.clear_ #[153] ty #[.slice (some ⟨g,i,none⟩) (vs.length-i) (cap-i)]).run Tryz.prog wr=.ok (.tuple #[]) (wr.setCells g i (List.replicate (vs.length-i) (.pointer none))):=fun ty =>
     Lib.run_clear_slice wr _ _ ty _ Tryz.underlying153 (fun w=>Hr w) rfl rfl g i _ _ (by omega) (fun t ht=>by rw[aa hg (i+t) (v:=cu[i+t]'(by omega)) (by simp)];rfl) (fun t ht=>aZ hg _)
    obtain⟨h1,h2⟩:=iu hg i (List.replicate (vs.length-i) (.pointer none)) (by rw[List.length_replicate];omega);have HR:=Hq7 hm hh h1 h2 hcl hct hi;clear hm hh hg hcl hct hcu h1 h2 hi;go_wp2_with fail;refine bodyPost_ret (results_tmp rfl _ _ _) rfl ?_;refine⟨_,?_,HR.a.trans (HR.d.mono (fun _ h=>.inl (.inr h))),?_,HR.c,?_,?_⟩
    ·rw[<- HR.u];rfl
    ·refine Eq.trans ?_ HR.b;exact HR.d.block a (ah HR.b) HH.a.ag
    ·unfold spl;have:=HR.e;simp only[List.length_append,List.length_take,List.length_replicate,List.length_drop];omega
    ·unfold spl;have:=HR.e;rw[<- HR.u,List.append_assoc,List.take_append_of_le_length (by rw[List.length_take];omega),List.take_take,Nat.min_self];exact HR.f
 ·have hf:vs.filter (gw ns)=vs:=List.filter_eq_self.2 (fun V hV=>by simp[gw,hn V (by rw[List.take_length];exact hV)]);have h2:=hh1;rw[List.take_of_length_le (by omega)]at h2;have HX:=Hq4 hf h2 hg1 hm1;clear hf h2 hn hm1 hh1 hg1;go_wp2_with fail;refine bodyPost_ret (results_tmp rfl _ _ _) rfl ?_;refine⟨cur,?_,HX.x.mono (fun _ h=>.inl (.inl h)),HX.b,HX.c,HH.d,?_⟩
  ·rw[HX.a];rfl
  ·rw[HX.a];exact HH.e
end
section
open Go.RowKit Go.Maps
open Go.ChangeMaps (setBlock)
theorem Turns.put2{A w w':World}{F G:HF}{a g:Nat}{φ ψ χ:Obj->Prop}{o1 o2:Obj}(h:Turns F ((a,φ)::(g,ψ)::G) A w)(hm:Mods (fun k=>k=a\/k=g) w w')(h1:w'.heap[a]?=some o1)(h2:w'.heap[g]?=some o2)(hχ:χ o2):Turns F ((a,Is o1)::(g,χ)::G) A w':=by
 refine h.trans ⟨hm.mono (fun k hk=>.inl (by rcases hk with rfl|rfl<;>simp)),⟨h.sat.nodup,fun p hp=>?_⟩,fun k hk=>.inl (by simpa using hk)⟩;rcases List.mem_cons.1 hp with rfl|hp
 ·exact⟨_,h1,Is.rfl⟩
 ·rcases List.mem_cons.1 hp with rfl|hp
  ·exact⟨_,h2,hχ⟩
  ·obtain⟨o,ho,hφ⟩:=h.sat.sat p (by simp[hp]);refine⟨o,hm.at ho (fun hk=>?_),hφ⟩;have hn:=h.sat.nodup;simp only[gm,List.nodup_cons,List.mem_cons,not_or]at hn;have hpd:p.1∈dom G:=List.mem_map.2 ⟨p,hp,rfl⟩;rcases hk with e|e
   ·exact hn.1.2 (e ▸ hpd)
   ·exact hn.2.1 (e ▸ hpd)
theorem sv{F G:HF}(h:F.Perm G)(x:Nat×(Obj->Prop)):cnt x F=cnt x G:=by unfold cnt;exact h.countP_eq _
def dK(ns:List Int)(vs:List VerL):List VerL:=vs.filter (gw ns)
def ge(ps:List bl)(c:Nat)(p:Bs)(v:Value)(ns:List Int):List bl:=if dK ns (ai ps p)=[]then bI ps p else eO ps c p v (dK ns (ai ps p))
theorem BI{γ:Type}(d:γ)(ps:List (GE γ))(l m:Bs):gOf d (bI ps l) m=if m=l then d else gOf d ps m:=by
 unfold gOf bI;rw[List.find?_filter];by_cases h:m=l
 ·subst h;rw[if_pos rfl,List.find?_eq_none.2 (by simp)]
 ·rw[if_neg h];congr 2;funext p;by_cases hp:p.key=m
  ·simp[hp,h]
  ·simp[hp]
theorem ow(ps:List bl)(c:Nat)(p:Bs)(v:Value)(ns:List Int)(l:Bs):ai (ge ps c p v ns) l=if l=p then dK ns (ai ps p)else ai ps l:=by
 unfold ge;split
 ·rename_i h;rw[h];exact BI [] ps p l
 ·exact pB [] ps c p l v _
theorem ED(ns:List Int)(vs:List VerL):(vs.flatMap bT).Perm ((dK ns vs).flatMap bT++(vs.filter (fun V => !gw ns V)).flatMap bT):=by
 rw[<- List.flatMap_append];exact(List.filter_append_perm (gw ns) vs).symm.flatMap_right _
theorem jz{ps:List bl}{p:Bs}(h:ai ps p≠[]):∃q∈ps,q.key=p/\ai ps p=q.g:=by
 unfold ai gOf at h ⊢
 cases hf:ps.find? (fun q=>decide (q.key=p))with
 | none=>rw[hf]at h;exact absurd rfl h
 | some q=>exact⟨q,List.mem_of_find?_eq_some hf,by simpa using List.find?_some hf,rfl⟩
theorem yZ{ps:List bl}{c:Nat}(h:PathsOk ps c){p:Bs}(hl:OkS p){v:Value}{ns:List Int}(hv:et v (dK ns (ai ps p)))(hne:ai ps p≠[]):PathsOk (ge ps c p v ns) c:=by
 obtain⟨q,hq,hqk,hqg⟩:=jz hne;have hpl:∀V∈ai ps p,bQ V.cv V.chs:=by rw[hqg];exact(h.rows q hq).2
 unfold ge;split
 ·exact⟨by rw[mt];exact h.map.del p,fun x hx=>h.rows x (List.mem_filter.1 hx).1⟩
 ·have hc:cD (ps.map aN) c p=c:=by
   unfold cD;rw[if_pos (kZ.2 ⟨aN q,List.mem_map.2 ⟨q,hq,rfl⟩,hqk⟩)]
  have:=h.map.put hl v;rw[hc]at this;refine⟨by rw[iv];exact this,fun x hx=>?_⟩;rcases fh hx with⟨h1,_⟩|⟨h1,h2,h3⟩
  ·exact h.rows x h1
  ·refine⟨by rw[h2,h3];exact hv,fun V hV=>?_⟩;rw[h3]at hV;exact hpl V (List.mem_filter.1 hV).1
theorem vA{ps:List bl}{c:Nat}{p:Bs}{v:Value}{ns:List Int}(h:∀q∈ps,q.g≠[]):∀q∈ge ps c p v ns,q.g≠[]:=by
 unfold ge;split
 ·exact fun x hx=>h x (List.mem_filter.1 hx).1
 ·rename_i hk;intro x hx;rcases fh hx with⟨h1,_⟩|⟨_,_,h3⟩
  ·exact h x h1
  ·rw[h3];exact hk
def Fz(a:Nat)(X:ArchL)(ps:List bl)(pc:Nat)(p:Bs)(v:Value)(ns:List Int)(w:World)(e:Ending)(w':World):Prop :=
 ∃v',e=.returned (.tuple #[])/\et v' (dK ns (ai ps p))/\Turns ((a,Is (aO X))::(aU X.pm ps pc++bZ v ns)) ((a,Is (aO (iV X (X.used-(bP ns (ai ps p):Nat)))))::(aU X.pm (ge ps pc p v' ns) pc++bZ v ns)) w w'
theorem sD(a:Nat)(X:ArchL)(ps:List bl)(pc:Nat)(p:Bs)(v:Value)(ns:List Int)(w:World)(h:Sat w ((a,Is (aO X))::(aU X.pm ps pc++bZ v ns)))(hio:iOk v ns)(hok:PathsOk ps pc)(hl:OkS p)(hne:ai ps p≠[])(hu:qO X.used (ai ps p))(hnl:ns.length<=1099511627776):
  Calls Tryz.prog 140 #[.pointer (some ⟨a,0,none⟩),str p,v] w (Fz a X ps pc p v ns w):=by
 obtain⟨F1,hF1⟩:∃F1,F1=(a,Is (aO X))::(aU X.pm ps pc++bZ v ns):=⟨_,rfl⟩
 have hT0:Turns F1 (c8 (eE (.slice none 0 0) ps p) (ai ps p)++((a,Is (aO X))::(X.pm,Is (aR str (ps.map aN) pc))::(dP ps p++bZ v ns))) w w:=by
  rw[hF1];refine(Turns.refl h).to ?_;have hp:=kw p (by rw[<- eL];exact hok.map.nodup);unfold aU;refine(List.Perm.cons _ ((List.Perm.cons _ hp).append_right _)).trans ?_;exact af
 have hrow:=aW hT0.sat.left (tu hok p);obtain⟨v0,hv0⟩:∃v0,v0=eE (.slice none 0 0) ps p:=⟨_,rfl⟩;obtain⟨vs,hvs⟩:∃vs,vs=ai ps p:=⟨_,rfl⟩;rw[<- hv0,<- hvs]at hT0 hrow;rw[<- hvs]at hne hu;rcases hrow.2 with⟨-,h0⟩|⟨g,cap,cur,e1,-,hg,hc1,hc2,hc3,hc4⟩
 ·exact absurd (List.length_eq_zero_iff.1 h0) hne
 obtain⟨sl,cap2,e2,-,hcp2,hcs,hcb⟩:=aV (aW (h.sub (G:=bZ v ns) (fun x=>by simp only[aB,an];omega)) hio);subst e2
 have hdg:c8 v0 vs=[(g,fun o=>∃cap cur,v0=.slice (some ⟨g,0,none⟩) vs.length cap/\o=.cells cur 149 (0,0)/\vs.length<=cap/\cap<=maxLen/\cur.size=cap*1/\cur.toList.take (vs.length*1)=vs.map dz)]:=by
  rw[e1];rfl
 rw[hdg]at hT0;subst e1;have hnd:=hT0.sat.nodup;simp only[List.cons_append,List.nil_append,gm,cT,List.nodup_cons,List.mem_cons,List.mem_append,not_or]at hnd
 have hin:∀V∈vs,V.blk∈dom (dP ps p)/\w.heap[V.blk]?=some (dy V):=fun V hV=>by
  have hm:(V.blk,Is (dy V))∈dP ps p:=by
   unfold dP;rw[<- hvs];exact List.mem_append_right _ (List.mem_flatMap.2 ⟨V,hV,by simp[bT]⟩)
  exact⟨List.mem_map.2 ⟨_,hm,rfl⟩,hT0.sat.Q7 (by simp[hm])⟩
 have hal:∀b o,w.heap[b]?=some o->b<w.heap.size:=fun b o h=>ah h
 have ha0:=h.Q5
 have hE:∀(W:World) (nb cb:Nat),aX w W->W.heap[nb]?=some (.cells #[.slice sl ns.length cap2] 171 (0,0))->W.heap[cb]?=some (.cells #[.pointer (some ⟨a,0,none⟩)] 258 (0,0))->w.heap.size<=nb->w.heap.size<=cb->DelEnv a g nb cb sl cap2 ns vs W:=fun W nb cb hs h1 h2 h3 h4=>by
  have la:=hal _ _ ha0;have lg:=hal _ _ hg;refine⟨fun e=>hnd.1.1 e.symm,fun V hV=>?_,⟨by omega,by omega,h1⟩,⟨by omega,by omega,h2⟩,hcs.keep hs (fun _ _ _=>id),fun x hx=>?_⟩
  ·obtain⟨k1,k2⟩:=hin V hV;exact⟨fun e=>hnd.2.1.2.1 (e ▸ k1),fun e=>hnd.1.2.2.1 (e ▸ k1),hs.at k2 id⟩
  ·have hx2:=(ga 3 1 ns.length _ (ns.map dq) x.block).2 (hcb x hx);exact⟨fun e=>hnd.2.1.2.2 (e ▸ hx2),fun e=>hnd.1.2.2.2 (e ▸ hx2)⟩
 have hmf:∀(fn:Fn) (first cap:Array Value) (w:World),(Instr.makeFunc fn first cap).run Tryz.prog w=.ok (.func fn first cap) w:=fun _ _ _ _=>rfl
 have HH:=qqH (And.intro hT0 (And.intro hE (And.intro ha0 (And.intro hg (And.intro hok (And.intro hl (And.intro hu (And.intro hv0 (And.intro hvs (And.intro hF1 (And.intro hc3 hc4)))))))))));have lg0:=hal _ _ hg;have HL:=Hq3 hc1 hc2 lg0;have hla:=hal _ _ ha0;clear lg0 h hio hT0 hE ha0 hg hok hl hu hv0 hvs hF1 hc3 hc4 hnd hin hal hcs hcb hrow hdg hne hc1 hc2 hcp2;go_enter Tryz.func140,Tryz.ntmps140;go_upto_region 1 with(fail);obtain⟨W,hW⟩:∃W,W=(w.alloc (.cells #[.pointer (some ⟨a,0,none⟩)] 258)).alloc (.cells #[.slice sl ns.length cap2] 171):=⟨_,rfl⟩;have hs:aX w W:=by rw[hW];exact((Mods.refl _ w).alloc _).alloc _
 have hcbo:W.heap[w.heap.size]?=some (.cells #[.pointer (some ⟨a,0,none⟩)] 258 (0,0)):=by rw[hW];exact((Mods.refl (fun _=>False) _).alloc _).at (aM w _) id
 have hnbo:W.heap[w.heap.size+1]?=some (.cells #[.slice sl ns.length cap2] 171 (0,0)):=by
  rw[hW];have:=aM (w.alloc (.cells #[.pointer (some ⟨a,0,none⟩)] 258)) (.cells #[.slice sl ns.length cap2] 171);rwa [World.size_alloc]at this
 have c0:W.cell? ⟨w.heap.size,0,none⟩=some (.pointer (some ⟨a,0,none⟩)):=aa hcbo 0 rfl;have hla2:a<W.heap.size:=Nat.lt_of_lt_of_le hla hs.size;have a0:W.cell? ⟨a,0,none⟩=some (.map (some X.pm)):=aa (hs.at HH.c id) 0 rfl;have hg2:=hs.at HH.d id;have hT2:=HH.a.Q9 hs;have hTa:=hT2.to (H:=(a,Is (aO X))::(g,fun o=>∃cap_1 cur,Value.slice (some ⟨g,0,none⟩) vs.length cap=.slice (some ⟨g,0,none⟩) vs.length cap_1/\o=.cells cur 149 (0,0)/\vs.length<=cap_1/\cap_1<=maxLen/\cur.size=cap_1*1/\cur.toList.take (vs.length*1)=vs.map dz)::(X.pm,Is (aR str (ps.map aN) pc))::(dP ps p++bZ (.slice sl ns.length cap2) ns)) af;have hmo:=hT2.sat.Q7 (b:=X.pm) (o:=aR str (ps.map aN) pc) (by simp);have HD:=qqH (qm a g (w.heap.size+1) w.heap.size X X.used vs cap cur.toList sl cap2 ns W (HH.b W _ _ hs hnbo hcbo (by omega) (by omega)) (hs.at HH.c id) (by simpa using hg2) (by have:=HH.out.2.2.2.2.2.2.2.2.2.2.1;simp at this ⊢;exact this) (by have:=HH.out.2.2.2.2.2.2.2.2.2.2.2;rwa [Nat.mul_one]at this) HL.a HH.g hnl);rw[<- hW];have H2:=Hq2 hTa hmo;clear hW hs hcbo hnbo hg2 hT2 hTa hmo;go_wp2_with (at_lookup;refine fX eB rfl _ _ rfl Tryz.underlying119 H2.z HH.e.map (gd _) p rfl rfl HH.f ?_;rw[de,<- HH.h]);refine HD.out.mono ?_;rintro e w3 ⟨cur',rfl,hm3,hh3,hg3,hl3,ht3⟩;have hk3:(vs.filter (gw ns)).length<=vs.length:=List.length_filter_le _ _;have hokv:et (.slice (some ⟨g,0,none⟩) (dK ns vs).length cap) (dK ns vs):=⟨by simp,fun h=>by cases h⟩;have hT3:Turns F1 ((a,Is (aO (iV X (X.used-(bP ns vs:Nat)))))::(c8 (.slice (some ⟨g,0,none⟩) (dK ns vs).length cap) (dK ns vs)++(X.pm,Is (aR str (ps.map aN) pc))::(dP ps p++bZ (.slice sl ns.length cap2) ns))) w w3:=H2.a.put2 hm3 hh3 hg3 ⟨cap,cur'.toArray,rfl,rfl,Nat.le_trans hk3 HL.a,HL.b,by simpa using hl3,by simpa[dK]using ht3⟩;have H3:=Hq2 hokv hT3
 have cbk:w3.cell? ⟨w.heap.size,0,none⟩=some (.pointer (some ⟨a,0,none⟩)):=by
  rw[<- c0];refine World.cell?_of_block (hm3.block _ (World.block_lt_of_cell? W _ c0) ?_);rintro(e|e)
  ·have e':w.heap.size=a:=e;omega
  ·have e':w.heap.size=g:=e;have:=HL.y;omega
 clear hokv hT3 hm3 hh3 hg3 hl3 ht3 hk3 hla2 a0 c0;have hb3:=H3.z.sat;have a0:w3.cell? ⟨a,0,none⟩=some (.map (some X.pm)):=aa hb3.Q5 0 rfl;have c0:w3.cell? ⟨w.heap.size,0,none⟩=some (.pointer (some ⟨a,0,none⟩)):=cbk;by_cases hk:(dK ns vs).length=0
 ·have hk0:dK ns vs=[]:=List.length_eq_zero_iff.1 hk;have hki:(vs.filter (gw ns)).length=0:=hk;have HK:=qqH hk0;clear hk hk0
  have hdel:∀ty,(Builtin.delete_ #[119,9] ty #[.map (some X.pm),str p]).run Tryz.prog w3=.ok (.tuple #[]) (setBlock w3 X.pm (aR str (wW (ps.map aN) p) pc)):=fun ty =>
   Dx eB Tryz.underlying119 (hb3.Q7 (o:=aR str (ps.map aN) pc) (by simp)) HH.e.map HH.f
  have H4:=qqH ((H3.z.to (H:=(X.pm,Is (aR str (ps.map aN) pc))::((a,Is (aO (iV X (X.used-(bP ns vs:Nat)))))::(c8 (.slice (some ⟨g,0,none⟩) (dK ns vs).length cap) (dK ns vs)++(dP ps p++bZ (.slice sl ns.length cap2) ns)))) af).Qa (cQ w3 X.pm (aR str (wW (ps.map aN) p) pc)) (dU (hb3.Q7 (o:=aR str (ps.map aN) pc) (by simp))));clear hb3;go_wp2_with fail;refine bodyPost_ret (results_none rfl _ _ _) rfl ?_;refine⟨.slice none 0 0,rfl,?_,?_⟩
  ·rw[<- HH.out.2.2.2.2.2.2.2.2.1,HK.out];exact⟨rfl,fun _=>⟨rfl,rfl⟩⟩
  ·unfold ge;rw[<- HH.out.2.2.2.2.2.2.2.2.1,if_pos HK.out,<- HH.out.2.2.2.2.2.2.2.2.2.1];unfold aU;rw[mt];exact H4.out.drop (fun x=>by unfold dP;simp only[aB,an];omega)
 ·have hki:¬(vs.filter (gw ns)).length=0:=hk;have HK:=qqH hk;clear hk
  go_wp2_with (first
   | (refine al rfl (pY eB (.tmp 26) (.tmp 27) (.tmp 28) rfl Tryz.underlying119 X.pm _ pc (H3.z.to (H:=(X.pm,Is (aR str (ps.map aN) pc))::((a,Is (aO (iV X (X.used-(bP ns vs:Nat)))))::(c8 (.slice (some ⟨g,0,none⟩) (dK ns vs).length cap) (dK ns vs)++(dP ps p++bZ (.slice sl ns.length cap2) ns)))) af) HH.e.map p (.slice (some ⟨g,0,none⟩) (dK ns vs).length cap) rfl rfl rfl HH.f ?_);intro w4 hT4;have H4:=qqH hT4;clear hT4;simp only[Act.put])
   | fail)
  refine bodyPost_end (results_none rfl _ _ _) rfl ?_;have hvs:=HH.out.2.2.2.2.2.2.2.2.1;have hne:ai ps p≠[]:=fun e=>HK.out (by rw[hvs,e];rfl)
  have hkn:¬dK ns (ai ps p)=[]:=fun e=>HK.out (by rw[hvs,e];rfl)
  obtain⟨q,hq,hqk,-⟩:=jz hne
  have hc:cD (ps.map aN) pc p=pc:=by
   unfold cD;rw[if_pos (kZ.2 ⟨aN q,List.mem_map.2 ⟨q,hq,rfl⟩,hqk⟩)]
  refine⟨.slice (some ⟨g,0,none⟩) (dK ns vs).length cap,rfl,by rw[<- hvs];exact H3.a,?_⟩;have h4:=H4.out;rw[hc]at h4;unfold ge;rw[if_neg hkn,<- hvs,<- HH.out.2.2.2.2.2.2.2.2.2.1];unfold aU;rw[iv];have hp:=tF er ps pc p (.slice (some ⟨g,0,none⟩) (dK ns vs).length cap) (dK ns vs) (by rw[<- eL];exact HH.e.map.nodup);have hkp:=ED ns vs;have ho:dP ps p=fU er (bI ps p)++vs.flatMap bT:=by unfold dP;rw[hvs]
  rw[ho]at h4;unfold er at hp h4 ⊢;refine h4.drop (fun x=>?_);have h1:=sv hp x;have h2:=sv hkp x;simp only[aB,an]at h1 h2 ⊢;omega
def dJ(n d:Int)(V:VerL):VerL:=if(V.num:Int)=n then { V with held:=V.held+d } else V
def dZ(ps:List bl)(p:Bs)(n d:Int):List bl:=ps.map (fun q=>if q.key=p then { q with g:=q.g.map (dJ n d) } else q)
theorem jG(n d:Int)(V:VerL):(dJ n d V).blk=V.blk/\(dJ n d V).cv=V.cv/\(dJ n d V).chs=V.chs/\(dJ n d V).num=V.num/\(dJ n d V).size=V.size:=by
 unfold dJ;split<;>exact⟨rfl,rfl,rfl,rfl,rfl⟩
theorem vM(n d:Int)(vs:List VerL):(vs.map (dJ n d)).map dz=vs.map dz:=by
 rw[List.map_map];refine List.map_congr_left fun V _=>?_
 show dz (dJ n d V)=dz V;unfold dz;rw[(jG n d V).1]
theorem nl(ps:List bl)(p:Bs)(n d:Int):(dZ ps p n d).map aN=ps.map aN:=by
 unfold dZ;rw[List.map_map];refine List.map_congr_left fun q _=>?_
 show aN (if q.key=p then _ else q)=_;split<;>rfl
theorem BO(ps:List bl)(p:Bs)(n d:Int)(l:Bs):(dZ ps p n d).find? (fun q=>decide (q.key=l))=(ps.find? (fun q=>decide (q.key=l))).map (fun q=>if q.key=p then { q with g:=q.g.map (dJ n d) } else q):=by
 unfold dZ;rw[List.find?_map];congr 2;funext q;show decide ((if q.key=p then _ else q).key=l)=_;split<;>rfl
theorem lI(ps:List bl)(p:Bs)(n d:Int)(l:Bs):ai (dZ ps p n d) l=if l=p then(ai ps p).map (dJ n d)else ai ps l:=by
 unfold ai gOf;rw[BO];by_cases h:l=p
 ·subst h;rw[if_pos rfl]
  cases hf:ps.find? (fun q=>decide (q.key=l))with
  | none=>rfl
  | some q =>
   have:q.key=l:=by simpa using List.find?_some hf
   simp[this]
 ·rw[if_neg h]
  cases hf:ps.find? (fun q=>decide (q.key=l))with
  | none=>rfl
  | some q =>
   have:q.key=l:=by simpa using List.find?_some hf
   simp[this,h]
theorem Ez(ps:List bl)(p:Bs)(n d:Int)(z:Value)(l:Bs):eE z (dZ ps p n d) l=eE z ps l:=by
 rw[<- de,<- de,nl]
theorem xi(ps:List bl)(p:Bs)(n d:Int):bI (dZ ps p n d) p=bI ps p:=by
 unfold bI dZ;induction ps with
 | nil=>rfl
 | cons q r ih =>
  rw[List.map_cons,List.filter_cons,List.filter_cons,ih];by_cases h:q.key=p
  ·simp[h]
  ·simp[h]
theorem zn{ps:List bl}{c:Nat}(h:PathsOk ps c)(p:Bs)(n d:Int):PathsOk (dZ ps p n d) c:=by
 refine⟨by rw[nl];exact h.map,fun q hq=>?_⟩;obtain⟨q0,hq0,rfl⟩:=List.mem_map.1 hq;have h0:=h.rows q0 hq0;split
 ·refine⟨?_,fun V hV=>?_⟩
  ·have h1:=h0.1;unfold et at h1 ⊢;rw[vM,List.length_map];exact h1
  ·obtain⟨V0,hV0,rfl⟩:=List.mem_map.1 hV;rw[(jG n d V0).2.1,(jG n d V0).2.2.1];exact h0.2 V0 hV0
 ·exact h0
theorem vL{ps:List bl}{p:Bs}{n d:Int}(h:∀q∈ps,q.g≠[]):∀q∈dZ ps p n d,q.g≠[]:=fun q hq=>by
 obtain⟨q0,hq0,rfl⟩:=List.mem_map.1 hq
 split
 ·exact fun e=>h q0 hq0 (List.map_eq_nil_iff.1 e)
 ·exact h q0 hq0
theorem xt{ps:List bl}(p:Bs)(n d:Int)(h:(ps.map (·.key)).Nodup):(fU er (dZ ps p n d)).Perm (c8 (eE (.slice none 0 0) ps p) (ai ps p)++(fU er (bI ps p)++((ai ps p).map (dJ n d)).flatMap bT)):=by
 have hk:((dZ ps p n d).map (·.key)).Nodup:=by rw[<- eL,nl,eL];exact h
 have:=kw p hk;unfold dP at this;rw[Ez,xi,lI,if_pos rfl]at this;have e:c8 (eE (.slice none 0 0) ps p) ((ai ps p).map (dJ n d))=c8 (eE (.slice none 0 0) ps p) (ai ps p):=by unfold c8;rw[vM,List.length_map]
 rwa [e]at this
def CR(F1 G:HF)(vs:List VerL)(n d:Int)(w:World)(v _v7:Value)(W:World):Prop :=
 ∃k:Nat,k<=vs.length/\v=.int .i64 k/\Turns F1 (((vs.take k).map (dJ n d)).flatMap bT++((vs.drop k).flatMap bT++G)) w W
def xw(m p:Bs)(n:Int):Value:=.agg #[str m,str p,.int .i64 n]
def FC(a:Nat)(X:ArchL)(ps:List bl)(pc:Nat)(p:Bs)(n d:Int)(w:World)(e:Ending)(w':World):Prop :=
 e=.returned (.tuple #[])/\Turns ((a,Is (aO X))::aU X.pm ps pc) ((a,Is (aO X))::aU X.pm (dZ ps p n d) pc) w w'
theorem BP(a:Nat)(X:ArchL)(ps:List bl)(pc:Nat)(m p:Bs)(n d:Int)(w:World)(h:Sat w ((a,Is (aO X))::aU X.pm ps pc))(hok:PathsOk ps pc)(hl:OkS p)(hvl:(ai ps p).length<=1099511627776)(hd : -1<=d/\d<=1)(hh:∀V∈ai ps p,V.held.natAbs<=1099511627776):
  Calls Tryz.prog 145 #[.pointer (some ⟨a,0,none⟩),xw m p n,.int .i64 d] w (FC a X ps pc p n d w):=by
 obtain⟨F1,hF1⟩:∃F1,F1=(a,Is (aO X))::aU X.pm ps pc:=⟨_,rfl⟩;obtain⟨v0,hv0⟩:∃v0,v0=eE (.slice none 0 0) ps p:=⟨_,rfl⟩;obtain⟨vs,hvs⟩:∃vs,vs=ai ps p:=⟨_,rfl⟩;obtain⟨G,hG⟩:∃G,G=(a,Is (aO X))::(X.pm,Is (aR str (ps.map aN) pc))::(c8 v0 vs++fU er (bI ps p)):=⟨_,rfl⟩
 have hT0:Turns F1 (vs.flatMap bT++G) w w:=by
  rw[hF1,hG];refine(Turns.refl h).to ?_;have hp:=kw p (by rw[<- eL];exact hok.map.nodup);unfold dP at hp;rw[<- hv0,<- hvs]at hp;unfold aU;refine(List.Perm.cons _ (List.Perm.cons _ hp)).trans ?_;exact af
 obtain⟨sl,cap,hl1,hl2,hl6,hl3,hl4,-⟩:=gM h.tail hok p;rw[<- hv0,<- hvs]at hl1;rw[<- hvs]at hvl hh hl2 hl3;have a0:w.cell? ⟨a,0,none⟩=some (.map (some X.pm)):=aa h.Q5 0 rfl;have hal:=ah h.Q5;have hmo:=h.tail.Q5;subst hl1;have HH:=qqH (And.intro hT0 (And.intro hok (And.intro hl (And.intro hh (And.intro hv0 (And.intro hvs (And.intro hG (And.intro hF1 (And.intro hmo h)))))))));have HM:=qqH (show Tryz.prog.follows .mixedOrders=true by kernel_rfl);have hval:eE (.slice none 0 0) ps p=.slice sl vs.length cap:=hv0.symm;have hptr:et (.slice sl vs.length cap) vs:=by rw[hv0,hvs];exact tu hok p
 have HP:=Hq2 hptr hval;clear hT0 hok hl hh hv0 hvs hG hF1 hmo h hptr hl3 hl4 hval;unfold xw;go_enter Tryz.func145,Tryz.ntmps145;go_upto_region 1 with(fail);obtain⟨pb,hpb⟩:∃pb,pb=w.heap.size:=⟨_,rfl⟩;obtain⟨W,hW⟩:∃W,W=w.alloc (.cells #[str m,str p,.int .i64 n] 230):=⟨_,rfl⟩;rw[<- hW];have hs:aX w W:=by rw[hW];exact(Mods.refl _ w).alloc _
 have hT1:Turns F1 (vs.flatMap bT++((pb,Is (.cells #[str m,str p,.int .i64 n] 230 (0,0)))::G)) w W:=by
  have:=HH.a.Q8 (.cells #[str m,str p,.int .i64 n] 230);rw[hpb,hW];exact this.to af
 subst hpb;have hbo:=hT1.sat.Q7 (b:=w.heap.size) (o:=.cells #[str m,str p,.int .i64 n] 230 (0,0)) (by simp);have b1:W.cell? ⟨w.heap.size,1,none⟩=some (str p):=aa hbo 1 rfl;have hbl:w.heap.size<W.heap.size:=ah hbo;have a1:W.cell? ⟨a,0,none⟩=some (.map (some X.pm)):=aa (hs.at HH.out.2.2.2.2.2.2.2.2.2.Q5 id) 0 rfl
 have hlk:∀k,(Instr.lookup 119 (.map (some X.pm)) (str p) false).run Tryz.prog (W.drewN k)=.ok (.slice sl vs.length cap) (W.drewN k):=fun k=>by
  have:=tN eB Tryz.underlying119 (w:=W.drewN k) (hs.at HH.out.2.2.2.2.2.2.2.2.1 id) HH.b.map (gd _) HH.c;rwa [de,HP.z]at this
 have H1:=qqH hT1;clear hW hs hT1 hbo a0;go_quiet (fail);have HT:=qqH (H1.out.drewN nq);clear hlk a1 b1;obtain⟨pb,hpb⟩:∃pb,pb=w.heap.size:=⟨_,rfl⟩;rw[<- hpb]at HT hbl ⊢;clear hpb;go_wp2_with fail;go_loopw [16,7] (fun v v7 wr=>CR F1 ((pb,Is (.cells #[str m,str p,.int .i64 n] 230 (0,0)))::G) vs n d w v v7 wr) (fun v _ _=>vs.length-(intOf v).toNat)
 case atStart=>exact⟨0,Nat.zero_le _,rfl,by simpa using HT.out⟩
 case round =>
  obtain⟨k,hk,rfl,hT⟩:=hrel;by_cases hlt:k<vs.length
  ·obtain⟨V,hV⟩:∃V,V=vs[k]:=⟨_,rfl⟩;have hdr:vs.drop k=V::vs.drop (k+1):=by rw[hV];exact List.drop_eq_getElem_cons hlt
   obtain⟨a',c',e1,-,-,hrow,-⟩:=aV (aW (hT.sat.sub (G:=c8 (.slice sl vs.length cap) vs) (fun x=>by rw[HH.g];simp only[aB,an];omega)) HP.a);simp only[Value.slice.injEq]at e1;obtain⟨rfl,-,-⟩:=e1;obtain⟨g,off,hg,hcell⟩:=hrow (by rw[List.length_map];omega);subst hg;have hck:wr.cell? ⟨g,off+k,none⟩=some (dz V):=by rw[hcell k (by simpa using hlt)];simp[hV]
   unfold dz at hck;rw[hdr]at hT;have hT2:=hT.to (H:=(V.blk,Is (dy V))::(((vs.take k).map (dJ n d)).flatMap bT++(aQ V.cv V.chs++((vs.drop (k+1)).flatMap bT++((pb,Is (.cells #[str m,str p,.int .i64 n] 230 (0,0)))::G))))) (by rw[List.flatMap_cons];unfold bT;exact af);have hvo:=hT2.sat.Q5;have v0:wr.cell? ⟨V.blk,0,none⟩=some (.int .i64 V.num):=aa hvo 0 rfl;have v3:wr.cell? ⟨V.blk,3,none⟩=some (.int .i64 V.held):=aa hvo 3 rfl;have f3:=aZ hvo 3;have hbo:=hT2.sat.Q7 (b:=pb) (o:=.cells #[str m,str p,.int .i64 n] 230 (0,0)) (by simp);have b2:wr.cell? ⟨pb,2,none⟩=some (.int .i64 n):=aa hbo 2 rfl;have hhV:=HH.d V (hV ▸ List.getElem_mem hlt);have htk:(vs.take (k+1)).map (dJ n d)=(vs.take k).map (dJ n d)++[dJ n d V]:=by rw[List.take_succ_eq_append_getElem hlt,List.map_append,hV];rfl
   have HR:=Hq3 hT2 hvo htk;clear hT hT2 hvo hbo hcell hrow htk hdr hV
   have HRel:∀W':World,Turns F1 ((V.blk,Is (dy (dJ n d V)))::(((vs.take k).map (dJ n d)).flatMap bT++(aQ V.cv V.chs++((vs.drop (k+1)).flatMap bT++((pb,Is (.cells #[str m,str p,.int .i64 n] 230 (0,0)))::G))))) w W'->∀v7,CR F1 ((pb,Is (.cells #[str m,str p,.int .i64 n] 230 (0,0)))::G) vs n d w (.int .i64 ((k:Int)+1)) v7 W':=fun W' hT v7=>by
    refine⟨k+1,by omega,by go_num,hT.to ?_⟩;rw[HR.y,List.flatMap_append]
    have hv:[dJ n d V].flatMap bT=(V.blk,Is (dy (dJ n d V)))::aQ V.cv V.chs:=by
     obtain⟨e1,e2,e3,-⟩:=jG n d V;simp only[List.flatMap_cons,List.flatMap_nil,List.append_nil,bT,e1,e2,e3]
    rw[hv];exact af
   have HREL:=qqH HRel;clear HRel;by_cases c1:(V.num:Int)=n
   ·have hho:dJ n d V={ V with held:=V.held+d }:=by unfold dJ;rw[if_pos c1]
    have hw:IntKind.i64.wrap (V.held+d)=V.held+d:=IntWalk.i64_in _ (by omega);have HW:=Hq2 hho hw;clear hho hw;go_wp2_with fail;go_quiet (fail);have HV:=Hq2 v3 f3;clear v0 v3 f3 b2 hck;obtain⟨w1,hw1⟩:∃w1,w1=wr.drewN nq:=⟨_,rfl⟩;rw[<- hw1];have hT1:=hw1 ▸ HR.a.drewN nq;have hvo1:=hT1.sat.Q5;have v3:w1.cell? ⟨V.blk,3,none⟩=some (.int .i64 V.held):=aa hvo1 3 rfl;have f3:=aZ hvo1 3;have H1:=Hq2 hT1 hvo1;clear hw1 hT1 hvo1;have hw:=HW.z;go_wp2_with fail;go_roundw
    case rel =>
     refine HREL.out _ ?_ _;refine(H1.a.Qa ((Mods.refl _ w1).set1 (i:=3) (.int .i64 (V.held+d))) ?_);rw[bt H1.z 3 _,HW.a];rfl
    case measure=>simp[intOf];omega
   ·have hho:dJ n d V=V:=by unfold dJ;rw[if_neg c1]
    have HW:=qqH hho;clear hho;go_wp2_with fail;go_quiet (fail);go_wp2_with fail;go_roundw
    case rel =>
     refine HREL.out _ ?_ _;rw[HW.out];exact HR.a.drewN nq
    case measure=>simp[intOf];omega
  ·obtain rfl:k=vs.length:=by omega
   rw[List.take_length,List.drop_length]at hT;have HR:=qqH hT;clear hT;go_wp2_with fail;refine bodyPost_end (results_none rfl _ _ _) rfl ⟨rfl,?_⟩;rw[<- HH.h];have hp:=xt p n d (by rw[<- eL];exact HH.b.map.nodup);rw[HP.z,<- HH.f]at hp;unfold aU;rw[nl];refine HR.out.drop (fun x=>?_);have h1:=sv hp x;rw[HH.g];simp only[aB,an]at h1 ⊢;omega
end
section
open Go.RowKit Go.Maps
abbrev Kh:=Nat×Nat×List (Nat×Nat)×Int
def bump(n d:Int)(t:Kh):Kh:=if(t.1:Int)=n then(t.1,t.2.1,t.2.2.1,t.2.2.2+d)else t
theorem Fk(n d:Int)(V:VerL):bS (dJ n d V)=bump n d (bS V):=by
 unfold bS dJ bump;split<;>rfl
theorem Fl(ns:List Int)(vs:List VerL):(dK ns vs).map bS=(vs.map bS).filter (fun t => !ns.contains (t.1:Int)):=by
 rw[List.filter_map];rfl
theorem Ew(H:List HV)(p l:Bs)(ns:List Int):((jV H p ns).filter (fun h=>decide (h.p=l))).map dg=if l=p then((H.filter (fun h=>decide (h.p=p))).map dg).filter (fun t => !ns.contains (t.1:Int))else(H.filter (fun h=>decide (h.p=l))).map dg:=by
 unfold jV;rw[List.filter_filter];split
 ·rename_i e;subst e;rw[List.filter_map,List.filter_filter];congr 2;funext h;show(decide (h.p=l) && !(decide (h.p=l)&&ns.contains (h.num:Int)))=(!ns.contains (h.num:Int)&&decide (h.p=l))
  cases decide (h.p=l)<;>simp
 ·rename_i e;congr 2;funext h;by_cases hp:h.p=l
  ·have:¬h.p=p:=fun e2=>e (hp.symm.trans e2)
   simp[hp,e]
  ·simp[hp]
theorem Ex(H:List HV)(p l:Bs)(n d:Int):((gT H p n d).filter (fun h=>decide (h.p=l))).map dg=if l=p then((H.filter (fun h=>decide (h.p=p))).map dg).map (bump n d)else(H.filter (fun h=>decide (h.p=l))).map dg:=by
 unfold gT;induction H with
 | nil=>simp
 | cons h r ih =>
  rw[List.map_cons,List.filter_cons,List.filter_cons,List.filter_cons];by_cases h1:h.p=l<;>by_cases h2:h.p=p<;>by_cases h3:(h.num:Int)=n<;>by_cases h4:l=p<;>simp_all[dg,bump]
theorem Ff(H:List HV)(p:Bs)(ns:List Int):(H.map (·.size)).sum=((jV H p ns).map (·.size)).sum+((((H.filter (fun h=>decide (h.p=p))).map dg).filter (fun t=>ns.contains (t.1:Int))).map (·.2.1)).sum:=by
 unfold jV;induction H with
 | nil=>rfl
 | cons h r ih =>
  rw[List.filter_cons,List.filter_cons];by_cases h1:h.p=p<;>by_cases h2:ns.contains (h.num:Int)=true<;>simp_all[dg]<;>omega
theorem xg(ns:List Int)(vs:List VerL):bP ns vs=(((vs.map bS).filter (fun t=>ns.contains (t.1:Int))).map (·.2.1)).sum:=by
 unfold bP;rw[List.filter_map,List.map_map];rfl
theorem Hg(ts:List ib)(tc:Nat)(m p:Bs)(n:Int):(eO ts tc m (qI m (p,n)) (p,n)).map ia=uz (ts.map ia) (m,p,n):=by
 have e:(ts.map ia).any (fun t=>decide (t.1=m))=gv ts m:=by unfold gv;rw[List.any_map];rfl
 unfold eO uz;rw[e];split
 ·rw[List.map_map,List.map_map];refine List.map_congr_left fun q _=>?_
  show ia (if q.key=m then _ else q)=if q.key=m then _ else ia q
  split
  ·rename_i h;simp[ia,h]
  ·rfl
 ·simp[ia]
theorem Hf(ts:List ib)(m:Bs):(bI ts m).map ia=Ei (ts.map ia) m:=by
 unfold bI Ei;rw[List.filter_map];rfl
theorem CD{ts:List ib}{tc:Nat}(h:TagsOk ts tc){m:Bs}(hm:OkS m)(g:Bs×Int):TagsOk (eO ts tc m (qI m g) g) (cD (ts.map aN) tc m):=by
 refine⟨by rw[iv];exact h.map.put hm _,fun q hq=>?_⟩;rcases fh hq with⟨h1,_⟩|⟨h1,h2,h3⟩
 ·exact h.val q h1
 ·rw[h1,h2,h3]
theorem CB{ts:List ib}{tc:Nat}(h:TagsOk ts tc)(m:Bs):TagsOk (bI ts m) tc :=
 ⟨by rw[mt];exact h.map.del m,fun q hq=>h.val q (List.mem_filter.1 hq).1⟩
theorem GU(T:List Tg)(x:Tg):(uz T x).length<=T.length+1:=by
 unfold uz;split<;>simp
theorem GV{T:List Tg}{x t:Tg}(h:t∈uz T x):t=x\/t∈T:=by
 unfold uz at h;split at h
 ·obtain⟨y,hy,rfl⟩:=List.mem_map.1 h;split
  ·exact .inl rfl
  ·exact .inr hy
 ·rcases List.mem_append.1 h with h|h
  ·exact .inr h
  ·exact .inl (List.mem_singleton.1 h)
theorem qq{H:List HV}{p:Bs}{n d:Int}{h:HV}(hh:h∈gT H p n d):∃h0∈H,h.p=h0.p/\h.num=h0.num/\h.size=h0.size/\h.chs=h0.chs/\(h.held=h0.held\/h.held=h0.held+d):=by
 obtain⟨h0,h1,rfl⟩:=List.mem_map.1 hh;refine⟨h0,h1,?_⟩;split
 ·exact⟨rfl,rfl,rfl,rfl,.inr rfl⟩
 ·exact⟨rfl,rfl,rfl,rfl,.inl rfl⟩
theorem Cnt.grow{at_ n:Nat}{s:PSt}(h:Cnt at_ s):Cnt (at_+n) s :=
 ⟨by have:=h.n;omega,fun x hx=>by have:=h.held x hx;omega,h.size,h.tag⟩
end
section
open Go.RowKit Go.Maps
theorem zT(l:Bs)(bad:Bool)(n:Nat):da l bad n<256 ^ n:=by
 unfold da;split
 ·exact Nat.pow_pos (by omega)
 ·have h1:=jh (l.take n);exact Nat.lt_of_lt_of_le h1 (Nat.pow_le_pow_right (by omega) (by simp;omega))
theorem zD{l:Bs}:∀x∈gU l,0<=x/\x<=4294967296:=fun x hx=>by
 unfold gU at hx
 obtain⟨i,-,rfl⟩:=List.mem_map.1 hx
 have h1:=jh ((l.drop (4*i)).take 4)
 have h2:256 ^ ((l.drop (4*i)).take 4).length<=256 ^ 4:=Nat.pow_le_pow_right (by omega) (by simp;omega)
 omega
theorem tY{α:Type}{f:α->Nat}{m:Nat}:∀{l:List α},(∀x∈l,f x<=m)->(l.map f).sum<=m*l.length
 | [],_=>by simp
 | a::l,h=>by
  have h1:=h a (by simp)
  have h2:=tY (l:=l) (fun x hx=>h x (by simp[hx]))
  simp only[List.map_cons,List.sum_cons,List.length_cons,Nat.mul_add,Nat.mul_one]
  omega
def KE(k:UInt8)(body:Bs):RecR->Prop
 | .ver p num size ats=>p.length<=255/\num<4294967296/\size<=65535/\(∀x∈ats,0<=x/\x<=4294967296)/\ats.length<=body.length
 | .gone p ns=>p.length<=255/\ns.length<=body.length
 | .pin q p m n=>q=k/\(k=4\/k=5)/\p.length<=255/\m.length<=255/\n<4294967296
theorem mO{k:UInt8}{body:Bs}{r:RecR}(h:fR k body=some r):KE k body r:=by
 have n4:∀l b,da l b 4<4294967296:=fun l b=>Nat.lt_of_lt_of_le (zT l b 4) (by omega)
 have n2:∀l b,da l b 2<=65535:=fun l b=>by have:=zT l b 2;omega
 have hl:(rT (body,false)).1.length<=body.length:=iw _ _;unfold fR at h;simp only at h;split at h
 ·split at h
  ·simp only[Option.some.injEq]at h;subst h;refine⟨lR _ _,n4 _ _,n2 _ _,zD,?_⟩;rw[jH];have h1:(rN (rN (rT (body,false)) 4) 2).1.length<=body.length:=Nat.le_trans (fQ _ _ _) (Nat.le_trans (fQ _ _ _) (iw _ _));omega
  ·cases h
 ·split at h
  ·split at h
   ·simp only[Option.some.injEq]at h;subst h;exact⟨lR _ _,by rw[jH];omega⟩
   ·cases h
  ·split at h
   ·rename_i h45;split at h
    ·simp only[Option.some.injEq]at h;subst h;exact⟨rfl,h45,lR _ _,lR _ _,n4 _ _⟩
    ·cases h
   ·cases h
section
variable {D:Bs} {X:ArchL} {ps:List bl} {pc:Nat} {cs:List ll} {cc:Nat} {ts:List ib} {tc:Nat} {sz:List (Ent Int)} {szc at_:Nat} {s:PSt} {body:Bs} {n:Nat} {k:UInt8}
theorem CtOk.at_lt(h:CtOk D X ps pc cs cc ts tc sz szc at_ s):∀e∈s.K,e.2.1<at_:=fun e he=>by
 have h1:=(h.kat e he).2.2.1
 rw[List.length_take]at h1
 omega
theorem CtOk.on(h:CtOk D X ps pc cs cc ts tc sz szc at_ s)(ho:cG (D.drop at_)=some (k,body,n)):at_+n<=D.length/\9<=n/\body.length<=65535/\∀e∈s.K,e.2.2=e.1.length/\e.1.length<=65535/\ex (D.take (at_+n)) e.2.1 e.1:=by
 obtain⟨-,h2,h3,-,h5⟩:=iR ho;rw[List.length_drop]at h3;have:=h.le;refine⟨by omega,by omega,by omega,fun e he=>?_⟩;obtain⟨k1,k2,k3⟩:=h.kat e he;exact⟨k1,k2,k3.grow (by omega)⟩
theorem CtOk.chunk(h:CtOk D X ps pc cs cc ts tc sz szc at_ s)(ho:cG (D.drop at_)=some (1,body,n))(hat:at_<=4294967296){v:Value}(hv:bQ v (aY cs (ff body)++[(at_,body.length)])):
  CtOk D { X with sc:=X.sc+1,sb:=X.sb+body.length } ps pc (eO cs cc (ff body) v (aY cs (ff body)++[(at_,body.length)])) (cD (cs.map aN) cc (ff body)) ts tc (gA sz szc (at_:Int) (.int .i64 body.length)) (cD sz szc (at_:Int)) (at_+n) { s with K:=s.K++[(body,at_,body.length)] }:=by
 obtain⟨h1,h2,h3,h4⟩:=ex.at_ ho h.le;obtain⟨-,o2,-,o4⟩:=h.on ho;have hnone:lk s.K at_=none:=Fg h.at_lt;refine⟨h.reach.next ho rfl,h2,⟨?_,h.cnt.grow.held,h.cnt.size,h.cnt.tag⟩,h.paths,pr h.chunks (by unfold ff;exact ck _ _) hv,h.tags,zw h.kin body _ v,fun e he=>?_,h.hist,h.nem,fun x hx=>⟨fun q hq=>?_,(h.chsK x hx).2⟩,h.used,?_,?_,h.map.put ⟨by omega,by omega⟩ _,fun k=>?_,h.tagT⟩
 ·have:=h.cnt.n;simp only[List.length_append,List.length_singleton];omega
 ·rcases List.mem_append.1 he with he|he
  ·exact o4 e he
  ·obtain rfl:=List.mem_singleton.1 he;exact⟨rfl,h3,h4⟩
 ·obtain⟨e,he,hq2⟩:=(h.chsK x hx).1 q hq;exact⟨e,List.mem_append_left _ he,hq2⟩
 ·show X.sc+1=_;rw[h.sc];simp
 ·show X.sb+body.length=_;rw[h.sb];simp
 ·rw[Ep,Am,h.get k];by_cases hk:k=(at_:Int)
  ·subst hk;rw[if_pos rfl,hnone,if_pos rfl];rfl
  ·rw[if_neg hk,if_neg (fun e=>hk e.symm)];simp
theorem D1{p l:Bs}{v:Value}{V:VerL}:ai (mn ps pc p v V) l=if l=p then ai ps p++[V]else ai ps l:=pB [] ps pc p l v _
theorem CtOk.ver(h:CtOk D X ps pc cs cc ts tc sz szc at_ s)(hk1:k≠1)(ho:cG (D.drop at_)=some (k,body,n)){p:Bs}{num m:Nat}{ats:List Int}(hr:fR k body=some (.ver p num m ats)){chs:List (Nat×Nat)}(hc:dF (lk s.K) ats=some chs)(hm:(chs.map (·.2)).sum=m){b:Nat}{cv v':Value}(hcv:bQ cv chs)(hv:et v' (ai ps p++[⟨b,num,m,cv,chs,0⟩])):
  CtOk D { X with used:=X.used+m } (mn ps pc p v' ⟨b,num,m,cv,chs,0⟩) (cD (ps.map aN) pc p) cs cc ts tc sz szc (at_+n) { s with H:=s.H++[⟨p,num,m,chs,0⟩] }:=by
 obtain⟨o1,o2,o3,o4⟩:=h.on ho;obtain⟨r1,r2,r3,-,r5⟩:=mO hr;have hcl:=qi hc
 have hs:gY at_ s k body=some { s with H:=s.H++[⟨p,num,m,chs,0⟩] }:=by
  unfold gY;rw[if_neg hk1,hr];simp only[hc];rw[if_pos hm]
 refine⟨h.reach.next ho hs,o1,⟨?_,fun x hx=>?_,fun x hx=>?_,h.cnt.tag⟩,q9 h.paths (by unfold OkS;omega) hv hcv,h.chunks,h.tags,h.kin,o4,fun l=>?_,fun q hq=>?_,fun x hx=>?_,?_,h.sc,h.sb,h.map,h.get,h.tagT⟩
 ·have:=h.cnt.n;simp only[List.length_append,List.length_singleton];omega
 ·rcases List.mem_append.1 hx with hx|hx
  ·exact h.cnt.grow.held x hx
  ·obtain rfl:=List.mem_singleton.1 hx;simp
 ·rcases List.mem_append.1 hx with hx|hx
  ·exact h.cnt.size x hx
  ·obtain rfl:=List.mem_singleton.1 hx;exact⟨r1,r2,r3,by show chs.length<=_;omega⟩
 ·rw[D1,List.filter_append,List.map_append,<- h.hist l];by_cases hl:l=p
  ·subst hl;rw[if_pos rfl,List.map_append];simp[bS,dg]
  ·rw[if_neg hl];simp[Ne.symm hl]
 ·rcases fh hq with⟨h1,_⟩|⟨_,_,h3⟩
  ·exact h.nem q h1
  ·rw[h3];simp
 ·rcases List.mem_append.1 hx with hx|hx
  ·exact h.chsK x hx
  ·obtain rfl:=List.mem_singleton.1 hx;exact⟨vt hc,hm.symm⟩
 ·show X.used+m=_;rw[h.used];simp
theorem CtOk.has(h:CtOk D X ps pc cs cc ts tc sz szc at_ s)(p:Bs):s.H.any (fun x=>decide (x.p=p))=true↔ai ps p≠[]:=by
 have h1:=h.hist p;rw[List.any_eq_true];refine⟨fun⟨x,hx,e⟩ hn=>?_,fun hn=>?_⟩
 ·rw[hn]at h1;have:=(List.map_eq_nil_iff.1 h1.symm);exact absurd (List.mem_filter.2 ⟨hx,e⟩) (by rw[this];simp)
 ·cases hf:s.H.filter (fun x=>decide (x.p=p))with
  | nil=>rw[hf]at h1;exact absurd (List.map_eq_nil_iff.1 h1) hn
  | cons x r =>
   have:=List.mem_filter.1 (show x∈s.H.filter (fun x=>decide (x.p=p)) by rw[hf];simp);exact⟨x,this.1,this.2⟩
theorem CtOk.gone(h:CtOk D X ps pc cs cc ts tc sz szc at_ s)(hk1:k≠1)(ho:cG (D.drop at_)=some (k,body,n)){p:Bs}{ns:List Int}(hr:fR k body=some (.gone p ns))(hne:ai ps p≠[]){v':Value}(hv:et v' (dK ns (ai ps p))):
  CtOk D (iV X (X.used-(bP ns (ai ps p):Nat))) (ge ps pc p v' ns) pc cs cc ts tc sz szc (at_+n) { s with H:=jV s.H p ns }:=by
 obtain⟨o1,o2,o3,o4⟩:=h.on ho;obtain⟨r1,-⟩:=mO hr
 have hs:gY at_ s k body=some { s with H:=jV s.H p ns }:=by
  unfold gY;rw[if_neg hk1,hr];simp only[(h.has p).2 hne,if_true]
 have hsub:∀x∈jV s.H p ns,x∈s.H:=fun x hx=>(List.mem_filter.1 hx).1
 refine⟨h.reach.next ho hs,o1,⟨?_,fun x hx=>h.cnt.grow.held x (hsub x hx),fun x hx=>h.cnt.size x (hsub x hx),h.cnt.tag⟩,yZ h.paths (by unfold OkS;omega) hv hne,h.chunks,h.tags,h.kin,o4,fun l=>?_,vA h.nem,fun x hx=>h.chsK x (hsub x hx),?_,h.sc,h.sb,h.map,h.get,h.tagT⟩
 ·have:=h.cnt.n;have:(jV s.H p ns).length<=s.H.length:=List.length_filter_le _ _;show 9*(s.K.length+(jV s.H p ns).length+s.T.length)<=_;omega
 ·rw[ow,Ew];split
  ·rw[Fl,h.hist]
  ·exact h.hist l
 ·show X.used-_=(((jV s.H p ns).map (·.size)).sum:Nat);rw[h.used,Ff s.H p ns,xg,h.hist p];omega
theorem CtOk.tag(h:CtOk D X ps pc cs cc ts tc sz szc at_ s)(ho:cG (D.drop at_)=some (k,body,n)){p:Bs}{m d:Int}(hd : -1<=d/\d<=1){ts':List ib}{tc':Nat}{T':List Tg}(hts:TagsOk ts' tc')(hT:ts'.map ia=T')(hl:T'.length<=s.T.length+1)(hmem:∀t∈T',t.1.length<=255/\t.2.1.length<=255/\0<=t.2.2/\t.2.2<4294967296)(hs:gY at_ s k body=some { s with H:=gT s.H p m d,T:=T' }):
  CtOk D X (dZ ps p m d) pc cs cc ts' tc' sz szc (at_+n) { s with H:=gT s.H p m d,T:=T' }:=by
 obtain⟨o1,o2,o3,o4⟩:=h.on ho;refine⟨h.reach.next ho hs,o1,⟨?_,fun x hx=>?_,fun x hx=>?_,hmem⟩,zn h.paths p m d,h.chunks,hts,h.kin,o4,fun l=>?_,vL h.nem,fun x hx=>?_,?_,h.sc,h.sb,h.map,h.get,hT⟩
 ·have:=h.cnt.n;have e:(gT s.H p m d).length=s.H.length:=by unfold gT;rw[List.length_map]
  show 9*(s.K.length+(gT s.H p m d).length+T'.length)<=_;omega
 ·obtain⟨x0,h0,-,-,-,-,e⟩:=qq hx;have:=h.cnt.held x0 h0;rcases e with e|e<;>rw[e]<;>omega
 ·obtain⟨x0,h0,e1,e2,e3,e4,-⟩:=qq hx;rw[e1,e2,e3,e4];exact h.cnt.size x0 h0
 ·rw[lI,Ex];split
  ·rw[List.map_map,<- h.hist p,List.map_map];exact List.map_congr_left fun V _=>Fk m d V
  ·exact h.hist l
 ·obtain⟨x0,h0,-,-,e3,e4,-⟩:=qq hx;rw[e3,e4];exact h.chsK x0 h0
 ·rw[h.used];congr 2;unfold gT;rw[List.map_map];refine List.map_congr_left fun x _=>?_
  show x.size=(if _ then _ else x).size;split<;>rfl
theorem CtOk.bounds(h:CtOk D X ps pc cs cc ts tc sz szc at_ s)(hat:at_<=810000):
  (0<=X.used/\X.used<=65535*90000)/\(0<=X.sc/\X.sc<=90000)/\(0<=X.sb/\X.sb<=65535*90000)/\(∀k,(aY cs k).length<=90000)/\(∀l,(ai ps l).length<=90000)/\(∀a m,lk s.K a=some m->m<=65535)/\∀l,∀V∈ai ps l,V.held.natAbs<=90000/\V.size<=65535:=by
 have h0:=h.cnt.n;have hle:=h.le;have h3:=tY (l:=s.H) (f:=(·.size)) (fun x hx=>(h.cnt.size x hx).2.2.1);have h4:=tY (l:=s.K) (f:=(·.1.length)) (m:=65535) (fun e he=>(h.kat e he).2.1);refine⟨by rw[h.used];omega,by rw[h.sc];omega,by rw[h.sb];omega,fun k=>?_,fun l=>?_,fun a m hm=>?_,fun l V hV=>?_⟩
 ·have:=(h.kin k).length_eq;rw[List.length_map]at this;have:=List.length_filter_le (fun e=>decide (ff e.1=k)) s.K;omega
 ·have:=congrArg List.length (h.hist l);rw[List.length_map,List.length_map]at this;have:=List.length_filter_le (fun h=>decide (h.p=l)) s.H;omega
 ·obtain⟨e,he,h5⟩:=An hm;have h6:=h.kat e he;rw[h5]at h6;simp only at h6;omega
 ·have h1:bS V∈(ai ps l).map bS:=List.mem_map.2 ⟨V,hV,rfl⟩;rw[h.hist]at h1;obtain⟨x,hx,e⟩:=List.mem_map.1 h1;have hx:=(List.mem_filter.1 hx).1;have h5:=h.cnt.held x hx;have h6:=h.cnt.size x hx;unfold dg bS at e;simp only[Prod.mk.injEq]at e;rw[<- e.2.2.2,<- e.2.1];omega
end
end
section
open Go.RowKit Go.Maps
open Go.ChangeMaps (setBlock)
def eM(a:Nat)(X:ArchL)(ps:List bl)(pc:Nat)(ts:List ib)(tc:Nat):HF:=(a,Is (aO X))::(aU X.pm ps pc++dm X.tm ts tc)
structure PinPre (a:Nat) (X:ArchL) (ps:List bl) (pc:Nat) (ts:List ib) (tc:Nat) (m p:Bs) (w:World):Prop where
 sat:Sat w (eM a X ps pc ts tc)
 ok:PathsOk ps pc
 tags:TagsOk ts tc
 okm:OkS m
 okp:OkS p
 len:(ai ps p).length<=1099511627776
 held:∀V∈ai ps p,V.held.natAbs<=1099511627776
theorem PinPre.hold{a:Nat}{X:ArchL}{ps:List bl}{pc:Nat}{ts ts':List ib}{tc tc':Nat}{m p:Bs}{w W:World}(h:PinPre a X ps pc ts tc m p w)(n d:Int)(hd : -1<=d/\d<=1)(hT:Turns (eM a X ps pc ts tc) (eM a X ps pc ts' tc') w W):
  Calls Tryz.prog 145 #[.pointer (some ⟨a,0,none⟩),xw m p n,.int .i64 d] W (fun e w'=>e=.returned (.tuple #[])/\Turns (eM a X ps pc ts tc) (eM a X (dZ ps p n d) pc ts' tc') w w'):=by
 refine(BP a X ps pc m p n d W (hT.sat.sub (fun x=>by unfold eM;simp only[aB,an];omega)) h.ok h.okp h.len hd h.held).mono ?_;rintro e w' ⟨rfl,hT2⟩;refine⟨rfl,(hT.step (F:=(a,Is (aO X))::aU X.pm ps pc) (R:=dm X.tm ts' tc') ?_ hT2).to ?_⟩
 ·unfold eM;exact af
 ·unfold eM;exact af
theorem vW(a:Nat)(X:ArchL)(ps:List bl)(pc:Nat)(ts:List ib)(tc:Nat)(m p:Bs)(n:Int)(w:World)(h:PinPre a X ps pc ts tc m p w):
  Calls Tryz.prog 114 #[.pointer (some ⟨a,0,none⟩),xw m p n] w (fun e w'=>e=.returned (.tuple #[])/\Turns (eM a X ps pc ts tc) (eM a X (dZ ps p n 1) pc (eO ts tc m (qI m (p,n)) (p,n)) (cD (ts.map aN) tc m)) w w'):=by
 have HO:=qqH (fun W=>h.hold (W:=W) (ts':=eO ts tc m (qI m (p,n)) (p,n)) (tc':=cD (ts.map aN) tc m) n 1 (by omega));have HH:=qqH h;have HM:=qqH (show Tryz.prog.follows .mixedOrders=true by kernel_rfl);clear h;unfold xw at HO ⊢;go_enter Tryz.func114,Tryz.ntmps114;go_upto_region 1 with(fail);obtain⟨W,hW⟩:∃W,W=w.alloc (.cells #[str m,str p,.int .i64 n] 230):=⟨_,rfl⟩;rw[<- hW]
 have hT1:Turns (eM a X ps pc ts tc) ((w.heap.size,Is (.cells #[str m,str p,.int .i64 n] 230 (0,0)))::eM a X ps pc ts tc) w W:=by
  rw[hW];exact(Turns.refl HH.out.sat).Q8 (.cells #[str m,str p,.int .i64 n] 230)
 have hbo:=hT1.sat.Q5;have b0:W.cell? ⟨w.heap.size,0,none⟩=some (str m):=aa hbo 0 rfl;have b1:W.cell? ⟨w.heap.size,1,none⟩=some (str p):=aa hbo 1 rfl;have b2:W.cell? ⟨w.heap.size,2,none⟩=some (.int .i64 n):=aa hbo 2 rfl;have a1:W.cell? ⟨a,1,none⟩=some (.map (some X.tm)):=aa (hT1.sat.Q7 (b:=a) (o:=aO X) (by simp[eM])) 1 rfl;have H1:=qqH hT1;clear hW hT1 hbo;refine wp_region_still_tail 7 HM.out (by kernel_rfl) ?_;simp only[List.take_succ_cons,List.take_zero,List.drop_succ_cons,List.drop_zero];repeat still_step
 refine wpStill_nil ?_;change wpList _ _ _ _ _ W.drew
 go_wp2_with (first
  | (refine al rfl (pY eB (.tmp 7) (.tmp 9) (.tmp 10) rfl Tryz.underlying120 X.tm (ts.map aN) tc (H1.out.drew.to (H:=(X.tm,Is (aR str (ts.map aN) tc))::((a,Is (aO X))::(aU X.pm ps pc++[(w.heap.size,Is (.cells #[str m,str p,.int .i64 n] 230 (0,0)))]))) (by unfold eM dm;exact af)) HH.out.tags.map m (.agg #[str m,str p,.int .i64 n]) rfl rfl rfl HH.out.okm ?_);intro w4 hT4;have hb4:=hT4.sat.Q7 (b:=w.heap.size) (o:=.cells #[str m,str p,.int .i64 n] 230 (0,0)) (by simp);have d0:w4.cell? ⟨w.heap.size,0,none⟩=some (str m):=aa hb4 0 rfl;have d1:w4.cell? ⟨w.heap.size,1,none⟩=some (str p):=aa hb4 1 rfl;have d2:w4.cell? ⟨w.heap.size,2,none⟩=some (.int .i64 n):=aa hb4 2 rfl;have H4:=qqH hT4;clear hT4 hb4;simp only[Act.put])
  | fail)
 refine(HO.out _ ?_).mono ?_
 ·refine H4.out.drop (fun x=>?_);unfold eM dm;rw[iv];simp only[aB,an,gC];simp only[qI];omega
 rintro e w5 ⟨rfl,hT5⟩;have H5:=qqH hT5;clear hT5;go_wp2_with fail;exact bodyPost_end (results_none rfl _ _ _) rfl ⟨rfl,H5.out⟩
theorem ri(a:Nat)(X:ArchL)(ps:List bl)(pc:Nat)(ts:List ib)(tc:Nat)(m p:Bs)(n:Int)(w:World)(h:PinPre a X ps pc ts tc m p w):
  Calls Tryz.prog 115 #[.pointer (some ⟨a,0,none⟩),xw m p n] w (fun e w'=>e=.returned (.tuple #[])/\Turns (eM a X ps pc ts tc) (eM a X (dZ ps p n (-1)) pc (bI ts m) tc) w w'):=by
 have HO:=qqH (fun W=>h.hold (W:=W) (ts':=bI ts m) (tc':=tc) n (-1) (by omega));have HH:=qqH h;have HM:=qqH (show Tryz.prog.follows .mixedOrders=true by kernel_rfl);clear h;unfold xw at HO ⊢;go_enter Tryz.func115,Tryz.ntmps115;go_upto_region 1 with(fail);obtain⟨W,hW⟩:∃W,W=w.alloc (.cells #[str m,str p,.int .i64 n] 230):=⟨_,rfl⟩;rw[<- hW]
 have hT1:Turns (eM a X ps pc ts tc) ((w.heap.size,Is (.cells #[str m,str p,.int .i64 n] 230 (0,0)))::eM a X ps pc ts tc) w W:=by
  rw[hW];exact(Turns.refl HH.out.sat).Q8 (.cells #[str m,str p,.int .i64 n] 230)
 have hbo:=hT1.sat.Q5;have b0:W.cell? ⟨w.heap.size,0,none⟩=some (str m):=aa hbo 0 rfl;have b1:W.cell? ⟨w.heap.size,1,none⟩=some (str p):=aa hbo 1 rfl;have b2:W.cell? ⟨w.heap.size,2,none⟩=some (.int .i64 n):=aa hbo 2 rfl;have a1:W.cell? ⟨a,1,none⟩=some (.map (some X.tm)):=aa (hT1.sat.Q7 (b:=a) (o:=aO X) (by simp[eM])) 1 rfl;have H1:=qqH hT1;clear hW hT1 hbo;refine wp_region_still_tail 6 HM.out (by kernel_rfl) ?_;simp only[List.take_succ_cons,List.take_zero,List.drop_succ_cons,List.drop_zero];repeat still_step
 refine wpStill_nil ?_;change wpList _ _ _ _ _ W.drew;have hT2:=H1.out.drew.to (H:=(X.tm,Is (aR str (ts.map aN) tc))::((a,Is (aO X))::(aU X.pm ps pc++[(w.heap.size,Is (.cells #[str m,str p,.int .i64 n] 230 (0,0)))]))) (by unfold eM dm;exact af)
 have hdel:∀ty,(Builtin.delete_ #[120,9] ty #[.map (some X.tm),str m]).run Tryz.prog W.drew=.ok (.tuple #[]) (setBlock W.drew X.tm (aR str (wW (ts.map aN) m) tc)):=fun ty =>
  Dx eB Tryz.underlying120 hT2.sat.Q5 HH.out.tags.map HH.out.okm
 have hT4:=hT2.Qa (cQ W.drew X.tm (aR str (wW (ts.map aN) m) tc)) (dU hT2.sat.Q5);have hb4:=hT4.sat.Q7 (b:=w.heap.size) (o:=.cells #[str m,str p,.int .i64 n] 230 (0,0)) (by simp);have d0:=aa hb4 0 (v:=str m) rfl;have d1:=aa hb4 1 (v:=str p) rfl;have d2:=aa hb4 2 (v:=.int .i64 n) rfl;have H4:=qqH hT4;clear hT2 hT4 hb4 b0 b1 b2 a1;go_wp2_with fail;refine(HO.out _ ?_).mono ?_
 ·refine H4.out.drop (fun x=>?_);unfold eM dm;rw[mt];simp only[aB,an,gC];omega
 rintro e w5 ⟨rfl,hT5⟩;have H5:=qqH hT5;clear hT5;go_wp2_with fail;exact bodyPost_end (results_none rfl _ _ _) rfl ⟨rfl,H5.out⟩
end
section
open Go.RowKit
section
variable {P:Program} {Q:Exit->Act->World->Prop} {ops:Array Oper} {a0:Act} {A:(Nat->Value)->Act} {w0:World}
def sB(val:Nat->Value)(x:Nat->Value):List Edge->Prop
 | []=>True
 | e::r=>(match Region.binds .any e with|true=>x e.on=val e.on|false=>True)/\sB val x r
def wu(c:Nat)(val:Nat->Value)(g:Nat->Value->Value)(r:Value):Nat->Value:=fun i=>if i<c then val i else if i=c then r else g i r
def yI(P:Program)(Q:Exit->Act->World->Prop)(A:(Nat->Value)->Act)(w0:World)(c:Nat)(val:Nat->Value)(g:Nat->Value->Value)(C:World->Prop)(Post:Value->World->Prop)(i:Nat)(o:Oper):Prop :=
 if i<c then ∀(x:Nat->Value) (w:World),sB val x o.after.toList->C w->∀K:Act->World->Prop,K ((A x).put o.dst (val i)) w->o.wp P (A x) w K Q
 else if i=c then ∀(x:Nat->Value),sB val x o.after.toList->∀K:Act->World->Prop,(∀r w',Post r w'->K ((A x).put o.dst r) w')->o.wp P (A x) w0.drew K Q
 else ∀(x:Nat->Value) (r:Value) (w:World),Post r w->sB (wu c val g r) x o.after.toList->∀K:Act->World->Prop,K ((A x).put o.dst (g i r)) w->o.wp P (A x) w K Q
def qh(P:Program)(Q:Exit->Act->World->Prop)(A:(Nat->Value)->Act)(w0:World)(c:Nat)(val:Nat->Value)(g:Nat->Value->Value)(C:World->Prop)(Post:Value->World->Prop):Nat->List Oper->Prop
 | _,[]=>True
 | i,o::r=>yI P Q A w0 c val g C Post i o/\qh P Q A w0 c val g C Post (i+1) r
def wP(c:Nat):Nat->List Oper->Bool
 | _,[]=>true
 | i,o::r=>o.guard.isNone&&(decide (i<=c) || o.after.toList.any (fun e=>Region.binds .any e&&decide (c<=e.on)))&&wP c (i+1) r
def JC(w0:World)(c:Nat)(g:Nat->Value->Value)(Post:Value->World->Prop)(s:Nat->Option Value)(w:World):Prop :=
 (s c=none->(∀i,s i=none)/\w=w0.drew)/\∀r,s c=some r->Post r w/\∀i v,s i=some v->v=if i=c then r else g i r
def uv(c:Nat)(val:Nat->Value)(i:Nat)(v:Value):Prop:=if i<c then v=val i else True
theorem mu{c:Nat}{val:Nat->Value}{x:Nat->Value}{s:Nat->Option Value}{noisy:List Nat}:∀{l:List Edge} {i:Nat},kG (uv c val) x s noisy l->(∀e∈l,Region.binds .any e=true->e.on<i)->i<=c->sB val x l
 | [],_,_,_,_=>trivial
 | e::r,i,h,hb,hi=>by
  refine⟨?_,mu h.2 (fun e' he=>hb e' (by simp[he])) hi⟩
  cases hbi:Region.binds .any e with
  | false=>trivial
  | true =>
   have h1:=h.1
   rw[if_pos hbi]at h1
   have h2:=h1.1
   unfold uv at h2
   rw[if_pos (by have:=hb e (by simp) hbi;omega)]at h2
   exact h2
theorem sC{c:Nat}{val:Nat->Value}{g:Nat->Value->Value}{r:Value}{x:Nat->Value}{s:Nat->Option Value}{noisy:List Nat}(hs:∀i v,s i=some v->v=if i=c then r else g i r)(n:Nat)(hno:∀i,c<=i->i<n->noisy.contains i=true):∀{l:List Edge},kG (uv c val) x s noisy l->(∀e∈l,Region.binds .any e=true->e.on<n)->sB (wu c val g r) x l
 | [],_,_=>trivial
 | e::l,h,hb=>by
  refine⟨?_,sC hs n hno h.2 (fun e' he=>hb e' (by simp[he]))⟩
  cases hbi:Region.binds .any e with
  | false=>trivial
  | true =>
   have h1:=h.1
   rw[if_pos hbi]at h1
   unfold wu
   by_cases hlt:e.on<c
   ·have h2:=h1.1
    unfold uv at h2
    rw[if_pos hlt]at h2
    simp only[hlt,if_true];exact h2
   ·simp only[hlt,if_false]
    have h2:=h1.2
    rw[if_pos (hno e.on (by omega) (hb e (by simp) hbi))]at h2
    exact hs _ _ h2
theorem l0{c n:Nat}{val:Nat->Value}{g:Nat->Value->Value}{C:World->Prop}{Post:Value->World->Prop}{noisy:List Nat}(hA:∀x,aw x 0 ops.toList a0=A x)(hC0:C w0.drew)(hC1:∀r w,Post r w->C w)(hn1:∀i,i<c->noisy.contains i=false)(hn2:∀i,c<=i->i<n->noisy.contains i=true):
  ∀(l:List Oper) (i:Nat) (ds:List Nat) (m:Nat),i+l.length=n->wP c i l=true->dB m i l ds=true->qh P Q A w0 c val g C Post i l->gZ P Q ops a0 (uv c val) (JC w0 c g Post) noisy i l
 | [],_,_,_,_,_,_,_=>trivial
 | o::r,i,ds,m,hin,hok,hea,h=>by
  simp only[wP,Bool.and_eq_true]at hok
  have hea0:=hea
  simp only[dB,Bool.and_eq_true]at hea
  have hon:∀e∈o.after.toList,Region.binds .any e=true->e.on<i:=by
   intro e he hb;have h1:=List.all_eq_true.1 hea.1 e he;simp only[Bool.or_eq_true,Bool.not_eq_true',decide_eq_true_eq]at h1;rcases h1 with h1|h1
   ·rw[hb]at h1;cases h1
   ·exact h1
  simp only[List.length_cons]at hin;have hg:o.guard=none:=by simpa using hok.1.1
  have hrest:∃ds' m',dB m' (i+1) r ds'=true:=by
   have h2:=hea.2
   cases hd:o.dst with
   | none=>rw[hd]at h2;exact⟨_,_,h2⟩
   | some d=>rw[hd]at h2;simp only[Bool.and_eq_true]at h2;exact⟨_,_,h2.2⟩
  obtain⟨ds',m',hrest⟩:=hrest;refine⟨fun x s w hd hx hsi hJ=>?_,l0 hA hC0 hC1 hn1 hn2 r (i+1) ds' m' (by omega) hok.2 hrest h.2⟩;rw[hA x,if_pos (by simp[Region.wanted,hg])];intro K hK;have hgo:=h.1;unfold yI at hgo
  have hCw:C w:=by
   cases hsc:s c with
   | none=>rw[(hJ.1 hsc).2];exact hC0
   | some r=>exact hC1 r w (hJ.2 r hsc).1
  by_cases hic:i<c
  ·rw[if_pos hic]at hgo;refine hgo x w (mu hd hon (by omega)) hCw K (hK _ w (by unfold uv;rw[if_pos hic]) ?_);rw[hn1 i hic];exact hJ
  ·rw[if_neg hic]at hgo;by_cases hec:i=c
   ·rw[if_pos hec]at hgo;subst hec;obtain⟨hall,rfl⟩:=hJ.1 hsi;refine hgo x (mu hd hon (Nat.le_refl _)) K (fun r w' hp=>hK r w' (by unfold uv;rw[if_neg (by omega)];trivial) ?_);rw[hn2 i (Nat.le_refl _) (by omega)];simp only[if_true];refine⟨fun h=>?_,fun r' hr'=>?_⟩
    ·unfold fy at h;rw[if_pos rfl]at h;cases h
    ·unfold fy at hr';rw[if_pos rfl]at hr';obtain rfl:=Option.some.inj hr';refine⟨hp,fun j v hv=>?_⟩;unfold fy at hv;by_cases hj:j=i
     ·rw[if_pos hj]at hv;rw[if_pos hj];exact(Option.some.inj hv).symm
     ·rw[if_neg hj,hall j]at hv;cases hv
   ·rw[if_neg hec]at hgo
    have hdep:∃e∈o.after.toList,Region.binds .any e=true/\c<=e.on:=by
     have h1:=hok.1.2;simp only[Bool.or_eq_true,decide_eq_true_eq]at h1;rcases h1 with h1|h1
     ·omega
     ·obtain⟨e,he,h2⟩:=List.any_eq_true.1 h1;simp only[Bool.and_eq_true,decide_eq_true_eq]at h2;exact⟨e,he,h2⟩
    have hsc:∃r,s c=some r:=by
     cases hsc:s c with
     | some r=>exact⟨r,rfl⟩
     | none =>
      exfalso;obtain⟨e,he,hb,hce⟩:=hdep;have h1:=(gl _ hd).2 e he hb (hn2 e.on hce (by have:=hon e he hb;omega));rw[(hJ.1 hsc).1]at h1;cases h1
    obtain⟨r,hsc⟩:=hsc;obtain⟨hp,hall⟩:=hJ.2 r hsc;refine hgo x r w hp (sC hall n hn2 hd (fun e he hb=>by have:=hon e he hb;omega)) K (hK _ w (by unfold uv;rw[if_neg hic];trivial) ?_);rw[hn2 i (by omega) (by omega)];simp only[if_true];refine⟨fun h=>?_,fun r' hr'=>?_⟩
    ·unfold fy at h;rw[if_neg (by omega),hsc]at h;cases h
    ·unfold fy at hr';rw[if_neg (by omega),hsc]at hr';obtain rfl:=Option.some.inj hr';refine⟨hp,fun j v hv=>?_⟩;unfold fy at hv;by_cases hj:j=i
     ·rw[if_pos hj]at hv;rw[if_neg (by omega),hj];exact(Option.some.inj hv).symm
     ·rw[if_neg hj]at hv;exact hall j v hv
theorem t8{id:Nat}(A:(Nat->Value)->Act)(hA:∀x,aw x 0 ops.toList a0=A x)(hm:P.follows .mixedOrders=true)(c:Nat)(val:Nat->Value)(g:Nat->Value->Value)(C:World->Prop)(Post:Value->World->Prop)(hok:dB a0.tmps.size 0 ops.toList []=true)(hco:wP c 0 ops.toList=true)(hcn:c<ops.size)(hC0:C w0.drew)(hC1:∀r w,Post r w->C w)(hsteps:qh P Q A w0 c val g C Post 0 ops.toList)(hend:∀r w,Post r w->Q .normal (A (wu c val g r)) w):(Code.region id ops true).wp P Q a0 w0:=by
 obtain⟨noisy,hno⟩:∃noisy:List Nat,noisy=(List.range ops.size).filter (fun i=>decide (c<=i)):=⟨_,rfl⟩;have hn1:∀i,i<c->noisy.contains i=false:=fun i hi=>by rw[hno];simp;omega
 have hn2:∀i,c<=i->i<ops.size->noisy.contains i=true:=fun i h1 h2=>by rw[hno];simp;omega
 refine mY hm (uv c val) (JC w0 c g Post) noisy hok ⟨fun _=>⟨fun _=>rfl,rfl⟩,fun r h=>by cases h⟩
  (l0 hA hC0 hC1 hn1 hn2 ops.toList 0 [] _ (by simp) hco hok hsteps) (fun x w hphi hJ=>?_)
 have hc:(if c<ops.size/\noisy.contains c=true then some (x c)else none)=some (x c):=if_pos ⟨hcn,hn2 c (Nat.le_refl _) hcn⟩;obtain⟨hp,hall⟩:=hJ.2 (x c) hc;have:=hend (x c) w hp;rw[<- hA]at this;rw[mB ops.toList 0 a0 (y:=wu c val g (x c)) (fun i _ hi=>?_)]
 ·exact this
 ·have hi':i<ops.size:=by simpa using hi
  unfold wu;by_cases hic:i<c
  ·have:=fG hphi i (Nat.zero_le _) (by omega);unfold uv at this;rw[if_pos hic]at this ⊢;exact this
  ·rw[if_neg hic];exact hall i (x i) (if_pos ⟨hi',hn2 i (by omega) hi'⟩)
end
theorem kW{val x:Nat->Value}:∀{l:List Edge},sB val x l->∀(k:Nat),(l.any fun e=>Region.binds .any e&&e.on==k)=true->x k=val k:=by
 intro l;induction l with
 | nil=>intro _ k h;simp at h
 | cons e r ih =>
  intro h k hk;rw[List.any_cons,Bool.or_eq_true]at hk;rcases hk with hk|hk
  ·simp only[Bool.and_eq_true,beq_iff_eq]at hk;have h1:=h.1;rw[hk.1]at h1;rw[<- hk.2];exact h1
  ·exact ih h.2 k hk
end
section
open Go.RowKit
theorem EZ{rb:Nat}{s:Bs×Bool}{w w':World}{e:Ending}(h:ve rb s.1 s.2 w e w'):e=.returned (str (gj s.1 s.2))/\Rd w' rb (rT s).1 (rT s).2/\Mods (fun k=>k=rb) w w':=⟨h.1,h.2.1,h.2.2⟩
def Jl(A:World)(hb:Nat)(k:UInt8)(p:Bs)(rb:Nat)(s1:Bs×Bool)(r:Value)(W:World):Prop :=
 ∃a n c ns l' b',r=.slice a n c/\iOk r ns/\RdT A (bZ r ns++[(hb,Is (eD k p))]) rb (l',b') W/\((b'=false/\s1.2=false/\s1.1.length%4=0/\l'=[]/\ns=gU s1.1)\/(b'=true/\(s1.2=true\/s1.1.length%4≠0)))
theorem J8(A:World)(hb:Nat)(p:Bs)(rb:Nat)(s1:Bs×Bool)(hrb:rb=A.heap.size){Q:Exit->Act->World->Prop}{w:World}{u1 u2 u3 u4 u7 u8 u9 aS aT ab ad ag aj ar av ax a0 a1 a2 a3 a4 a5 a6 a7 a9 bY bg bj bk bo bs bv bx b0 b1 b2 b3 b4 b6 b7 b9 ca cb cc ch ci cj cl cm cp cs ct cu cv cx c0 c1:Value}{ds:List Deferred}(hT:RdT A [(hb,Is (eD 3 p))] rb s1 w)(hl:s1.1.length<=70000)(hk:∀(r:Value) (w':World),Jl A hb 3 p rb s1 r w'->Q .normal { tmps:=#[.int .u8 3,u1,u2,u3,u4,.pointer (some ⟨rb,0,none⟩),.pointer (some ⟨hb,0,none⟩),.iface 286 (.agg #[.int .u8 3,str p,r]),u8,u9,aS,aT,ab,ad,ag,aj,ar,av,ax,a0,a1,a2,a3,a4,a5,a6,a7,a9,bY,bg,bj,bk,.agg #[.int .u8 3,str p],.pointer (some ⟨rb,0,none⟩),r,.agg #[.int .u8 3,str p,r],.iface 286 (.agg #[.int .u8 3,str p,r]),b1,b2,b3,b4,b6,b7,b9,ca,cb,cc,ch,ci,cj,cl,cm,cp,cs,ct,cu,cv,cx,c0,c1],defers:=ds } w'):
  (iq 10 Tryz.f101).wp Tryz.prog Q { tmps:=#[.int .u8 3,u1,u2,u3,u4,.pointer (some ⟨rb,0,none⟩),.pointer (some ⟨hb,0,none⟩),u7,u8,u9,aS,aT,ab,ad,ag,aj,ar,av,ax,a0,a1,a2,a3,a4,a5,a6,a7,a9,bY,bg,bj,bk,bo,bs,bv,bx,b0,b1,b2,b3,b4,b6,b7,b9,ca,cb,cc,ch,ci,cj,cl,cm,cp,cs,ct,cu,cv,cx,c0,c1],defers:=ds } w:=by
 have HM:=qqH (show Tryz.prog.follows .mixedOrders=true by kernel_rfl);conv=>arg 2;whnf
 refine t8 (A:=?A) (hA:=?hA) HM.out 2 (fun i=>([(.agg #[.int .u8 3,str p]:Value),(.pointer (some ⟨rb,0,none⟩):Value)]:List Value).getD i undef) (fun i r=>(([fun r=>r,fun r=>.agg #[.int .u8 3,str p,r],fun r=>.iface 286 (.agg #[.int .u8 3,str p,r]),fun r=>.iface 286 (.agg #[.int .u8 3,str p,r])]:List (Value->Value)).getD (i-2) (fun r=>r)) r) (fun W=>W.heap[hb]?=some (eD 3 p)) (Jl A hb 3 p rb s1) (by kernel_rfl) (by kernel_rfl) (by decide) (hT.1.sat.Q7 (by simp)) ?hC1 ?hs ?he
 case hA=>intro x;simp only[aw,Act.put,List.setIfInBounds_toArray,List.set_cons_zero,List.set_cons_succ,Nat.reduceAdd];rfl
 case hC1 =>
  rintro r W ⟨a,n,c,ns,l',b',-,-,h1,-⟩;exact h1.1.sat.Q7 (by simp)
 case hs =>
  refine⟨fun x w hd hC K hK=>?_,fun x w hd hC K hK=>?_,fun x hd K hK=>?_,fun x r w hp hd K hK=>?_,fun x r w hp hd K hK=>?_,fun x r w hp hd K hK=>?_,trivial⟩
  ·dsimp only;exact wp_load_mid 170 (.tmp 6) rfl hb 0 rfl [.int .u8 3,str p] _ (fun j v hv=>aa hC (0+j) (by rw[Nat.zero_add,<- Array.getElem?_toList];exact hv)) Tryz.underlying170 rfl (by kernel_rfl) hK
  ·dsimp only;exact am (by kernel_rfl) hK
  ·dsimp only;have h1:x 1=.pointer (some ⟨rb,0,none⟩):=kW hd 1 (by kernel_rfl);refine bd (by rw[h1];kernel_rfl) (nT rb s1.1 s1.2 w.drew (hT.drew hrb).2 hl) ?_;rintro e w' ⟨v,ns,l',b',rfl,hio,hT4,hR4,hres⟩;obtain⟨a,c,e1,-⟩:=aV (aW hT4.sat.left hio);refine⟨v,rfl,hK v w' ⟨a,_,c,ns,l',b',e1,hio,RdT.nums (s':=(l',b')) (hT.drew hrb) hT4 hR4,?_⟩⟩;rcases hres with h|⟨h1,h2,-⟩
   ·exact .inl h
   ·exact .inr ⟨h1,h2⟩
  ·dsimp only;obtain⟨a,n,c,ns,l',b',rfl,-⟩:=hp;have h0:x 0=.agg #[.int .u8 3,str p]:=kW hd 0 (by kernel_rfl);have h2:x 2=.slice a n c:=kW hd 2 (by kernel_rfl);exact am (by rw[h0,h2];kernel_rfl) hK
  ·dsimp only;obtain⟨a,n,c,ns,l',b',rfl,-⟩:=hp;have h3:x 3=.agg #[.int .u8 3,str p,.slice a n c]:=kW hd 3 (by kernel_rfl);exact am (by rw[h3];kernel_rfl) hK
  ·dsimp only;obtain⟨a,n,c,ns,l',b',rfl,-⟩:=hp;have h4:x 4=.iface 286 (.agg #[.int .u8 3,str p,.slice a n c]):=kW hd 4 (by kernel_rfl);exact am (by rw[h4];kernel_rfl) hK
 case he =>
  intro r w3 hp;exact hk r w3 hp
theorem J9(A:World)(hb:Nat)(k:UInt8)(p:Bs)(rb:Nat)(s1:Bs×Bool)(hrb:rb=A.heap.size){Q:Exit->Act->World->Prop}{w:World}{u1 u2 u3 u4 u7 u8 u9 aS aT ab ad ag aj ar av ax a0 a1 a2 a3 a4 a5 a6 a7 a9 bY bg bj bk bo bs bv bx b0 b1 b2 b3 b4 b6 b7 b9 ca cb cc ch ci cj cl cm cp cs ct cu cv cx c0 c1:Value}{ds:List Deferred}(hT:RdT A [(hb,Is (eD k p))] rb s1 w)(hl:s1.1.length<=70000)(m:Bs)(n:Nat)(hm:m=gj s1.1 s1.2)(hn:n=da (rT s1).1 (rT s1).2 4)(hk:∀(w':World),RdT A [(hb,Is (eD k p))] rb (rN (rT s1) 4) w'->Q .normal { tmps:=#[.int .u8 k.toNat,u1,u2,u3,u4,.pointer (some ⟨rb,0,none⟩),.pointer (some ⟨hb,0,none⟩),.iface 233 (.agg #[.int .u8 k.toNat,str p,str m,.int .i64 n]),u8,u9,aS,aT,ab,ad,ag,aj,ar,av,ax,a0,a1,a2,a3,a4,a5,a6,a7,a9,bY,bg,bj,bk,bo,bs,bv,bx,b0,b1,b2,b3,.agg #[.int .u8 k.toNat,str p],.pointer (some ⟨rb,0,none⟩),str m,.pointer (some ⟨rb,0,none⟩),.int .i64 n,.agg #[.int .u8 k.toNat,str p,str m,.int .i64 n],.iface 233 (.agg #[.int .u8 k.toNat,str p,str m,.int .i64 n]),ch,ci,cj,cl,cm,cp,cs,ct,cu,cv,cx,c0,c1],defers:=ds } w'):
  (iq 13 Tryz.f101).wp Tryz.prog Q { tmps:=#[.int .u8 k.toNat,u1,u2,u3,u4,.pointer (some ⟨rb,0,none⟩),.pointer (some ⟨hb,0,none⟩),u7,u8,u9,aS,aT,ab,ad,ag,aj,ar,av,ax,a0,a1,a2,a3,a4,a5,a6,a7,a9,bY,bg,bj,bk,bo,bs,bv,bx,b0,b1,b2,b3,b4,b6,b7,b9,ca,cb,cc,ch,ci,cj,cl,cm,cp,cs,ct,cu,cv,cx,c0,c1],defers:=ds } w:=by
 have HM:=qqH (show Tryz.prog.follows .mixedOrders=true by kernel_rfl);have hl2:(rT s1).1.length<=70000:=Nat.le_trans (iw _ _) hl;conv=>arg 2;whnf
 refine bK (A:=?A) (hA:=?hA) HM.out (iT [fun v=>v=.agg #[.int .u8 k.toNat,str p],fun v=>v=.pointer (some ⟨rb,0,none⟩),fun v=>v=str m,fun v=>v=.pointer (some ⟨rb,0,none⟩),fun v=>v=.int .i64 n,fun v=>v=.agg #[.int .u8 k.toNat,str p,str m,.int .i64 n],fun v=>v=.iface 233 (.agg #[.int .u8 k.toNat,str p,str m,.int .i64 n]),fun v=>v=.iface 233 (.agg #[.int .u8 k.toNat,str p,str m,.int .i64 n])])
  (fun vs1 W=>match vs1 with
  | []=>RdT A [(hb,Is (eD k p))] rb s1 W
  | [_]=>RdT A [(hb,Is (eD k p))] rb (rT s1) W
  | [_,_]=>RdT A [(hb,Is (eD k p))] rb (rN (rT s1) 4) W
  | _=>False)
  (fun W=>W.heap[hb]?=some (eD k p)) [2,4] ?hC (by kernel_rfl) (by kernel_rfl) (by decide) (by decide) ?h0 ?hs ?he
 case hA=>intro x;simp only[aw,Act.put,List.setIfInBounds_toArray,List.set_cons_zero,List.set_cons_succ,Nat.reduceAdd];rfl
 case hs =>
  refine⟨ac rfl rfl (fun x wq hd hC K hK hKw=>?_),ac rfl rfl (fun x wq hd hC K hK hKw=>?_),au 0 rfl rfl (fun x wq hd hS K hK=>?_),ac rfl rfl (fun x wq hd hC K hK hKw=>?_),au 1 rfl rfl (fun x wq hd hS K hK=>?_),ac rfl rfl (fun x wq hd hC K hK hKw=>?_),ac rfl rfl (fun x wq hd hC K hK hKw=>?_),ac rfl rfl (fun x wq hd hC K hK hKw=>?_),trivial⟩
  ·exact wp_load_mid 170 (.tmp 6) rfl hb 0 rfl [.int .u8 k.toNat,str p] _ (fun j v hv=>aa hC (0+j) (by rw[Nat.zero_add,<- Array.getElem?_toList];exact hv)) Tryz.underlying170 rfl (by kernel_rfl) (hK _ rfl)
  ·exact am (by kernel_rfl) (hK _ rfl)
  ·have h1:x 1=.pointer (some ⟨rb,0,none⟩):=ae hd 1 (by kernel_rfl);refine bd (by rw[h1];kernel_rfl) (mR rb s1.1 s1.2 wq hS.2 (by omega)) ?_;intro e w3 hp;obtain⟨rfl,hR,hM⟩:=EZ hp;exact⟨_,rfl,hK _ _ (by rw[hm];exact rfl) (hS.call hM hR)⟩
  ·exact am (by kernel_rfl) (hK _ rfl)
  ·have h3:x 3=.pointer (some ⟨rb,0,none⟩):=ae hd 3 (by kernel_rfl);refine bd (by rw[h3];kernel_rfl) (dt rb (rT s1).1 (rT s1).2 4 wq hS.2 (by omega) (by omega)) ?_;intro e w3 hp;obtain⟨rfl,hR,hM⟩:=jY hp;exact⟨_,rfl,hK _ _ (by rw[hn];exact rfl) (hS.call hM hR)⟩
  ·have h0:x 0=.agg #[.int .u8 k.toNat,str p]:=ae hd 0 (by kernel_rfl);have h2:x 2=str m:=ae hd 2 (by kernel_rfl);have h4:x 4=.int .i64 n:=ae hd 4 (by kernel_rfl);exact am (by rw[h0,h2,h4];kernel_rfl) (hK _ rfl)
  ·have h5:x 5=.agg #[.int .u8 k.toNat,str p,str m,.int .i64 n]:=ae hd 5 (by kernel_rfl);exact am (by rw[h5];kernel_rfl) (hK _ rfl)
  ·have h6:x 6=.iface 233 (.agg #[.int .u8 k.toNat,str p,str m,.int .i64 n]):=ae hd 6 (by kernel_rfl);exact am (by rw[h6];kernel_rfl) (hK _ rfl)
 case hC =>
  intro vs1 W hS;match vs1,hS with
  | [],hT=>exact hT.1.sat.Q7 (by simp)
  | [_],hT=>exact hT.1.sat.Q7 (by simp)
  | [_,_],hT=>exact hT.1.sat.Q7 (by simp)
 case h0=>exact hT.drew hrb
 case he =>
  intro x w3 hφ hS;obtain⟨e0,e1,e2,e3,e4,e5,e6,e7,-⟩:=hφ;have:=hk w3 hS;rw[show x 0=_ from e0,show x 1=_ from e1,show x 2=_ from e2,show x 3=_ from e3,show x 4=_ from e4,show x 5=_ from e5,show x 6=_ from e6,show x 7=_ from e7];exact this
theorem Du(body:Bs):fR 3 body=if(rT (body,false)).2=false/\(rT (body,false)).1.length%4=0 then some (.gone (gj body false) (gU (rT (body,false)).1))else none:=by
 unfold fR;rw[if_neg (by decide),if_pos rfl]
theorem G3{k:UInt8}(hk:k=4\/k=5)(body:Bs):fR k body=if(rN (rT (rT (body,false))) 4).2=false/\(rN (rT (rT (body,false))) 4).1=[]then some (.pin k (gj body false) (gj (rT (body,false)).1 (rT (body,false)).2) (da (rT (rT (body,false))).1 (rT (rT (body,false))).2 4))else none:=by
 unfold fR;rw[if_neg (by rcases hk with rfl|rfl<;>decide),if_neg (by rcases hk with rfl|rfl<;>decide),if_pos hk]
theorem zU{k:UInt8}(h2:k≠2)(h3:k≠3)(h4:k≠4)(h5:k≠5)(body:Bs):fR k body=none:=by
 unfold fR;simp only[if_neg h2,if_neg h3,if_neg (show ¬(k=4\/k=5)from fun h=>h.elim h4 h5)]
theorem wt{k:UInt8}{n:Nat}(_:n<256)(h:k≠UInt8.ofNat n):¬((k.toNat:Int)=(n:Int)):=fun e=>h (by
 have:k.toNat=n:=by omega
 rw[<- this,UInt8.ofNat_toNat])
theorem uG(k:UInt8)(a:Option Addr)(cap:Nat)(body:Bs)(w:World)(h:ak w a (body.map ao))(hcap:body.length<=cap)(ha:∀x,a=some x->x.block<w.heap.size)(hl:body.length<=70000):
  Calls Tryz.prog 101 #[.int .u8 k.toNat,.slice a body.length cap] w (cL k body w):=by
 by_cases hk2:k=2
 ·subst hk2;exact yd a cap body w h hcap ha hl
 obtain⟨rb,hrb⟩:∃rb,rb=w.heap.size:=⟨_,rfl⟩
 have hR0:RdT w [] rb (body,false) (w.alloc (.cells #[.slice a body.length cap,.bool false] 282)):=by
  refine⟨?_,a,cap,?_,hcap,h.keep ((Mods.refl (fun _=>False) w).alloc _) (fun _ _ _=>id),fun x hx=>hrb ▸ ha x hx⟩
  ·rw[hrb];exact(Turns.refl (Sat.nil w)).Qd (φ:=fun _=>True) trivial
  ·unfold rV;rw[hrb];exact aM w _
 have HT:=qqH (mR rb body false _ hR0.2 (by omega));have H0:=Hq2 hR0 hrb;rw[hrb]at HT;have hk2n:¬((k.toNat:Int)=2):=wt (by decide) hk2;clear h ha hcap hR0;go_enter Tryz.func101,Tryz.ntmps101;go_wp2_with fail;refine HT.out.mono ?_;rintro e w2 ⟨rfl,hR2,hm2⟩;rw[<- hrb]at hR2 hm2 ⊢;have hR3:RdT w [] rb (rT (body,false)) w2:=H0.a.call hm2 hR2;obtain⟨p,hp⟩:∃p,p=gj body false:=⟨_,rfl⟩;obtain⟨s1,hs1⟩:∃s1,s1=rT (body,false):=⟨_,rfl⟩;have hl1:s1.1.length<=70000:=by rw[hs1];exact Nat.le_trans (iw _ _) hl
 rw[<- hs1]at hR3;rw[<- hp];have hR4:=hR3.alloc H0.z (eD k p);obtain⟨hb,hhb⟩:∃hb,hb=w2.heap.size:=⟨_,rfl⟩;rw[<- hhb]at hR4;have H2:=Hq3 hR4 hp hs1;clear hR2 hm2 hR3 hp hs1 hrb hR4;by_cases hk3:k=3
 ·subst hk3;go_upto_region 10 with(fail);rw[<- hhb];refine J8 w hb p rb s1 H0.z H2.a hl1 ?_;rintro r w3 ⟨a1,n1,c1,ns,l',b',rfl,hio,hT3,hres⟩;obtain⟨ra,rc,hrd,-⟩:=id hT3.2;have hrd:w3.heap[rb]?=some (.cells #[.slice ra l'.length rc,.bool b'] 282 (0,0)):=hrd;have hrl:=ah hrd;have k0:w3.cell? ⟨rb,0,none⟩=some (.slice ra l'.length rc):=aa hrd 0 rfl;have k1:w3.cell? ⟨rb,1,none⟩=some (.bool b'):=aa hrd 1 rfl;have H3:=Hq2 hio hT3;clear hrd hio hT3;rcases hres with⟨rfl,hs2,hl4,rfl,hns⟩|⟨rfl,hbad⟩
  ·have HX:=Hq3 hs2 hl4 hns;clear hs2 hl4 hns;go_wp2_with fail;refine bodyPost_ret (results_tmp rfl _ _ _) rfl ?_;unfold cL;rw[Du,<- H2.y,<- H2.b,if_pos ⟨HX.a,HX.b⟩];refine⟨_,rfl,?_,?_⟩
   ·show iOk _ (gU s1.1);rw[<- HX.y];exact H3.a
   ·show Turns [] (bZ _ (gU s1.1)) _ _;rw[<- HX.y];exact H3.b.left.left
  ·have HX:=qqH hbad;clear hbad;go_wp2_with fail;refine bodyPost_ret (results_tmp rfl _ _ _) rfl ?_;unfold cL;rw[Du,<- H2.y,if_neg]
   ·exact⟨rfl,H3.b.news⟩
   ·rintro⟨h1,h2⟩;rcases HX.out with h|h
    ·rw[h1]at h;cases h
    ·exact h h2
 have hk3n:¬((k.toNat:Int)=3):=wt (by decide) hk3;by_cases hk45:k=4\/k=5
 ·have HK:=qqH hk45;obtain⟨m,hm⟩:∃m,m=gj s1.1 s1.2:=⟨_,rfl⟩;obtain⟨n,hn⟩:∃n,n=da (rT s1).1 (rT s1).2 4:=⟨_,rfl⟩;have HN:=Hq2 hm hn;clear hm hn
  have hfin:∀(w3:World) (l':Bs) (b':Bool),(l',b')=rN (rT s1) 4->RdT w [(hb,Is (eD k p))] rb (l',b') w3->∀v,(b'=false/\l'=[]->v=tD (.pin k p m n) (.slice none 0 0))->(¬(b'=false/\l'=[])->v=.nilIface)->cL k body w (.returned v) w3:=fun w3 l' b' hs3 hT3 v hv1 hv2=>by
   unfold cL;rw[G3 HK.out,<- H2.y,<- H2.b,<- HN.a,<- HN.z,<- hs3];by_cases hc:b'=false/\l'=[]
   ·rw[if_pos hc];exact⟨.slice none 0 0,by rw[hv1 hc],⟨rfl,fun _=>⟨rfl,rfl⟩⟩,⟨hT3.1.mods,Sat.nil _,fun b hb=>by cases hb⟩⟩
   ·rw[if_neg hc];exact⟨by rw[hv2 hc],hT3.1.news⟩
  have HG:=qqH hfin;clear hk2 hk3 hk2n hk3n hfin;rcases hk45 with rfl|rfl
  all_goals
   go_upto_region 13 with(fail);rw[<- hhb];refine J9 w hb _ p rb s1 H0.z H2.a hl1 m n HN.a HN.z ?_;intro w3 hT3;obtain⟨s3,hs3⟩:∃s3,s3=rN (rT s1) 4:=⟨_,rfl⟩;rw[<- hs3]at hT3;obtain⟨l',b'⟩:=s3;obtain⟨ra,rc,hrd,-⟩:=id hT3.2;have hrd:w3.heap[rb]?=some (.cells #[.slice ra l'.length rc,.bool b'] 282 (0,0)):=hrd;have hrl:=ah hrd;have k0:w3.cell? ⟨rb,0,none⟩=some (.slice ra l'.length rc):=aa hrd 0 rfl;have k1:w3.cell? ⟨rb,1,none⟩=some (.bool b'):=aa hrd 1 rfl;have HF:=qqH (HG.out w3 l' b' hs3 hT3);clear hrd hs3 hT3
   cases b' with
   | true =>
    go_wp2_with fail;refine bodyPost_ret (results_tmp rfl _ _ _) rfl ?_;exact HF.out _ (fun h=>by cases h.1) (fun _=>rfl)
   | false =>
    by_cases hl0:l'.length=0
    ·have hl1:(l'.length:Int)=0:=by omega
     go_wp2_with fail;refine bodyPost_ret (results_tmp rfl _ _ _) rfl ?_;exact HF.out _ (fun _=>rfl) (fun h=>absurd ⟨by first|rfl|trivial,List.length_eq_zero_iff.1 hl0⟩ h)
    ·have hl1:(0:Int)<(l'.length:Int):=by omega
     go_wp2_with fail;refine bodyPost_ret (results_tmp rfl _ _ _) rfl ?_;exact HF.out _ (fun h=>absurd (by rw[h.2];rfl) hl0) (fun _=>rfl)
 ·have hk4n:¬((k.toNat:Int)=4):=wt (by decide) (fun h=>hk45 (.inl h));have hk5n:¬((k.toNat:Int)=5):=wt (by decide) (fun h=>hk45 (.inr h))
  have hfin:∀W,aX w W->cL k body w (.returned .nilIface) W:=fun W hs=>by
   unfold cL;rw[zU hk2 hk3 (fun h=>hk45 (.inl h)) (fun h=>hk45 (.inr h))];exact⟨rfl,hs⟩
  have HF:=qqH hfin;clear hfin hk45;go_upto_region 14 with(fail);obtain⟨W,hW⟩:∃W,W=w2.alloc (.cells #[.int .u8 k.toNat,str p] 170):=⟨_,rfl⟩;rw[<- hW];have h4:RdT w [(hb,Is (eD k p))] rb s1 W:=by rw[hW];exact H2.a
  obtain⟨l',b'⟩:=s1;obtain⟨ra,rc,hrd,-⟩:=id h4.2;have hrd:W.heap[rb]?=some (.cells #[.slice ra l'.length rc,.bool b'] 282 (0,0)):=hrd;have hrl:=ah hrd;have k0:W.cell? ⟨rb,0,none⟩=some (.slice ra l'.length rc):=aa hrd 0 rfl;have k1:W.cell? ⟨rb,1,none⟩=some (.bool b'):=aa hrd 1 rfl;have H4:=qqH h4.1.news;clear hW h4 hrd
  cases b' with
  | true =>
   go_wp2_with fail;refine bodyPost_ret (results_tmp rfl _ _ _) rfl ?_;exact HF.out _ H4.out
  | false =>
   by_cases hl0:l'.length=0
   ·have hl1:(l'.length:Int)=0:=by omega
    go_wp2_with fail;refine bodyPost_ret (results_tmp rfl _ _ _) rfl ?_;exact HF.out _ H4.out
   ·have hl1:(0:Int)<(l'.length:Int):=by omega
    go_wp2_with fail;refine bodyPost_ret (results_tmp rfl _ _ _) rfl ?_;exact HF.out _ H4.out
end
section
open Go.RowKit Go.Maps
open Go.ChangeMaps (setBlock)
theorem JL(c:Array Value)(w:World):(Instr.typeAssert (.iface 286 (.agg c)) 215 173 true).run Tryz.prog w=.ok (.tuple #[.agg #[.int .u8 0,.string ⟨#[]⟩,.int .i64 0,.int .i64 0,.slice none 0 0],.bool false]) w:=by kernel_rfl
theorem JK(c:Array Value)(w:World):(Instr.typeAssert (.iface 286 (.agg c)) 215 286 true).run Tryz.prog w=.ok (.tuple #[.agg c,.bool true]) w:=by kernel_rfl
theorem JO(c:Array Value)(w:World):(Instr.typeAssert (.iface 233 (.agg c)) 215 173 true).run Tryz.prog w=.ok (.tuple #[.agg #[.int .u8 0,.string ⟨#[]⟩,.int .i64 0,.int .i64 0,.slice none 0 0],.bool false]) w:=by kernel_rfl
theorem JM(c:Array Value)(w:World):(Instr.typeAssert (.iface 233 (.agg c)) 215 286 true).run Tryz.prog w=.ok (.tuple #[.agg #[.int .u8 0,.string ⟨#[]⟩,.slice none 0 0],.bool false]) w:=by kernel_rfl
theorem JN(c:Array Value)(w:World):(Instr.typeAssert (.iface 233 (.agg c)) 215 233 true).run Tryz.prog w=.ok (.tuple #[.agg c,.bool true]) w:=by kernel_rfl
theorem GN(k:UInt8)(p:Bs)(w:World):Calls Tryz.prog 141 #[.agg #[.int .u8 k.toNat,str p]] w (fun e w'=>e=.returned (.int .u8 k.toNat)/\aX w w'):=by
 go_enter Tryz.func141,Tryz.ntmps141;go_wp2_with fail;refine bodyPost_ret (results_tmp rfl _ _ _) rfl ?_;exact⟨rfl,(Mods.refl _ w).alloc _⟩
theorem GC{ps:List bl}(hnem:∀q∈ps,q.g≠[])(p:Bs):jk (ps.map aN) p=true↔ai ps p≠[]:=by
 rw[pE];unfold gv;rw[List.any_eq_true];refine⟨fun⟨q,hq,hk⟩ hn=>?_,fun h=>?_⟩
 ·unfold ai gOf at hn
  cases hf:ps.find? (fun q=>decide (q.key=p))with
  | none=>exact List.find?_eq_none.1 hf q hq hk
  | some x=>rw[hf]at hn;exact hnem x (List.mem_of_find?_eq_some hf) hn
 ·obtain⟨q,hq,hk,-⟩:=jz h;exact⟨q,hq,by simpa using hk⟩
def gN(a:Nat)(X:ArchL)(ps:List bl)(pc:Nat)(v:Value)(ns:List Int):HF:=(a,Is (aO X))::(aU X.pm ps pc++bZ v ns)
def DS(a:Nat)(X:ArchL)(ps:List bl)(pc:Nat)(p:Bs)(v:Value)(ns:List Int)(w:World)(e:Ending)(w':World):Prop :=
 (ai ps p=[]/\e=.returned (.bool false)/\Turns (gN a X ps pc v ns) (gN a X ps pc v ns) w w') \/
 (ai ps p≠[]/\e=.returned (.bool true)/\∃v',et v' (dK ns (ai ps p))/\Turns (gN a X ps pc v ns) (gN a (iV X (X.used-(bP ns (ai ps p):Nat))) (ge ps pc p v' ns) pc v ns) w w')
theorem zV(a sm:Nat)(X:ArchL)(ps:List bl)(pc:Nat)(p:Bs)(v:Value)(ns:List Int)(w:World)(h:Sat w (gN a X ps pc v ns))(hio:iOk v ns)(hok:PathsOk ps pc)(hnem:∀q∈ps,q.g≠[])(hl:OkS p)(hu:qO X.used (ai ps p))(hnl:ns.length<=1099511627776):
  Calls Tryz.prog 100 #[.pointer (some ⟨a,0,none⟩),tD (.gone p ns) v,.map (some sm)] w (DS a X ps pc p v ns w):=by
 obtain⟨F1,hF1⟩:∃F1,F1=gN a X ps pc v ns:=⟨_,rfl⟩;obtain⟨av,cap,hv,-⟩:=aV (aW (h.sub (G:=bZ v ns) (fun x=>by unfold gN;simp only[aB,an];omega)) hio);obtain⟨hb,hhb⟩:∃hb,hb=jk (ps.map aN) p:=⟨_,rfl⟩;have hhv:=GC hnem p;rw[<- hhb]at hhv;have HH:=Hq8 h hio hok hl hu hF1 hhb hhv;have HM:=qqH (show Tryz.prog.follows .mixedOrders=true by kernel_rfl);have hta:=JL #[.int .u8 3,str p,v] w;have htb:=JK #[.int .u8 3,str p,v] w;have hal:=ah h.Q5;clear h hio hok hnem hl hu hF1 hhb hhv;subst hv;unfold tD;go_enter Tryz.func100,Tryz.ntmps100;go_upto_region 21 with(fail);obtain⟨W,hW⟩:∃W,W=w.alloc (.cells #[.int .u8 3,str p,.slice av ns.length cap] 286):=⟨_,rfl⟩;rw[<- hW]
 have hT1:Turns F1 ((w.heap.size,Is (.cells #[.int .u8 3,str p,.slice av ns.length cap] 286 (0,0)))::F1) w W:=by
  rw[hW,HH.f];exact(Turns.refl HH.a).Q8 (.cells #[.int .u8 3,str p,.slice av ns.length cap] 286)
 have hbo:=hT1.sat.Q5;have b1:W.cell? ⟨w.heap.size,1,none⟩=some (str p):=aa hbo 1 rfl;have hao:=hT1.sat.Q7 (b:=a) (o:=aO X) (by rw[HH.f];simp[gN]);have a0:W.cell? ⟨a,0,none⟩=some (.map (some X.pm)):=aa hao 0 rfl;obtain⟨u0,hu0⟩:∃u0,u0=(dW (ps.map aN) p).getD (.slice none 0 0):=⟨_,rfl⟩
 have hlk:∀k,(Instr.lookup 119 (.map (some X.pm)) (str p) true).run Tryz.prog (W.drewN k)=.ok (.tuple #[u0,.bool hb]) (W.drewN k):=fun k=>by
  rw[HH.g,hu0];exact tP eB Tryz.underlying119 (w:=W.drewN k) (hT1.sat.Q7 (b:=X.pm) (by rw[HH.f];simp[gN,aU])) HH.c.map (gd _) HH.d
 have hal2:=ah hao;have hbl:=ah hbo;have H1:=qqH hT1;clear hW hT1 hbo hao hu0 hta htb;go_quiet (fail);obtain⟨W2,hW2⟩:∃W2,W2=W.drewN nq:=⟨_,rfl⟩;rw[<- hW2];have hT2:=hW2 ▸ H1.out.drewN nq;have hbo:=hT2.sat.Q5;have b1:W2.cell? ⟨w.heap.size,1,none⟩=some (str p):=aa hbo 1 rfl;have b2:W2.cell? ⟨w.heap.size,2,none⟩=some (.slice av ns.length cap):=aa hbo 2 rfl;have H2:=qqH hT2;clear hW2 hT2 hbo hlk
 cases hb with
 | false =>
  go_wp2_with fail;refine bodyPost_ret (results_tmp rfl _ _ _) rfl (.inl ⟨?_,rfl,?_⟩)
  ·have h2:=HH.t;simpa using h2
  ·rw[<- HH.f];exact H2.out.drop (fun x=>by simp only[aB];omega)
 | true =>
  have hne:ai ps p≠[]:=(HH.t).1 rfl;have HN:=qqH hne;clear hne;go_wp2_with fail;refine wp_region_still_tail 8 HM.out (by kernel_rfl) ?_;simp only[List.take_succ_cons,List.take_zero,List.drop_succ_cons,List.drop_zero];repeat still_step
  refine wpStill_nil ?_;change wpList _ _ _ _ _ W2.drew;have hT3:=H2.out.drew;rw[HH.f]at hT3;have HD:=qqH (sD a X ps pc p (.slice av ns.length cap) ns W2.drew (hT3.sat.sub (fun x=>by unfold gN;simp only[aB,an];omega)) HH.b HH.c HH.d HN.out HH.e hnl);have H3:=qqH hT3;clear hT3;go_wp2_with fail;refine HD.out.mono ?_;rintro e w4 ⟨v',rfl,hv',hT4⟩;have H4:=Hq2 hv' (H3.out.step (F:=gN a X ps pc (.slice av ns.length cap) ns) (R:=[(w.heap.size,Is (.cells #[.int .u8 3,str p,.slice av ns.length cap] 286 (0,0)))]) af hT4);clear hv' hT4;go_wp2_with fail;refine bodyPost_ret (results_tmp rfl _ _ _) rfl (.inr ⟨HN.out,rfl,v',H4.a,?_⟩);exact H4.z.left
def DT(a:Nat)(X:ArchL)(ps:List bl)(pc:Nat)(ts:List ib)(tc:Nat)(k:UInt8)(m p:Bs)(n:Int)(w:World)(e:Ending)(w':World):Prop :=
 e=.returned (.bool true)/\Turns (eM a X ps pc ts tc) (if k=4 then eM a X (dZ ps p n 1) pc (eO ts tc m (qI m (p,n)) (p,n)) (cD (ts.map aN) tc m)else eM a X (dZ ps p n (-1)) pc (bI ts m) tc) w w'
theorem zW(a sm:Nat)(X:ArchL)(ps:List bl)(pc:Nat)(ts:List ib)(tc:Nat)(k:UInt8)(hk:k=4\/k=5)(m p:Bs)(n:Nat)(v:Value)(w:World)(h:PinPre a X ps pc ts tc m p w):
  Calls Tryz.prog 100 #[.pointer (some ⟨a,0,none⟩),tD (.pin k p m n) v,.map (some sm)] w (DT a X ps pc ts tc k m p n w):=by
 have hal:=ah h.sat.Q5;have HH:=qqH h;have HM:=qqH (show Tryz.prog.follows .mixedOrders=true by kernel_rfl);clear h;unfold tD;have hta:=fun c=>JO c w
 have htb:=fun c=>JM c w
 have htc:=fun c=>JN c w
 go_enter Tryz.func100,Tryz.ntmps100;go_upto_region 29 with(fail);generalize hW:(w.alloc _).alloc _=W
 have hT1:Turns (eM a X ps pc ts tc) ((w.heap.size+1,Is (.cells #[str m,str p,.int .i64 n] 230 (0,0)))::(w.heap.size,Is (.cells #[(.int .u8 k.toNat),str p,str m,.int .i64 n] 233 (0,0)))::eM a X ps pc ts tc) w W:=by
  rw[<- hW];have:=((Turns.refl HH.out.sat).Q8 (.cells #[(.int .u8 k.toNat),str p,str m,.int .i64 n] 233)).Q8 (.cells #[str m,str p,.int .i64 n] 230);rw[World.size_alloc]at this;exact this
 have h0o:=hT1.sat.tail.Q5;have b0:W.cell? ⟨w.heap.size,0,none⟩=some (.int .u8 k.toNat):=aa h0o 0 rfl;have b1:W.cell? ⟨w.heap.size,1,none⟩=some (str p):=aa h0o 1 rfl;have H1:=qqH hT1;clear hW hT1 h0o hta htb htc;go_wp2_with fail;refine(GN k p _).mono ?_;rintro e W2 ⟨rfl,hs⟩;rcases hk with rfl|rfl
 all_goals
  have hT2:=H1.out.Q9 hs;have h1o:=hT2.sat.Q5;have c0:W2.cell? ⟨w.heap.size+1,0,none⟩=some (str m):=aa h1o 0 rfl;have c1:W2.cell? ⟨w.heap.size+1,1,none⟩=some (str p):=aa h1o 1 rfl;have c2:W2.cell? ⟨w.heap.size+1,2,none⟩=some (.int .i64 n):=aa h1o 2 rfl;have hal2:a<W2.heap.size:=ah (hT2.sat.Q7 (b:=a) (o:=aO X) (by simp[eM]));have H2:=qqH hT2;clear hT2 h1o hs b0 b1;go_wp2_with fail;refine wp_region_still_tail 4 HM.out (by kernel_rfl) ?_;simp only[List.take_succ_cons,List.take_zero,List.drop_succ_cons,List.drop_zero];repeat still_step
  refine wpStill_nil ?_;change wpList _ _ _ _ _ W2.drew;have hT3:=H2.out.drew;have hP:PinPre a X ps pc ts tc m p W2.drew:={ HH.out with sat:=hT3.sat.tail.tail };have HP1:=qqH (vW a X ps pc ts tc m p n W2.drew hP);have HP2:=qqH (ri a X ps pc ts tc m p n W2.drew hP);have H3:=qqH hT3;clear hT3 hP;go_wp2_with fail;first|refine HP1.out.mono ?_|refine HP2.out.mono ?_
  rintro e w4 ⟨rfl,hT4⟩;have H4:=qqH ((H3.out.drop (H:=eM a X ps pc ts tc) (fun x=>by simp only[aB];omega)).trans hT4);clear hT4;go_wp2_with fail;refine bodyPost_ret (results_tmp rfl _ _ _) rfl ⟨rfl,?_⟩;first|rw[if_pos rfl]|rw[if_neg (by decide)]
  exact H4.out
end
section
open Go.RowKit Go.Maps
theorem Ed{W W':World}{a:Option Addr}{xs:List Value}(h:ak W a xs)(he:∀x,a=some x->W'.heap[x.block]?=W.heap[x.block]?):ak W' a xs:=fun hp=>by
 obtain⟨g,off,ha,hc⟩:=h hp
 refine⟨g,off,ha,fun j hj=>?_⟩
 rw[<- hc j hj]
 exact World.cell?_of_block (he ⟨g,off,none⟩ ha)
theorem Bd(w:World):(Instr.typeAssert .nilIface 215 173 true).run Tryz.prog w=.ok (.tuple #[.agg #[.int .u8 0,.string ⟨#[]⟩,.int .i64 0,.int .i64 0,.slice none 0 0],.bool false]) w:=by kernel_rfl
theorem Bb(w:World):(Instr.typeAssert .nilIface 215 286 true).run Tryz.prog w=.ok (.tuple #[.agg #[.int .u8 0,.string ⟨#[]⟩,.slice none 0 0],.bool false]) w:=by kernel_rfl
theorem Bc(w:World):(Instr.typeAssert .nilIface 215 233 true).run Tryz.prog w=.ok (.tuple #[.agg #[.int .u8 0,.string ⟨#[]⟩,.string ⟨#[]⟩,.int .i64 0],.bool false]) w:=by kernel_rfl
theorem uI(a sm:Nat)(w:World):Calls Tryz.prog 100 #[.pointer (some ⟨a,0,none⟩),.nilIface,.map (some sm)] w (fun e w'=>e=.returned (.bool false)/\aX w w'):=by
 have h1:=Bd w;have h2:=Bb w;have h3:=Bc w;go_enter Tryz.func100,Tryz.ntmps100;go_wp2_with fail;exact bodyPost_ret (results_tmp rfl _ _ _) rfl ⟨rfl,Mods.refl _ _⟩
def lf(X:ArchL)(u s b:Int):ArchL:={ X with used:=u,sc:=s,sb:=b }
theorem EK{X:ArchL}(h:X.used=0/\X.sc=0/\X.sb=0):lf X 0 0 0=X:=by
 cases X
 obtain⟨h1,h2,h3⟩:=h;simp only at h1 h2 h3;subst h1;subst h2;subst h3;rfl
def ctF(a:Nat)(X:ArchL)(ps:List bl)(pc:Nat)(cs:List ll)(cc:Nat)(ts:List ib)(tc:Nat):HF:=(a,Is (aO X))::(aU X.pm ps pc++(bm X.cm cs cc++dm X.tm ts tc))
def FS(a sm:Nat)(D:Bs)(X:ArchL)(ps:List bl)(pc:Nat)(cs:List ll)(cc:Nat)(ts:List ib)(tc:Nat)(sz:List (Ent Int))(szc at_:Nat)(s:PSt)(k:UInt8)(body:Bs)(n:Nat)(J:HF)(w:World)(e:Ending)(w':World):Prop :=
 (gY at_ s k body=none/\e=.returned (.bool false)/\Turns (ctF a X ps pc cs cc ts tc++((sm,Is (aR dq sz szc))::J)) (ctF a X ps pc cs cc ts tc++((sm,Is (aR dq sz szc))::J)) w w') \/
 (∃s' u ps' pc' ts' tc',e=.returned (.bool true)/\CtOk D (iV X u) ps' pc' cs cc ts' tc' sz szc (at_+n) s'/\Turns (ctF a X ps pc cs cc ts tc++((sm,Is (aR dq sz szc))::J)) (ctF a (iV X u) ps' pc' cs cc ts' tc'++((sm,Is (aR dq sz szc))::J)) w w')
theorem uH{a sm:Nat}{D:Bs}{X:ArchL}{ps:List bl}{pc:Nat}{cs:List ll}{cc:Nat}{ts:List ib}{tc:Nat}{sz:List (Ent Int)}{szc at_:Nat}{s:PSt}{k:UInt8}{body:Bs}{n:Nat}{w:World}(hct:CtOk D X ps pc cs cc ts tc sz szc at_ s)(hk1:k≠1)(ho:cG (D.drop at_)=some (k,body,n))(hat:at_<=810000){r:RecR}(hr:fR k body=some r){v:Value}(hio:iOk v (ma r))(h:Sat w (ctF a X ps pc cs cc ts tc++((sm,Is (aR dq sz szc))::bZ v (ma r)))):
  Calls Tryz.prog 100 #[.pointer (some ⟨a,0,none⟩),tD r v,.map (some sm)] w (FS a sm D X ps pc cs cc ts tc sz szc at_ s k body n (bZ v (ma r)) w):=by
 obtain⟨hb1,-,-,-,hb5,hb6,hb7⟩:=hct.bounds hat;obtain⟨-,-,hbl,-⟩:=hct.on ho;have hrg:=mO hr;have hT0:=Turns.refl h
 have hsz:∀p,((ai ps p).map (·.size)).sum<=65535*90000:=fun p=>by
  have h1:=tY (l:=ai ps p) (f:=(·.size)) (m:=65535) (fun V hV=>(hb7 p V hV).2);have h2:=hb5 p;have:65535*(ai ps p).length<=65535*90000:=Nat.mul_le_mul (Nat.le_refl _) h2;omega
 cases r with
 | ver p num m ats =>
  obtain⟨r1,r2,r3,r4,r5⟩:=hrg;have hT4:Turns _ (iD a X ps pc sm sz szc v ats++(bm X.cm cs cc++dm X.tm ts tc)) w w:=hT0.to (by unfold ctF iD ma;exact af);refine(zX a X ps pc sm sz szc v (lk s.K) p num m ats w hT4.sat.left hio hct.map hct.get hb6 r4 (by omega) hct.paths (by unfold OkS;omega) (by have:=hb5 p;omega) (by omega) (by omega)).mono ?_;rintro e w5 (⟨hno,rfl,hT5⟩|⟨chs,b,cv,v',hch,hsm,rfl,hcv,hv',hT5⟩)
  ·refine .inl ⟨?_,rfl,(hT4.step (List.Perm.refl _) hT5).to (by unfold ctF iD ma;exact af)⟩;unfold gY;rw[if_neg hk1,hr];dsimp only
   cases hc:dF (lk s.K) ats with
   | none=>rfl
   | some chs=>dsimp only;rw[if_neg (hno chs hc)]
  ·have h9:=hT4.step (List.Perm.refl _) hT5;refine .inr ⟨_,X.used+m,_,_,ts,tc,rfl,hct.ver hk1 ho hr hch hsm hcv hv',h9.to ?_⟩;show List.Perm (iD a (iV X (X.used+m)) _ _ sm sz szc v ats++(bm X.cm cs cc++dm X.tm ts tc)) (ctF a (iV X (X.used+m)) _ _ cs cc ts tc++((sm,Is (aR dq sz szc))::bZ v ats));unfold ctF iD iV;exact af
 | gone p ns =>
  obtain⟨r1,r2⟩:=hrg;have hT4:Turns _ (gN a X ps pc v ns++((sm,Is (aR dq sz szc))::(bm X.cm cs cc++dm X.tm ts tc))) w w:=hT0.to (by unfold ctF gN ma;exact af);refine(zV a sm X ps pc p v ns w hT4.sat.left hio hct.paths hct.nem (by unfold OkS;omega) ⟨by omega,by omega,by have:=hsz p;omega,by have:=hb5 p;omega⟩ (by omega)).mono ?_;rintro e w5 (⟨hno,rfl,hT5⟩|⟨hne,rfl,v',hv',hT5⟩)
  ·refine .inl ⟨?_,rfl,(hT4.step (List.Perm.refl _) hT5).to (by unfold ctF gN ma;exact af)⟩;unfold gY;rw[if_neg hk1,hr];dsimp only;rw[if_neg (fun h=>(hct.has p).1 h hno)]
  ·have h9:=hT4.step (List.Perm.refl _) hT5;refine .inr ⟨_,X.used-(bP ns (ai ps p):Nat),_,pc,ts,tc,rfl,hct.gone hk1 ho hr hne hv',h9.to ?_⟩;show List.Perm _ (ctF a (iV X (X.used-(bP ns (ai ps p):Nat))) _ _ cs cc ts tc++((sm,Is (aR dq sz szc))::bZ v ns));unfold ctF gN iV;exact af
 | pin q p m num =>
  obtain⟨rfl,r2,r3,r4,r5⟩:=hrg;have hT4:Turns _ (eM a X ps pc ts tc++((sm,Is (aR dq sz szc))::(bm X.cm cs cc++bZ v []))) w w:=hT0.to (by unfold ctF eM ma;exact af);refine(zW a sm X ps pc ts tc q r2 m p num v w ⟨hT4.sat.left,hct.paths,hct.tags,by unfold OkS;omega,by unfold OkS;omega,by have:=hb5 p;omega,fun V hV=>by have:=(hb7 p V hV).1;omega⟩).mono ?_;rintro e w5 ⟨rfl,hT5⟩;have h9:=hT4.step (List.Perm.refl _) hT5;have hux:iV X X.used=X:=rfl;by_cases hq:q=4
  ·rw[if_pos hq]at h9;refine .inr ⟨{ s with H:=gT s.H p num 1,T:=uz s.T (m,p,num) },X.used,dZ ps p num 1,pc,eO ts tc m (qI m (p,(num:Int))) (p,(num:Int)),cD (ts.map aN) tc m,rfl,?_,h9.to ?_⟩
   ·rw[hux];refine hct.tag ho (by omega) (CD hct.tags (by unfold OkS;omega) (p,(num:Int))) (by rw[Hg,hct.tagT]) (GU _ _) (fun t ht=>?_) ?_
    ·rcases GV ht with rfl|ht
     ·exact⟨r4,r3,by show(0:Int)<=num;omega,by show(num:Int)<_;omega⟩
     ·exact hct.cnt.tag t ht
    ·unfold gY;rw[if_neg hk1,hr];dsimp only;rw[if_pos hq]
   ·rw[hux];show List.Perm _ (ctF a X _ _ cs cc _ _++((sm,Is (aR dq sz szc))::bZ v []));unfold ctF eM;exact af
  ·rw[if_neg hq]at h9;refine .inr ⟨{ s with H:=gT s.H p num (-1),T:=Ei s.T m },X.used,dZ ps p num (-1),pc,bI ts m,tc,rfl,?_,h9.to ?_⟩
   ·rw[hux];refine hct.tag ho (by omega) (CB hct.tags m) (by rw[Hf,hct.tagT]) ?_ (fun t ht=>hct.cnt.tag t (List.mem_filter.1 ht).1) ?_
    ·have:(Ei s.T m).length<=s.T.length:=List.length_filter_le _ _;omega
    ·unfold gY;rw[if_neg hk1,hr];dsimp only;rw[if_neg hq]
   ·rw[hux];show List.Perm _ (ctF a X _ _ cs cc _ _++((sm,Is (aR dq sz szc))::bZ v []));unfold ctF eM;exact af
def CZ(a:Nat)(X:ArchL)(D:Bs)(g:Nat)(o:Obj)(w:World)(e:Ending)(w':World):Prop :=
 ∃at_ s u sc sb ps pc cs cc ts tc sz szc,e=.returned (.int .i64 (at_:Nat))/\CtOk D (lf X u sc sb) ps pc cs cc ts tc sz szc at_ s/\rH D at_ s /\
  Turns (ctF a X [] 0 [] 0 [] 0++[(g,Is o)]) (ctF a (lf X u sc sb) ps pc cs cc ts tc++[(g,Is o)]) w w'
def JE(a:Nat)(X:ArchL)(D:Bs)(g:Nat)(o:Obj)(sm:Nat)(w:World)(t:Value)(W:World):Prop :=
 ∃at_ s u sc sb ps pc cs cc ts tc sz szc J,t=.int .i64 (at_:Nat)/\CtOk D (lf X u sc sb) ps pc cs cc ts tc sz szc at_ s /\
  Turns (ctF a X [] 0 [] 0 [] 0++[(g,Is o)]) (ctF a (lf X u sc sb) ps pc cs cc ts tc++((sm,Is (aR dq sz szc))::(g,Is o)::J)) w W
theorem xD(a:Nat)(X:ArchL)(D:Bs)(g off cap:Nat)(o:Obj)(w:World)(h:Sat w (ctF a X [] 0 [] 0 [] 0++[(g,Is o)]))(hX:X.used=0/\X.sc=0/\X.sb=0)(hD:∀W:World,W.heap[g]?=some o->ak W (some ⟨g,off,none⟩) (D.map ao))(hcap:D.length<=cap)(hl:D.length<=1073741824)(hR:∀at_ s,Reach D at_ s->at_<=810000):
  Calls Tryz.prog 55 #[.pointer (some ⟨a,0,none⟩),.slice (some ⟨g,off,none⟩) D.length cap] w (CZ a X D g o w):=by
 obtain⟨F1,hF1⟩:∃F1,F1=ctF a X [] 0 [] 0 [] 0++[(g,Is o)]:=⟨_,rfl⟩;have HH:=Hq5 h hX hD hR hF1;have hT0:Turns F1 F1 w w:=by rw[hF1];exact Turns.refl h
 have H0:=qqH hT0;clear h hX hD hR hF1 hT0;go_enter Tryz.func55,Tryz.ntmps55;go_wp2_with ((refine al rfl (t7 212 rfl H0.out ?_);intro sm w1 hT1;have H1:=qqH hT1;clear hT1;simp only[Act.put]));go_loopw [5] (fun t wr=>JE a X D g o sm w t wr) (fun t _=>D.length-(intOf t).toNat)
 case atStart =>
  refine⟨0,⟨[],[],[]⟩,0,0,0,[],0,[],0,[],0,[],0,[],rfl,⟨.zero,Nat.zero_le _,⟨Nat.le_refl _,(fun h hh=>by cases hh),(fun h hh=>by cases hh),(fun h hh=>by cases hh)⟩,⟨⟨List.nodup_nil,List.nodup_nil,(fun e he=>by cases he),(fun e he=>by cases he)⟩,(fun p hp=>by cases hp)⟩,⟨⟨List.nodup_nil,List.nodup_nil,(fun e he=>by cases he),(fun e he=>by cases he)⟩,(fun p hp=>by cases hp)⟩,⟨⟨List.nodup_nil,List.nodup_nil,(fun e he=>by cases he),(fun e he=>by cases he)⟩,(fun p hp=>by cases hp)⟩,fun k=>List.Perm.refl _,(fun e he=>by cases he),fun l=>rfl,(fun p hp=>by cases hp),(fun e he=>by cases he),rfl,rfl,rfl,⟨List.nodup_nil,List.nodup_nil,(fun e he=>by cases he),(fun e he=>by cases he)⟩,fun k=>rfl,rfl⟩,?_⟩;have hx:lf X 0 0 0=X:=EK HH.b;rw[hx,<- HH.w];exact H1.out.to (by rw[HH.w];show List.Perm _ (ctF a X [] 0 [] 0 [] 0++((sm,Is (.map #[] 0))::(g,Is o)::[]));exact af)
 case round =>
  obtain⟨at_,s,us,sc,sb,ps,pc,cs,cc,ts,tc,sz,szc,J,rfl,hct,hT⟩:=hrel;rw[<- HH.w]at hT;have hle:=hct.le;have hgo:=hT.sat.Q7 (b:=g) (o:=o) (by simp);have hgl:=ah hgo
  obtain⟨a1,ha1,hc1⟩:∃a1:Option Addr,a1=(if cap=at_ then some ⟨g,off,none⟩else some ⟨g,off+at_,none⟩)/\ak wr a1 ((D.drop at_).map ao):=by
   refine⟨_,rfl,?_⟩;by_cases he:cap=at_
   ·rw[if_pos he,List.drop_eq_nil_of_le (by omega)];exact eh _ _
   ·rw[if_neg he];exact fI (HH.c wr hgo) at_ hle
  have ha1b:∀x,a1=some x->x.block=g:=fun x hx=>by
   rw[ha1]at hx;split at hx<;>(simp only[Option.some.injEq]at hx;subst hx;rfl)
  have HO:=ja a1 (cap-at_) (D.drop at_) wr hc1 (by rw[List.length_drop];omega) (by rw[List.length_drop];omega);rw[List.length_drop]at HO;obtain⟨rd,hrd⟩:∃rd,rd=D.length-at_:=⟨_,rfl⟩;have hat:=HH.d _ _ hct.reach;have hbnd:=hct.bounds hat;unfold ef at HO;have HHO:=qqH HO;have HR:=Hq5 hct hT ha1b hgo hbnd;clear hct hT hgo hc1 ha1b HO hbnd
  cases hop:cG (D.drop at_)with
  | none =>
   have HO2:=HHO.out;rw[hop]at HO2
   have hfin:∀w':World,aX wr w'->CZ a X D g o w (.returned (.int .i64 at_)) w':=fun w' hs =>
    ⟨at_,s,us,sc,sb,ps,pc,cs,cc,ts,tc,sz,szc,rfl,HR.a,(fun k b n h=>by rw[hop]at h;cases h),by rw[<- HH.w];exact(HR.b.Q9 hs).drop (fun x=>by simp only[aB,an,gC];omega)⟩
   have HFin:=qqH hfin;clear hfin HHO hop;by_cases he:cap=at_
   ·rw[if_pos he]at ha1;subst ha1;rw[he,Nat.sub_self,show D.length-at_=0 by omega]at HO2;have HO:=qqH HO2;clear HO2 hrd;subst he;go_wp2_with fail;refine HO.out.mono ?_;rintro e w2 ⟨rfl,hs⟩;have HS:=qqH hs;clear hs;go_wp2_with fail;exact bodyPost_ret (results_tmp rfl _ _ _) rfl (by exact HFin.out _ HS.out)
   ·rw[if_neg he]at ha1;have he2:¬at_=cap:=fun h=>he h.symm
    subst ha1;have HO:=qqH HO2;clear HO2 hrd;go_wp2_with fail;refine HO.out.mono ?_;rintro e w2 ⟨rfl,hs⟩;have HS:=qqH hs;clear hs;go_wp2_with fail;exact bodyPost_ret (results_tmp rfl _ _ _) rfl (by exact HFin.out _ HS.out)
  | some r =>
   obtain⟨k,body,n⟩:=r;have HO2:=HHO.out;rw[hop]at HO2;have HO:=qqH HO2;clear HO2 HHO;obtain⟨hk0,hn,hnl,-,hbl⟩:=iR hop;rw[List.length_drop]at hnl;have he:¬cap=at_:=by omega
   have he2:¬at_=cap:=by omega
   rw[if_neg he]at ha1;subst ha1;go_wp2_with fail;refine HO.out.mono ?_;rintro e w2 ⟨a2,rfl,hb2,ha2,hs2⟩
   have hg2:∀x,a2=some x->x.block=g:=fun x hx=>by
    obtain⟨y,hy,hxy⟩:=ha2 x hx;rw[hxy];exact HR.c y hy
   have hT2:=HR.b.Q9 hs2;have HX:=Hq5 hb2 hg2 hT2 hop hbl;have hk0n:¬((k.toNat:Int)=0):=wt (by decide) hk0;clear hb2 ha2 hs2 hg2 hT2 hop hk0;have hsum:IntKind.i64.wrap ((at_:Int)+n)=((at_+n:Nat):Int):=by rw[IntWalk.i64_in _ (by omega)];omega
   have hg2l:g<w2.heap.size:=ah (HX.c.sat.Q7 (b:=g) (o:=o) (by simp));by_cases hk:k=1
   ·subst hk;have hk1:(((1:UInt8).toNat:Nat):Int)=1:=rfl;rw[hk1];go_wp2_with ((refine al rfl (pY BS (.tmp 24) (.tmp 25) (.tmp 27) rfl Tryz.underlying212 sm sz szc (HX.c.to (H:=(sm,Is (aR dq sz szc))::(ctF a (lf X us sc sb) ps pc cs cc ts tc++((g,Is o)::J))) af) HR.a.map (at_:Int) (.int .i64 body.length) rfl rfl rfl ⟨by omega,by omega⟩ ?_);intro w3 hT3;have HT3:=qqH hT3;clear hT3;simp only[Act.put]))
    have hb3:ak w3 a2 (body.map ao):=Ed HX.a (fun x hx=>by
     rw[HX.b x hx,HT3.out.sat.Q7 (b:=g) (o:=o) (by simp),HX.c.sat.Q7 (b:=g) (o:=o) (by simp)])
    have hTk:Turns F1 (((a,Is (.cells (bf (lf X us sc sb)) 128 (0,0)))::bm X.cm cs cc)++((sm,Is (aR dq (gA sz szc (at_:Int) (.int .i64 body.length)) (cD sz szc (at_:Int))))::(aU X.pm ps pc++(dm X.tm ts tc++((g,Is o)::J))))) w w3:=HT3.out.to (by unfold ctF aO lf;exact af);obtain⟨hb1,hb2',hb3',hb4,-,-,-⟩:=HR.w;have HK:=qqH (sX a X.pm X.tm X.cm cc sc sb us cs body a2 body.length (at_,body.length) (bf (lf X us sc sb)) 128 w3 hTk.sat.left ⟨rfl,rfl,rfl,rfl,rfl,rfl⟩ HR.a.chunks hb3 (by have:=hb4 (be (cJ 1 body) 4);omega) (by omega) (by have h:0<=sc/\sc<=90000:=hb2';omega) (by have h:0<=sb/\sb<=65535*90000:=hb3';omega));have HTk:=qqH hTk;clear hb3 hTk hb1 hb2' hb3' hb4;refine HK.out.mono ?_;rintro e w4 ⟨v4,rfl,hv4,hT4⟩;have hT5:=HTk.out.step (List.Perm.refl _) hT4;have HT5:=Hq2 hv4 hT5;clear hv4 hT4 hT5;go_wp2_with fail;go_roundw
    case rel =>
     refine⟨at_+n,{ s with K:=s.K++[(body,at_,body.length)] },us,sc+1,sb+body.length,ps,pc,eO cs cc (ff body) v4 (aY cs (ff body)++[(at_,body.length)]),cD (cs.map aN) cc (ff body),ts,tc,gA sz szc (at_:Int) (.int .i64 body.length),cD sz szc (at_:Int),J,by go_num,CtOk.chunk HR.a HX.d (by omega) HT5.a,?_⟩;rw[<- HH.w];have h9:=HT5.z;change Turns F1 (((a,Is (aO (lf X us (sc+1) (sb+body.length))))::bm X.cm (eO cs cc (ff body) v4 (aY cs (ff body)++[(at_,body.length)])) (cD (cs.map aN) cc (ff body)))++_) w w4 at h9;exact h9.to (by unfold ctF lf;exact af)
    case measure=>simp[intOf];omega
   ·have hk1:¬((k.toNat:Int)=1):=wt (by decide) hk;have HRd:=qqH (uG k a2 body.length body w2 HX.a (Nat.le_refl _) (fun x hx=>by rw[HX.b x hx];exact hg2l) (by omega));go_wp2_with fail;refine HRd.out.mono ?_;intro e w3 hp;unfold cL at hp
    cases hr:fR k body with
    | none =>
     rw[hr]at hp;obtain⟨rfl,hs3⟩:=hp;have HS3:=Hq2 hs3 hr;clear hs3 hr;go_wp2_with fail;refine(uI a sm w3).mono ?_;rintro e w4 ⟨rfl,hs4⟩;have HS4:=qqH hs4;clear hs4;go_wp2_with fail;refine bodyPost_ret (results_tmp rfl _ _ _) rfl ?_;refine⟨at_,s,us,sc,sb,ps,pc,cs,cc,ts,tc,sz,szc,rfl,HR.a,fun k' b' n' h=>?_,by rw[<- HH.w];exact((HX.c.Q9 HS3.a).Q9 HS4.out).drop (fun x=>by simp only[aB,an,gC];omega)⟩;rw[HX.d]at h;simp only[Option.some.injEq,Prod.mk.injEq]at h;obtain⟨rfl,rfl,rfl⟩:=h;unfold gY;rw[if_neg hk,HS3.z]
    | some r =>
     rw[hr]at hp;obtain⟨v,rfl,hio,hT3⟩:=hp;have hT4:Turns F1 ((ctF a (lf X us sc sb) ps pc cs cc ts tc++((sm,Is (aR dq sz szc))::bZ v (ma r)))++((g,Is o)::J)) w w3:=(HX.c.Qb hT3).to af;have HRv:=qqH (uH HR.a hk HX.d hat hr hio hT4.sat.left);have H4:=qqH hT4;clear hio hT3 hT4 hr;obtain⟨R2,hR2⟩:∃R2,R2=bZ v (ma r):=⟨_,rfl⟩;rw[<- hR2]at HRv H4;clear hR2
     cases r
     all_goals
      unfold tD at HRv;unfold tD;go_wp2_with fail;refine HRv.out.mono ?_;rintro e w5 (⟨hno,rfl,hT5⟩|⟨s',u,ps',pc',ts',tc',rfl,hct',hT5⟩)
      ·have H5:=Hq2 hno (H4.out.step (List.Perm.refl _) hT5);clear hno hT5;go_wp2_with fail;refine bodyPost_ret (results_tmp rfl _ _ _) rfl ?_;refine⟨at_,s,us,sc,sb,ps,pc,cs,cc,ts,tc,sz,szc,rfl,HR.a,fun k' b' n' h=>?_,by rw[<- HH.w];exact H5.z.drop (fun x=>by simp only[aB,an,gC];omega)⟩;rw[HX.d]at h;simp only[Option.some.injEq,Prod.mk.injEq]at h;obtain⟨rfl,rfl,rfl⟩:=h;exact H5.a
      ·have H5:=Hq2 hct' (H4.out.step (List.Perm.refl _) hT5);clear hct' hT5;go_wp2_with fail;go_roundw
       case rel =>
        refine⟨at_+n,s',u,sc,sb,ps',pc',cs,cc,ts',tc',sz,szc,R2++J,by go_num,(by exact H5.a),?_⟩;rw[<- HH.w];have h9:=H5.z;change Turns F1 ((ctF a (lf X u sc sb) ps' pc' cs cc ts' tc'++((sm,Is (aR dq sz szc))::R2))++((g,Is o)::J)) w w5 at h9;refine h9.to ?_;exact af
       case measure=>simp[intOf];omega
end
section
open Go.RowKit
theorem ER{l s x:Bs}{a:Nat}(h:a<=l.length):bp (bp l a s) (a+s.length) x=bp l a (s++x):=by
 have h1:(l.take a++s).length=a+s.length:=by rw[List.length_append,List.length_take];omega
 have e0:bp l a s=(l.take a++s)++l.drop (a+s.length):=rfl;have e1:(bp l a s).take (a+s.length)=l.take a++s:=by rw[e0];exact List.take_left' h1
 have e2:(bp l a s).drop (a+s.length+x.length)=l.drop (a+(s.length+x.length)):=by
  have h2:(bp l a s).drop (a+s.length)=l.drop (a+s.length):=by rw[e0];exact List.drop_left' h1
  rw[<- List.drop_drop,h2,List.drop_drop,Nat.add_assoc]
 show(bp l a s).take (a+s.length)++x++(bp l a s).drop (a+s.length+x.length)=l.take a++(s++x)++l.drop (a+(s++x).length);rw[e1,e2,List.length_append,List.append_assoc (l.take a)]
def jU(t:Bs):Nat->Bs
 | 0=>[]
 | m+1=>jU t m++(if m=0 then t else aq 128)
theorem kF{t:Bs}(ht:t.length=128):∀m,(jU t m).length=128*m
 | 0=>rfl
 | m+1=>by
  rw[jU,List.length_append,kF ht m]
  split
  ·omega
  ·simp[aq];omega
theorem vx{t:Bs}(ht:t.length=128):∀m,jU t (m+1)=t++aq (128*m)
 | 0=>by simp[jU,aq]
 | m+1=>by
  rw[jU,vx ht m,if_neg (by omega),List.append_assoc,lW]
  congr 2
theorem sy{l t:Bs}{first q:Nat}(ht:t.length=128)(h:128*(first+q)<=l.length):∀m,fK l first q t m=bp l (128*(first+q)) (jU t m)
 | 0=>by simp[fK,jU,bp]
 | m+1=>by
  rw[fK,sy ht h m,jU]
  have:=ER (l:=l) (s:=jU t m) (x:=if m=0 then t else aq 128) h
  rw[kF ht,<- Nat.mul_add]at this
  exact this
theorem yR{l ws:Bs}{first count end_:Nat}(hl:128*(first+count)<=l.length)(hw:(aP l first count).take end_=ws.take end_)(hwl:ws.length=128*count)(he:end_<=128*count):
  gf (fK l first (end_ / 128) ((ws.take end_).drop (128*(end_ / 128))++aq (128-end_%128)) (count-end_ / 128)) first count (ws.take end_) /\
  ∀f2 c2,(f2+c2<=first\/first+count<=f2)->aP (fK l first (end_ / 128) ((ws.take end_).drop (128*(end_ / 128))++aq (128-end_%128)) (count-end_ / 128)) f2 c2=aP l f2 c2:=by
 have hdl:(ws.take end_).length=end_:=by rw[List.length_take];omega
 obtain⟨t,ht⟩:∃t,t=(ws.take end_).drop (128*(end_ / 128))++aq (128-end_%128):=⟨_,rfl⟩;have htl:t.length=128:=by rw[ht,List.length_append,List.length_drop,hdl,ap];omega
 rw[<- ht,sy htl (by omega)];have hrl:=kF htl (count-end_ / 128);have hhl:(aP l first count).length=128*count:=by unfold aP;rw[List.length_take,List.length_drop];omega
 refine⟨⟨?_,by rw[hdl];exact he⟩,fun f2 c2 hd=>oH (by omega) (by omega) hd⟩;rw[zk (by omega) (by omega),hdl];rcases Nat.lt_or_ge (end_ / 128) count with hlt|hge
 ·obtain⟨m,hm⟩:∃m,count-end_ / 128=m+1:=⟨count-end_ / 128-1,by omega⟩;rw[hm,vx htl];unfold bp
  have e1:(aP l first count).take (128*(end_ / 128))=(ws.take end_).take (128*(end_ / 128)):=by
   rw[<- hw,List.take_take,Nat.min_eq_left (by omega)]
  rw[e1,ht,List.append_assoc ((ws.take end_).drop _),lW,<- List.append_assoc,List.take_append_drop,List.drop_of_length_le (by rw[hhl];simp only[List.length_append,List.length_drop,hdl,ap];omega),List.append_nil];congr 2;omega
 ·have h0:count-end_ / 128=0:=by omega
  have he2:end_=128*count:=by omega
  rw[h0];simp only[jU,bp,List.append_nil,List.length_nil,Nat.add_zero,List.take_append_drop];rw[<- hw,List.take_of_length_le (by omega),he2];simp[aq]
end
end Go.Proofs.YtdhobpbngkainaaGreatDoor
