/- Ours. A part of the proof, made small by a program. -/
import Derived.Test.YtdhobpbngkainaaGreatDoorGb03
set_option maxRecDepth 100000
set_option maxHeartbeats 16000000
namespace Go.Proofs.YtdhobpbngkainaaGreatDoor
open List Go.Proofs.Tryz
section
open Go.RowKit
inductive Sj where
 | ver (p:Bs) (num size:Nat) (ats:List Int)
 | gone (p:Bs) (ns:List Int)
 | pin (k:UInt8) (p name:Bs) (num:Nat)
def uR:Sj->Value->Value
 | .ver p n s _,v=>.iface 173 (.agg #[.int .u8 2,str p,.int .i64 n,.int .i64 s,v])
 | .gone p _,v=>.iface 286 (.agg #[.int .u8 3,str p,v])
 | .pin k p m n,_=>.iface 233 (.agg #[.int .u8 k.toNat,str p,str m,.int .i64 n])
def mD:Sj->List Int
 | .ver _ _ _ a=>a
 | .gone _ a=>a
 | .pin _ _ _ _=>[]
def rN(s:Bs×Bool)(n:Nat):Bs×Bool:=(eR s.1 s.2 n,fd s.1 s.2 n)
def rT(s:Bs×Bool):Bs×Bool:=(lI s.1 s.2,kS s.1 s.2)
def fx(k:UInt8)(body:Bs):Option Sj :=
 let p:=gm body false
 let s1:=rT (body,false)
 if k=2 then
  let s2:=rN s1 4
  let s3:=rN s2 2
  if s3.2=false/\s3.1.length%4=0 then some (.ver p (dl s1.1 s1.2 4) (dl s2.1 s2.2 2) (iE s3.1))else none
 else if k=3 then
  if s1.2=false/\s1.1.length%4=0 then some (.gone p (iE s1.1))else none
 else if k=4\/k=5 then
  let s2:=rT s1
  let s3:=rN s2 4
  if s3.2=false/\s3.1=[]then some (.pin k p (gm s1.1 s1.2) (dl s2.1 s2.2 4))else none
 else none
def Qz(A:World)(G:HF)(rb:Nat)(s:Bs×Bool)(W:World):Prop:=Turns [] (G++Tv rb) A W/\Rd W rb s.1 s.2
theorem Qz.is{A W:World}{G:HF}{rb:Nat}{s:Bs×Bool}(h:Qz A G rb s W):∃o,Turns [] (G++[(rb,Is o)]) A W/\W.heap[rb]?=some o:=by
 obtain⟨a,c,h1,-⟩:=h.2;exact⟨_,JC (N7.refl _ W) h.1 h1,h1⟩
theorem Qz.on{A W W':World}{G G':HF}{rb:Nat}{s:Bs×Bool}{o:Obj}(h:Qz A G rb s W)(hrb:rb=A.heap.size)(ho:W.heap[rb]?=some o)(hT:Turns [] (G'++[(rb,Is o)]) A W'):Qz A G' rb s W':=by
 refine⟨DW hT,?_⟩;have ho':=hT.sat.Q7 (b:=rb) (o:=o) Nh;obtain⟨a,cap,e1,e2,e3,e4⟩:=h.2;refine⟨a,cap,?_,e2,fun hp=>?_,e4⟩
 ·unfold tB at e1 ⊢;rw[ho',<- ho];exact e1
 ·obtain⟨g,off,ha,hc⟩:=e3 hp;have hg:g<rb:=e4 _ ha;refine⟨g,off,ha,fun j hj=>?_⟩;rw[<- hc j hj];exact World.cell?_of_block ((hT.mods.block g Nb Nh).trans (h.1.mods.block g Nb Nh).symm)
theorem Qz.alloc{A W:World}{G:HF}{rb:Nat}{s:Bs×Bool}(h:Qz A G rb s W)(hrb:rb=A.heap.size)(o:Obj):Qz A ((W.heap.size,Is o)::G) rb s (W.alloc o):=by
 obtain⟨o',h1,h2⟩:=h.is;exact h.on hrb h2 ((h1.Q9 o).to ac)
theorem Qz.call{A W W':World}{G:HF}{rb:Nat}{s s':Bs×Bool}(h:Qz A G rb s W)(hm:N7 (fun k=>k=rb) W W')(hR:Rd W' rb s'.1 s'.2):Qz A G rb s' W':=by
 obtain⟨a,c,h1,-⟩:=id hR;exact⟨DW (JC hm h.1 h1),hR⟩
theorem Qz.nums{A W W':World}{G H:HF}{rb:Nat}{s s':Bs×Bool}(h:Qz A G rb s W)(hT:Turns (Tv rb) (H++Tv rb) W W')(hR:Rd W' rb s'.1 s'.2):Qz A (H++G) rb s' W' :=
 ⟨(h.1.step (R:=G) (by unfold Tv;exact perm_append_comm) hT).to (by unfold Tv;exact ac),hR⟩
def ki(k:UInt8)(p:Bs):Obj:=.cells #[.int .u8 k.toNat,str p] 170 (0,0)
def E8:Obj:=.cells #[.int .u8 0,.string ⟨#[]⟩,.int .i64 0,.int .i64 0,.slice none 0 0] 173 (0,0)
def iM(p:Bs)(n m:Nat)(v:Value):Obj:=.cells #[.int .u8 2,str p,.int .i64 n,.int .i64 m,v] 173 (0,0)
theorem ko{rb:Nat}{s:Bs×Bool}{n:Nat}{w w':World}{e:Ending}(h:iZ rb s.1 s.2 n w e w'):e=.returned (.int .i64 (dl s.1 s.2 n))/\Rd w' rb (rN s n).1 (rN s n).2/\N7 (fun k=>k=rb) w w':=⟨h.1,h.2.1,h.2.2.1⟩
theorem Eg{P:Program}{o:Oper}{a:Act}{w A:World}{K:Act->World->Prop}{Q:Exit->Act->World->Prop}{G:HF}{rb:Nat}{s:Bs×Bool}(O:Obj)(f:Nat->Value)(hr:(execOp a.eval o).run P w=.ok (.value (f w.heap.size)) (w.alloc O))(hT:Qz A G rb s w)(hrb:rb=A.heap.size)(hk:∀n w',Qz A ((n,Is O)::G) rb s w'->K (a.put o.dst (f n)) w'):o.wp P a w K Q:=nu hr (hk _ _ (hT.alloc hrb O))
theorem fR{ops:Array Oper}{k:UInt8}{p:Bs}{hb rb:Nat}{A W:World}{G:HF}{s:Bs×Bool}{R:Act->Prop}{r:List Oper}{o:Oper}{a:Act}(h:Qz A G rb s W)(hm:(hb,Is (ki k p))∈G)(hg:o.guard=none)(ho:o.op=.load 170 (.tmp 6))(hx:a.eval (.tmp 6)=.pointer (some ⟨hb,0,none⟩))(hk:wpStill prog ops W R r (a.put o.dst (.agg #[.int .u8 k.toNat,str p]))):wpStill prog ops W R (o::r) a :=
 iR 170 (.tmp 6) hg ho hb 0 hx [.int .u8 k.toNat,str p] _ (fun j v hv=>aa (h.1.sat.Q7 (mem_append_left _ hm)) (0+j) (by rw[Nat.zero_add,<- Array.getElem?_toList];exact hv)) underlying170 rfl Nc hk
theorem Qz.at{A W W':World}{G:HF}{rb:Nat}{s:Bs×Bool}(h:Qz A G rb s W)(hrb:rb=A.heap.size)(tW:∀{F G:HF} {b:World},Turns F G b W->Turns F G b W'):Qz A G rb s W':=by
 obtain⟨o,h1,h2⟩:=h.is;exact h.on hrb h2 (tW h1)
theorem MF(A:World)(hb:Nat)(p:Bs)(rb:Nat)(s1:Bs×Bool)(hrb:rb=A.heap.size){Q:Exit->Act->World->Prop}{w:World}{u1 u2 u3 u4 u7 u8 u9 aS aT ab ad ag aj al ar av ax a0 a1 a2 a3 a4 a5 a6 a7 a8 a9 bY bg bj bk bl bn bo bs bv bx b0 b1 b2 b3 b4 b6 b7 b9 ca cb cc cg ch ci cj cl cm cp cs ct:Value}{ds:List Deferred}(hT:Qz A [(hb,Is (ki 2 p))] rb s1 w)(hl:s1.1.length<=70000)(hk:∀(c:Nat) (cu cv cx c0 c1 c2:Value) (w':World),Qz A [(c,Is (iM p (dl s1.1 s1.2 4) (dl (rN s1 4).1 (rN s1 4).2 2) (.slice none 0 0))),(hb,Is (ki 2 p))] rb (rN (rN s1 4) 2) w'->Q .normal { tmps:=#[.int .u8 2,u1,u2,u3,u4,.pointer (some ⟨rb,0,none⟩),.pointer (some ⟨hb,0,none⟩),u7,.pointer (some ⟨c,0,none⟩),u9,aS,aT,ab,ad,ag,aj,al,ar,av,cu,cv,cx,c0,c1,c2,a5,a6,a7,a8,a9,bY,bg,bj,bk,bl,bn,bo,bs,bv,bx,b0,b1,b2,b3,b4,b6,b7,b9,ca,cb,cc,cg,ch,ci,cj,cl,cm,cp,cs,ct],defers:=ds } w'):
  (JG 6 f101).wp prog Q { tmps:=#[.int .u8 2,u1,u2,u3,u4,.pointer (some ⟨rb,0,none⟩),.pointer (some ⟨hb,0,none⟩),u7,u8,u9,aS,aT,ab,ad,ag,aj,al,ar,av,ax,a0,a1,a2,a3,a4,a5,a6,a7,a8,a9,bY,bg,bj,bk,bl,bn,bo,bs,bv,bx,b0,b1,b2,b3,b4,b6,b7,b9,ca,cb,cc,cg,ch,ci,cj,cl,cm,cp,cs,ct],defers:=ds } w:=by
 have hl2:(rN s1 4).1.length<=70000:=Nat.le_trans (gk _ _ _) hl;obtain⟨s2,hs2⟩:=Na (rN s1 4);obtain⟨s3,hs3⟩:=Na (rN s2 2);obtain⟨n,hn⟩:=Na (dl s1.1 s1.2 4);obtain⟨m,hm⟩:=Na (dl s2.1 s2.2 2);rw[<- hs2]at hk hl2;rw[<- hs3,<- hn,<- hm]at hk;conv=>arg 2;whnf
 refine zo [0,1,3] (.two 2 [0,3] [] (.two 4 [0] [5] (.one 6 [0,1,3,5] [] (.one 7 [] [] .fin)) 6 [0,1,3] [] (.one 4 [0] [5] (.one 7 [] [] .fin))) 6 [0,1,3] [] (.one 2 [0,3] [] (.one 4 [0] [5] (.one 7 [] [] .fin)))) HM.o Nc fun W tW=>?_
 simp only[tx,map_cons,map_nil,nth,QG,QF];have k0:=hT.at hrb tW;have HRB:=NZ hrb;clear tW hrb
 have n4:∀(W:World) (G:HF),Qz A G rb s1 W->Calls prog 139 #[.pointer (some ⟨rb,0,none⟩),.int .i64 4] W (fun e w'=>e=.returned (.int .i64 n)/\Qz A G rb s2 w'):=fun W G h=>(dm rb s1.1 s1.2 4 _ h.2 Nb Nb).mono fun e w' hp=>by
  obtain⟨rfl,hR,hM⟩:=ko hp;exact⟨by rw[hn],by rw[hs2];exact h.call hM hR⟩
 have n2:∀(W:World) (G:HF),Qz A G rb s2 W->Calls prog 139 #[.pointer (some ⟨rb,0,none⟩),.int .i64 2] W (fun e w'=>e=.returned (.int .i64 m)/\Qz A G rb s3 w'):=fun W G h=>(dm rb s2.1 s2.2 2 _ h.2 Nb Nb).mono fun e w' hp=>by
  obtain⟨rfl,hR,hM⟩:=ko hp;exact⟨by rw[hm],by rw[hs3];exact h.call hM hR⟩
 have N4:=NZ n4;have N2:=NZ n2;clear n4 n2 hs2 hs3 hn hm;refine fR (k:=2) (p:=p) k0 Nh rfl rfl rfl ?_;simp only[Act.put,QA,QB,QC];repeat still_step
 refine wpStill_nil ⟨aO Nc (N4.out _ _ k0) ?A,Eg E8 (fun c=>.pointer (some ⟨c,0,none⟩)) Nc k0 HRB.o fun c W1 k1=>⟨fR (k:=2) (p:=p) k1 Nh rfl rfl rfl (by(simp only[Act.put,QA,QB,QC];(repeat still_step);exact rfl)),wpStill_nil (aO Nc (N4.out _ _ k1) ?B)⟩⟩
 case' A =>
  rintro e W1 ⟨rfl,k1⟩;refine⟨_,rfl,fR (k:=2) (p:=p) k1 Nh rfl rfl rfl (by(simp only[Act.put,QA,QB,QC];(repeat still_step);exact rfl)),wpStill_nil ⟨aO Nc (N2.out _ _ k1) ?A1,Eg E8 (fun c=>.pointer (some ⟨c,0,none⟩)) Nc k1 HRB.o fun c W2 k2=>⟨fR (k:=2) (p:=p) k2 Nh rfl rfl rfl (by(simp only[Act.put,QA,QB,QC];(repeat still_step);exact rfl)),wpStill_nil (aO Nc (N2.out _ _ k2) ?A2)⟩⟩⟩
 case' B =>
  rintro e W2 ⟨rfl,k2⟩;refine⟨_,rfl,fR (k:=2) (p:=p) k2 Nh rfl rfl rfl (by(simp only[Act.put,QA,QB,QC];(repeat still_step);exact rfl)),wpStill_nil (aO Nc (N2.out _ _ k2) ?B2)⟩
 case' A1 =>
  rintro e W2 ⟨rfl,k2⟩;refine⟨_,rfl,fR (k:=2) (p:=p) k2 Nh rfl rfl rfl rfl,?_⟩;simp only[Act.put,QA,QB,QC];repeat still_step
  refine wpStill_nil (Eg E8 (fun c=>.pointer (some ⟨c,0,none⟩)) Nc k2 HRB.o fun c W3 k3=>⟨fR (k:=2) (p:=p) k3 Nh rfl rfl rfl (by(simp only[Act.put,QA,QB,QC];(repeat still_step);exact rfl)),?_⟩)
 case' A2 =>
  rintro e W3 ⟨rfl,k3⟩;refine⟨_,rfl,fR (k:=2) (p:=p) k3 Nh rfl rfl rfl rfl,?_⟩;simp only[Act.put,QA,QB,QC];repeat still_step
 case' B =>
  rintro e W3 ⟨rfl,k3⟩;refine⟨_,rfl,fR (k:=2) (p:=p) k3 Nh rfl rfl rfl rfl,?_⟩;simp only[Act.put,QA,QB,QC];repeat still_step
 all_goals
  obtain⟨o',h8,h9⟩:=k3.is;refine wpStill_nil (qJ 173 (.tmp 8) (.tmp 24) rfl c #[.int .u8 0,.string ⟨#[]⟩,.int .i64 0,.int .i64 0,.slice none 0 0] #[.int .u8 2,str p,.int .i64 n,.int .i64 m,.slice none 0 0] 173 (h8.to (H:=(c,Is (.cells #[.int .u8 0,.string ⟨#[]⟩,.int .i64 0,.int .i64 0,.slice none 0 0] 173 (0,0)))::[(hb,Is (ki 2 p)),(rb,Is o')]) (by unfold E8;exact ac)) rfl rfl rfl Nc (by simp[Value.oneCell',str]) fun w3 h10=>⟨rfl,wpStill_nil ?_⟩);simp only[Act.put,QA,QB,QC];exact hk c _ _ _ _ _ _ w3 (k3.on HRB.o h9 (h10.to (by unfold iM;exact ac)))
theorem yY(body:Bs):fx 2 body=if(rN (rN (rT (body,false)) 4) 2).2=false/\(rN (rN (rT (body,false)) 4) 2).1.length%4=0 then some (.ver (gm body false) (dl (rT (body,false)).1 (rT (body,false)).2 4) (dl (rN (rT (body,false)) 4).1 (rN (rT (body,false)) 4).2 2) (iE (rN (rN (rT (body,false)) 4) 2).1))else none:=by
 unfold fx;rw[NR rfl]
def cO(k:UInt8)(body:Bs)(w:World)(e:Ending)(w':World):Prop :=
 match fx k body with
 | none=>e=.returned .nilIface/\aV w w'
 | some r=>∃v,e=.returned (uR r v)/\RJ v (mD r)/\Turns [] (ck v (mD r)) w w'
theorem zF(a:Option Addr)(cap:Nat)(body:Bs)(w:World)(h:ak w a (body.map am))(hcap:body.length<=cap)(ha:∀x,a=some x->x.block<w.heap.size)(hl:body.length<=70000):
  Calls prog 101 #[.int .u8 2,.slice a body.length cap] w (cO 2 body w):=by
 obtain⟨rb,hrb⟩:=Na w.heap.size
 have hR0:Qz w [] rb (body,false) (w.alloc (.cells #[.slice a body.length cap,.bool false] 282)):=by
  refine⟨?_,a,cap,?_,hcap,h.keep ((N7.refl (fun _=>False) w).alloc _) (fun _ _ _=>id),fun x hx=>hrb ▸ ha x hx⟩
  ·rw[hrb];exact(Turns.refl (Sat.nil w)).Qe (φ:=fun _=>True) trivial
  ·unfold tB;rw[hrb];exact aM w _
 have HT:=NZ (ne rb body false _ hR0.2 Nb);have H0:=Ob hR0 hrb;rw[hrb]at HT;clear h ha hcap hR0;go_enter func101,ntmps101;go_wp2_with fail;refine HT.o.mono ?_;rintro e w2 ⟨rfl,hR2,hm2⟩;rw[<- hrb]at hR2 hm2 ⊢;have XY:Qz w [] rb (rT (body,false)) w2:=H0.a.call hm2 hR2;obtain⟨p,hp⟩:=Na (gm body false);obtain⟨s1,hs1⟩:=Na (rT (body,false));have hl1:s1.1.length<=70000:=by rw[hs1];exact Nat.le_trans (iK _ _) hl
 rw[<- hs1]at XY;rw[<- hp];have H2:=Oz XY hp hs1;clear hR2 hm2 XY hp hs1 hrb;go_upto_region 6 with(fail);obtain⟨hb,hhb⟩:=Na w2.heap.size;rw[<- hhb];refine MF w hb p rb s1 H0.z ?_ hl1 ?_
 ·rw[hhb];exact H2.a.alloc H0.z (ki 2 p)
 intro c _ _ _ _ _ _ w3 Oa;obtain⟨n,hn⟩:=Na (dl s1.1 s1.2 4);obtain⟨m,hm⟩:=Na (dl (rN s1 4).1 (rN s1 4).2 2);obtain⟨s3,hs3⟩:=Na (rN (rN s1 4) 2);rw[<- hn,<- hm,<- hs3]at Oa;have hl3:s3.1.length<=70000:=by rw[hs3];exact Nat.le_trans (Nat.le_trans (gk _ _ _) (gk _ _ _)) hl1
 have HN:=NZ (oD rb s3.1 s3.2 w3 Oa.2 hl3);have H3:=OW Oa hn hm hs3;have hcl:c<w3.heap.size:=Oa.1.sat.lt Nh;clear Oa hn hm hs3 hhb;go_wp2_with fail;refine HN.o.mono ?_;rintro e w4 ⟨v,ns,l',b',rfl,Ph,Oj,SV,hres⟩;have Og:Qz w (ck v ns++[(c,Is (iM p n m (.slice none 0 0))),(hb,Is (ki 2 p))]) rb (l',b') w4:=Qz.nums (s':=(l',b')) H3.a Oj SV;obtain⟨o',h8,h9⟩:=Og.is;have Yf:c<w4.heap.size:=Og.1.sat.lt Nh;have hv1:=cT Og.1.sat.left.left Ph;have H5:=RV Og Ph trivial h8 h9 hv1;clear Oj SV Ph Og h8 h9 hv1;rcases hres with⟨hb',hs2,hl4,hl',hns⟩|⟨hb',hbad,-⟩
 ·subst hb';subst hl';have HX:=Oz hs2 hl4 hns;clear hs2 hl4 hns;go_wp2_with (first|(refine ai rfl (aX 171 (.tmp 27) (.tmp 26) rfl c 4 #[.int .u8 2,str p,.int .i64 n,.int .i64 m,.slice none 0 0] 173 v (H5.d.to (H:=(c,Is (.cells #[.int .u8 2,str p,.int .i64 n,.int .i64 m,.slice none 0 0] 173 (0,0)))::(ck v ns++[(hb,Is (ki 2 p)),(rb,Is o')])) (by unfold iM;exact ac)) rfl rfl Nh Nc H5.f H5.g ?_);intro w5 Ox;have VU:=Qz.on H5.a H0.z H5.e (G':=(c,Is (iM p n m v))::(ck v ns++[(hb,Is (ki 2 p))])) ((show Turns [] ((c,Is (iM p n m v))::(ck v ns++[(hb,Is (ki 2 p)),(rb,Is o')])) w w5 from Ox).to ac);have hb6:=VU.1.sat.Q5;have d0:=aa (v:=.int .u8 2) hb6 0 rfl;have d1:=aa (v:=str p) hb6 1 rfl;have d2:=aa (v:=.int .i64 n) hb6 2 rfl;have d3:=aa (v:=.int .i64 m) hb6 3 rfl;have d4:=aa (v:=v) hb6 4 rfl;have Vh:=ae hb6;obtain⟨ra,rc,hra,-,-,-⟩:=id VU.2;have f0:=aa hra 0 rfl;have f1:=aa hra 1 rfl;have hrl6:=ae hra;have H6:=NZ VU;clear Ox VU hb6 hra;simp only[Act.put])|fail)
  have hrd:fx 2 body=some (.ver p n m ns):=by
   rw[yY,<- H2.y,<- H2.b,<- H3.b,<- H3.c,<- H3.x,NR ⟨HX.a,HX.b⟩,HX.y]
  have hfin:cO 2 body w (.returned (.iface 173 (.agg #[.int .u8 2,str p,.int .i64 n,.int .i64 m,v]))) w5:=by
   unfold cO;rw[hrd];exact⟨v,rfl,H5.b,H6.a.drop (fun x=>by show cnt x (ck v ns)<=_;simp only[ao,af];omega)⟩
  go_ret;exact (by exact hfin)
 ·subst hb';have HX:=NZ hbad;clear hbad;go_wp2_with (first|(refine ai rfl (aX 171 (.tmp 27) (.tmp 26) rfl c 4 #[.int .u8 2,str p,.int .i64 n,.int .i64 m,.slice none 0 0] 173 v (H5.d.to (H:=(c,Is (.cells #[.int .u8 2,str p,.int .i64 n,.int .i64 m,.slice none 0 0] 173 (0,0)))::(ck v ns++[(hb,Is (ki 2 p)),(rb,Is o')])) (by unfold iM;exact ac)) rfl rfl Nh Nc H5.f H5.g ?_);intro w5 Ox;have VU:=Qz.on H5.a H0.z H5.e (G':=(c,Is (iM p n m v))::(ck v ns++[(hb,Is (ki 2 p))])) ((show Turns [] ((c,Is (iM p n m v))::(ck v ns++[(hb,Is (ki 2 p)),(rb,Is o')])) w w5 from Ox).to ac);have hb6:=VU.1.sat.Q5;have d0:=aa (v:=.int .u8 2) hb6 0 rfl;have d1:=aa (v:=str p) hb6 1 rfl;have d2:=aa (v:=.int .i64 n) hb6 2 rfl;have d3:=aa (v:=.int .i64 m) hb6 3 rfl;have d4:=aa (v:=v) hb6 4 rfl;have Vh:=ae hb6;obtain⟨ra,rc,hra,-,-,-⟩:=id VU.2;have f0:=aa hra 0 rfl;have f1:=aa hra 1 rfl;have hrl6:=ae hra;have H6:=NZ VU;clear Ox VU hb6 hra;simp only[Act.put])|fail)
  have hrd:fx 2 body=none:=by
   rw[yY,<- H2.y,<- H3.x,NQ];rintro⟨h1,h2⟩;rcases HX.o with h|h
   ·rw[h1]at h;cases h
   ·exact h h2
  have hfin:cO 2 body w (.returned .nilIface) w5:=by
   unfold cO;rw[hrd];exact⟨rfl,H6.a.news⟩
  go_ret;exact (by exact hfin)
end
section
def oA(c:Int):Int :=
 bits BinOp.xor IntKind.u32
  (bits BinOp.xor IntKind.u32 ((c+1)*2654435769%4294967296) ((c+1)*2654435769%4294967296 / 65536)*2246822507%4294967296)
  (bits BinOp.xor IntKind.u32 ((c+1)*2654435769%4294967296) ((c+1)*2654435769%4294967296 / 65536)*2246822507%4294967296 / 8192)
def cY(h c:Int):Int:=(h*2+oA c)%4294967296
def dG(h:Int)(n:Nat):Bool :=
 if 256<=n then true
 else if 64<=n then !(bits BinOp.and IntKind.u32 h 15 != 0)
 else if 16<=n then !(bits BinOp.and IntKind.u32 h 255 != 0)
 else false
theorem qd{h:Int}{n:Nat}(h1:256<=n):dG h n=true:=by unfold dG;rw[NR h1]
theorem EE{h:Int}{n:Nat}{v:Bool}(h1:n<256)(h2:64<=n)(hv:(bits BinOp.and IntKind.u32 h 15 != 0)=v):dG h n = !v:=by
 unfold dG;rw[NQ Nb,NR h2,hv]
theorem ED{h:Int}{n:Nat}{v:Bool}(h1:n<64)(h2:16<=n)(hv:(bits BinOp.and IntKind.u32 h 255 != 0)=v):dG h n = !v:=by
 unfold dG;rw[NQ Nb,NQ Nb,NR h2,hv]
theorem IT{h:Int}{n:Nat}(h1:n<16):dG h n=false:=by unfold dG;rw[NQ Nb,NQ Nb,NQ Nb]
def uo:Array Value:=((range 256).map fun k:Nat=>Value.int .u32 (oA k)).toArray
def q7(h:Int)(n:Nat):Array Value:=uo++#[.int .u32 h,.int .i64 n]
def jJ(k:Nat):Array Value:=((range k).map (fun k:Nat=>Value.int .u32 (oA k))++(replicate (256-k) (Value.int .u32 0)++[Value.int .u32 0,Value.int .i64 0])).toArray
theorem jx:uo.size=256:=by simp[uo]
theorem L0(h:Int)(n:Nat):(q7 h n)[256]?=some (.int .u32 h):=by
 simp[q7,jx]
theorem L7(h:Int)(n:Nat):(q7 h n)[257]?=some (.int .i64 n):=by
 simp[q7,jx]
theorem LZ(h:Int)(n c:Nat)(hc:c<256):(q7 h n)[c]?=some (.int .u32 (oA c)):=by
 rw[q7,Array.getElem?_append,NR (by rw[jx];exact hc)];simp[uo,hc]
theorem GK(g:Array Value)(a b a':Value)(k:Nat)(hk:g.size=k):(g++#[a,b]).setIfInBounds k a'=g++#[a',b]:=by
 subst hk;rw[Array.setIfInBounds_append_right (Nat.le_refl _)];simp
theorem D4(g:Array Value)(a b b':Value)(k:Nat)(hk:g.size+1=k):(g++#[a,b]).setIfInBounds k b'=g++#[a,b']:=by
 subst hk;rw[Array.setIfInBounds_append_right Nb];simp
theorem C2(h h':Int)(n:Nat):(q7 h n).setIfInBounds 256 (.int .u32 h')=q7 h' n:=GK _ _ _ _ _ jx
theorem C4(h:Int)(n n':Nat)(v:Value)(hv:v=.int .i64 n'):(q7 h n).setIfInBounds 257 v=q7 h n':=by
 subst hv;exact D4 _ _ _ _ _ (by rw[jx])
theorem yD:jJ 256=q7 0 0:=by
 simp[jJ,q7,uo]
theorem AH(k:Nat)(hk:k<256):(jJ k).setIfInBounds k (.int .u32 (oA k))=jJ (k+1):=by
 apply Array.ext';simp only[jJ,Array.toList_setIfInBounds];rw[set_append,NQ Nh];obtain⟨m,hm⟩:∃m,256-k=m+1:=⟨256-k-1,Nb⟩;have hm':256-(k+1)=m:=Nb
 rw[hm,hm'];simp[range_succ,replicate_succ]
theorem AG(k:Nat)(hk:k<256):(jJ k)[k]?=some (.int .u32 0):=by
 simp only[jJ,getElem?_toArray];rw[getElem?_append_right Nh];obtain⟨m,hm⟩:∃m,256-k=m+1:=⟨256-k-1,Nb⟩;rw[hm];simp[replicate_succ]
theorem se(h c:Int):0<=cY h c/\cY h c<4294967296:=by unfold cY;omega
theorem FD(x:Int):(bits BinOp.and IntKind.u32 x 0 != 0)=false:=by
 have h:bits BinOp.and IntKind.u32 x 0=0:=by
  show IntKind.u32.wrap ((BitVec.ofInt 32 x &&& BitVec.ofInt 32 0).toNat:Int)=0;rw[show BitVec.ofInt 32 0=0#32 from rfl,BitVec.and_zero];rfl
 simp[h]
def cP:Int->Nat->List UInt8->List Nat
 | _,_,[]=>[]
 | h,n,c::cs=>if dG (cY h c.toNat) (n+1) || cs.isEmpty then(n+1)::cP 0 0 cs else cP (cY h c.toNat) (n+1) cs
def aI(data:List UInt8):List Nat:=cP 0 0 data
theorem q8(h:Int)(n:Nat)(c:UInt8)(cs:List UInt8)(e:dG (cY h c.toNat) (n+1)=true):cP h n (c::cs)=(n+1)::cP 0 0 cs:=by
 rw[cP];simp[e]
theorem pg(h:Int)(n:Nat)(c:UInt8):cP h n [c]=[n+1]:=by rw[cP];simp[cP]
theorem ue(h:Int)(n:Nat)(c:UInt8)(cs:List UInt8)(e:dG (cY h c.toNat) (n+1)=false)(hcs:cs≠[]):cP h n (c::cs)=cP (cY h c.toNat) (n+1) cs:=by
 rw[cP];simp[e,hcs]
theorem sG(l:List UInt8):∀h n,(cP h n l).length<=l.length:=by
 induction l with
 | nil=>intro h n;simp[cP]
 | cons c cs ih =>
  intro h n;rw[cP];split
  ·have:=ih 0 0;simp;omega
  ·have:=ih (cY h c.toNat) (n+1);simp;omega
theorem FP(l:List UInt8):∀h n,l≠[]->(cP h n l).sum=l.length+n:=by
 induction l with
 | nil=>intro h n hl;exact absurd rfl hl
 | cons c cs ih =>
  intro h n _;rw[cP];split
  ·by_cases hc:cs=[]
   ·subst hc;simp[cP];omega
   ·have:=ih 0 0 hc;simp;omega
  ·rename_i hn;have hc:cs≠[]:=by intro hc;subst hc;simp at hn
   have:=ih (cY h c.toNat) (n+1) hc;simp;omega
theorem gZ(l:List UInt8):(aI l).sum=l.length:=by
 by_cases h:l=[]
 ·subst h;simp[aI,cP]
 ·have:=FP l 0 0 h;simpa[aI]using this
theorem cR(l:List UInt8):(aI l).length<=l.length:=sG l 0 0
def eN(w:World)(d off:Nat)(l:List UInt8):Prop:=∀j (h:j<l.length),w.cell? ⟨d,off+j,none⟩=some (.int .u8 ((l[j]'h).toNat:Nat))
theorem eN.keep{S:Nat->Prop}{w w':World}{d off:Nat}{l:List UInt8}(h:eN w d off l)(hm:N7 S w w')(hS:¬S d):eN w' d off l:=fun j hj=>by
 have hc:=h j hj
 have hlt:=World.block_lt_of_cell? w _ hc
 exact(World.cell?_of_block (w:=w) (hm.block d hlt hS)).trans hc
end
section
open Go.RowKit Go.Maps
def aD(D:Bs):List Bs:=dj (aI D) D
def eM(l:List Oe):Nat:=(l.getLast?.map (·.num)).getD 0
def bJ(S:AS)(D:Bs):List Bs:=cK (S.K.map (·.1)) [] (aD D)
def dc(l:List Bs):Bs:=(l.map (frame 1)).flatten
structure PW (S S':AS) (l D:Bs) (V:Oe):Prop where
 a:S'.a=S.a
 quota:S'.X.quota=S.X.quota
 closed:S'.X.closed=S.X.closed
 ep:S'.X.ep=S.X.ep
 d:S'.X.d=S.X.d
 n:S'.L.n=S.L.n
 sc:S'.X.sc=S.X.sc+(bJ S D).length
 sb:S'.X.sb=S.X.sb+((bJ S D).map length).sum
 used:S'.X.used=S.X.used+D.length
 K:S'.K=S.K++bW S.data.length (bJ S D)
 ts:S'.ts=S.ts
 vers:∀m,ah S'.ps m=if m=l then ah S.ps l++[V]else ah S.ps m
 num:V.num=eM (ah S.ps l)+1
 size:V.size=D.length
 held:V.held=0
 YE:V.N8.length=(aD D).length
 N8:∀e∈(aD D).zip V.N8,e∈S'.K
 data:S'.data=S.data++dc (bJ S D)++frame 2 (eC l V.num V.size (bB V.N8))
 other:∀f2 c2,(f2+c2<=S.A.first\/S.A.first+S.A.count<=f2)->aB S'.L.now f2 c2=aB S.L.now f2 c2
 grow:S'.L.N8.length<=S.L.N8.length+(dc (bJ S D)++frame 2 (eC l V.num V.size (bB V.N8))).length
def Cv(S:AS)(D:Bs)(b:Nat)(S':AS):Prop:=∀b',b+(bJ S D).length+2<=b'->(aD D).length<=b'->QU S' b'
def sS(S:AS)(l D:Bs)(b:Nat)(w:World)(e:Ending)(w':World):Prop :=
 (∃n,e=.returned (.tuple #[.int .i64 0,cr n])/\Turns (N9 S) (N9 S) w w' /\
  (
   (S.X.closed=true/\n=9)\/(S.X.closed=false/\az l=false/\n=1)\/(S.X.closed=false/\az l=true/\4000<D.length/\n=2) \/
   (S.X.closed=false/\az l=true/\D.length<=4000/\S.X.quota<S.X.used+D.length/\n=7))) \/
 (S.X.closed=false/\az l=true/\D.length<=4000/\S.X.used+D.length<=S.X.quota /\
  (
   (∃sp N8,e=.returned (.tuple #[.int .i64 0,cr 8])/\Ov { S.A with spare:=sp }/\Turns (N9 S) (N9 { S with A:={ S.A with spare:=sp } }) w w' /\
     128*S.A.count<S.data.length+(dc (bJ S D)).length+(frame 2 (eC l (eM (ah S.ps l)+1) D.length (bB N8))).length/\N8.length=(aD D).length) \/
   (∃S' V,e=.returned (.tuple #[.int .i64 (eM (ah S.ps l)+1),.nilIface])/\PW S S' l D V/\Oo S'/\Cv S D b S'/\Turns (N9 S) (N9 S') w w')))
end
section
open Go.RowKit
def dE(w:World)(b:Nat)(h:Int)(n:Nat):Prop:=w.heap[b]?=some (.cells (q7 h n) 296 (0,0))
def M2:Array Value:=jJ 0
theorem Lq(w:World):(zeroValue 296).run prog w=.ok (.agg M2) w:=Nc
def vH(w:World)(e:Ending)(w':World):Prop :=
 e=.returned (.pointer (some ⟨w.heap.size,0,none⟩))/\dE w' w.heap.size 0 0/\aV w w'
theorem sF(w:World):Calls prog 124 #[] w (vH w):=by
 have hz:=Lq;go_enter func124,ntmps124;go_wp2;clear hz
 go_loopw [6] (fun i wr=>∃k:Nat,k<=256/\i=.int .i64 k/\wr.heap[w.heap.size]?=some (.cells (jJ k) 296 (0,0))/\aV w wr)
  (fun i _=>256-(intOf i).toNat)
 case atStart=>exact⟨0,Nb,rfl,aM w _,(N7.refl _ _).alloc _⟩
 case round =>
  obtain⟨k,hk,rfl,hcs,hs⟩:=hrel;by_cases hlt:k<256
  ·have hc:=aa hcs k (AG k hlt);have hf:=aY hcs k;have HC:=NZ hcs;clear hcs;go_wp2;go_roundw
   case rel =>
    refine⟨k+1,Nb,by go_num,?_,hs.setCell (.inr (Nat.le_refl _)) _⟩;rw[bq HC.o];exact congrArg some (congrArg (fun c=>Obj.cells c _ _) (AH k hlt))
   case measure=>simp[intOf];omega
  ·obtain rfl:k=256:=Nb
   have HC:=NZ hcs;clear hcs;go_wp2;go_ret;exact⟨rfl,by unfold dE;rw[HC.o,yD],hs⟩
def tt(w:World)(b:Nat)(h:Int)(n:Nat)(e:Ending)(w':World):Prop :=
 e=.returned (.bool (dG h n))/\dE w' b (if dG h n then 0 else h) (if dG h n then 0 else n)/\N7 (·=b) w w'/\w'.heap.size=w.heap.size
theorem fh{w:World}{b:Nat}{h:Int}{n:Nat}(hC:dE w b h n)(h' m:Int)(hm:m=h'):dE (w.setCell ⟨b,256,none⟩ (.int .u32 m)) b h' n :=
 (bq hC 256 _).trans (by rw[hm,C2])
theorem fi{w:World}{b:Nat}{h:Int}{n:Nat}(hC:dE w b h n)(n':Nat)(m:Int)(hm:m=n'):dE (w.setCell ⟨b,257,none⟩ (.int .i64 m)) b h n' :=
 (bq hC 257 _).trans (by rw[C4 h n n' _ (by rw[hm])])
theorem fD{w:World}{b:Nat}{h:Int}{n:Nat}(hC:dE w b h n):dE w.drew b h n:=hC
theorem lS{w w':World}{b:Nat}{h:Int}{n:Nat}(e:dG h n=true)(hC:dE w' b 0 0)(hM:N7 (·=b) w w')(hz:w'.heap.size=w.heap.size):
  tt w b h n (.returned (.bool true)) w':=by
 refine⟨by rw[e],?_,hM,hz⟩;rw[e];exact hC
theorem mR{w w':World}{b:Nat}{h:Int}{n:Nat}(e:dG h n=false)(hC:dE w' b h n)(hM:N7 (·=b) w w')(hz:w'.heap.size=w.heap.size):
  tt w b h n (.returned (.bool false)) w':=by
 refine⟨by rw[e],?_,hM,hz⟩;rw[e];exact hC
theorem tu(w:World)(b:Nat)(h:Int)(n c:Nat)(hc:c<256)(hn:n<256)(hC:dE w b h n):
  Calls prog 125 #[.pointer (some ⟨b,0,none⟩),.int .u8 c] w (tt w b (cY h c) (n+1)):=by
 have h1:=aa hC c (LZ h n c hc);have h2:=aa hC 256 (L0 h n);have h3:=aa hC 257 (L7 h n);have f2:=aY hC 256;have f3:=aY hC 257;have HC:=NZ hC;clear hC;have b0:=FD;go_enter func125,ntmps125;go_wp2;go_region;all_goals go_wp2
 all_goals go_ret
 ·refine lS (qd Nb) ?_ ?_ ?_
  ·exact fD (fi (fh (fi (fh HC.o (cY h c) _ rfl) (n+1) _ rfl) 0 0 rfl) 0 0 rfl)
  ·repeat (first|exact N7.refl _ _|refine N7.drew ?_|refine N7.set1 ?_ _)
  ·simp[World.drew]
 ·refine mR (EE (v:=true) Nb Nb Nl) ?_ ?_ ?_
  ·exact fD (fi (fh HC.o (cY h c) _ rfl) (n+1) _ rfl)
  ·repeat (first|exact N7.refl _ _|refine N7.drew ?_|refine N7.set1 ?_ _)
  ·simp[World.drew]
 ·refine lS (EE (v:=false) Nb Nb Nl) ?_ ?_ ?_
  ·exact fD (fi (fh (fi (fh HC.o (cY h c) _ rfl) (n+1) _ rfl) 0 0 rfl) 0 0 rfl)
  ·repeat (first|exact N7.refl _ _|refine N7.drew ?_|refine N7.set1 ?_ _)
  ·simp[World.drew]
 ·refine mR (ED (v:=true) Nb Nb Nl) ?_ ?_ ?_
  ·exact fD (fi (fh HC.o (cY h c) _ rfl) (n+1) _ rfl)
  ·repeat (first|exact N7.refl _ _|refine N7.drew ?_|refine N7.set1 ?_ _)
  ·simp[World.drew]
 ·refine lS (ED (v:=false) Nb Nb Nl) ?_ ?_ ?_
  ·exact fD (fi (fh (fi (fh HC.o (cY h c) _ rfl) (n+1) _ rfl) 0 0 rfl) 0 0 rfl)
  ·repeat (first|exact N7.refl _ _|refine N7.drew ?_|refine N7.set1 ?_ _)
  ·simp[World.drew]
 ·refine mR (IT Nb) ?_ ?_ ?_
  ·exact fD (fi (fh HC.o (cY h c) _ rfl) (n+1) _ rfl)
  ·repeat (first|exact N7.refl _ _|refine N7.drew ?_|refine N7.set1 ?_ _)
  ·simp[World.drew]
end
section
open Go.RowKit Go.Shelf
attribute [local go_sem] Oper.semAt_some
abbrev FW:Fence:=Fence.wide
def nF(J Jx:Nat->(Nat->Prop)->World->Prop)(i:Nat)(S:Nat->Prop)(A:World)(e:Ending)(B:World):Prop :=
 (e=.returned (.bool true)/\∃S',J (i+1) S' B/\N7 S A B/\∀k,S' k->k<B.heap.size/\(S k\/A.heap.size<=k)) \/
 (e=.returned (.bool false)/\∃S',Jx i S' B/\N7 S A B/\∀k,S' k->k<B.heap.size/\(S k\/A.heap.size<=k))
def pJ(J Jx:Nat->(Nat->Prop)->World->Prop)(N:Nat)(S:Nat->Prop)(W:World)(e:Ending)(B:World):Prop :=
 (∃v,e=.returned v)/\∃S',(J N S' B\/∃i,i<N/\Jx i S' B)/\N7 S W B/\∀k,S' k->k<B.heap.size/\(S k\/W.heap.size<=k)
def xZ(J:Nat->(Nat->Prop)->World->Prop)(data:List UInt8)(S0:Nat->Prop)(W:World)(c box d:Nat)(k:Nat)(i RD:Nat)(wr:World):Prop :=
 ∃S,J i S wr/\¬S c/\¬S box/\¬S d/\(∀q,S q->q<wr.heap.size/\(S0 q\/W.heap.size<=q))/\N7 S0 W wr/\c<wr.heap.size /\
  i<=(aI data).length/\(k=data.length->i=(aI data).length) /\
  (k<data.length->∃h n,dE wr c h n/\n<256/\RD+n=k/\RD=((aI data).take i).sum/\(aI data).drop i=cP h n (data.drop k))
theorem sI{l:List Nat}{i a:Nat}{r:List Nat}(h:l.drop i=a::r):∃hi:i<l.length,l[i]=a/\l.drop (i+1)=r/\(l.take (i+1)).sum=(l.take i).sum+a:=by
 have hi:i<l.length:=by
  rcases Nat.lt_or_ge i l.length with h'|h'
  ·exact h'
  ·rw[drop_of_length_le h']at h;cases h
 have e:l[i]=a:=by
  have:=getElem?_drop (xs:=l) (i:=i) (j:=0);rw[h]at this;simp at this;exact(List.getElem?_eq_some_iff.1 this.symm).2
 refine⟨hi,e,?_,?_⟩
 ·rw[<- drop_drop,h];rfl
 ·rw[QH hi,sum_append,e];simp
theorem rY{data:List UInt8}{k i RD m:Nat}{h:Int}{x:UInt8}(hlt:k<data.length)(hx:x=data[k])(hfm:RD+m=k)(hfr:RD=((aI data).take i).sum)(hdr:(aI data).drop i=cP h m (data.drop k))(he:dG (cY h x.toNat) (m+1)=true\/k+1=data.length):
  ∃hi:i<(aI data).length,(aI data)[i]=k+1-RD/\(aI data).drop (i+1)=cP 0 0 (data.drop (k+1))/\k+1=((aI data).take (i+1)).sum:=by
 have hd:data.drop k=x::data.drop (k+1):=by rw[hx];exact drop_eq_getElem_cons hlt
 have h2:(aI data).drop i=(m+1)::cP 0 0 (data.drop (k+1)):=by
  rw[hdr,hd];rcases he with he|he
  ·exact q8 _ _ _ _ he
  ·rw[drop_of_length_le Nb];rw[pg];rfl
 obtain⟨hi,h3,h4,h5⟩:=sI h2;exact⟨hi,Nb,h4,Nb⟩
section
variable {J Jx:Nat->(Nat->Prop)->World->Prop} {data:List UInt8} {S0 S:Nat->Prop} {W wr w2 w3:World} {c box d k i RD m:Nat} {h:Int} {x:UInt8}
theorem FR(hlt:k<data.length)(hx:x=data[k])(hfm:RD+m=k)(hfr:RD=((aI data).take i).sum)(hdr:(aI data).drop i=cP h m (data.drop k))(he:dG (cY h x.toNat) (m+1)=true\/k+1=data.length)(UW:¬S c)(hSb:¬S box)(hSd:¬S d)(TP:∀q,S q->q<wr.heap.size/\(S0 q\/W.heap.size<=q))(hM:N7 S0 W wr)(hcW:W.heap.size<=c)(hcl:c<wr.heap.size)(hbW:box<W.heap.size)(hdl:d<W.heap.size)(hM2:N7 (·=c) wr w2)(hC2:k+1<data.length->dE w2 c 0 0){S':Nat->Prop}(hJ:J (i+1) S' w3)(Sr:N7 S w2 w3)(hS':∀q,S' q->q<w3.heap.size/\(S q\/w2.heap.size<=q)):
  xZ J data S0 W c box d (k+1) (i+1) (k+1) w3:=by
 obtain⟨hi,h3,h4,h5⟩:=rY hlt hx hfm hfr hdr he;have z2:=hM2.size;have z3:=Sr.size;have z1:=hM.size;refine⟨S',hJ,?_,?_,?_,?_,?_,Nb,Nb,?_,?_⟩
 ·intro hc;rcases(hS' c hc).2 with h'|h'
  ·exact UW h'
  ·omega
 ·intro hc;rcases(hS' box hc).2 with h'|h'
  ·exact hSb h'
  ·omega
 ·intro hc;rcases(hS' d hc).2 with h'|h'
  ·exact hSd h'
  ·omega
 ·intro q hq;refine⟨(hS' q hq).1,?_⟩;rcases(hS' q hq).2 with h'|h'
  ·exact(TP q h').2
  ·omega
 ·refine(hM.trans' hM2 (fun q hq=>?_)).trans' Sr (fun q hq=>(TP q hq).2);subst hq;exact .inr hcW
 ·intro hk;rw[show data.drop (k+1)=[]from drop_of_length_le Nb]at h4;simp only[cP]at h4;have:=drop_eq_nil_iff.1 h4;omega
 ·intro hk;exact⟨0,0,Sr.at (hC2 hk) UW,Nb,Nb,h5,h4⟩
theorem FS(hlt:k+1<data.length)(hx:x=data[k])(hfm:RD+m=k)(hfr:RD=((aI data).take i).sum)(hi:i<=(aI data).length)(hdr:(aI data).drop i=cP h m (data.drop k))(he:dG (cY h x.toNat) (m+1)=false)(hJ:J i S wr)(UG:∀i S A B,J i S A->(∀k,S k->k<A.heap.size)->N7 (fun k=>¬S k) A B->J i S B)(UW:¬S c)(hSb:¬S box)(hSd:¬S d)(TP:∀q,S q->q<wr.heap.size/\(S0 q\/W.heap.size<=q))(hM:N7 S0 W wr)(hcW:W.heap.size<=c)(hcl:c<wr.heap.size)(hM2:N7 (·=c) wr w2)(hC2:dE w2 c (cY h x.toNat) (m+1)):
  xZ J data S0 W c box d (k+1) i RD w2:=by
 have z2:=hM2.size;refine⟨S,UG i S wr w2 hJ (fun q hq=>(TP q hq).1) (hM2.mono (fun q hq=>.inl (by subst hq;exact UW))),UW,hSb,hSd,fun q hq=>⟨by have:=(TP q hq).1;omega,(TP q hq).2⟩,?_,Nb,hi,Nb,?_⟩
 ·refine hM.trans' hM2 (fun q hq=>?_);subst hq;exact .inr hcW
 ·intro _;have hd:data.drop k=x::data.drop (k+1):=by rw[hx];exact drop_eq_getElem_cons Nb
  refine⟨cY h x.toNat,m+1,hC2,?_,Nb,hfr,?_⟩
  ·rcases Nat.lt_or_ge (m+1) 256 with h'|h'
   ·exact h'
   ·rw[qd h']at he;cases he
  ·rw[hdr,hd,ue _ _ _ _ he];intro hn;have:=drop_eq_nil_iff.1 hn;omega
end
def wy(P:Program)(n l d off:Nat)(data:List UInt8)(J Jx:Nat->(Nat->Prop)->World->Prop):Prop :=
  ∀i S A (hi:i<(aI data).length),J i S A->eN A d off data->(∀k,S k->k<A.heap.size)->¬S d ->
   YieldAt FW n P l #[.slice (some ⟨d,off+((aI data).take i).sum,none⟩) (aI data)[i] (aI data)[i]] A (nF J Jx i S A)
def ya(J:Nat->(Nat->Prop)->World->Prop):Prop:=∀i S A B,J i S A->(∀k,S k->k<A.heap.size)->N7 (fun k=>¬S k) A B->J i S B
theorem C8{n l d off:Nat}{data:List UInt8}{J Jx:Nat->(Nat->Prop)->World->Prop}(SG:wy prog n l d off data J Jx)(UG:ya J){k i RD m:Nat}{h:Int}{x:UInt8}(hlt:k<data.length)(hx:x=data[k])(hfm:RD+m=k)(hfr:RD=((aI data).take i).sum)(hdr:(aI data).drop i=cP h m (data.drop k))(he:dG (cY h x.toNat) (m+1)=true\/k+1=data.length){S S0:Nat->Prop}{W wr w2:World}{c:Nat}(hJ:J i S wr)(hd:eN W d off data)(TP:∀q,S q->q<wr.heap.size/\(S0 q\/W.heap.size<=q))(hM:N7 S0 W wr)(hSd0:¬S0 d)(hSd:¬S d)(UW:¬S c)(hM2:N7 (·=c) wr w2)(hdc:d≠c):
  YieldAt FW n prog l #[.slice (some ⟨d,off+RD,none⟩) (k+1-RD) (k+1-RD)] w2 (nF J Jx i S w2)/\i<(aI data).length:=by
 obtain⟨hi,h3,h4,h5⟩:=rY hlt hx hfm hfr hdr he
 have:=SG i S w2 hi (UG i S wr w2 hJ (fun q hq=>(TP q hq).1) (hM2.mono (fun q hq=>.inl (by subst hq;exact UW)))) ((hd.keep hM hSd0).keep hM2 hdc)
  (fun q hq=>Nat.lt_of_lt_of_le (TP q hq).1 hM2.size) hSd
 rw[h3,<- hfr]at this;exact⟨this,hi⟩
theorem zv(n l box d off cap:Nat)(a:Option Addr)(data:List UInt8)(J Jx:Nat->(Nat->Prop)->World->Prop)(W:World)(S0:Nat->Prop)(ha:0<data.length->a=some ⟨d,off,none⟩)(hcap:data.length<=cap)(hmax:data.length<=140737488351232)(hbox:W.heap[box]?=some (.cells #[.slice a data.length cap] 38 (0,0)))(hd:eN W d off data)(hSb:¬S0 box)(hSd:¬S0 d)(hSo:∀k,S0 k->k<W.heap.size)(h0:J 0 S0 W)(UG:ya J)(SG:wy prog n l d off data J Jx):
  CallsIn FW (n+1) prog 123 #[.func (.yield l) #[] #[],.pointer (some ⟨box,0,none⟩)] W (pJ J Jx (aI data).length S0 W):=by
 have hbW:=ae hbox;refine callsIn_of_wp func123 rfl trivial ?_ rfl;simp only[ntmps123,size_toArray,length_cons,length_nil,Nat.reduceAdd,Nat.reduceSub,Array.replicate_succ,Array.replicate_zero,push_toArray,append_toArray,nil_append,cons_append];gi_wp2_with fail;refine⟨trivial,(callsIn_wide.2 (sF _)).mono ?_⟩;rintro e w1 ⟨rfl,YR,hs1⟩;obtain⟨c,Vg⟩:=Na W.heap.size;rw[<- Vg]at YR ⊢;have hbox1:=aa (hs1.at hbox id) 0 (v:=.slice a data.length cap) Nh;have HC1:=RV YR Vg h0 hSo hbox hs1;clear YR Vg h0 hSo hbox hs1;have HR:=NZ SG;have HF:=NZ UG;have HD:=NZ hd;clear SG UG hd;gi_wp2_with fail
 gi_loopw [4,10] (fun fr kk wr=>∃(k i RD:Nat),k<=data.length/\fr=.int .i64 RD/\kk=.int .i64 k/\xZ J data S0 W c box d k i RD wr)
  (fun _ kk _=>data.length-(intOf kk).toNat)
 case atStart =>
  obtain⟨YR,hc,h0,hSo,hbox,hs1⟩:=HC1.o;refine⟨0,0,0,Nb,rfl,rfl,S0,HF.o 0 S0 W w1 h0 hSo (hs1.mods _),?_,hSb,hSd,fun q hq=>⟨by have:=hSo q hq;have:=hs1.size;omega,.inl hq⟩,hs1.mods _,?_,Nb,?_,?_⟩
  ·intro hq;have:=hSo _ hq;omega
  ·have:=ae YR;exact this
  ·intro hk;have:data=[]:=eq_nil_of_length_eq_zero hk.symm;subst this;simp[aI,cP]
  ·intro hk;exact⟨0,0,YR,Nb,rfl,Nh,by simp[aI]⟩
 case round =>
  obtain⟨k,i,RD,hk,rfl,rfl,hR⟩:=hrel;by_cases hlt:k<data.length
  ·obtain⟨S,hJ,UW,XZ,SX,TP,hM,hcl,hi,_,hst⟩:=hR;obtain⟨h,m,hC,hm,hfm,ZW,hdr⟩:=hst hlt;obtain rfl:=ha Nb;have hbx:=aa (hM.at HC1.e hSb) 0 (v:=.slice (some ⟨d,off,none⟩) data.length cap) Nh;have hdk:=(HD.o.keep hM hSd) k hlt;have hdl:d<W.heap.size:=World.block_lt_of_cell? W _ (HD.o k hlt);have hcW:W.heap.size<=c:=by have:=HC1.b;omega
   have ZK:∀w2:World,N7 (·=c) wr w2->w2.cell? ⟨box,0,none⟩=some (.slice (some ⟨d,off,none⟩) data.length cap):=fun w2 h2=>by
    have e:=h2.block box (by have:=hM.size;omega) Nb;exact(World.cell?_of_block (w:=wr) e).trans hbx
   have HI:=RV hJ TP hM hC ZW hdr;have HB:=NZ ZK;clear hJ TP hM hC ZW hdr hst ZK;obtain⟨x,hx⟩:=Na (data[k]:UInt8);rw[<- hx]at hdk;have Hx:=NZ hx;clear hx;have hxl:=x.toNat_lt;have hfk:RD<=k:=Nb
   have hfc:RD<cap:=Nb
   have HFM:=NZ hfm;clear hfm;by_cases hE:dG (cY h x.toNat) (m+1)=true\/k+1=data.length
   ·obtain⟨z,hz⟩:∃z,dG (cY h x.toNat) (m+1)=z:=⟨_,rfl⟩;have HE:=NZ hE;have HZ:=NZ hz;clear hE hz;gi_wp2_with fail;refine⟨trivial,(callsIn_wide.2 (tu wr c h m x.toNat hxl Nb HI.d)).mono ?_⟩;rintro e w2 ⟨rfl,hC2,hM2,hz2⟩;rw[HZ.o]at hC2 ⊢;have hb2:=HB.o w2 hM2
    have hlast:z=false->((k:Int)==(data.length:Int)-1)=true:=fun hzf=>by
     rcases HE.o with h'|h'
     ·rw[HZ.o,hzf]at h';cases h'
     ·simp;omega
    obtain⟨hI1,hI2,WY,VR,YT,YU⟩:=HI.o;obtain⟨⟨fn,tmps,assign,body,hy,hRd⟩,hil⟩:=C8 HR.o HF.o hlt Hx.o HFM.o YT YU HE.o hI1 HD.o hI2 WY hSd SX UW hM2 Nb
    have hCz:k+1<data.length->dE w2 c 0 0:=fun hk1=>by
     rcases HE.o with h'|h'
     ·rw[HZ.o]at h';rw[h']at hC2;exact hC2
     ·omega
    have HN:=NZ (fun(w3:World) (S':Nat->Prop) (hJ3:J (i+1) S' w3) (Sr:N7 S w2 w3) (hS3:∀q,S' q->q<w3.heap.size/\(S q\/w2.heap.size<=q)) =>
     FR (box:=box) hlt Hx.o HFM.o YT YU HE.o UW XZ SX hI2 WY hcW hcl hbW hdl hM2 hCz hJ3 Sr hS3)
    have HX:=PD hil (WY.trans' hM2 (T:=(·=c)) (fun q hq=>.inr Nb)) hI2 hM2.size WY.size;clear hC2 hM2 hz2 hI1 hI2 WY VR YT YU hCz hil
    cases z
    ·have hl:=hlast rfl;clear hlast;gi_wp2_with fail;refine hRd.mono ?_;rintro e w3 (⟨rfl,S',hJ3,Sr,hS3⟩|⟨rfl,S',hJ3,Sr,hS3⟩)
     ·have HR3:=NZ (HN.o w3 S' hJ3 Sr hS3);clear hJ3 Sr hS3 hy;gi_wp2;go_roundw
      case rel=>exact⟨k+1,i+1,k+1,Nb,by go_num,by go_num,HR3.o⟩
      case measure=>simp[intOf];omega
     ·obtain⟨hil,U8,hI2,hz2,hz1⟩:=HX.o
      have HP:Hid (pJ J Jx (aI data).length S0 W (.returned (.tuple #[])) w3) :=
       ⟨⟨_,rfl⟩,S',.inr ⟨i,hil,hJ3⟩,U8.trans' Sr (fun q hq=>(hI2 q hq).2),fun q hq=>⟨(hS3 q hq).1,by
        rcases(hS3 q hq).2 with h'|h'
        ·exact(hI2 q h').2
        ·exact .inr Nb⟩⟩
      clear hJ3 Sr hS3 hy hil U8 hI2 hz2 hz1;gi_wp2;refine bodyPost_ret (results_none rfl _ _ _) rfl ?_;exact HP.o
    ·clear hlast;gi_wp2_with fail;refine hRd.mono ?_;rintro e w3 (⟨rfl,S',hJ3,Sr,hS3⟩|⟨rfl,S',hJ3,Sr,hS3⟩)
     ·have HR3:=NZ (HN.o w3 S' hJ3 Sr hS3);clear hJ3 Sr hS3 hy;gi_wp2;go_roundw
      case rel=>exact⟨k+1,i+1,k+1,Nb,by go_num,by go_num,HR3.o⟩
      case measure=>simp[intOf];omega
     ·obtain⟨hil,U8,hI2,hz2,hz1⟩:=HX.o
      have HP:Hid (pJ J Jx (aI data).length S0 W (.returned (.tuple #[])) w3) :=
       ⟨⟨_,rfl⟩,S',.inr ⟨i,hil,hJ3⟩,U8.trans' Sr (fun q hq=>(hI2 q hq).2),fun q hq=>⟨(hS3 q hq).1,by
        rcases(hS3 q hq).2 with h'|h'
        ·exact(hI2 q h').2
        ·exact .inr Nb⟩⟩
      clear hJ3 Sr hS3 hy hil U8 hI2 hz2 hz1;gi_wp2;refine bodyPost_ret (results_none rfl _ _ _) rfl ?_;exact HP.o
   ·have hk1:k+1<data.length:=by
     rcases Nat.lt_or_ge (k+1) data.length with h'|h'
     ·exact h'
     ·exact absurd (.inr Nb) hE
    have hz:dG (cY h x.toNat) (m+1)=false:=by
     cases hz:dG (cY h x.toNat) (m+1)
     ·rfl
     ·exact absurd (.inl hz) hE
    have hne:((k:Int)==(data.length:Int)-1)=false:=Nj
    have HZ:=NZ hz;clear hE hz;gi_wp2_with fail;refine⟨trivial,(callsIn_wide.2 (tu wr c h m x.toNat hxl Nb HI.d)).mono ?_⟩;rintro e w2 ⟨rfl,hC2,hM2,hz2⟩;rw[HZ.o]at hC2 ⊢;have hb2:=HB.o w2 hM2;obtain⟨hI1,hI2,WY,VR,YT,YU⟩:=HI.o;have HN:=NZ (FS (box:=box) (d:=d) hk1 Hx.o HFM.o YT hi YU HZ.o hI1 HF.o UW XZ SX hI2 WY hcW hcl hM2 hC2);clear hC2 hM2 hz2 hI1 hI2 WY VR YT YU;gi_wp2;go_roundw
    case rel=>exact⟨k+1,i,RD,Nb,rfl,by go_num,HN.o⟩
    case measure=>simp[intOf];omega
  ·obtain rfl:k=data.length:=Nb
   obtain⟨S,hJ,UW,XZ,SX,TP,hM,hcl,hi,hil,hst⟩:=hR
   have HP:Hid (pJ J Jx (aI data).length S0 W (.returned (.tuple #[])) wr) :=
    ⟨⟨_,rfl⟩,S,.inl (by rw[hil rfl]at hJ;exact hJ),hM,TP⟩
   clear hJ TP hM hil hst;gi_wp2;go_end0;exact HP.o
end
section
open Go.RowKit Go.Shelf
def Own(S S':Nat->Prop)(A B:World):Prop:=N7 S A B/\∀k,S' k->k<B.heap.size/\(S k\/A.heap.size<=k)
def FG(I:Nat->(Nat->Prop)->World->Prop)(Ix:Code->Nat->(Nat->Prop)->World->Prop)(i:Nat)(S:Nat->Prop)(A:World):Exit->Act->World->Prop
 | .normal,_,B=>∃S',I (i+1) S' B/\Own S S' A B
 | .ret,_,B=>∃S',Ix .ret i S' B/\Own S S' A B
 | .exit id,_,B=>∃S',Ix (.exit id) i S' B/\Own S S' A B
 | .goto t,_,B=>∃S',Ix (.goto t) i S' B/\Own S S' A B
 | .panic _,_,_=>False
 | .outgrown,_,_=>False
def fZ(d off:Nat)(data:List UInt8)(i:Nat):Value :=
 .slice (some ⟨d,off+((aI data).take i).sum,none⟩) ((aI data).getD i 0) ((aI data).getD i 0)
theorem Mg{S S':Nat->Prop}{A B:World}(h:Own S S' A B):∀k,S' k->k<B.heap.size:=fun k hk=>(h.2 k hk).1
theorem G7{n:Nat}{g:Operand}{p:Tmp}{assign body:Code}{Q:Exit->Act->World->Prop}{a:Act}{w:World}(box d off cap:Nat)(a0:Option Addr)(data:List UInt8)(hg:a.eval g=.func (.func 123) #[] #[.pointer (some ⟨box,0,none⟩)])(ha:0<data.length->a0=some ⟨d,off,none⟩)(hcap:data.length<=cap)(hmax:data.length<=140737488351232)(hbox:w.heap[box]?=some (.cells #[.slice a0 data.length cap] 38 (0,0)))(hd:eN w d off data)(hdw:d≠w.heap.size/\d≠w.heap.size+1)(I:Nat->(Nat->Prop)->World->Prop)(Ix:Code->Nat->(Nat->Prop)->World->Prop)(S0:Nat->Prop)(hSb:¬S0 box)(hSd:¬S0 d)(hSo:∀k,S0 k->k<w.heap.size)(h0:I 0 S0 w)(hI:ya I)(hIx:∀c,ya (Ix c))(a₁:Nat->Act)(hassign:∀(l i:Nat) (W:World) (K:Act->World->Prop),K (a₁ i) W ->
   assign.wpIn (FW.inRound l) n prog (Exit.then K (fun _ _ _=>False)) { tmps:=a.tmps.setIfInBounds p (fZ d off data i),defers:=[] } W)(hbody:∀(l i:Nat) (S:Nat->Prop) (A:World),i<(aI data).length->I i S A->eN A d off data->(∀k,S k->k<A.heap.size)->¬S d->w.heap.size<=A.heap.size ->
   body.wpIn (FW.inRound l) n prog (FG I Ix i S A) (a₁ i) A)(hdone:∀(D:Nat) (S:Nat->Prop) (B:World),w.heap.size<=D->I (aI data).length S B->Own S0 S w B->¬S D->B.heap[D]?=some (.deferred (some [])) ->
   Q .normal { a with defers:={ target:=.collected D,args:=#[] }::a.defers } B)(hstop:∀(D i:Nat) (c:Code) (S:Nat->Prop) (B:World),w.heap.size<=D->i<(aI data).length->Ix c i S B->Own S0 S w B->¬S D->B.heap[D]?=some (.deferred (some [])) ->
   c.wpIn FW (n+1+1) prog Q { a with defers:={ target:=.collected D,args:=#[] }::a.defers } B):
  (Code.rangeFunc g #[p] assign body).wpIn FW (n+1+1) prog Q a w:=by
 refine wpIn_rangeFunc ?_;intro fn _;obtain⟨rec,hrec⟩:=Na (fun st pe=>{ state:=st,pending:=pe,fn,tmps:=a.tmps,params:=#[p],assign,body,defers:=w.heap.size }:LoopState->Option Code->Loop)
 obtain⟨W1,hW1⟩:∃W1,(w.alloc (.deferred (some []))).alloc (.loop (rec .ready none))=W1:=⟨_,rfl⟩;obtain⟨L,hL⟩:=Na (w.heap.size+1);obtain⟨D,hD⟩:=Na w.heap.size;have hz1:W1.heap.size=w.heap.size+2:=by rw[<- hW1];simp
 have hL1:W1.heap[L]?=some (.loop (rec .ready none)):=by
  rw[<- hW1,hL];have:=World.alloc_heap_new (w.alloc (.deferred (some []))) (.loop (rec .ready none));rwa [World.size_alloc]at this
 have hK1:W1.heap[D]?=some (.deferred (some [])):=by
  rw[<- hW1,hD];exact(Below.heap_alloc _ _ _ Nh).trans (World.alloc_heap_new w _)
 have hs1:aV w W1:=by rw[<- hW1];exact((N7.refl _ w).alloc _).alloc _
 refine⟨L,[{ target:=.collected D,args:=#[] }],W1,{ target:=.fn (.func 123) #[.pointer (some ⟨box,0,none⟩)],args:=#[.func (.yield L) #[] #[]] },W1,123,
  #[.func (.yield L) #[] #[]]++#[.pointer (some ⟨box,0,none⟩)],W1,?_,?_,?_,?_,(fun h=>by cases h),?_⟩
 ·rw[<- hW1,hrec,hL,hD];exact run_enterLoop_outer _ _ _ _ _
 ·simp only[resolve,hg];simp[go_sem]
 ·intro f' _;trivial
 ·have eg:=enters_of (P:=prog) func123 Nc rfl;simp[invoke,go_sem,eg _ W1]
 ·obtain⟨J,hJ⟩:∃J:Nat->(Nat->Prop)->World->Prop,J=fun i T A=>∃S,I i S A/\(∀q,T q↔S q\/q=L\/q=D)/\¬S L/\¬S D/\A.heap[L]?=some (.loop (rec .ready none)) /\
    A.heap[D]?=some (.deferred (some []))/\(∀k,S k->k<A.heap.size)/\w.heap.size<=A.heap.size:=⟨_,rfl⟩
  obtain⟨Jx,hJx⟩:∃Jx:Nat->(Nat->Prop)->World->Prop,Jx=fun i T A=>∃c S,Ix c i S A/\(∀q,T q↔S q\/q=L\/q=D)/\¬S L/\¬S D/\A.heap[L]?=some (.loop (rec .done (some c))) /\
    A.heap[D]?=some (.deferred (some []))/\(∀k,S k->k<A.heap.size)/\w.heap.size<=A.heap.size:=⟨_,rfl⟩
  have hput:∀{S:Nat->Prop} {A:World} (o:Obj),¬S L->N7 (fun k=>¬S k) A (A.putObj L o):=fun o h=>(N7.refl _ _).putObj (.inl h) o
  have hbW:=ae hbox;refine(zv n L box d off cap a0 data J Jx W1 (fun q=>S0 q\/q=L\/q=D) ha hcap hmax (hs1.at hbox id) (hd.keep hs1 id) ?_ ?_ ?_ ?_ ?_ ?_).mono ?_
  ·rintro(h|h|h)
   ·exact hSb h
   ·omega
   ·omega
  ·rintro(h|h|h)
   ·exact hSd h
   ·omega
   ·omega
  ·rintro q (h|h|h)
   ·have:=hSo q h;omega
   ·omega
   ·omega
  ·rw[hJ];exact⟨S0,hI 0 S0 w W1 h0 hSo (hs1.mods _),fun q=>Iff.rfl,fun h=>by have:=hSo _ h;omega,fun h=>by have:=hSo _ h;omega,hL1,hK1,fun k hk=>by have:=hSo k hk;omega,Nb⟩
  ·rw[hJ];rintro i T A B ⟨S,hi,hT,Uy,hSD,hl,hk,ho,hz⟩ YV hM;have hM':N7 (fun k=>¬S k) A B:=hM.mono (fun q hq=>.inl (fun h=>hq ((hT q).2 (.inl h))));exact⟨S,hI i S A B hi ho hM',hT,Uy,hSD,hM.at hl (fun h=>h ((hT L).2 (.inr (.inl rfl)))),hM.at hk (fun h=>h ((hT D).2 (.inr (.inr rfl)))),fun k hk'=>Nat.lt_of_lt_of_le (ho k hk') hM.size,Nat.le_trans hz hM.size⟩
  ·rintro i T A hi hj hdA YV hTd;rw[hJ]at hj;obtain⟨S,hi',hT,Uy,hSD,hl,hk,ho,hz⟩:=hj;have SX:¬S d:=fun h=>hTd ((hT d).2 (.inl h))
   have hlt:=ae hl;have hy:=run_yield (P:=prog) (args:=#[fZ d off data i]) hl (by rw[hrec];rfl);rw[hrec]at hy
   have hget:fZ d off data i=.slice (some ⟨d,off+((aI data).take i).sum,none⟩) (aI data)[i] (aI data)[i]:=by
    simp[fZ,getD_eq_getElem?_getD,hi]
   rw[<- hget]
   have hy':(Instr.yield L #[fZ d off data i]).run prog A=.ok (.round L fn (a.tmps.setIfInBounds p (fZ d off data i)) assign body) A:=by
    rw[hy];simp
   refine⟨fn,_,assign,body,hy',roundIn_of_wpIn trivial (hassign L i A (fun a₁' w₁=>∃w₂,(Instr.beginRound L).run prog w₁=.ok () w₂/\body.wpIn (FW.inRound L) n prog (roundPost prog L (nF J Jx i T A)) a₁' w₂) ⟨_,run_beginRound hl (by rw[hrec]),?_⟩)⟩;obtain⟨A2,hA2⟩:=Na (A.putObj L (.loop { rec .ready none with state:=.busy }));rw[<- hA2];have hl2:A2.heap[L]?=some (.loop (rec .busy none)):=by rw[hA2,World.putObj_heap_same hlt,hrec]
   have hMA:N7 (fun k=>¬S k) A A2:=by rw[hA2];exact hput _ Uy
   have XW:N7 (fun k=>k=L) A A2:=by rw[hA2];exact N7.putObj (S:=fun k=>k=L) (N7.refl _ _) (r:=L) (Or.inl rfl) _
   have hzA:A2.heap.size=A.heap.size:=by rw[hA2];simp
   have hk2:A2.heap[D]?=some (.deferred (some [])):=XW.at hk Nb;refine wpIn_mono (hbody L i S A2 hi (hI i S A A2 hi' ho hMA) (hdA.keep XW Nb) (fun q hq=>by have:=ho q hq;omega) SX Nb) ?_
   have fin:∀(jump:Option Code) (S':Nat->Prop) (B:World),Own S S' A2 B ->
     (Instr.endRound L jump).run prog B=.ok (.bool jump.isNone) (B.putObj L (.loop (rec (if jump.isNone then .ready else .done) jump))) /\
     ¬S' L/\¬S' D/\(B.putObj L (.loop (rec (if jump.isNone then .ready else .done) jump))).heap[L]?=some (.loop (rec (if jump.isNone then .ready else .done) jump)) /\
     (B.putObj L (.loop (rec (if jump.isNone then .ready else .done) jump))).heap[D]?=some (.deferred (some [])) /\
     N7 T A (B.putObj L (.loop (rec (if jump.isNone then .ready else .done) jump)))/\w.heap.size<=B.heap.size/\(∀k,S' k->k<B.heap.size):=fun jump S' B hO=>by
    have hl3:B.heap[L]?=some (.loop (rec .busy none)):=hO.1.at hl2 Uy;have hk3:=hO.1.at hk2 hSD;have hr:=run_endRound (P:=prog) jump hl3;rw[hrec]at hr ⊢
    have TN:¬S' L:=fun h=>by
     rcases(hO.2 L h).2 with h'|h'
     ·exact Uy h'
     ·omega
    have Va:¬S' D:=fun h=>by
     rcases(hO.2 D h).2 with h'|h'
     ·exact hSD h'
     ·omega
    refine⟨hr,TN,Va,World.putObj_heap_same (ae hl3),(World.putObj_heap_other Nb).trans hk3,?_,by have:=hO.1.size;omega,Mg hO⟩;refine((XW.mono (fun q hq=>.inl ((hT q).2 (.inr (.inl hq))))).trans (hO.1.mono (fun q hq=>.inl ((hT q).2 (.inl hq))))).putObj (.inl ((hT L).2 (.inr (.inl rfl)))) _
   have own':∀(jump:Option Code) (S':Nat->Prop) (B:World),Own S S' A2 B->∀k,(S' k\/k=L\/k=D)->k<(B.putObj L (.loop (rec (if jump.isNone then .ready else .done) jump))).heap.size/\(T k\/A.heap.size<=k):=fun jump S' B hO k hk'=>by
    have:=hO.1.size;have:=ae hk;rw[World.putObj_size];rcases hk' with h|h|h
    ·refine⟨(hO.2 k h).1,?_⟩;rcases(hO.2 k h).2 with h'|h'
     ·exact .inl ((hT k).2 (.inl h'))
     ·exact .inr Nb
    ·exact⟨Nb,.inl ((hT k).2 (.inr (.inl h)))⟩
    ·exact⟨Nb,.inl ((hT k).2 (.inr (.inr h)))⟩
   have left:∀(c:Code) (S':Nat->Prop) (B:World),Ix c i S' B->Own S S' A2 B->∃v w',(Instr.endRound L (some c)).run prog B=.ok v w'/\nF J Jx i T A (.returned v) w':=fun c S' B hx hO=>by
    obtain⟨hr,TN,Va,hl4,hk4,hM4,Y0,ho4⟩:=fin (some c) S' B hO;refine⟨_,_,hr,.inr ⟨rfl,fun k=>S' k\/k=L\/k=D,?_,hM4,own' (some c) S' B hO⟩⟩;rw[hJx];exact⟨c,S',hIx c i S' B _ hx ho4 (hput _ TN),fun q=>Iff.rfl,TN,Va,hl4,hk4,fun k hk'=>by rw[World.putObj_size];exact ho4 k hk',by rw[World.putObj_size];exact Y0⟩
   rintro e a3 B hp
   cases e with
   | normal =>
    obtain⟨S',hi3,hO⟩:=hp;obtain⟨hr,TN,Va,hl4,hk4,hM4,Y0,ho4⟩:=fin none S' B hO;refine⟨_,_,hr,.inl ⟨rfl,fun k=>S' k\/k=L\/k=D,?_,hM4,own' none S' B hO⟩⟩;rw[hJ];exact⟨S',hI (i+1) S' B _ hi3 ho4 (hput _ TN),fun q=>Iff.rfl,TN,Va,hl4,hk4,fun k hk'=>by rw[World.putObj_size];exact ho4 k hk',by rw[World.putObj_size];exact Y0⟩
   | ret=>obtain⟨S',hx,hO⟩:=hp;exact left _ S' B hx hO
   | exit id=>obtain⟨S',hx,hO⟩:=hp;exact left _ S' B hx hO
   | goto t=>obtain⟨S',hx,hO⟩:=hp;exact left _ S' B hx hO
   | panic ch=>exact hp.elim
   | outgrown=>exact hp.elim
  ·rintro e B ⟨⟨v,rfl⟩,T,hJJ,hM,YV⟩;have hz:=hM.size
   have back:∀S,(∀q,T q↔S q\/q=L\/q=D)->¬S L->¬S D->∀o,Own S0 S w (B.putObj L o):=fun S hT Uy hSD o=>by
    refine⟨((hs1.mods S0).trans' hM (fun q hq=>?_)).putObj (.inr Nb) o,fun k hk=>?_⟩
    ·rcases hq with h|h|h
     ·exact .inl h
     ·exact .inr Nb
     ·exact .inr Nb
    ·rw[World.putObj_size];obtain⟨h1,h2⟩:=YV k ((hT k).2 (.inl hk));refine⟨h1,?_⟩;rcases h2 with(h|h|h)|h
     ·exact .inl h
     ·exact absurd (h ▸ hk) Uy
     ·exact absurd (h ▸ hk) hSD
     ·exact .inr Nb
   rcases hJJ with hj|⟨i,hiN,hx⟩
   ·rw[hJ]at hj;obtain⟨S,hi,hT,Uy,hSD,hl,hk,ho,hzz⟩:=hj;have hr:=run_endLoop (P:=prog) hl (by rw[hrec];simp);rw[hrec]at hr;refine⟨none,_,hr,?_⟩;exact hdone D S _ Nb (hI _ S B _ hi ho (hput _ Uy)) (back S hT Uy hSD _) hSD ((World.putObj_heap_other Nb).trans hk)
   ·rw[hJx]at hx;obtain⟨c,S,hi,hT,Uy,hSD,hl,hk,ho,hzz⟩:=hx;have hr:=run_endLoop (P:=prog) hl (by rw[hrec];simp);rw[hrec]at hr;refine⟨some c,_,hr,?_⟩;exact hstop D i c S _ Nb hiN (hIx c _ S B _ hi ho (hput _ Uy)) (back S hT Uy hSD _) hSD ((World.putObj_heap_other Nb).trans hk)
def LD(J:Nat->HF->Prop)(i:Nat)(F:HF)(A:World):Exit->Act->World->Prop
 | .normal,_,B=>∃F',J (i+1) F'/\Turns F F' A B
 | .ret,_,_=>False
 | .exit _,_,_=>False
 | .goto _,_,_=>False
 | .panic _,_,_=>False
 | .outgrown,_,_=>False
theorem Ej{n:Nat}{g:Operand}{p:Tmp}{assign body:Code}{Q:Exit->Act->World->Prop}{a:Act}{w:World}(box d off cap:Nat)(a0:Option Addr)(data:List UInt8)(hg:a.eval g=.func (.func 123) #[] #[.pointer (some ⟨box,0,none⟩)])(ha:0<data.length->a0=some ⟨d,off,none⟩)(hcap:data.length<=cap)(hmax:data.length<=140737488351232)(hbox:w.heap[box]?=some (.cells #[.slice a0 data.length cap] 38 (0,0)))(hd:eN w d off data)(hdw:d≠w.heap.size/\d≠w.heap.size+1)(J:Nat->HF->Prop)(F0:HF)(h0:J 0 F0)(hs:Sat w F0)(hSb:box∉dom F0)(hSd:d∉dom F0)(a₁:Nat->Act)(hassign:∀(l i:Nat) (W:World) (K:Act->World->Prop),K (a₁ i) W ->
   assign.wpIn (FW.inRound l) n prog (Exit.then K (fun _ _ _=>False)) { tmps:=a.tmps.setIfInBounds p (fZ d off data i),defers:=[] } W)(hbody:∀(l i:Nat) (F:HF) (A:World),i<(aI data).length->J i F->Sat A F->eN A d off data->d∉dom F->w.heap.size<=A.heap.size ->
   body.wpIn (FW.inRound l) n prog (LD J i F A) (a₁ i) A)(hdone:∀(D:Nat) (F:HF) (B:World),w.heap.size<=D->J (aI data).length F->Turns F0 F w B->D∉dom F->B.heap[D]?=some (.deferred (some [])) ->
   Q .normal { a with defers:={ target:=.collected D,args:=#[] }::a.defers } B):
  (Code.rangeFunc g #[p] assign body).wpIn FW (n+1+1) prog Q a w:=by
 refine G7 box d off cap a0 data hg ha hcap hmax hbox hd hdw (fun i S A=>∃F,J i F/\Sat A F/\∀q,S q↔q∈dom F) (fun _ _ _ _=>False) (fun q=>q∈dom F0) hSb hSd (fun k hk=>hs.lt hk) ⟨F0,h0,hs,fun _=>Iff.rfl⟩
  ?_ (fun _ _ _ _ _ h=>h.elim) a₁ hassign ?_ ?_ (fun _ _ _ _ _ _ _ h=>h.elim)
 ·rintro i S A B ⟨F,hJ,hF,hS⟩ hlt hM;exact⟨F,hJ,hF.frame hM (fun b hb hn=>hn ((hS b).2 hb)),hS⟩
 ·rintro l i S A hi ⟨F,hJ,hF,hS⟩ hdA hlt SX hle;refine wpIn_mono (hbody l i F A hi hJ hF hdA (fun h=>SX ((hS d).2 h)) hle) ?_;intro e a3 B hp
  cases e with
  | normal =>
   obtain⟨F',hJ',hT⟩:=hp;refine⟨fun q=>q∈dom F',⟨F',hJ',hT.sat,fun _=>Iff.rfl⟩,hT.mods.mono (fun b hb=>.inl ((hS b).2 hb)),fun k hk=>⟨hT.sat.lt hk,?_⟩⟩;rcases hT.fresh k hk with h|h
   ·exact .inl ((hS k).2 h)
   ·exact .inr h
  | _=>exact hp.elim
 ·rintro D S B hD ⟨F,hJ,hF,hS⟩ hO hSD hK;exact hdone D F B hD hJ ⟨hO.1,hF,fun b hb=>(hO.2 b ((hS b).2 hb)).2⟩ (fun h=>hSD ((hS D).2 h)) hK
theorem m9{P:Program}{fn:Func}{p q:Tmp}{t1 t2:TypeId}(h:fn.results=#[.cell p t1,.cell q t2])(tmps:Array Value)(w:World)(b c:Nat)(u v:Value){d1 d2:TypeDesc}(hu1:P.underlying t1=some d1)(hd1:kJ d1=true)(hu2:P.underlying t2=some d2)(hd2:kJ d2=true)(hp:tmps.getD p undef=.pointer (some ⟨b,0,none⟩))(hq:tmps.getD q undef=.pointer (some ⟨c,0,none⟩))(hb:w.cell? ⟨b,0,none⟩=some u)(hc:w.cell? ⟨c,0,none⟩=some v):
  (results fn tmps).run P w=.ok (.tuple #[u,v]) w:=by
 have hp':tmps[p]?.getD undef=.pointer (some ⟨b,0,none⟩):=by simpa using hp
 have hq':tmps[q]?.getD undef=.pointer (some ⟨c,0,none⟩):=by simpa using hq
 have e1:(loadVar t1 ⟨b,0,none⟩).run P w=.ok u w:=by
  cases d1<;>simp[kJ]at hd1<;>simp[loadVar,isAgg,underlying,hu1,Result.andThen,hb]
 have e2:(loadVar t2 ⟨c,0,none⟩).run P w=.ok v w:=by
  cases d2<;>simp[kJ]at hd2<;>simp[loadVar,isAgg,underlying,hu2,Result.andThen,hc]
 simp[results,h,hp',hq',asAddr,e1,e2]
structure Ux where
 val:Value
 bytes:Bs
def fo(v:Value)(l:List Ux):HF:=bH 38 1 v (l.map (·.val)).length (l.map (·.val))++l.flatMap fun r=>aJ r.val r.bytes
def LE(v:Value)(l:List Ux):Prop:=ei 1 v (l.map (·.val)).length (l.map (·.val))/\∀r∈l,PE r.val r.bytes
end
section
open Go.RowKit Go.Maps Go.Shelf
theorem iA(has:List Bs)(c:Bs):∀(l acc:List Bs),cK has acc (l++[c])=if c∈has\/c∈cK has acc l then cK has acc l else cK has acc l++[c]
 | [],acc=>by simp only[nil_append,cK];congr
 | x::l,acc=>by
  simp only[cons_append,cK]
  split<;>exact iA has c l _
theorem jw(has:List Bs):∀(l acc:List Bs),∀c∈cK has acc l,c∈acc\/(c∈l/\c∉has)
 | [],acc=>fun c h=>.inl h
 | x::l,acc=>fun c h=>by
  simp only[cK]at h
  split at h
  ·rcases jw has l acc c h with h'|⟨h1,h2⟩
   ·exact .inl h'
   ·exact .inr ⟨mem_cons_of_mem _ h1,h2⟩
  ·rename_i hn
   rcases jw has l _ c h with h'|⟨h1,h2⟩
   ·rcases mem_append.1 h' with h'|h'
    ·exact .inl h'
    ·simp only[NU]at h';subst h';exact .inr ⟨Nh,fun hh=>hn (.inl hh)⟩
   ·exact .inr ⟨mem_cons_of_mem _ h1,h2⟩
theorem jm(has:List Bs):∀(l acc:List Bs),acc.Nodup->(cK has acc l).Nodup
 | [],acc,h=>h
 | x::l,acc,h=>by
  simp only[cK]
  split
  ·exact jm has l acc h
  ·rename_i hn
   refine jm has l _ (nodup_append.2 ⟨h,Nh,?_⟩)
   intro a ha b hb e
   simp only[NU]at hb
   exact hn (.inr (hb ▸ e ▸ ha))
theorem kH(has:List Bs):∀(l acc:List Bs),(cK has acc l).length<=acc.length+l.length
 | [],acc=>by simp[cK]
 | x::l,acc=>by
  simp only[cK]
  split
  ·have:=kH has l acc;simp;omega
  ·have:=kH has l (acc++[x]);simp at this ⊢;omega
def gi(q:Nat×Nat):Value:=.agg #[.int .i64 q.1,.int .i64 q.2]
def bE:Nat->Nat->List Bs->List (OT Bs)
 | _,_,[]=>[]
 | at_,b,c::r=>⟨c,gi (at_,c.length),b⟩::bE (at_+c.length+9) (b+1) r
theorem ge:∀(l:List Bs) (at_ b:Nat),(bE at_ b l).map (·.key)=l
 | [],_,_=>rfl
 | c::r,at_,b=>by simp[bE,ge r]
theorem pj(l:List Bs)(at_ b:Nat):(bE at_ b l).length=l.length:=by
 have:=congrArg length (ge l at_ b);simpa using this
theorem iz(c:Bs)(r:List Bs):bp (c::r)=c.length+9+bp r:=rfl
theorem ul(l:List Bs)(c:Bs):bp (l++[c])=bp l+(c.length+9):=by simp[bp]
theorem oz(m:List Bs):∀(l:List Bs) (at_ b:Nat),bE at_ b (l++m)=bE at_ b l++bE (at_+bp l) (b+l.length) m
 | [],at_,b=>by simp[bE,bp]
 | c::r,at_,b=>by
  simp only[cons_append,bE,oz m r,iz,length_cons]
  rw[show at_+c.length+9+bp r=at_+(c.length+9+bp r) by omega,show b+1+r.length=b+(r.length+1) by omega]
theorem mU:∀(l:List Bs) (at_ b:Nat),∀e∈bE at_ b l,b<=e.born/\e.born<b+l.length
 | [],_,_,e,h=>by simp[bE]at h
 | c::r,at_,b,e,h=>by
  simp only[bE,mem_cons]at h
  rcases h with rfl|h
  ·simp
  ·have:=mU r _ _ e h;simp;omega
theorem qk:∀(l:List Bs) (at_ b:Nat),((bE at_ b l).map (·.born)).Nodup
 | [],_,_=>by simp[bE]
 | c::r,at_,b=>by
  simp only[bE,map_cons,nodup_cons]
  refine⟨fun h=>?_,qk r _ _⟩
  obtain⟨e,he,hb⟩:=mem_map.1 h
  have:=mU r _ _ e he
  omega
theorem xd{l:List Bs}(h:l.Nodup)(hs:∀c∈l,Py c)(at_:Nat):OO Py (bE at_ 0 l) l.length where
 nodup:=by rw[ge];exact h
 Ri:=qk l at_ 0
 lt:=fun e he=>by have:=mU l at_ 0 e he;omega
 ok:=fun e he=>hs _ (by rw[<- ge l at_ 0];exact mem_map.2 ⟨e,he,rfl⟩)
theorem pn:∀(l:List Bs) (at_ b:Nat),∀e∈bE at_ b l,∃q,(e.key,q)∈bW at_ l/\e.val=gi q
 | [],_,_,e,h=>by simp[bE]at h
 | c::r,at_,b,e,h=>by
  simp only[bE,mem_cons]at h
  rcases h with rfl|h
  ·exact⟨_,mem_cons_self,rfl⟩
  ·obtain⟨q,h1,h2⟩:=pn r _ _ e h
   exact⟨q,mem_cons_of_mem _ h1,h2⟩
theorem um:∀(l:List Bs) (at_ b:Nat),(bE at_ b l).map (fun e=>(e.key,e.val))=(bW at_ l).map (fun p=>(p.1,gi p.2))
 | [],_,_=>rfl
 | c::r,at_,b=>by simp[bE,bW,um r]
theorem lU(l:List Bs)(at_ b:Nat)(c:Bs):iB (bE at_ b l) c=decide (c∈l):=by
 rw[Bool.eq_iff_iff,iC,decide_eq_true_eq];have hk:=ge l at_ b;constructor
 ·rintro⟨e,he,rfl⟩;rw[<- hk];exact mem_map.2 ⟨e,he,rfl⟩
 ·intro h;rw[<- hk]at h;obtain⟨e,he,h2⟩:=mem_map.1 h;exact⟨e,he,h2⟩
theorem Dh{l:List Bs}{at_ b:Nat}{c:Bs}(h:c∈l):∃q,(c,q)∈bW at_ l/\dH (bE at_ b l) c=some (gi q):=by
 have h1:=lU l at_ b c;rw[decide_eq_true h,gO]at h1
 cases hg:dH (bE at_ b l) c with
 | none=>rw[hg]at h1;cases h1
 | some v =>
  obtain⟨e,he,hk,hv⟩:=lu hg;obtain⟨q,hq,h2⟩:=pn l at_ b e he;exact⟨q,hk ▸ hq,by rw[<- hv,h2]⟩
theorem Di{l:List Bs}{at_:Nat}{c:Bs}(h:c∉l):gJ (bE at_ 0 l) l.length c (gi (at_+bp l,c.length))=bE at_ 0 (l++[c])/\cy (bE at_ 0 l) l.length c=(l++[c]).length:=by
 have h1:=lU l at_ 0 c;rw[decide_eq_false h]at h1;unfold gJ cy;rw[h1,oz];simp[bE]
theorem sk(l:List Bs)(c:Bs)(at_:Nat):bW at_ (l++[c])=bW at_ l++[(c,at_+bp l,c.length)]:=by rw[wc];rfl
theorem b8(D:Bs):(aD D).length=(aI D).length:=cI _ _
def oZ(D:Bs)(i:Nat):Bs:=(D.drop ((aI D).take i).sum).take ((aI D).getD i 0)
theorem fB{D:Bs}{i:Nat}(h:i<(aI D).length):(aD D).take (i+1)=(aD D).take i++[oZ D i]:=by
 have h':i<(aD D).length:=by rw[b8];exact h
 have e:(aD D)[i]=(D.drop ((aI D).take i).sum).take (aI D)[i]:=ji _ _ _ h;rw[QH h',e];unfold oZ;simp[getD_eq_getElem?_getD,h]
theorem nl(l:List Nat)(i:Nat)(h:i<l.length):(l.take i).sum+l[i]<=l.sum:=by
 conv=>rhs;rw[<- take_append_drop (i+1) l,sum_append,QH h,sum_append]
 simp
theorem t6{D:Bs}{i:Nat}(h:i<(aI D).length):(oZ D i).length=(aI D).getD i 0:=by
 have h1:=nl (aI D) i h;rw[gZ]at h1;unfold oZ;rw[NS,NT];simp only[getD_eq_getElem?_getD,h,getElem?_eq_getElem,Option.getD_some];omega
theorem ym{w:World}{d off:Nat}{D:Bs}{i:Nat}(hD:eN w d off D)(h:i<(aI D).length):ak w (some ⟨d,off+((aI D).take i).sum,none⟩) ((oZ D i).map am):=fun _=>by
 refine⟨d,_,rfl,fun j hj=>?_⟩
 have hl:=t6 h
 have h1:=nl (aI D) i h
 rw[gZ]at h1
 have e:(aI D).getD i 0=(aI D)[i]:=by simp[getD_eq_getElem?_getD,h]
 rw[NP,hl,e]at hj
 have:=hD (((aI D).take i).sum+j) Nb
 rw[<- Nat.add_assoc]at this
 rw[this]
 simp[oZ,am]
def cB(n:Int):Obj:=.cells #[.int .i64 n] 3 (0,0)
def dt(a:Nat):Obj:=.cells #[.pointer (some ⟨a,0,none⟩)] 32 (0,0)
def eU(v:Value):Obj:=.cells #[v] 45 (0,0)
def db(b:Nat):Obj:=.cells #[.pointer (some ⟨b,0,none⟩)] 149 (0,0)
def c9(v:Value):Obj:=.cells #[v] 61 (0,0)
def ec(b:Nat):Obj:=.cells #[.map (some b)] 154 (0,0)
def Hw(S:AS)(D:Bs)(B9 B11 PU PZ Bm Bv num:Nat)(R:HF)(i:Nat)(F:HF):Prop :=
 ∃(sp:List (Nat×Nat×Nat)) (acc:List Bs) (fv rv:Value) (N8:List (Nat×Nat)) (recs:List Ux),
  acc=cK (S.K.map (·.1)) [] ((aD D).take i)/\Ov { S.A with spare:=sp }/\recs.map (·.bytes)=acc.map (frame 1)/\LE rv recs/\bQ fv N8/\N8.length=i /\
  (∀e∈((aD D).take i).zip N8,e∈S.K++bW S.data.length acc) /\
  F=(PZ,Is (cB ((S.data.length+bp acc:Nat):Int)))::(PU,Is (ec Bm))::(Bm,Is (aU str (bE S.data.length 0 acc) acc.length))::(B11,Is (c9 rv)) ::
   (fo rv recs++((B9,Is (db Bv))::(bN ⟨Bv,num,D.length,fv,N8,0⟩++(R++N9 { S with A:={ S.A with spare:=sp } }))))
theorem Mk{l:List Bs}{N8:List (Nat×Nat)}{c:Bs}{q:Nat×Nat}{T T':List (Bs×Nat×Nat)}(hl:l.length=N8.length)(h:∀e∈l.zip N8,e∈T)(hT:∀e∈T,e∈T')(hq:(c,q)∈T'):∀e∈(l++[c]).zip (N8++[q]),e∈T':=by
 intro e he;rw[zip_append hl]at he;rcases mem_append.1 he with h'|h'
 ·exact hT e (h e h')
 ·simp only[zip_cons_cons,zip_nil_right,NU]at h';subst h';exact hq
theorem dJ{D:Bs}{c:Bs}(h:c∈aD D):c.length<=D.length:=by
 obtain⟨i,hi,rfl⟩:=mem_iff_getElem.1 h;have hi':i<(aI D).length:=by rw[<- b8];exact hi
 have e:(aD D)[i]=(D.drop ((aI D).take i).sum).take (aI D)[i]:=ji _ _ _ hi';rw[e,NS,NT];omega
theorem LR{S:AS}{D:Bs}{i:Nat}(hD:D.length<=4000):∀c∈cK (S.K.map (·.1)) [] ((aD D).take i),Py c:=fun c hc=>by
 rcases jw _ _ _ c hc with h|⟨h,_⟩
 ·simp at h
 ·have:=dJ (mem_of_mem_take h)
  unfold Py;omega
theorem qj:∀(l:List Bs) (m:Nat),(∀c∈l,c.length<=m)->bp l<=l.length*(m+9)
 | [],_,_=>by simp[bp]
 | c::r,m,h=>by
  have h1:=h c Nh
  have h2:=qj r m (fun x hx=>h x (by simp[hx]))
  rw[iz,length_cons,Nat.add_mul]
  omega
def rh:Code->Option (Code×Code)
 | .rangeFunc _ _ a b=>some (a,b)
 | .seq a b=>match rh a with|some r=>some r|none=>rh b
 | .block _ c=>rh c
 | .scope c=>rh c
 | _=>none
def JH:Code->Option Code
 | .seq a b=>if(rh a).isSome then some b else JH b
 | _=>none
noncomputable def KX:Code:=((Tryz.f25.body.bind rh).map (·.2)).getD .skip
noncomputable def KY:Code:=(Tryz.f25.body.bind JH).getD .skip
end
section
open Go.RowKit Go.Maps
def xA(v:Value):Obj:=.cells #[v] 38 (0,0)
theorem Gp{v:Value}{l:List (Nat×Nat)}(h:bQ v l){w:World}(hs:Sat w (aZ v l)):v.oneCell'=true/\v.cells=#[v]:=by
 obtain⟨sl,cap,rfl,_⟩:=fc hs h;exact⟨rfl,rfl⟩
theorem nK{w:World}{v:Value}{l:Bs}(h:PE v l)(hs:Sat w (aJ v l)):v.oneCell'=true/\v.cells=#[v]/\∃a cap,v=.slice a l.length cap:=by
 obtain⟨a,cap,rfl,_⟩:=aP (dh hs h);exact⟨rfl,rfl,a,cap,rfl⟩
theorem E0{w:World}{e:Nat}{v:Value}{l:List Value}(hs:Sat w (bH e 1 v l.length l))(h:ei 1 v l.length l):v.oneCell'=true/\v.cells=#[v]:=by
 obtain⟨a,cap,rfl,_⟩:=aP (aW hs h);exact⟨rfl,rfl⟩
theorem EW{lb n:Nat}(F1 Z:HF)(A:World)(XA B9 Bv:Nat)(VV:Oe)(q:Nat×Nat)(fv:Value)(N8:List (Nat×Nat)){Q:Exit->Act->World->Prop}{w:World}{u0 u1 u2 u3 u4 u5 u6 u7 u8 aS aT ab ad ag aj al ar av ax a0 a1 a2 a3 a4 a5 a6 a7 a8 a9 bY bg bj bk bl bn bo bs bv bx b0 b1 b2 b3 b4 b6 b7 b9 ca cb cc cg ch ci cj cl cm cp cs ct cu cx c0 c1 c2 c3 c4 c5 c6 c7 c8 dO dT dd df dn dp dv d0 d1 d2 d3 d4 d5 d6 d7 d8 eA eQ eX ea eg el em en ep es ev ey e0 e1 e2 e3 e4 e5 e6 e7 e9 fE fl fn fr fs fz f0 f1 f2 f3 f4 f5 f6 f7 f8 f9 gD gb gg gh gp gq gs gu gv gx g2 g3 g4 g5 g6 g7 g9 hA hB hC hD hE hF hG hH hI hJ hK hL hM hN hO hP hQ hR hS hU hV hW hX hY hZ ha hb hc hd he hf hg hh hi hj:Value}{ds:List Deferred}(hT:Turns F1 ((XA,Is (aE q))::(B9,Is (db Bv))::(Bv,Is (dB VV))::(aZ fv N8++Z)) A w)(hpo:bQ fv N8)(hcv:VV.cv=fv)(hcl:N8.length<=100000)(hQo:¬LetsOut Q)(hk:∀(hl hm hn ho hp hq hr hs ht hw:Value) (w':World),bQ hs (N8++[q])->Turns F1 ((Bv,Is (.cells ((fA VV).setIfInBounds 2 hs) 152 (0,0)))::(XA,Is (aE q))::(B9,Is (db Bv))::(aZ hs (N8++[q])++Z)) A w'->Q .normal { tmps:=#[u0,u1,u2,u3,u4,u5,u6,u7,u8,.pointer (some ⟨B9,0,none⟩),aS,aT,ab,ad,ag,.pointer (some ⟨XA,0,none⟩),aj,al,ar,av,ax,a0,a1,a2,a3,a4,a5,a6,a7,a8,a9,bY,bg,bj,bk,bl,bn,bo,bs,bv,bx,b0,b1,b2,b3,b4,b6,b7,b9,ca,cb,cc,cg,ch,ci,cj,cl,cm,cp,cs,ct,cu,cx,c0,c1,c2,c3,c4,c5,c6,c7,c8,dO,dT,dd,df,dn,dp,dv,d0,d1,d2,d3,d4,d5,d6,d7,d8,eA,eQ,eX,ea,eg,el,em,en,ep,es,ev,ey,e0,e1,e2,e3,e4,e5,e6,e7,e9,fE,fl,fn,fr,fs,fz,f0,f1,f2,f3,f4,f5,f6,f7,f8,f9,gD,gb,gg,gh,hl,hm,hn,ho,hp,hq,hr,hs,ht,hw,g6,g7,g9,hA,hB,hC,hD,hE,hF,hG,hH,hI,hJ,hK,hL,hM,hN,hO,hP,hQ,hR,hS,hU,hV,hW,hX,hY,hZ,ha,hb,hc,hd,he,hf,hg,hh,hi,hj],defers:=ds } w'):
  (JG 28 Tryz.f25).wpIn (Fence.wide.inRound lb) n prog Q { tmps:=#[u0,u1,u2,u3,u4,u5,u6,u7,u8,.pointer (some ⟨B9,0,none⟩),aS,aT,ab,ad,ag,.pointer (some ⟨XA,0,none⟩),aj,al,ar,av,ax,a0,a1,a2,a3,a4,a5,a6,a7,a8,a9,bY,bg,bj,bk,bl,bn,bo,bs,bv,bx,b0,b1,b2,b3,b4,b6,b7,b9,ca,cb,cc,cg,ch,ci,cj,cl,cm,cp,cs,ct,cu,cx,c0,c1,c2,c3,c4,c5,c6,c7,c8,dO,dT,dd,df,dn,dp,dv,d0,d1,d2,d3,d4,d5,d6,d7,d8,eA,eQ,eX,ea,eg,el,em,en,ep,es,ev,ey,e0,e1,e2,e3,e4,e5,e6,e7,e9,fE,fl,fn,fr,fs,fz,f0,f1,f2,f3,f4,f5,f6,f7,f8,f9,gD,gb,gg,gh,gp,gq,gs,gu,gv,gx,g2,g3,g4,g5,g6,g7,g9,hA,hB,hC,hD,hE,hF,hG,hH,hI,hJ,hK,hL,hM,hN,hO,hP,hQ,hR,hS,hU,hV,hW,hX,hY,hZ,ha,hb,hc,hd,he,hf,hg,hh,hi,hj],defers:=ds } w:=by
 conv=>arg 4;whnf
 refine vu [([0,1,2,3,4,5],6,[0,1,2,3,4]),([],7,[0]),([8,9],10,[])] [] HM.o Nc hQo Nc fun W tW=>?_
 simp only[Mix,map_cons,map_nil,nth,QG,QF];have hT1:=tW hT;clear tW;have g:∀{W:World},W.heap[B9]?=some (db Bv)->W.heap[Bv]?=some (dB VV)->W.cell? ⟨B9,0,none⟩=some (.pointer (some ⟨Bv,0,none⟩))/\W.cell? ⟨Bv,2,none⟩=some fv:=fun h1 h2=>⟨aa h1 0 rfl,aa h2 2 (by rw[<- hcv];rfl)⟩
 obtain⟨g0,g1⟩:=g (hT1.sat.Q7 Nh) (hT1.sat.Q7 Nh);repeat still_step
 refine iR 161 (.tmp 15) rfl rfl XA 0 rfl [.int .i64 q.1,.int .i64 q.2] _ (fun j v hv=>aa hT1.sat.Q5 (0+j) (by rw[Nat.zero_add,<- Array.getElem?_toList];exact hv)) underlying161 rfl Nc (wpStill_nil ?_);refine je (aE q) (fun n=>.slice (some ⟨n,0,none⟩) 1 1) Nc hT1 fun n W2 hT2=>⟨by(obtain⟨g0,g1⟩:=g (hT2.sat.Q7 Nh) (hT2.sat.Q7 Nh);(repeat still_step);exact rfl),wpStill_nil ?_⟩
 refine kT (.tmp 133) (.tmp 135) rfl fv N8 rfl (hT2.to (H:=aZ fv N8++((n,Is (aE q))::(XA,Is (aE q))::(B9,Is (db Bv))::(Bv,Is (dB VV))::Z)) ac) hpo (some ⟨n,0,none⟩) 1 1 rfl [q] rfl (fun _=>⟨_,rfl,fun j u hu=>by
  rw[Addr.add_lit,Nat.zero_add];exact aa hT2.sat.Q5 j (by rw[<- Array.getElem?_toList];exact hu)⟩) Nj fun v1 W3 h1 Oa=>⟨by(obtain⟨g0,g1⟩:=g (Oa.sat.Q7 Nh) (Oa.sat.Q7 Nh);(repeat still_step);exact rfl),?_⟩
 simp only[Act.put,QA,QB,QC];repeat still_step
 have p1:=Gp h1 Oa.sat.left;refine wpStill_nil (aX 150 (.tmp 138) (.tmp 136) rfl Bv 2 (fA VV) 152 v1 (Oa.to (H:=(Bv,Is (dB VV))::(aZ v1 (N8++[q])++((n,Is (aE q))::(XA,Is (aE q))::(B9,Is (db Bv))::Z))) ac) rfl rfl (by simp[fA]) Nc p1.1 p1.2 fun W4 Oj=>⟨rfl,?_⟩);simp only[Act.put];exact hk _ _ _ _ _ _ _ _ _ _ W4 h1 (Oj.drop bR)
theorem GR(w:World)(l:Bs):∃cap w',(convert 9 38 (str l)).run prog w=.ok (.slice (some ⟨w.heap.size,0,none⟩) l.length cap) w'/\aV w w'/\ak w' (some ⟨w.heap.size,0,none⟩) (l.map am):=by
 refine⟨_,_,Go.Lib.run_convert_string_bytes w 9 38 5 ⟨l.toArray⟩ underlying9 underlying38 underlying5,⟨rfl,rfl,rfl,?_,fun k hk _=>?_⟩,fun _=>⟨_,_,rfl,fun j hj=>?_⟩⟩
 ·rw[Go.Lib.bytesWorld_size];omega
 ·exact Go.Lib.bytesWorld_at_old w _ _ k hk
 ·have hj':j<l.length:=by simpa using hj
  rw[Nat.zero_add,Go.Lib.bytesWorld_cell w _ _ j (by simpa[ByteArray.size]using hj')];simp[am,getD,hj']
theorem Ei{o:Oper}{a:Act}{w:World}{K:Act->World->Prop}{Q:Exit->Act->World->Prop}(x:Operand)(ho:o.op=.convert 9 38 x)(l:Bs)(hx:a.eval x=str l)(hk:∀n cap w',aV w w'->ak w' (some ⟨n,0,none⟩) (l.map am)->w.heap.size<=n->K (a.put o.dst (.slice (some ⟨n,0,none⟩) l.length cap)) w'):o.wp prog a w K Q:=by
 obtain⟨cap,w',h1,h2,h3⟩:=GR w l;refine nu (v:=.slice (some ⟨w.heap.size,0,none⟩) l.length cap) (w':=w') ?_ (hk _ cap w' h2 h3 (Nat.le_refl _));simp[execOp,ho,hx,h1,Result.andThen]
theorem mT(c:Bs)(r:List Bs):dc (c::r)=frame 1 c++dc r:=by simp[dc]
theorem gN:∀l:List Bs,(dc l).length=bp l
 | []=>rfl
 | c::r=>by rw[mT,NM,bi,iz,gN r]
theorem rA(rest:Bs):∀(l:List Bs) (data:Bs),(∀c∈l,c.length<65536)->∀e∈bW data.length l,e.2.2=e.1.length/\dC (data++dc l++rest) e.2.1 e.1
 | [],_,_,e,h=>by simp[bW]at h
 | c::r,data,hl,e,h=>by
  simp only[bW,mem_cons]at h
  rcases h with rfl|h
  ·refine⟨rfl,?_⟩
   have:=dC.frame (data:=data) (body:=c) (rest:=dc r++rest) (hl c Nh)
   rw[mT]
   simpa using this
  ·have h2:=rA rest r (data++frame 1 c) (fun x hx=>hl x (by simp[hx])) e (by rw[NM,bi,<- Nat.add_assoc];exact h)
   rw[mT]
   simpa using h2
theorem sj{ps:List bf}{pc:Nat}(hok:OL ps pc){l:Bs}(hl:Py l){v:Value}{V:Oe}(hv:eP v (ah ps l++[V]))(hV:bQ V.cv V.N8):OL (j7 ps pc l v V) (cy (ps.map aR) pc l) where
 map:=by unfold j7;rw[iI];exact hok.map.put hl v
 rows:=fun p hp=>by
  rcases iJ hp with⟨h1,_⟩|⟨_,h2,h3⟩
  ·exact hok.rows p h1
  ·refine⟨by rw[h2,h3];exact hv,fun U hU=>?_⟩
   rw[h3]at hU
   rcases mem_append.1 hU with h|h
   ·unfold ah Qr at h
    cases hf:ps.find? (fun p=>decide (p.key=l))with
    | none=>rw[hf]at h;simp at h
    | some p'=>rw[hf]at h;exact(hok.rows p' (mem_of_find?_eq_some hf)).2 U h
   ·simp only[NU]at h;subst h;exact hV
theorem ft{ps:List bf}{l:Bs}(h:ah ps l≠[]):∃p∈ps,p.key=l/\p.g=ah ps l:=by
 unfold ah Qr at h ⊢
 cases hf:ps.find? (fun p=>decide (p.key=l))with
 | none=>rw[hf]at h;exact absurd rfl h
 | some p=>exact⟨p,mem_of_find?_eq_some hf,by simpa using find?_some hf,rfl⟩
theorem JM{γ:Type}(ps:List (GE γ))(c:Nat)(l:Bs)(v:Value)(g:γ):(eS ps c l v g).length<=ps.length+1:=by
 unfold eS;split<;>simp
theorem ll{α β:Type}:∀{l:List α} {m:List β},l.length=m.length->∀b∈m,∃a∈l,(a,b)∈l.zip m
 | [],[],_,b,hb=>by simp at hb
 | a::l,x::m,h,b,hb=>by
  rcases mem_cons.1 hb with rfl|hb
  ·exact⟨a,Nh,Nh⟩
  ·obtain⟨a',h1,h2⟩:=ll (by simpa using h) b hb
   exact⟨a',by simp[h1],by simp[h2]⟩
theorem EA:∀{l:List Bs} {m:List (Nat×Nat)},l.length=m.length->(∀e∈l.zip m,e.2.2=e.1.length)->(m.map (·.2)).sum=(l.map length).sum
 | [],[],_,_=>rfl
 | c::l,q::m,h,hz=>by
  have h1:=hz (c,q) Nh
  have h2:=EA (l:=l) (m:=m) (by simpa using h) (fun e he=>hz e (by simp[he]))
  simp only[map_cons,sum_cons]
  rw[h2]
  simp only at h1
  rw[h1]
theorem mO:∀(l:List Nat) (d:Bs),l.sum=d.length->((dj l d).map length).sum=d.length
 | [],d,h=>by simpa[dj]using h
 | n::r,d,h=>by
  simp only[sum_cons]at h
  simp only[dj,map_cons,sum_cons,NS]
  rw[mO r (d.drop n) Nz,NT]
  omega
theorem pZ(D:Bs):((aD D).map length).sum=D.length:=mO _ _ (gZ D)
theorem rH(has:List Bs):∀(l acc:List Bs),((cK has acc l).map length).sum<=(acc.map length).sum+(l.map length).sum
 | [],acc=>by simp[cK]
 | c::l,acc=>by
  simp only[cK]
  split
  ·have:=rH has l acc;simp;omega
  ·have:=rH has l (acc++[c]);simp at this ⊢;omega
theorem jI(l:List Bs):bp l=(l.map length).sum+9*l.length:=by
 induction l with
 | nil=>rfl
 | cons c r ih=>rw[iz,ih];simp;omega
theorem i8(S:AS)(D:Bs):((bJ S D).map length).sum<=D.length:=by
 have:=rH (S.K.map (·.1)) (aD D) [];rw[pZ]at this;unfold bJ;simpa using this
theorem kf(S:AS)(D:Bs):(bJ S D).length<=D.length:=by
 have h1:=kH (S.K.map (·.1)) (aD D) [];have h2:=cR D;rw[b8]at h1;unfold bJ;simp at h1;omega
theorem po{S:AS}{D c:Bs}(h:c∈bJ S D):c∈aD D/\c∉S.K.map (·.1):=by
 rcases jw _ _ _ c h with h|h
 ·simp at h
 ·exact h
theorem mo(data:Bs):(bK data).length=128:=by
 unfold bK;have:=fF data;simp[an];omega
theorem uz{S:AS}{b:Nat}(hB:QU S b)(l:Bs):eM (ah S.ps l)<=4294967296+b:=by
 unfold eM
 cases hg:(ah S.ps l).getLast? with
 | none=>simp
 | some V =>
  have hV:=mem_of_getLast? hg;obtain⟨p,hp,_,h2⟩:=ft (ps:=S.ps) (l:=l) (fun e=>by rw[e]at hV;simp at hV);rw[<- h2]at hV;exact((hB.vers p hp).2.2 V hV).1
theorem fg(l:Bs)(n s:Int)(N8:List (Nat×Nat)):(frame 2 (eC l n s (bB N8))).length=l.length+16+4*N8.length:=by
 simp only[bi,eC,NM,bS,bU,dL,bB,NP];omega
theorem Mj{S S':AS}{D:Bs}{b:Nat}(h:Cv S D b S'):QU S' (b+D.length+2):=h _ (by have:=kf S D;omega) (by have:=cR D;rw[b8];omega)
theorem Nr{p:Prop}(h:p:=by unfold Py;omega):p:=h
theorem Jz{S:AS}{l D:Bs}{b:Nat}(hok:Oo S)(hB:QU S b)(hl:l.length<=20)(hD:D.length<=4000){sp:List (Nat×Nat×Nat)}(hA:Ov { S.A with spare:=sp }){V:Oe}(hnum:V.num=eM (ah S.ps l)+1)(hsize:V.size=D.length)(Xk:V.held=0)(hnc:V.N8.length=(aD D).length)(Td:∀e∈(aD D).zip V.N8,e∈S.K++bW S.data.length (bJ S D))(hV:bQ V.cv V.N8){L':Ol}(hL:Ou L')(hLn:L'.n=S.L.n)(hdat:eD L'.now S.A.first S.A.count (S.data++dc (bJ S D)++frame 2 (eC l V.num V.size (bB V.N8))))(hoth:∀f2 c2,(f2+c2<=S.A.first\/S.A.first+S.A.count<=f2)->aB L'.now f2 c2=aB S.L.now f2 c2)(hLc:L'.N8.length<=S.L.N8.length+(dc (bJ S D)++frame 2 (eC l V.num V.size (bB V.N8))).length){cs':List kx}{cc':Nat}(hcs:O7 cs' cc')(UH:∀k,(bd cs' k).Perm (((S.K++bW S.data.length (bJ S D)).filter (fun e=>decide (ed e.1=k))).map (·.2))){v':Value}(hv:eP v' (ah S.ps l++[V])):
  ∀S',S'={ S with X:={ S.X with sc:=S.X.sc+(bJ S D).length,sb:=S.X.sb+((bJ S D).map length).sum,used:=S.X.used+D.length },A:={ S.A with spare:=sp,end_:=(S.data++dc (bJ S D)++frame 2 (eC l V.num V.size (bB V.N8))).length,tail:=bK (S.data++dc (bJ S D)++frame 2 (eC l V.num V.size (bB V.N8))) },L:=L',ps:=j7 S.ps S.pc l v' V,pc:=cy (S.ps.map aR) S.pc l,cs:=cs',cc:=cc',data:=S.data++dc (bJ S D)++frame 2 (eC l V.num V.size (bB V.N8)),K:=S.K++bW S.data.length (bJ S D) } ->
  PW S S' l D V/\Oo S'/\Cv S D b S':=by
 rintro S' rfl;have hfl:=kf S D;have hfs:=i8 S D
 have Wh:∀e∈S.K++bW S.data.length (bJ S D),e.2.2=e.1.length/\dC (S.data++dc (bJ S D)++frame 2 (eC l V.num V.size (bB V.N8))) e.2.1 e.1:=fun e he=>by
  rcases mem_append.1 he with h|h
  ·refine⟨(hok.Pm e h).1,?_⟩;rw[NV];exact(hok.Pm e h).2.more
  ·exact rA _ _ _ (fun c hc=>by have:=dJ (po hc).1;omega) e h
 have hpl:(bW S.data.length (bJ S D)).length=(bJ S D).length:=by
  have:=congrArg length (um (bJ S D) S.data.length 0);simp only[NP]at this;rw[<- this,pj]
 have hln:=uz hB l;have hcn:=cR D;rw[b8]at hnc
 have VE:∀p∈j7 S.ps S.pc l v' V,(p∈S.ps/\p.key≠l)\/(p.key=l/\p.g=ah S.ps l++[V]):=fun p hp=>by
  rcases iJ hp with h|⟨h1,_,h3⟩
  ·exact .inl h
  ·exact .inr ⟨h1,h3⟩
 refine⟨⟨rfl,rfl,rfl,rfl,rfl,hLn,rfl,rfl,rfl,rfl,rfl,fun m=>?_,hnum,hsize,Xk,by rw[hnc,b8],Td,rfl,hoth,hLc⟩,?_,?_⟩
 ·simp only[ah,j7,ql]
 ·exact {
   dev:=hL,n16:=by rw[hLn];exact hok.n16,Px:=by rw[hLn];exact hok.Px,area:=⟨mo _,hA.few,hA.caps⟩,first:=by rw[hLn];exact hok.first,count:=by rw[hLn];exact hok.count
   end_:=rfl,tail:=rfl,dat:=hdat,paths:=sj hok.paths Nr hv hV,tags:=hok.tags,chunks:=hcs,kin:=UH,Pm:=Wh
   vers:=fun p hp U hU=>by
    have old:∀p∈S.ps,∀U∈p.g,(∀q∈U.N8,∃e∈S.K++bW S.data.length (bJ S D),e.2=q)/\U.size=(U.N8.map (·.2)).sum:=fun p hp U hU =>
     ⟨fun q hq=>by obtain⟨e,he,h⟩:=(hok.vers p hp U hU).1 q hq;exact⟨e,mem_append_left _ he,h⟩,(hok.vers p hp U hU).2⟩
    rcases VE p hp with⟨h1,_⟩|⟨_,h3⟩
    ·exact old p h1 U hU
    ·rw[h3]at hU
     rcases mem_append.1 hU with h|h
     ·obtain⟨p',hp',_,h2⟩:=ft (ps:=S.ps) (l:=l) (fun e=>by rw[e]at h;simp at h)
      rw[<- h2]at h
      exact old p' hp' U h
     ·simp only[NU]at h
      subst h
      have hll:(aD D).length=U.N8.length:=by rw[hnc,b8]
      refine⟨fun q hq=>?_,?_⟩
      ·obtain⟨c,_,h2⟩:=ll hll q hq
       exact⟨(c,q),Td _ h2,rfl⟩
      ·rw[hsize,EA hll (fun e he=>(Wh e (Td e he)).1),pZ]
   some:=fun p hp=>by
    rcases VE p hp with⟨h1,_⟩|⟨_,h3⟩
    ·exact hok.some p h1
    ·rw[h3];simp
   sound:=hok.sound,ep:=hok.ep }
 ·intro b' hb1 hb3;rw[b8]at hb3
  have hfr:(dc (bJ S D)++frame 2 (eC l V.num V.size (bB V.N8))).length<=262144*2:=by
   rw[NM,gN,jI,fg];omega
  have hb2:b<=b':=Nb
  exact {
   K:=by have:=hB.K;simp only[NM,hpl];omega
   np:=by have h1:=JM S.ps S.pc l v' (ah S.ps l++[V]);have:=hB.np;show(eS S.ps S.pc l v' (ah S.ps l++[V])).length<=_;omega
   nt:=by have:=hB.nt;show S.ts.length<=_;omega
   vers:=fun p hp=>by
    have old:∀U:Oe,U.num<=4294967296+b/\U.N8.length<=b/\U.size<=65536*b/\U.held.natAbs<=b->U.num<=4294967296+b'/\U.N8.length<=b'/\U.size<=65536*b'/\U.held.natAbs<=b':=fun U h=>by omega
    rcases VE p hp with⟨h1,_⟩|⟨h0,h3⟩
    ·obtain⟨k1,k2,k3⟩:=hB.vers p h1
     exact⟨k1,Nb,fun U hU=>old U (k3 U hU)⟩
    ·rw[h0,h3]
     have hlen:(ah S.ps l).length<=b/\∀U∈ah S.ps l,U.num<=4294967296+b/\U.N8.length<=b/\U.size<=65536*b/\U.held.natAbs<=b:=by
      by_cases hn:ah S.ps l=[]
      ·rw[hn];exact⟨Nh,fun U hU=>by simp at hU⟩
      ·obtain⟨p',hp',_,h2⟩:=ft hn
       rw[<- h2];exact⟨(hB.vers p' hp').2.1,(hB.vers p' hp').2.2⟩
     refine⟨Nb,Nj,fun U hU=>?_⟩
     rcases mem_append.1 hU with h|h
     ·exact old U (hlen.2 U h)
     ·simp only[NU]at h
      subst h
      rw[hnum,hsize,Xk,hnc]
      exact⟨Nb,Nb,Nb,Nh⟩
   tags:=fun p hp=>by obtain⟨k1,k2,k3⟩:=hB.tags p hp;exact⟨k1,k2,Nb⟩
   used:=by have:=hB.used;simp only;omega
   sc:=by have:=hB.sc;simp only;omega
   sb:=by have:=hB.sb;simp only;omega
   quota:=hB.quota
   N8:=by have:=hB.N8;simp only at hLc ⊢;omega }
def OkI(n:Int):Prop:=-9223372036854775808<=n/\n<=9223372036854775807
theorem Du:Pz prog 3 dw OkI where
 keyed:=int_keyed underlying3
 inj:=fun a b h=>by simpa[dw]using h
 key:=fun a h=>⟨_,Go.Maps.keyOf_int_mk underlying3 (by
  unfold OkI at h
  simp[Lit.wf,IntKind.signed,IntKind.bits,IntKind.min,IntKind.max]
  omega)⟩
theorem LH(w:World):(zeroValue 3).run prog w=.ok (.int .i64 0) w:=Nc
def du(Qx:Int->Option Nat):List Int->Option (List (Nat×Nat))
 | []=>some []
 | a::r=>match Qx a,du Qx r with
  | some s,some l=>some ((a.toNat,s)::l)
  | _,_=>none
theorem oY(Qx:Int->Option Nat)(a:Int):∀l:List Int,du Qx (l++[a])=match du Qx l,Qx a with|some m,some s=>some (m++[(a.toNat,s)])|_,_=>none
 | []=>by simp only[nil_append,du];cases Qx a<;>rfl
 | b::r=>by
  simp only[cons_append,du,oY Qx a r]
  cases Qx b<;>cases du Qx r<;>cases Qx a<;>rfl
theorem tZ{Qx:Int->Option Nat}:∀{l m:List Int},du Qx l=none->du Qx (l++m)=none
 | [],_,h=>by cases h
 | b::r,m,h=>by
  simp only[cons_append,du]at h ⊢
  cases hb:Qx b with
  | none=>rfl
  | some s =>
   rw[hb]at h
   cases hr:du Qx r with
   | none=>rw[tZ hr]
   | some l=>rw[hr]at h;cases h
theorem nL{Qx:Int->Option Nat}:∀{l:List Int} {m:List (Nat×Nat)},du Qx l=some m->m.length=l.length
 | [],m,h=>by simp only[du,NY]at h;subst h;rfl
 | b::r,m,h=>by
  simp only[du]at h
  cases hb:Qx b with
  | none=>rw[hb]at h;cases h
  | some s =>
   cases hr:du Qx r with
   | none=>rw[hb,hr]at h;cases h
   | some l=>rw[hb,hr]at h;simp only[NY]at h;subst h;simp[nL hr]
theorem wQ{Qx:Int->Option Nat}(hs:∀a s,Qx a=some s->s<=65535):∀{l:List Int} {m:List (Nat×Nat)},du Qx l=some m->(m.map (·.2)).sum<=65535*l.length
 | [],m,h=>by simp only[du,NY]at h;subst h;simp
 | b::r,m,h=>by
  simp only[du]at h
  cases hb:Qx b with
  | none=>rw[hb]at h;cases h
  | some s =>
   cases hr:du Qx r with
   | none=>rw[hb,hr]at h;cases h
   | some l =>
    rw[hb,hr]at h
    simp only[NY]at h
    subst h
    have h1:=wQ hs hr
    have h2:=hs b s hb
    simp only[map_cons,sum_cons,length_cons]
    omega
theorem Fx(X:Om)(s:Int):(bm X).setIfInBounds 5 (.int .i64 s)=bm { X with used:=s }:=rfl
theorem FA(c:Array Value)(w:World):(Instr.typeAssert (.iface 173 (.agg c)) 215 173 true).run prog w=.ok (.tuple #[.agg c,.bool true]) w:=Nc
def iY(a:Nat)(X:Om)(ps:List bf)(pc sm:Nat)(sz:List (OT Int))(OJ:Nat)(v:Value)(ats:List Int):HF :=
 (a,Is (aL X))::(aG X.pm ps pc++((sm,Is (aU dw sz OJ))::ck v ats))
def Fp(a:Nat)(X:Om)(ps:List bf)(pc sm:Nat)(sz:List (OT Int))(OJ:Nat)(v:Value)(Qx:Int->Option Nat)(p:Bs)(n m:Nat)(ats:List Int)(w:World)(e:Ending)(w':World):Prop :=
 ((∀N8,du Qx ats=some N8->(N8.map (·.2)).sum≠m)/\e=.returned (.bool false)/\Turns (iY a X ps pc sm sz OJ v ats) (iY a X ps pc sm sz OJ v ats) w w') \/
 (∃N8 b cv v',du Qx ats=some N8/\(N8.map (·.2)).sum=m/\e=.returned (.bool true)/\bQ cv N8/\eP v' (ah ps p++[⟨b,n,m,cv,N8,0⟩]) /\
  Turns (iY a X ps pc sm sz OJ v ats) (iY a { X with used:=X.used+m } (j7 ps pc p v' ⟨b,n,m,cv,N8,0⟩) (cy (ps.map aR) pc p) sm sz OJ v ats) w w')
def Kb(F1:HF)(Qx:Int->Option Nat)(ats:List Int)(n m tb:Nat)(p:Bs)(v:Value)(vb:Nat)(w:World)(sum i:Value)(W:World):Prop :=
 ∃(k:Nat) (cv:Value) (N8:List (Nat×Nat)) (J:HF),k<=ats.length/\i=.int .i64 k/\du Qx (ats.take k)=some N8/\sum=.int .i64 ((N8.map (·.2)).sum:Nat)/\bQ cv N8 /\
  Turns F1 ((vb,Is (dB ⟨vb,n,m,cv,N8,0⟩))::(aZ cv N8++((tb,Is (iM p n m v))::(F1++J)))) w W
theorem BG(a:Nat)(X:Om)(ps:List bf)(pc sm:Nat)(sz:List (OT Int))(OJ:Nat)(v:Value)(Qx:Int->Option Nat)(p:Bs)(n m:Nat)(ats:List Int)(w:World)(h:Sat w (iY a X ps pc sm sz OJ v ats))(Ph:RJ v ats)(hsz:OO OkI sz OJ)(hz:∀k,dH sz k=(Qx k).map (fun s=>.int .i64 (s:Nat)))(hs:∀a s,Qx a=some s->s<=65535)(hat:∀x∈ats,0<=x/\x<=4294967296)(hal:ats.length<=100000)(hok:OL ps pc)(hl:Py p)(hlen:(ah ps p).length<=100000)(hus : -2305843009213693952<=X.used/\X.used<=2305843009213693952)(hm:m<=4294967296):
  Calls prog 100 #[.pointer (some ⟨a,0,none⟩),uR (.ver p n m ats) v,.map (some sm)] w (Fp a X ps pc sm sz OJ v Qx p n m ats w):=by
 obtain⟨F1,hF1⟩:=Na (iY a X ps pc sm sz OJ v ats);have hsm:=h.Q7 (b:=sm) (o:=aU dw sz OJ) (by simp[iY])
 obtain⟨av,cap,hv,-,hcap,hcap2,hcell⟩:∃av cap,v=.slice av ats.length cap/\True/\ats.length<=cap/\cap<=9223372036854775807/\ak w av (ats.map dw):=by
  obtain⟨a',c',e1,-,h3,h4,h5⟩:=aP (aW (h.sub (G:=ck v ats) (fun x=>by simp only[iY,ao,af];omega)) Ph);exact⟨a',c',e1,trivial,h3,by have:=cT (h.sub (G:=ck v ats) (fun x=>by simp only[iY,ao,af];omega)) Ph;obtain⟨-,-,a2,c2,e2,-,h2⟩:=this;rw[e1]at e2;simp only[Value.slice.injEq]at e2;obtain⟨-,-,rfl⟩:=e2;exact h2,h4⟩
 have HH:=NZ (NK h (NK Ph (NK hsz (NK hz (NK hs (NK hat (NK hok (NK hl (NK hlen (NK hus (NK hF1 hv)))))))))));clear h Ph hsz hz hs hat hok hl hlen hcell;have hT0:Turns F1 F1 w w:=by rw[hF1];exact Turns.refl HH.a
 subst hv;unfold uR;obtain⟨tb,htb⟩:=Na w.heap.size;obtain⟨vb,hvb⟩:=Na (w.heap.size+1)
 have hT1:Turns F1 ((vb,Is (dB ⟨vb,n,m,.slice none 0 0,[],0⟩))::((tb,Is (iM p n m (.slice av ats.length cap)))::F1)) w ((w.alloc (iM p n m (.slice av ats.length cap))).alloc (dB ⟨vb,n,m,.slice none 0 0,[],0⟩)):=by
  have:=(hT0.Q9 (iM p n m (.slice av ats.length cap))).Q9 (dB ⟨vb,n,m,.slice none 0 0,[],0⟩);rw[World.size_alloc,<- htb]at this;rw[hvb,<- htb];exact this
 have HT1:=NZ hT1;have HB:=Oz htb hvb hF1;clear hT0 hT1 hF1 hsm htb hvb;go_enter func100,ntmps100;have hta:=FA #[.int .u8 2,str p,.int .i64 n,.int .i64 m,.slice av ats.length cap] w;go_wp2_with fail;rw[<- HB.b,<- HB.a];clear hta;go_loopw [9,32] (fun sum i wr=>Kb F1 Qx ats n m tb p (.slice av ats.length cap) vb w sum i wr) (fun _ i _=>ats.length-(intOf i).toNat)
 case atStart=>exact⟨0,.slice none 0 0,[],[],Nat.zero_le _,rfl,rfl,rfl,⟨rfl,fun _=>⟨rfl,rfl⟩⟩,by rw[append_nil];exact HT1.o⟩
 case round =>
  obtain⟨k,cv,N8,J,hk,rfl,hch,rfl,hpo,hT⟩:=hrel;obtain⟨YK,Tq⟩:=Na ((N8.map (·.2)).sum);have hsl:YK<=65535*k:=by have:=wQ HH.e hch;rw[NS]at this;rw[Tq];omega
  have hcl:N8.length=k:=by rw[nL hch,NS];omega
  rw[<- Tq];have htb:=hT.sat.Q7 (b:=tb) (o:=iM p n m (.slice av ats.length cap)) Nh;have t2:wr.cell? ⟨tb,3,none⟩=some (.int .i64 m):=aa htb 3 rfl;have htl:=ae htb;by_cases hlt:k<ats.length
  ·have hrow:ak wr av (ats.map dw):=by
    have hs:=hT.sat.sub (G:=ck (.slice av ats.length cap) ats) (fun x=>by rw[HB.y];simp only[iY,ao,af];omega);obtain⟨a',c',e1,-,-,h4,-⟩:=aP (aW hs HH.b);simp only[Value.slice.injEq]at e1;obtain⟨rfl,-,-⟩:=e1;exact h4
   obtain⟨g,off,hg,hcell⟩:=hrow Np;subst hg;have hc1:=hcell k (by rw[NP];exact hlt);rw[getElem_map]at hc1;obtain⟨x,hx⟩:=Na (ats[k]);rw[<- hx]at hc1;unfold dw at hc1;have hxr:=HH.f x (by rw[hx];exact getElem_mem hlt);have htk:ats.take (k+1)=ats.take k++[x]:=by rw[QH hlt,hx]
   have hsb:=hT.sat.Q7 (b:=sm) (o:=aU dw sz OJ) (by rw[HB.y];simp[iY]);have hget:=HH.d x;have hhas:=gO (l:=sz) (k:=x);have WA:=hT.sat.Q7 (b:=vb) (o:=dB ⟨vb,n,m,cv,N8,0⟩) Nh;have v2:wr.cell? ⟨vb,2,none⟩=some cv:=aa WA 2 rfl;have hvl:=ae WA;rw[hget]at hhas
   cases hzx:Qx x with
   | none =>
    rw[hzx]at hget hhas;have HR:=Ry hT hsb hget hhas htk hzx hxr;clear hT hsb hget hhas htk hzx hx hcell hrow hpo WA htb hxr;go_wp2_with ((refine ai rfl (iO Du (.tmp 37) (.tmp 38) rfl underlying212 HR.b HH.c (LH _) x rfl rfl ⟨by have:=HR.u;omega,by have:=HR.u;omega⟩ ?_);rw[HR.c,HR.d];simp only[Option.map_none,Option.getD_none,Option.isSome_none]));go_ret;refine (.inl ⟨fun c' hc'=>?_,rfl,?_⟩)
    ·have h1:du Qx (ats.take (k+1))=none:=by rw[HR.e,oY,HR.f];cases du Qx (ats.take k)<;>rfl
     have h2:=tZ (m:=ats.drop (k+1)) h1;rw[take_append_drop]at h2;rw[h2]at hc';cases hc'
    ·rw[<- HB.y];exact HR.a.drop (fun x=>by simp only[ao,af];omega)
   | some s =>
    rw[hzx]at hget hhas;have hs6:=HH.e x s hzx;have O9:du Qx (ats.take (k+1))=some (N8++[(x.toNat,s)]):=by rw[htk,oY,hch,hzx]
    have hx2:(x.toNat:Int)=x:=Nb
    have VI:=hT.to (H:=aZ cv N8++((vb,Is (dB ⟨vb,n,m,cv,N8,0⟩))::((tb,Is (iM p n m (.slice (some ⟨g,off,none⟩) ats.length cap)))::(F1++J)))) ac;have HR:=WQ VI hsb hget hhas O9 hpo hxr Tq hx2;clear hT VI hsb hget hhas htk hzx hx hcell hrow hpo WA htb hxr O9 hch hx2 Tq
    go_wp2_with (first
     | (refine ai rfl (iO Du (.tmp 37) (.tmp 38) rfl underlying212 HR.b HH.c (LH _) x rfl rfl ⟨by have:=HR.g;omega,by have:=HR.g;omega⟩ ?_);rw[HR.c,HR.d];simp only[Option.map_some,Option.getD_some,Option.isSome_some])
     | (at_builtin;refine ai rfl ?_;refine kT (.tmp 51) (.tmp 55) rfl _ N8 rfl (HR.a.alloc _) HR.f _ 1 1 rfl [(x.toNat,s)] rfl (fun _=>⟨_,rfl,fun j u hu=>ik _ _ _ j u (by simpa only[cZ,flatMap_cons,flatMap_nil,append_nil,rz,HR.q.o]using hu)⟩) Nj ?_;intro v5 w5 Pe Og;have hb5:=Og.sat.Q7 (b:=vb) (o:=dB ⟨vb,n,m,cv,N8,0⟩) Nh;have v5c:w5.cell? ⟨vb,2,none⟩=some cv:=aa hb5 2 rfl;have hv5l:=ae hb5;have h51:=cT Og.sat.left Pe;have H5:=Oz Pe Og h51;clear Pe Og hb5 h51)
     | (refine ai rfl (aX 150 (.tmp 58) (.tmp 56) rfl vb 2 (fA ⟨vb,n,m,cv,N8,0⟩) 152 v5 (H5.b.to (H:=(vb,Is (dB ⟨vb,n,m,cv,N8,0⟩))::(aZ v5 (N8++[(x.toNat,s)])++((tb,Is (iM p n m (.slice (some ⟨g,off,none⟩) ats.length cap)))::(F1++J)))) ac) rfl rfl (by simp[fA]) Nc H5.c H5.d ?_);intro w6 Ox;have RU:=NZ Ox;clear Ox;simp only[Act.put])
     | fail)
    go_roundw
    case rel =>
     refine⟨k+1,v5,N8++[(x.toNat,s)],J,Nb,by go_num,HR.e,?_,H5.a,?_⟩
     ·rw[NW,sum_append,<- HR.h];simp
     ·exact RU.o
    case measure=>simp[intOf];omega
  ·obtain rfl:k=ats.length:=Nb
   rw[take_length]at hch;by_cases hse:YK=m
   ·have VI:=hT.to (H:=(tb,Is (iM p n m (.slice av ats.length cap)))::((a,Is (aL X))::((aG X.pm ps pc++bN ⟨vb,n,m,cv,N8,0⟩)++((sm,Is (aU dw sz OJ))::(ck (.slice av ats.length cap) ats++J))))) (by rw[HB.y];unfold iY bN;exact ac);have HR:=OW VI hch hpo Tq;clear hT VI hch hpo Tq htb;subst hse;go_upto_region 17 with(fail);refine cH [([0,1,2,3,4,5,6],7,[])] [] HM.o Nc fun W tW=>?_
    simp only[Mix,map_cons,map_nil,nth,QG,QF];have k0:=tW (HR.a.to (H:=((a,Is (aL X))::(aG X.pm ps pc++bN ⟨vb,n,YK,cv,N8,0⟩))++((tb,Is (iM p n YK (.slice av ats.length cap)))::((sm,Is (aU dw sz OJ))::(ck (.slice av ats.length cap) ats++J)))) ac);clear tW;have g0:W.cell? ⟨tb,1,none⟩=some (str p):=aa (k0.sat.Q7 (b:=tb) (o:=iM p n YK (.slice av ats.length cap)) Nh) 1 rfl;repeat still_step
    refine wpStill_nil (aO Nc (qW a X.pm X.tm X.cm pc X.sc X.sb X.used ps p ⟨vb,n,YK,cv,N8,0⟩ (bm X) 128 W k0.sat.left ⟨rfl,rfl,rfl,rfl,rfl,rfl⟩ HH.g HH.h HH.q.a (by have:=HH.q.b;simp only;omega) (by simp only;omega)) ?_);rintro e w7 ⟨v7,rfl,hv7,Oa⟩;have OH:=k0.step (Perm.refl _) Oa;rw[Fx]at OH;refine⟨_,rfl,rfl,?_⟩;simp only[Act.put,QA,QB,QC];refine wpStill_nil ?_;have H7:=Ob hv7 OH;clear k0 g0 hv7 Oa OH;go_wp2_with fail;go_ret;refine (.inr ⟨N8,vb,cv,v7,HR.b,HR.x.symm,rfl,HR.c,H7.a,?_⟩);rw[<- HB.y];exact H7.z.drop (fun x=>by unfold iY aL;simp only[ao,af];omega)
   ·have HR:=Oz hT hch Tq;have hse2:¬((YK:Int)=(m:Int)):=Nb
    clear hT hch hpo Tq htb;go_wp2_with fail;go_ret;refine (.inl ⟨fun c' hc'=>?_,rfl,?_⟩)
    ·rw[HR.b]at hc';obtain rfl:=Option.some.inj hc';rw[<- HR.y];exact hse
    ·rw[<- HB.y];exact HR.a.drop (fun x=>by simp only[ao,af];omega)
def Cw(S:AS)(l D:Bs)(b num:Nat)(B6 B7:Nat)(F:HF)(B w':World)(n:Int)(ev:Value):Prop :=
 (∃sp N8 J,n=0/\ev=cr 8/\Ov { S.A with spare:=sp }/\Turns F ((B6,Is (cB 0))::(B7,Is (eU (cr 8)))::(N9 { S with A:={ S.A with spare:=sp } }++J)) B w' /\
  128*S.A.count<S.data.length+(dc (bJ S D)).length+(frame 2 (eC l num D.length (bB N8))).length/\N8.length=(aD D).length) \/
 (∃S' V J,n=num/\ev=.nilIface/\PW S S' l D V/\Oo S'/\Cv S D b S'/\Turns F ((B6,Is (cB num))::(B7,Is (eU (.nilIface)))::(N9 S'++J)) B w')
theorem EU{w:World}{b e n:Nat}{v:Value}{xs:List Value}{a:Option Addr}{cap:Nat}(h:w.ownsRow b e 1 v n xs)(hv:v=.slice a n cap):cap<=9223372036854775807:=by
 obtain⟨a',c',h1,_,_,h2,_⟩:=pw h;rw[hv]at h1;simp only[Value.slice.injEq]at h1;omega
def Mz:Value->Nat
 | .int _ a=>a.toNat
 | _=>0
def Lv(i:Nat):Value->Value
 | .agg c=>c.getD i undef
 | _=>undef
def C9(e:OT Bs):Bs×Nat×Nat:=(e.key,Mz (Lv 0 e.val),Mz (Lv 1 e.val))
theorem ui:∀(l:List Bs) (at_ b:Nat),(bE at_ b l).map C9=bW at_ l
 | [],_,_=>rfl
 | c::r,at_,b=>by
  simp only[bE,bW,map_cons,ui r]
  congr 1
def XK(X:Om)(done:List (OT Bs)):Om:={ X with sc:=X.sc+done.length,sb:=X.sb+(done.map (fun e=>e.key.length)).sum }
def Es(S:AS)(S1:HF)(acc:List Bs)(F Z:HF)(B:World)(Bm r:Nat)(w:World):Prop :=
 ∃(done todo:List (OT Bs)) (cs:List kx) (cc:Nat) (J:HF),(done++todo).Perm (bE S.data.length 0 acc)/\O7 cs cc /\
  (∀k,(bd cs k).Perm (((S.K++done.map C9).filter (fun e=>decide (ed e.1=k))).map (·.2))) /\
  Turns F ((r,Is (dI Bm acc.length done))::(Bm,Is (aU str (bE S.data.length 0 acc) acc.length))::(S.a,Is (aL (XK S.X done)))::(aQ S.X.cm cs cc++(S1++(J++Z)))) B w
def mW(r n:Nat)(w:World):Nat:=match w.heap[r]? with
 | some (.mapIter _ _ seen _)=>n-seen.size
 | _=>0
theorem Kf(X:Om)(done:List (OT Bs))(e:OT Bs):(.cells (((bm (XK X done)).setIfInBounds 3 (.int .i64 ((XK X done).sc+1))).setIfInBounds 4 (.int .i64 ((XK X done).sb+e.key.length))) 128 (0,0):Obj)=aL (XK X (done++[e])):=by
 have h1:X.sc+(done.length:Int)+1=X.sc+((done++[e]).length:Nat):=Nj
 have h2:X.sb+((done.map (fun e=>e.key.length)).sum:Nat)+(e.key.length:Int)=X.sb+(((done++[e]).map (fun e=>e.key.length)).sum:Nat):=Nj
 unfold aL;congr 1;simp only[bm,XK];rw[h1,h2];rfl
theorem LQ(X:Om){done fE:List (OT Bs)}{acc:List Bs}{at_:Nat}(size n:Nat)(hs:size=n)(h:done.Perm fE)(hf:fE=bE at_ 0 acc):(.cells ((bm (XK X done)).setIfInBounds 5 (.int .i64 ((XK X done).used+size))) 128 (0,0):Obj)=aL { X with sc:=X.sc+acc.length,sb:=X.sb+(acc.map length).sum,used:=X.used+n }:=by
 have h1:done.length=acc.length:=by rw[h.length_eq,hf,pj]
 have h2:(done.map (fun e=>e.key.length)).sum=(acc.map length).sum:=by
  rw[((h.map (fun e=>e.key.length)).sum_nat),hf];conv=>rhs;rw[<- ge acc at_ 0,map_map]
  rfl
 subst hs;unfold aL;congr 1;simp only[bm,XK];rw[h1,h2];rfl
theorem p9{cs:List kx}{cc:Nat}(h:O7 cs cc){k:Bs}(hk:Zb k){v:Value}{g:List (Nat×Nat)}(hv:bQ v g):O7 (eS cs cc k v g) (cy (cs.map aR) cc k) where
 map:=by rw[iI];exact h.map.put hk v
 rows:=fun p hp=>by
  rcases iJ hp with⟨h1,_⟩|⟨_,h2,h3⟩
  ·exact h.rows p h1
  ·rw[h2,h3];exact hv
theorem IM{done todo fE:List (OT Bs)}{acc:List Bs}{at_ m:Nat}(h:(done++todo).Perm fE)(hf:fE=bE at_ 0 acc)(hm:(acc.map length).sum<=m):(done.map (fun e=>e.key.length)).sum<=m:=by
 have h1:=((h.map (fun e=>e.key.length)).sum_nat)
 have h2:fE.map (fun e=>e.key.length)=acc.map length:=by
  rw[hf];conv=>rhs;rw[<- ge acc at_ 0,map_map]
  rfl
 rw[h2,NW,sum_append]at h1;omega
theorem AY{cs:List kx}{cc:Nat}{T:List (Bs×Nat×Nat)}(h:∀k,(bd cs k).Perm ((T.filter (fun e=>decide (ed e.1=k))).map (·.2)))(c:Bs)(q:Nat×Nat)(v:Value):
  ∀k,(bd (eS cs cc (ed c) v (bd cs (ed c)++[q])) k).Perm (((T++[(c,q)]).filter (fun e=>decide (ed e.1=k))).map (·.2)):=by
 intro k;rw[filter_append,NW];have e1:bd (eS cs cc (ed c) v (bd cs (ed c)++[q])) k=if k=ed c then bd cs (ed c)++[q]else bd cs k:=ql [] cs cc (ed c) k v _
 rw[e1];by_cases hk:k=ed c
 ·subst hk;simp only[if_true,filter_cons,decide_true,filter_nil,map_cons,map_nil];exact(h _).append_right _
 ·have hk2:¬ed c=k:=fun e=>hk e.symm
  simp only[hk,if_false,filter_cons,hk2,decide_false,Bool.false_eq_true,filter_nil,map_nil,append_nil];exact h k
theorem Ns{p:Prop}(h:p:=by unfold N9;exact ac):p:=h
theorem DQ(S:AS)(hok:Oo S)(b:Nat)(hB:QU S b)(hb:b<=90000)(l D:Bs)(_:az l=true)(hll:l.length<=20)(hDl:D.length<=4000)(B3 B6 B7 B9 B11 PU PZ Bm Bv num:Nat)(hnum:num=eM (ah S.ps l)+1)(F:HF)(B:World)(hJ:Hw S D B9 B11 PU PZ Bm Bv num ((B3,Is (dt S.a))::[(B6,Is (cB 0)),(B7,Is (eU .nilIface))]) (aI D).length F)(hF:Sat B F){u0 u2 u4 u5 u8 aS aT ad ag aj al ar ax a0 a1 a2 a3 a4 a5 a6 a7 a8 a9 bY bg bj bk bl bn bo bs bv bx b0 b1 b2 b4 b6 b7 ca cb cg ch ci cj cl cp ct cu cx c0 c1 c2 c3 c4 c5 c8 dO dT dd df dn dp dv d0 d1 d2 d3 d4 d5 d6 d7 d8 eA eQ eX ea eg el em en ep es ey e3 e4 e5 e7 e9 fl fn fr fs fz f0 f1 f2 f3 f4 f5 f8 f9 gD gb gg gh gp gs gu gv gx g1 g2 g3 g4 g5 g6 g7 hA hC hD hE hG hH hI hK hL hM hN hO hP hR hS hU hW hX ha hf hg hh hi hj hk hl hm ho hu hw hy h5 h6 h7 h8 h9 iF iN iS id ih ii i0 i1 i2 i3 j1 j2 j3 j4 kM kU:Value}{ds:List Deferred}{Q:Exit->Act->World->Prop}(hQ:∀(tmps:Array Value) (w':World) (n:Int) (ev:Value),tmps.getD 6 undef=.pointer (some ⟨B6,0,none⟩)->tmps.getD 7 undef=.pointer (some ⟨B7,0,none⟩)->Cw S l D b num B6 B7 F B w' n ev->Q .ret { tmps:=tmps,defers:=ds } w'):
  KY.wp prog Q { tmps:=#[u0,str l,u2,.pointer (some ⟨B3,0,none⟩),u4,u5,.pointer (some ⟨B6,0,none⟩),.pointer (some ⟨B7,0,none⟩),u8,.pointer (some ⟨B9,0,none⟩),aS,.pointer (some ⟨B11,0,none⟩),.pointer (some ⟨PU,0,none⟩),aT,ad,ag,aj,al,ar,ax,a0,a1,a2,a3,a4,a5,a6,a7,a8,a9,bY,bg,bj,bk,bl,bn,bo,bs,bv,bx,b0,b1,b2,b4,b6,b7,ca,cb,cg,ch,ci,cj,cl,cp,ct,cu,cx,c0,c1,c2,c3,c4,c5,c8,dO,dT,dd,df,dn,dp,dv,d0,d1,d2,d3,d4,d5,d6,d7,d8,eA,eQ,eX,ea,eg,el,em,en,ep,es,ey,e3,e4,e5,e7,e9,fl,fn,fr,fs,fz,f0,f1,f2,f3,f4,f5,f8,f9,gD,gb,gg,gh,gp,gs,gu,gv,gx,g1,g2,g3,g4,g5,g6,g7,hA,hC,hD,hE,hG,hH,hI,hK,hL,hM,hN,hO,hP,hR,hS,hU,hW,hX,ha,hf,hg,hh,hi,hj,hk,hl,hm,ho,hu,hw,hy,h5,h6,h7,h8,h9,iF,iN,iS,id,ih,ii,i0,i1,i2,i3,j1,j2,j3,j4,kM,kU],defers:=ds } B:=by
 obtain⟨sp,acc,fv,rv,N8,recs,hacc,hAo,hrb,hro,hpo,hcl,hin,VQ⟩:=hJ;have Tc:acc=bJ S D:=by rw[hacc,<- b8,take_length];rfl
 rw[<- b8,take_length]at hin;obtain⟨V,hV⟩:=Na (⟨Bv,num,D.length,fv,N8,0⟩:Oe);have TT:N8.length<=4000:=by have:=cR D;omega
 obtain⟨Y,hY⟩:=Na ((B3,Is (dt S.a))::(B6,Is (cB 0))::(B7,Is (eU .nilIface))::(S.a,Is (aL S.X))::(aq S.X.ab S.X.d { S.A with spare:=sp }++(aA S.X.d S.L++(aG S.X.pm S.ps S.pc++(bX S.X.tm S.ts S.tc++aQ S.X.cm S.cs S.cc)))));obtain⟨Z,hZ⟩:=Na ((PZ,Is (cB ((S.data.length+bp acc:Nat):Int)))::(PU,Is (ec Bm))::(Bm,Is (aU str (bE S.data.length 0 acc) acc.length))::((recs.flatMap fun r=>aJ r.val r.bytes)++Y))
 have hT:Turns F (bH 38 1 rv (recs.map (·.val)).length (recs.map (·.val))++((B11,Is (c9 rv))::(B9,Is (db V.blk))::(bN V++Z))) B B:=by
  refine(Turns.refl hF).to ?_;rw[VQ,hZ,hY,hV];unfold fo N9;exact ac
 have hrl:(recs.map (·.val)).length=acc.length:=by
  have:=congrArg length hrb;simpa using this
 have hal:=kf S D;rw[<- Tc]at hal
 have hKat:∀e∈S.K,e.2.1<=137438953472:=fun e he=>by
  have h1:=(hok.Pm e he).2.1;have h2:=hok.dat.2;have h3:=hok.fits;have h4:=hok.Px;omega
 have hln:=uz hB l;have hdl:=hok.dat.2;have hnn:=hok.Px;have hfit:=hok.fits
 have hat:∀n∈bB N8,I64 n:=fun n hn=>by
  obtain⟨q,hq,rfl⟩:=mem_map.1 hn;obtain⟨c,hc,hz⟩:=ll (l:=aD D) (by rw[hcl,b8]) q hq
  have hbig:q.1<=1099511627776:=by
   rcases mem_append.1 (hin _ hz)with h|h
   ·have:=hKat _ h;simp only at this;omega
   ·rw[Tc]at h;have h2:=rA [] (bJ S D) S.data (fun x hx=>by have:=dJ (po hx).1;omega) _ h;have h3:=h2.2.1;have h4:=i8 S D;rw[<- Tc]at h3 h4;simp only[append_nil,NM,gN,jI]at h3;omega
  unfold I64;omega
 have HH:=NZ (NK hok (NK hB (NK hF (NK Tc (NK hAo (NK hrb (NK hro (NK hpo (NK hcl (NK hin (NK VQ (NK hV (NK hY (NK hZ (NK hT (NK hrl (NK hat hQ)))))))))))))))));have HN:=Ry hnum hln hal hdl hnn hfit TT;clear hok hB hF hacc Tc hAo hrb hro hpo hcl hin VQ hV hY hZ hT hrl hat hQ hnum hln hal hdl hnn hfit hKat TT;conv=>arg 2;whnf
 go_wp2_with fail;obtain⟨rl,hrl⟩:=Na (recs.map (·.val));have k0:=HH.q.g;have hro:=HH.g.1;have hl9:rl.length<=1000000:=by rw[hrl];have:=HH.q.h;have:=HN.c;omega
 rw[<- hrl]at k0 hro
 have hcv:bQ V.cv V.N8/\V.N8.length<=100000/\I64 V.num/\I64 V.size/\∀n∈bB V.N8,I64 n:=by
  rw[HH.q.d];have h1:=HN.a;have h2:=HN.b;have h3:=HN.u;refine⟨HH.h,by show N8.length<=_;omega,by show I64 (num:Int);unfold I64;omega,by show I64 (D.length:Int);unfold I64;omega,HH.o.2.2.2.2.2.2.2.2.2.2.2.2.2.2.2.2.1⟩
 have HP:=PD k0 hrl hro hl9 hcv;clear k0 hrl hro hl9 hcv;refine cH [([0,1,2],3,[0]),([4],5,[0]),([],6,[0]),([],7,[]),([],8,[])] [] HM.o Nc fun W tW=>?_
 simp only[Mix,map_cons,map_nil,nth,QG,QF];have k0:=tW HP.a;clear tW;have g:∀{W:World},W.heap[B11]?=some (c9 rv)->W.cell? ⟨B11,0,none⟩=some rv:=fun h=>aa h 0 rfl
 have g0:=g (k0.sat.Q7 Nh);have g9:W.cell? ⟨B9,0,none⟩=some (.pointer (some ⟨V.blk,0,none⟩)):=aa (k0.sat.Q7 (b:=B9) (o:=db V.blk) Nh) 0 rfl;repeat still_step
 refine wpStill_nil (aO Nc (jE l V W (k0.sat.sub bR) HP.e HP.f) ?_);rintro e w3 ⟨av,cv,rfl,hc,hs⟩;have k1:=k0.Q8 hs;refine⟨_,rfl,by(have g0:=g (k1.sat.Q7 Nh);(repeat still_step);exact rfl),?_⟩;refine cq rfl (v:=.iface 173 (.agg #[.int .u8 2,str l,.int .i64 V.num,.int .i64 V.size,.slice av (bB V.N8).length cv])) Nc (wpStill_nil ?_);refine aO Nc (nz 2 l V.num V.size av cv (bB V.N8) w3 hc Nb HP.g HP.h HP.q.o (by unfold bB;rw[NP];exact HP.f)) ?_;rintro e w4 ⟨vb,rfl,hb1,Oa⟩;have k2:=Turns.Qb k1 Oa;refine⟨_,rfl,by(have g0:=g (k2.sat.Q7 Nh);(repeat still_step);exact rfl),?_⟩;simp only[Act.put,QA,QB,QC];refine wpStill_nil ?_;have o1:=(nK hb1 k2.sat.left).1;refine je (xA vb) (fun n=>.slice (some ⟨n,0,none⟩) 1 1) (by obtain⟨-,-,av2,SQ,hv⟩:=nK hb1 k2.sat.left;rw[hv];kernel_rfl) k2 fun n W2 k3=>⟨by(have g0:=g (k3.sat.Q7 Nh);(repeat still_step);exact rfl),?_⟩
 simp only[Act.put,QA,QB,QC];refine wpStill_nil ?_;refine mu (.tmp 139) (.tmp 145) rfl rv rl rfl (k3.to (H:=bH 38 1 rv rl.length rl++((n,Is (xA vb))::(aJ vb (frame 2 (eC l V.num V.size (bB V.N8)))++((B11,Is (c9 rv))::(B9,Is (db V.blk))::(bN V++Z))))) ac) HP.c n vb rfl o1 (aa k3.sat.Q5 0 rfl) HP.d fun TG W3 hr1 k4=>⟨rfl,?_⟩
 simp only[Act.put,QA,QB,QC];refine wpStill_nil ?_;have p1:=E0 k4.sat.left hr1;refine aX 61 (.tmp 11) (.tmp 146) rfl B11 0 #[rv] 61 TG (k4.to (H:=(B11,Is (c9 rv))::(bH 38 1 TG (rl++[vb]).length (rl++[vb])++((n,Is (xA vb))::(aJ vb (frame 2 (eC l V.num V.size (bB V.N8)))++((B9,Is (db V.blk))::(bN V++Z)))))) ac) rfl rfl Nh Nc p1.1 p1.2 fun w1 k5=>⟨rfl,?_⟩
 simp only[Act.put];refine wpStill_nil ?_;have hT1:Turns F ((B11,Is (c9 TG))::(bH 38 1 TG (rl++[vb]).length (rl++[vb])++(aJ vb (frame 2 (eC l V.num V.size (bB V.N8)))++((B9,Is (db V.blk))::(bN V++Z))))) B w1:=(show Turns F ((B11,Is (c9 TG))::_) B w1 from k5).drop bR;rw[HP.b]at hr1 hT1;clear HP k0 g g0 g9 hc hs k1 Oa k2 o1 k3 k4 p1 k5;obtain⟨Oy,SE⟩:=Na (recs++[⟨vb,frame 2 (eC l V.num V.size (bB V.N8))⟩]:List Ux);have hrm:recs.map (·.val)++[vb]=Oy.map (·.val):=by rw[SE,NW];rfl
 rw[hrm]at hr1 hT1
 have Yn:∀r∈Oy,PE r.val r.bytes:=fun r hr=>by
  rw[SE]at hr;rcases mem_append.1 hr with h|h
  ·exact HH.g.2 r h
  ·simp only[NU]at h;subst h;exact hb1
 obtain⟨sl2,cap2,rfl,-,-,hrc,hrow⟩:=aP (aW hT1.sat.tail.left hr1);obtain⟨RB,hRB⟩:=Na (Oy.flatMap fun r=>aJ r.val r.bytes)
 obtain⟨G1,hG1⟩:=Na ((B9,Is (db V.blk))::(bN V++((PZ,Is (cB ((S.data.length+bp acc:Nat):Int)))::(PU,Is (ec Bm))::(Bm,Is (aU str (bE S.data.length 0 acc) acc.length))::(B3,Is (dt S.a))::(B6,Is (cB 0))::(B7,Is (eU .nilIface))::(aG S.X.pm S.ps S.pc++(bX S.X.tm S.ts S.tc++aQ S.X.cm S.cs S.cc)))))
 have hT2:Turns F (((S.a,Is (aL S.X))::(aq S.X.ab S.X.d { S.A with spare:=sp }++aA S.X.d S.L))++((B11,Is (c9 (.slice sl2 (Oy.map (·.val)).length cap2)))::(bH 38 1 (.slice sl2 (Oy.map (·.val)).length cap2) (Oy.map (·.val)).length (Oy.map (·.val))++(RB++G1)))) B w1:=by
  refine hT1.to ?_;rw[HH.q.f,HH.q.e,hRB,hG1,SE];simp only[flatMap_append,flatMap_cons,flatMap_nil,append_nil];exact ac
 obtain⟨rs,hrs⟩:=Na (Oy.map (·.bytes));have Wx:(Oy.map (·.val)).length=rs.length:=by rw[hrs,NP,NP]
 have Vk:rs.flatten=dc (bJ S D)++frame 2 (eC l V.num V.size (bB V.N8)):=by
  rw[hrs,SE,NW,HH.f,<- HH.d];simp[dc]
 have Yo:RB=Oy.flatMap fun r=>aJ r.val r.bytes:=hRB
 have hsum:fM rs<=200000:=by
  rw[<- kR,Vk,NM,gN,jI,fg];have h1:=i8 S D;have h2:=kf S D;have h3:=HN.u;have h4:V.N8.length=N8.length:=by rw[HH.q.d]
  omega
 have hlen5:rs.length<=5000:=by
  rw[<- Wx,<- hrm,NM];have:=HH.q.h;have:=HN.c;simp at *;omega
 have HCh:=NZ (pY S.a S.X S.X.ab S.X.d rfl { S.A with spare:=sp } S.L S.data rs (Oy.map (·.val)) sl2 cap2 w1 hT2.sat.left HH.a.sound HH.a.dev HH.a.fits HH.a.Px HH.a.end_ HH.a.tail HH.a.dat Wx Nb Nb (by have:=HH.b.N8;omega)
  hrc (fun x hx=>?hx1) (fun k h1 h2=>?hx2))
 case hx1 =>
  have hb:=hrow x hx;have hin:x.block∈dom (bH 38 1 (.slice sl2 (Oy.map (·.val)).length cap2) (Oy.map (·.val)).length (Oy.map (·.val))):=(eL _ _ _ _ _ _).2 hb;intro hd;exact hT2.sat.Qh (b:=x.block) (by rw[gL];exact mem_cons_of_mem _ hd) (by rw[gL,cM];exact mem_cons_of_mem _ (mem_append_left _ hin))
 case hx2 =>
  have hk2:k<Oy.length:=by simpa using h1
  have hmem:Oy[k]∈Oy:=getElem_mem hk2;have hsub:Sat w1 (aJ Oy[k].val Oy[k].bytes):=Sat.flat (f:=fun r:Ux=>aJ r.val r.bytes) (by rw[<- Yo];exact hT2.sat.right.tail.right.left) hmem;obtain⟨ka,kc,ke,-,YB,Uf,YC⟩:=aP (dh hsub (Yn _ hmem));have e2:rs[k]=Oy[k].bytes:=by simp[hrs]
  refine⟨ka,kc,?_,by rw[e2];exact YB,EU (dh hsub (Yn _ hmem)) ke,?_,fun x hx=>?_⟩
  ·rw[getElem_map,ke,e2]
  ·rw[e2];exact Uf
  ·have hin:x.block∈dom (aJ Oy[k].val Oy[k].bytes):=(eL _ _ _ _ _ _).2 (YC x hx)
   have hin2:x.block∈dom RB:=by
    obtain⟨p,hp,hpe⟩:=mem_map.1 hin;rw[Yo];exact mem_map.2 ⟨p,mem_flatMap.2 ⟨_,hmem,hp⟩,hpe⟩
   exact⟨fun hd=>hT2.sat.Qh (b:=x.block) (by rw[gL];exact mem_cons_of_mem _ hd) (by simp only[gL,cM];exact mem_cons_of_mem _ (mem_append_right _ (mem_append_left _ hin2))),hsub.lt hin⟩
 have HR1:=RV hT2 hrs Vk hsum hG1 Wx;have b3:w1.cell? ⟨B3,0,none⟩=some (.pointer (some ⟨S.a,0,none⟩)):=aa (hT2.sat.Q7 (b:=B3) (o:=dt S.a) (by rw[hG1];simp)) 0 rfl;have b11:w1.cell? ⟨B11,0,none⟩=some (.slice sl2 (Oy.map (·.val)).length cap2):=aa (hT2.sat.Q7 (b:=B11) (o:=c9 (.slice sl2 (Oy.map (·.val)).length cap2)) Nh) 0 rfl;rw[Wx]at b11;clear hb1 hr1 hT1 hrc hrow hRB hG1 hT2 hrs Vk Yo Yn hrm;go_wp2_with fail;refine HCh.o.mono ?_;rintro e w2 (⟨hfull,rfl,hs2⟩|⟨hfit,rfl,hch⟩)
 ·have HR2:=Ob hfull (HR1.a.Q8 hs2);have hb6:=HR2.z.sat.Q7 (b:=B6) (o:=cB 0) (by rw[HR1.e];simp);have hb7:=HR2.z.sat.Q7 (b:=B7) (o:=eU .nilIface) (by rw[HR1.e];simp);have c6:w2.cell? ⟨B6,0,none⟩=some (.int .i64 0):=aa hb6 0 rfl;have c7:w2.cell? ⟨B7,0,none⟩=some .nilIface:=aa hb7 0 rfl;have f6:=aY hb6 0;have f7:=aY hb7 0;have hnd:(dom [(B6,Is (cB 0)),(B7,Is (eU .nilIface))]).Nodup:=(HR2.z.sat.sub (G:=[(B6,Is (cB 0)),(B7,Is (eU .nilIface))]) (by rw[HR1.e];exact(fun _=>by simp only[ao,af,cW]<;>omega))).nodup;have h67:¬B6=B7:=by simpa using hnd
  have h76:¬B7=B6:=fun h=>h67 h.symm
  clear hfull hs2 hb6 hb7 hnd;unfold cr;go_wp2_with fail;refine HH.o.2.2.2.2.2.2.2.2.2.2.2.2.2.2.2.2.2 _ _ 0 (cr 8) rfl rfl (.inl ⟨sp,N8,((B11,Is (c9 (.slice sl2 (Oy.map (·.val)).length cap2)))::(bH 38 1 (.slice sl2 (Oy.map (·.val)).length cap2) (Oy.map (·.val)).length (Oy.map (·.val))++(RB++((B9,Is (db V.blk))::(bN V++[(PZ,Is (cB ((S.data.length+bp acc:Nat):Int))),(PU,Is (ec Bm)),(Bm,Is (aU str (bE S.data.length 0 acc) acc.length)),(B3,Is (dt S.a))]))))),rfl,rfl,HH.e,?_,?_,by rw[b8];exact HH.q.a⟩)
  ·have hq:=HR2.z;rw[HR1.e]at hq;have q1:=hq.to (H:=(B6,Is (cB 0))::(B7,Is (eU .nilIface))::(N9 { S with A:={ S.A with spare:=sp } }++((B11,Is (c9 (.slice sl2 (Oy.map (·.val)).length cap2)))::(bH 38 1 (.slice sl2 (Oy.map (·.val)).length cap2) (Oy.map (·.val)).length (Oy.map (·.val))++(RB++((B9,Is (db V.blk))::(bN V++[(PZ,Is (cB ((S.data.length+bp acc:Nat):Int))),(PU,Is (ec Bm)),(Bm,Is (aU str (bE S.data.length 0 acc) acc.length)),(B3,Is (dt S.a))]))))))) Ns;have q2:=q1.Qa (o:=cB 0) ((N7.refl (fun k=>k=B6) w2).set1 (i:=0) (.int .i64 0)) (bq q1.sat.Q5 0 (.int .i64 0));have q3:=q2.to (H:=(B7,Is (eU .nilIface))::(B6,Is (cB 0))::_) (Perm.swap _ _ _);have q4:=q3.Qa (o:=eU (cr 8)) ((N7.refl (fun k=>k=B7) _).set1 (i:=0) (cr 8)) (bq q3.sat.Q5 0 (cr 8));exact q4.to (Perm.swap _ _ _)
  ·have h1:=HR2.a;rw[<- kR,HR1.c,NM,HH.q.d]at h1;have h2:=fg l num D.length N8;have h3:=fg l (num:Int) ((⟨Bv,num,D.length,fv,N8,0⟩:Oe).size) N8;simp only at h1 h2 h3 ⊢;omega
 ·obtain⟨L',hTc,hDv,hLn,hdat,hoth,hlc⟩:=hch;obtain⟨S1,hS1⟩:=Na (aq S.X.ab S.X.d { S.A with spare:=sp,end_:=(S.data++rs.flatten).length,tail:=bK (S.data++rs.flatten) }++(aA S.X.d L'++(aG S.X.pm S.ps S.pc++bX S.X.tm S.ts S.tc)));obtain⟨Z0,hZ0⟩:=Na ((B3,Is (dt S.a))::(B6,Is (cB 0))::(B7,Is (eU .nilIface))::(B9,Is (db V.blk))::(PU,Is (ec Bm))::bN V)
  have Oa:Turns F ((Bm,Is (aU str (bE S.data.length 0 acc) acc.length))::(S.a,Is (aL S.X))::(aQ S.X.cm S.cs S.cc++(S1++(((B11,Is (c9 (.slice sl2 (Oy.map (·.val)).length cap2)))::(bH 38 1 (.slice sl2 (Oy.map (·.val)).length cap2) (Oy.map (·.val)).length (Oy.map (·.val))++(RB++[(PZ,Is (cB ((S.data.length+bp acc:Nat):Int)))])))++Z0)))) B w2:=by
   have q:=HR1.a.step (R:=(S.a,Is (aL S.X))::((B11,Is (c9 (.slice sl2 (Oy.map (·.val)).length cap2)))::(bH 38 1 (.slice sl2 (Oy.map (·.val)).length cap2) (Oy.map (·.val)).length (Oy.map (·.val))++(RB++G1)))) ac hTc;refine q.to ?_;rw[HR1.e,hS1,hZ0];exact ac
  have hmk:OO Py (bE S.data.length 0 acc) acc.length:=by
   rw[HH.d];exact xd (jm _ _ _ nodup_nil) (fun c hc=>by have:=dJ (po hc).1;unfold Py;omega) _
  obtain⟨fE,Vj⟩:=Na (bE S.data.length 0 acc);rw[<- Vj]at hmk Oa;have hbm:=Oa.sat.Q5;have b12:w2.cell? ⟨PU,0,none⟩=some (.map (some Bm)):=aa (Oa.sat.Q7 (b:=PU) (o:=ec Bm) (by rw[hZ0];simp)) 0 rfl;obtain⟨r,hr⟩:=Na w2.heap.size
  have Tn:Es S S1 acc F Z0 B Bm r (w2.alloc (dI Bm acc.length ([]:List (OT Bs)))):=by
   refine⟨[],fE,S.cs,S.cc,((B11,Is (c9 (.slice sl2 (Oy.map (·.val)).length cap2)))::(bH 38 1 (.slice sl2 (Oy.map (·.val)).length cap2) (Oy.map (·.val)).length (Oy.map (·.val))++(RB++[(PZ,Is (cB ((S.data.length+bp acc:Nat):Int)))]))),by rw[Vj];exact Perm.refl _,HH.a.chunks,fun k=>by simpa using HH.a.kin k,?_⟩;rw[<- Vj];have hx:aL (XK S.X [])=aL S.X:=by simp[XK]
   rw[hx,hr];exact(Oa.Q9 _).to ac
  have HR3:=NZ (NK hDv (NK hLn (NK hdat (NK hoth (NK hlc (NK hS1 (NK hZ0 (NK hmk (NK Vj (NK hr (NK Tn hbm)))))))))));clear hfit hTc hDv hLn hdat hoth hlc hS1 hZ0 Oa hmk Vj hbm Tn hr;go_wp2_with ((refine ai rfl (E9 (.tmp 153) rfl underlying154 HR3.q.x rfl ?_);rw[<- HR3.q.b]));go_frame;go_loopw [155] (fun _ wr=>Es S S1 acc F Z0 B Bm r wr) (fun _ wr=>mW r acc.length wr)
  case atStart=>exact HR3.q.c
  case round =>
   obtain⟨done,todo,cs,cc,J,hperm,Ul,UH,hTr⟩:=hrel;rw[<- HR3.q.a]at hperm hTr;have UK:=hTr.sat.Q5;have hrm:=hTr.sat.Q7 (b:=Bm) (o:=aU str fE acc.length) Nh;have hal2:acc.length<=4000:=by have:=HN.c;omega
   have hfl:fE.length=acc.length:=by rw[HR3.q.a,pj]
   have hdl:done.length+todo.length=acc.length:=by rw[<- hfl,<- hperm.length_eq,NM]
   rcases xI (P:=prog) (ty:=0) UK hrm HR3.h hperm with⟨ht,hnx⟩|⟨e,rest,w4,ht,hw4,hnx⟩
   ·have hte:done.Perm fE:=by rw[ht,append_nil]at hperm;exact hperm
    have HD:=RV hte Ul UH hTr hfl hdl;clear hte Ul UH hTr hfl hdl hperm UK hrm ht;go_wp2_with fail;have h:=HD.d;rw[HR3.g,HR3.f]at h;have h:=h.to (H:=((S.a,Is (aL (XK S.X done)))::(aG S.X.pm S.ps S.pc++bN V))++((B3,Is (dt S.a))::(B9,Is (db V.blk))::((r,Is (dI Bm acc.length done))::(Bm,Is (aU str fE acc.length))::(aQ S.X.cm cs cc++(J++((B6,Is (cB 0))::(B7,Is (eU .nilIface))::(PU,Is (ec Bm))::(aq S.X.ab S.X.d { S.A with spare:=sp,end_:=(S.data++rs.flatten).length,tail:=bK (S.data++rs.flatten) }++(aA S.X.d L'++bX S.X.tm S.ts S.tc)))))))) ac;have k3:=aa (h.sat.Q7 (b:=B3) (o:=dt S.a) Nh) 0 (v:=.pointer (some ⟨S.a,0,none⟩)) rfl;have k9:=aa (h.sat.Q7 (b:=B9) (o:=db V.blk) Nh) 0 (v:=.pointer (some ⟨V.blk,0,none⟩)) rfl
    have HA:=NZ (qW S.a (XK S.X done).pm (XK S.X done).tm (XK S.X done).cm S.pc (XK S.X done).sc (XK S.X done).sb (XK S.X done).used S.ps l V (bm (XK S.X done)) 128 wr.drew h.drew.sat.left ⟨rfl,rfl,rfl,rfl,rfl,rfl⟩ HH.a.paths Nr (by
     by_cases hn:ah S.ps l=[]
     ·rw[hn];simp
     ·obtain⟨p',hp',_,h2⟩:=ft hn;rw[<- h2];have:=(HH.b.vers p' hp').2.1;omega) (by
     have h1:=HH.b.used;rw[HH.q.d];simp only[XK];omega) (by
     rw[HH.q.d];simp only;omega))
    have H0:=NZ h;clear h;refine wp_region_still_tail 5 HM.o Nc ?_;simp only[QE,take_zero,QD,drop_zero];repeat still_step
    refine wpStill_nil ?_;change wpList _ _ _ _ _ wr.drew;go_wp2_with fail;refine HA.o.mono ?_;rintro e w6 ⟨v',rfl,hv',Ox⟩;have Ox:=H0.o.drew.step (Perm.refl _) Ox;clear k3 k9;have hps:Sat w6 (aG S.X.pm (j7 S.ps S.pc l v' V) (cy (S.ps.map aR) S.pc l)):=Ox.sat.left.tail;have UM:w6.heap[V.blk]?=some (dB V):=((hps.tail.perm (rx S.pc l v' V (by rw[<- cQ];exact HH.a.paths.map.nodup))).right.right).Q5
    have OH:Turns F ((B6,Is (cB 0))::(B7,Is (eU .nilIface))::((S.a,Is (.cells ((bm (XK S.X done)).setIfInBounds 5 (.int .i64 ((XK S.X done).used+V.size))) 128 (0,0)))::(aq S.X.ab S.X.d { S.A with spare:=sp,end_:=(S.data++rs.flatten).length,tail:=bK (S.data++rs.flatten) }++(aA S.X.d L'++(aG S.X.pm (j7 S.ps S.pc l v' V) (cy (S.ps.map aR) S.pc l)++(bX S.X.tm S.ts S.tc++aQ S.X.cm cs cc))))++((r,Is (dI Bm acc.length done))::(Bm,Is (aU str fE acc.length))::(J++((B3,Is (dt S.a))::(B9,Is (db V.blk))::(PU,Is (ec Bm))::[]))))) B w6:=by
     have e0:(XK S.X done).pm=S.X.pm:=rfl;rw[e0]at Ox;exact Ox.to ac
    have hb6:=OH.sat.Q5;have hb7:=OH.sat.tail.Q5;have hnd:=(OH.sat.sub (G:=[(B6,Is (cB 0)),(B7,Is (eU .nilIface))]) (fun _=>by simp only[ao,af,cW]<;>omega)).nodup;have h67:¬B6=B7:=by simpa using hnd
    have h76:¬B7=B6:=fun h=>h67 h.symm
    have c6:w6.cell? ⟨B6,0,none⟩=some (.int .i64 0):=aa hb6 0 rfl;have c7:w6.cell? ⟨B7,0,none⟩=some .nilIface:=aa hb7 0 rfl;have f6:=aY hb6 0;have f7:=aY hb7 0;have b9:w6.cell? ⟨B9,0,none⟩=some (.pointer (some ⟨V.blk,0,none⟩)):=aa (OH.sat.Q7 (b:=B9) (o:=db V.blk) Nh) 0 rfl;have bv0:w6.cell? ⟨V.blk,0,none⟩=some (.int .i64 V.num):=aa UM 0 rfl;have HG:=Ob OH hv';clear Ox hps UM OH hb6 hb7 hnd hv';go_wp2_with fail;have OX:=HG.a.Qa (o:=cB V.num) ((N7.refl (fun k=>k=B6) w6).set1 (i:=0) (.int .i64 V.num)) (bq HG.a.sat.Q5 0 (.int .i64 V.num));have O4:=OX.to (H:=(B7,Is (eU .nilIface))::(B6,Is (cB V.num))::_) (Perm.swap _ _ _);have OM:=O4.Qa (o:=eU .nilIface) ((N7.refl (fun k=>k=B7) _).set1 (i:=0) .nilIface) (bq O4.sat.Q5 0 .nilIface)
    have hfin:∃S',PW S S' l D V/\Oo S'/\Cv S D b S'/\N9 S'=((S.a,Is (.cells ((bm (XK S.X done)).setIfInBounds 5 (.int .i64 ((XK S.X done).used+V.size))) 128 (0,0)))::(aq S.X.ab S.X.d { S.A with spare:=sp,end_:=(S.data++rs.flatten).length,tail:=bK (S.data++rs.flatten) }++(aA S.X.d L'++(aG S.X.pm (j7 S.ps S.pc l v' V) (cy (S.ps.map aR) S.pc l)++(bX S.X.tm S.ts S.tc++aQ S.X.cm cs cc))))):=by
     have X5:=HH.q.d;have hfl:=HR1.c;have hap:S.data++rs.flatten=S.data++dc (bJ S D)++frame 2 (eC l V.num V.size (bB V.N8)):=by rw[hfl,NV]
     have hdk:(done.map C9).Perm (bW S.data.length (bJ S D)):=by
      have:=HD.a.map C9;rw[HR3.q.a,ui,HH.d]at this;exact this
     obtain⟨p1,p2,p3⟩:=Jz HH.a HH.b Nb hDl (V:=V) HH.e (by rw[X5];exact HN.a) (by rw[X5]) (by rw[X5]) (by rw[X5,b8];exact HH.q.a) (by rw[X5,<- HH.d];exact HH.q.b) (by rw[X5];exact HH.h)
      HR3.a HR3.b (by rw[<- hap];exact HR3.c) HR3.d (by rw[<- hfl];exact HR3.e) HD.b (fun k=>(HD.c k).trans (((hdk.append_left S.K).filter _).map _)) HG.z _ rfl
     refine⟨_,p1,p2,p3,?_⟩;unfold N9;simp only;rw[hap];have hx:=LQ S.X V.size D.length (by rw[X5]) HD.a (HR3.q.a.trans (by rw[HH.d]));rw[hx]
    obtain⟨S',p1,p2,p3,p4⟩:=hfin;refine HH.o.2.2.2.2.2.2.2.2.2.2.2.2.2.2.2.2.2 _ _ num .nilIface rfl rfl (.inr ⟨S',V,((r,Is (dI Bm acc.length done))::(Bm,Is (aU str fE acc.length))::(J++((B3,Is (dt S.a))::(B9,Is (db V.blk))::(PU,Is (ec Bm))::[]))),rfl,rfl,p1,p2,p3,?_⟩);have hnv:(V.num:Int)=num:=by rw[HH.q.d]
    rw[p4,<- hnv];exact OM.to (Perm.swap _ _ _)
   ·obtain⟨w5,hw5⟩:=Na (Go.ChangeMaps.setBlock w4 r (dI Bm acc.length (done++[e])));rw[<- hw5]at hnx
    have Og:Turns F ((r,Is (dI Bm acc.length (done++[e])))::(Bm,Is (aU str fE acc.length))::(S.a,Is (aL (XK S.X done)))::(aQ S.X.cm cs cc++(S1++(J++Z0)))) B w5:=by
     rw[hw5];rcases hw4 with rfl|rfl
     ·exact hTr.Qa (dq _ _ _) (ez UK)
     ·exact(hTr.drew).Qa (dq _ _ _) (ez (by exact UK))
    have heE:e∈fE:=hperm.mem_iff.1 (mem_append_right _ (ht.mem_iff.2 Nh));have Ua:=Og.sat.Q5;have Vz:=Og.sat.Q7 (b:=Bm) (o:=aU str fE acc.length) Nh;have hen:=uY (P:=prog) Ua Vz HR3.h heE;obtain⟨q,hq,hev⟩:=pn acc S.data.length 0 e (by rw[<- HR3.q.a];exact heE);obtain⟨c,hc⟩:=Na e.key;rw[hev,<- hc]at hnx hen;simp only[gi]at hnx hen;have b3':w5.cell? ⟨B3,0,none⟩=some (.pointer (some ⟨S.a,0,none⟩)):=aa (Og.sat.Q7 (b:=B3) (o:=dt S.a) (by rw[HR3.g];simp)) 0 rfl;have HD:=NZ (NK hperm (NK Ul (NK UH (NK Og (NK heE (NK hev (NK hc (NK hq (NK ht (NK hdl (NK UK Ua)))))))))));clear hperm Ul UH hTr hrm hw5 hw4 heE Ua Vz hev hc hq ht Og UK;go_wp2_with fail;obtain⟨Z6,hZ6⟩:=Na (((r,Is (dI Bm acc.length (done++[e])))::(Bm,Is (aU str fE acc.length))::(S1++(J++((B6,Is (cB 0))::(B7,Is (eU .nilIface))::(B9,Is (db V.blk))::(PU,Is (ec Bm))::bN V)))))
    have k0:Turns F (((S.a,Is (.cells (bm (XK S.X done)) 128 (0,0)))::aQ S.X.cm cs cc)++((B3,Is (dt S.a))::(w5.heap.size,Is (aE q))::Z6)) B (w5.alloc (.cells #[.int .i64 q.1,.int .i64 q.2] 161)):=by
     have h:=Turns.Q9 HD.d (aE q);rw[HR3.g]at h;rw[hZ6];show Turns F (((S.a,Is (aL (XK S.X done)))::aQ S.X.cm cs cc)++_) B _;exact h.to ac
    have HZ6:=Ob hZ6 k0;clear hZ6 k0;refine cH [([0,1,2,3,5],4,[0,1,2,5]),([],6,[])] [] HM.o Nc fun W tW=>?_
    simp only[Mix,map_cons,map_nil,nth,QG,QF];have k0:=tW HZ6.z;clear tW;have g:∀{W:World},W.heap[B3]?=some (dt S.a)->W.cell? ⟨B3,0,none⟩=some (.pointer (some ⟨S.a,0,none⟩)):=fun h=>aa h 0 rfl
    have gq:∀{W:World},W.heap[w5.heap.size]?=some (aE q)->W.rangeAt w5.heap.size 0 [.int .i64 q.1,.int .i64 q.2]:=fun h j v hv=>aa h (0+j) (by rw[Nat.zero_add,<- Array.getElem?_toList];exact hv)
    have g0:=g (k0.sat.Q7 Nh);repeat still_step
    refine iR 161 (.tmp 22) rfl rfl w5.heap.size 0 rfl [.int .i64 q.1,.int .i64 q.2] _ (gq (k0.sat.Q7 Nh)) underlying161 rfl Nc (wpStill_nil ?_);refine Ei (.tmp 163) rfl c rfl fun n cap w1 h1 h2 _=>⟨?_,?_⟩
    ·have k1:=k0.Q8 h1;have g0:=g (k1.sat.Q7 Nh);repeat still_step
     exact iR 161 (.tmp 22) rfl rfl w5.heap.size 0 rfl [.int .i64 q.1,.int .i64 q.2] _ (gq (k1.sat.Q7 Nh)) underlying161 rfl Nc rfl
    have k1:=k0.Q8 h1;simp only[Act.put,QA,QB,QC];refine wpStill_nil ?_;refine aO Nc (pu S.a (XK S.X done).pm (XK S.X done).tm (XK S.X done).cm cc (XK S.X done).sc (XK S.X done).sb (XK S.X done).used cs c (some ⟨n,0,none⟩) cap q (bm (XK S.X done)) 128 w1 k1.sat.left ⟨rfl,rfl,rfl,rfl,rfl,rfl⟩ HD.b h2 ?l1 ?l2 ?l3 ?l4) ?_
    case l1 =>
     have h:=(HD.c (ed c)).length_eq;have h2:=length_filter_le (fun e=>decide (ed e.1=ed c)) (S.K++done.map C9);have h3:=HH.b.K;rw[NP]at h;rw[NM,NP]at h2;unfold ed at h h2;omega
    case l2 =>
     rw[HD.g];have:=HR3.h.ok e HD.e;exact this
    case l3 =>
     have:=HH.b.sc;simp only[XK];omega
    case l4 =>
     have h1:=HH.b.sb;have h2:(done.map (fun e=>e.key.length)).sum<=4000:=IM HD.a HR3.q.a (by rw[HH.d];exact Nat.le_trans (i8 S D) hDl);simp only[XK];omega
    rintro e6 w6 ⟨v',rfl,hv',Oa⟩;have Ox:=k1.step (Perm.refl _) Oa;refine⟨_,rfl,rfl,wpStill_nil ?_⟩;rw[HZ6.a]at Ox;go_frame;go_roundw
    case rel =>
     refine⟨_,_,_,_,_,_,_,_,_,_,_,_,_,_,?_,rfl⟩;have hwho:=HD.g;refine⟨done++[e],rest,eS cs cc (ed c) v' (bd cs (ed c)++[q]),cy (cs.map aR) cc (ed c),(w5.heap.size,Is (aE q))::J,by rw[<- HR3.q.a];exact Gc HD.a HD.q.a,p9 HD.b (cf _ _) hv',?_,?_⟩
     ·rw[NW,<- NV]
      have he:[e].map C9=[(c,q)]:=by
       simp only[map_cons,map_nil,C9,HD.f,<- hwho];rfl
      rw[he];exact AY HD.c c q v'
     ·have hx:=Kf S.X done e;rw[<- hwho]at hx;have e0:(XK S.X done).cm=S.X.cm:=rfl;rw[hx,e0]at Ox;refine Ox.to ?_;rw[HR3.g,HR3.q.a];unfold ed;exact ac
    case measure =>
     have e1:mW r acc.length wr=acc.length-done.length:=by unfold mW;rw[HD.q.c];simp[dI]
     have e2:mW r acc.length w6=acc.length-(done.length+1):=by unfold mW;rw[Ox.sat.Q7 (b:=r) (o:=dI Bm acc.length (done++[e])) Nh];simp[dI]
     rw[e1,e2];have h3:=HD.q.b;have h4:=HD.q.a.length_eq;simp only[length_cons]at h4;omega
theorem Gu(x rest:Bs):dl (x++rest) false x.length=bz x:=by
 unfold dl;rw[NQ Nh,take_left]
theorem JB(x rest:Bs):rN (x++rest,false) x.length=(rest,false):=by
 unfold rN eR fd;rw[NQ Nh,drop_left];simp
theorem wM{n:Int}{k:Nat}(h0:0<=n)(h1:n<256 ^ k):(bz (Pv n k):Int)=n:=by
 obtain⟨m,rfl⟩:∃m:Nat,n=m:=⟨n.toNat,Nb⟩;have h2:m<256 ^ k:=by have:((256 ^ k:Nat):Int)=256 ^ k:=Int.natCast_pow 256 k;omega
 rw[yi,ju,Nat.mod_eq_of_lt h2]
theorem rC{n:Int}{k:Nat}(h0:0<=n)(h1:n<256 ^ k)(rest:Bs):(dl (Pv n k++rest) false k:Int)=n:=by
 have:=Gu (Pv n k) rest;rw[bU]at this;rw[this];exact wM h0 h1
theorem DU(n:Int)(k:Nat)(rest:Bs):rN (Pv n k++rest,false) k=(rest,false):=by
 have:=JB (Pv n k) rest;rwa [bU]at this
theorem GW{p:Bs}(hp:p.length<=255)(rest:Bs):dl (eB p++rest) false 1=p.length/\eR (eB p++rest) false 1=p++rest/\fd (eB p++rest) false 1=false:=by
 unfold eB dl eR fd;refine⟨?_,?_,?_⟩
 ·rw[NQ Nh];simp only[cons_append,QE,take_zero];unfold bz;simp only[foldl_cons,foldl_nil,Nat.zero_mul,Nat.zero_add];rw[UInt8.toNat_ofNat'];exact Nat.mod_eq_of_lt Nb
 ·rw[NQ Nh];rfl
 ·simp
theorem pB{p:Bs}(hp:p.length<=255)(rest:Bs):gm (eB p++rest) false=p/\rT (eB p++rest,false)=(rest,false):=by
 obtain⟨h1,h2,h3⟩:=GW hp rest;have hN:vp (eB p++rest) false=p.length:=by unfold vp;exact h1
 refine⟨?_,?_⟩
 ·unfold gm;rw[h2,h3,hN,NQ Nh,take_left]
 ·unfold rT lI kS;simp only[h2,h3,hN];have:=JB p rest;exact this
theorem uI(a:Int)(r:List Int):ej (a::r)=Pv a 4++ej r:=by simp[ej]
theorem Bf:∀(l:List Int) (i:Nat) (hi:i<l.length),((ej l).drop (4*i)).take 4=Pv l[i] 4
 | [],i,hi=>by simp at hi
 | a::r,0,_=>by
  rw[uI,Nat.mul_zero,drop_zero]
  have:=take_left (l₁:=Pv a 4) (l₂:=ej r)
  rw[bU]at this;exact this
 | a::r,i+1,hi=>by
  have e1:(ej (a::r)).drop (4*(i+1))=(ej r).drop (4*i):=by
   have h4:4*(i+1)=(Pv a 4).length+4*i:=by rw[bU];omega
   rw[uI,h4,<- drop_drop,drop_left]
  rw[e1];exact Bf r i (by simpa using hi)
theorem Gl{l:List Int}(h:∀n∈l,0<=n/\n<4294967296):iE (ej l)=l:=by
 refine ext_getElem (by rw[jb,dL];omega) (fun i h1 h2=>?_)
 have e1:(iE (ej l))[i]?=some ((bz (((ej l).drop (4*i)).take 4):Nat):Int):=by
  unfold iE;rw[getElem?_map,getElem?_range (by rw[dL];omega)];rfl
 rw[getElem?_eq_getElem h1]at e1;rw[Option.some.inj e1,Bf l i h2];have:=h l[i] (getElem_mem h2);exact wM this.1 Nb
theorem xy{p:Bs}{num size:Nat}{ats:List Int}(hp:p.length<=255)(hn:num<4294967296)(hs:size<65536)(ha:∀n∈ats,0<=n/\n<4294967296):fx 2 (eC p num size ats)=some (.ver p num size ats):=by
 have e0:eC p num size ats=eB p++(Pv num 4++(Pv size 2++ej ats)):=by unfold eC;simp
 obtain⟨t1,t2⟩:=pB hp (Pv num 4++(Pv size 2++ej ats));rw[yY,e0,t1,t2,DU,DU];rw[NR ⟨rfl,by rw[dL];omega⟩,Gl ha];have h1:=rC (n:=(num:Int)) (k:=4) Nb Nb (Pv size 2++ej ats);have h2:=rC (n:=(size:Int)) (k:=2) Nb Nb (ej ats);simp only[NY,Sj.ver.injEq,true_and,and_true];exact⟨Nb,Nb⟩
theorem Gv{k:UInt8}(hk:k=4\/k=5){p name:Bs}{num:Nat}(hp:p.length<=255)(hq:name.length<=255)(hn:num<4294967296):fx k (eG p name num)=some (.pin k p name num):=by
 have e0:eG p name num=eB p++(eB name++Pv num 4):=by unfold eG;simp
 obtain⟨t1,t2⟩:=pB hp (eB name++Pv num 4);obtain⟨t3,t4⟩:=pB hq (Pv num 4);have t5:=DU num 4 [];rw[append_nil]at t5;have h1:=rC (n:=(num:Int)) (k:=4) Nb Nb [];rw[append_nil]at h1;unfold fx;simp only[e0,t1,t2,t3,t4,t5];rw[NQ (by rcases hk with rfl|rfl<;>decide),NQ (by rcases hk with rfl|rfl<;>decide),NR hk,NR ⟨trivial,trivial⟩];simp only[NY,Sj.pin.injEq,true_and];omega
abbrev KL:=List (Bs×Nat×Nat)
abbrev Tg:=Bs×Bs×Int
def eV(p:fJ):Tg:=(p.key,p.g.1,p.g.2)
structure HV where
 p:Bs
 num:Nat
 size:Nat
 N8:List (Nat×Nat)
 held:Int
structure Rh where
 K:KL
 H:List HV
 T:List Tg
def jP(K:KL)(a:Int):Option Nat:=(K.find? (fun e=>decide ((e.2.1:Int)=a))).map (·.2.2)
def iV(H:List HV)(p:Bs)(ns:List Int):List HV:=H.filter (fun h => !(decide (h.p=p)&&ns.contains (h.num:Int)))
def eZ(H:List HV)(p:Bs)(n:Int)(d:Int):List HV:=H.map (fun h=>if h.p=p/\(h.num:Int)=n then { h with held:=h.held+d } else h)
def mZ(T:List Tg)(x:Tg):List Tg:=if T.any (fun t=>decide (t.1=x.1))then T.map (fun t=>if t.1=x.1 then x else t)else T++[x]
def Ar(T:List Tg)(m:Bs):List Tg:=T.filter (fun t => !decide (t.1=m))
def gE(at_:Nat)(s:Rh)(k:UInt8)(body:Bs):Option Rh :=
 if k=1 then some { s with K:=s.K++[(body,at_,body.length)] }
 else match fx k body with
  | none=>none
  | some (.ver p n m ats)=>match du (jP s.K) ats with
   | none=>none
   | some N8=>if(N8.map (·.2)).sum=m then some { s with H:=s.H++[⟨p,n,m,N8,0⟩] } else none
  | some (.gone p ns)=>if s.H.any (fun h=>decide (h.p=p))then some { s with H:=iV s.H p ns } else none
  | some (.pin q p m n)=>if q=4 then some { s with H:=eZ s.H p n 1,T:=mZ s.T (m,p,n) } else some { s with H:=eZ s.H p n (-1),T:=Ar s.T m }
inductive Reach (D:Bs):Nat->Rh->Prop
 | zero:Reach D 0 ⟨[],[],[]⟩
 | next {at_ s s' k body n}:Reach D at_ s->b5 (D.drop at_)=some (k,body,n)->gE at_ s k body=some s'->Reach D (at_+n) s'
def pL(D:Bs)(at_:Nat)(s:Rh):Prop:=∀k body n,b5 (D.drop at_)=some (k,body,n)->gE at_ s k body=none
abbrev mG:=List (UInt8×Bs)
def cG(rs:mG):Bs:=(rs.map fun r=>frame r.1 r.2).flatten
def tC(rs:mG):Prop:=∀r∈rs,r.1≠0/\r.2.length<65536
def kz:Nat->Rh->mG->Option Rh
 | _,s,[]=>some s
 | a,s,r::q=>(gE a s r.1 r.2).bind (fun s'=>kz (a+(r.2.length+9)) s' q)
theorem eE(a b:mG):cG (a++b)=cG a++cG b:=by simp[cG]
theorem kG(r:UInt8×Bs)(b:mG):cG (r::b)=frame r.1 r.2++cG b:=by simp[cG]
theorem C7(k:UInt8)(b:Bs):(cG [(k,b)]).length=b.length+9:=by simp[cG,bi]
theorem im(q:mG):∀(r:mG) (a:Nat) (s:Rh),kz a s (r++q)=(kz a s r).bind (fun s'=>kz (a+(cG r).length) s' q)
 | [],a,s=>by simp[kz,cG]
 | x::r,a,s=>by
  simp only[cons_append,kz,Option.bind_assoc,kG,NM,bi]
  congr 1
  funext s'
  rw[im q r]
  congr 1
  funext t
  rw[Nat.add_assoc]
theorem yP(n:Nat):b5 (an n)=none:=by
 unfold b5;split
 ·rfl
 ·rw[NR];unfold an
  cases n with
  | zero=>rfl
  | succ n=>simp[replicate_succ]
theorem xx{rs:mG}(h:tC rs){z:Nat}{at_:Nat}{s:Rh}(hr:Reach (cG rs++an z) at_ s):∃a b,rs=a++b/\at_=(cG a).length/\kz 0 ⟨[],[],[]⟩ a=some s:=by
 induction hr with
 | zero=>exact⟨[],rs,rfl,rfl,rfl⟩
 | @next at_ s s' k body n _ ho hs ih =>
  obtain⟨a,b,rfl,rfl,hrun⟩:=ih;rw[eE,NV,drop_left]at ho
  cases b with
  | nil=>rw[show cG []=[]from rfl,nil_append,yP]at ho;cases ho
  | cons r b =>
   have hk:=h r Nh;rw[kG,NV,jz _ _ _ hk.1 hk.2]at ho;simp only[NY,Prod.mk.injEq]at ho;obtain⟨rfl,rfl,rfl⟩:=ho;exact⟨a++[r],b,Nh,by rw[eE,NM,C7],by rw[im,hrun];simp[kz,hs]⟩
theorem xL{rs:mG}(h:tC rs){z at_:Nat}{s t:Rh}(hr:Reach (cG rs++an z) at_ s)(hf:pL (cG rs++an z) at_ s)(ht:kz 0 ⟨[],[],[]⟩ rs=some t):at_=(cG rs).length/\s=t:=by
 obtain⟨a,b,rfl,rfl,hrun⟩:=xx h hr
 cases b with
 | nil =>
  rw[append_nil]at ht ⊢;rw[hrun]at ht;exact⟨rfl,Option.some.inj ht⟩
 | cons r b =>
  have hk:=h r Nh;have h1:=hf r.1 r.2 (r.2.length+9) (by rw[eE,NV,drop_left,kG,NV,jz _ _ _ hk.1 hk.2]);rw[im,hrun]at ht;simp[kz,h1]at ht
def bV(h:HV):Nat×Nat×List (Nat×Nat)×Int:=(h.num,h.size,h.N8,h.held)
def bu(V:Oe):Nat×Nat×List (Nat×Nat)×Int:=(V.num,V.size,V.N8,V.held)
structure Cnt (at_:Nat) (s:Rh):Prop where
 n:9*(s.K.length+s.H.length+s.T.length)<=at_
 held:∀h∈s.H,9*h.held.natAbs<=at_
 size:∀h∈s.H,h.p.length<=255/\h.num<4294967296/\h.size<=65535/\h.N8.length<=65536
 tag:∀t∈s.T,t.1.length<=255/\t.2.1.length<=255/\0<=t.2.2/\t.2.2<4294967296
structure OE (D:Bs) (X:Om) (ps:List bf) (pc:Nat) (cs:List kx) (cc:Nat) (ts:List fJ) (tc:Nat) (sz:List (OT Int)) (OJ:Nat) (at_:Nat) (s:Rh) (E:Prop:=True):Prop where
 reach:E->Reach D at_ s
 le:at_<=D.length
 cnt:E->Cnt at_ s
 paths:OL ps pc
 chunks:O7 cs cc
 tags:O6 ts tc
 kin:∀k,(bd cs k).Perm ((s.K.filter (fun e=>decide (ed e.1=k))).map (·.2))
 Pm:∀e∈s.K,e.2.2=e.1.length/\e.1.length<=65535/\dC (D.take at_) e.2.1 e.1
 hist:∀l,(ah ps l).map bu=(s.H.filter (fun h=>decide (h.p=l))).map bV
 VF:∀p∈ps,p.g≠[]
 SB:∀h∈s.H,(∀q∈h.N8,∃e∈s.K,e.2=q)/\h.size=(h.N8.map (·.2)).sum
 used:X.used=((s.H.map (·.size)).sum:Nat)
 sc:X.sc=s.K.length
 sb:X.sb=((s.K.map (·.1.length)).sum:Nat)
 map:OO OkI sz OJ
 get:∀k,dH sz k=(jP s.K k).map (fun m=>.int .i64 (m:Nat))
 Qy:ts.map eV=s.T
theorem BZ(K:KL)(e:Bs×Nat×Nat)(a:Int):jP (K++[e]) a=(jP K a).or (if(e.2.1:Int)=a then some e.2.2 else none):=by
 unfold jP;rw[find?_append]
 cases hf:K.find? (fun e=>decide ((e.2.1:Int)=a))with
 | some x=>simp
 | none =>
  simp only[Option.none_or,Option.map_none,find?_cons,find?_nil];by_cases h:(e.2.1:Int)=a<;>simp[h]
theorem GU{K:KL}{n:Nat}(h:∀e∈K,e.2.1<n):jP K n=none:=by
 unfold jP;rw[find?_eq_none.2]
 ·rfl
 ·intro e he;have:=h e he;simp;omega
theorem vn{K:KL}{a:Int}{s:Nat}(h:jP K a=some s):∃e∈K,e.2=(a.toNat,s):=by
 unfold jP at h
 cases hf:K.find? (fun e=>decide ((e.2.1:Int)=a))with
 | none=>rw[hf]at h;cases h
 | some e =>
  rw[hf]at h;have h1:(e.2.1:Int)=a:=by simpa using find?_some hf
  refine⟨e,mem_of_find?_eq_some hf,?_⟩;simp only[Option.map_some,NY]at h;rw[<- h,<- h1];rfl
theorem wP{K:KL}:∀{l:List Int} {m:List (Nat×Nat)},du (jP K) l=some m->∀q∈m,∃e∈K,e.2=q
 | [],m,h,q,hq=>by simp only[du,NY]at h;subst h;cases hq
 | b::r,m,h,q,hq=>by
  simp only[du]at h
  cases hb:jP K b with
  | none=>rw[hb]at h;cases h
  | some s =>
   cases hr:du (jP K) r with
   | none=>rw[hb,hr]at h;cases h
   | some l =>
    rw[hb,hr]at h
    simp only[NY]at h
    subst h
    rcases mem_cons.1 hq with rfl|hq
    ·exact vn hb
    ·exact wP hr q hq
theorem kK{b c:Bs}{k:UInt8}{body:Bs}{n:Nat}(h:b5 b=some (k,body,n))(hc:c.take n=b.take n):b5 c=some (k,body,n):=by
 obtain⟨-,hn,hnb,hbody,-⟩:=dD h
 have hlen:n<=c.length:=by
  have:=congrArg length hc;rw[NS,NS]at this;omega
 have hg:∀j,j<n->c.getD j 0=b.getD j 0:=fun j hj=>by
  have:=congrArg (fun l=>l[j]?) hc;simp only[getElem?_take_of_lt hj]at this;rw[getD_eq_getElem?_getD,getD_eq_getElem?_getD,this]
 have hd:∀i m,i+m<=n->(c.drop i).take m=(b.drop i).take m:=fun i m hi=>by
  have:=congrArg (fun l=>(l.drop i).take m) hc;simp only[drop_take,take_take]at this;rwa [Nat.min_eq_left Nb]at this
 unfold b5 at h;split at h
 ·cases h
 split at h
 ·cases h
 simp only at h;split at h
 ·cases h
 split at h
 ·cases h
 split at h
 ·cases h
 rename_i h1 h2 h3 h4 h5;simp only[NY,Prod.mk.injEq]at h;obtain⟨rfl,hb,rfl⟩:=h;unfold b5;rw[NQ Nb,hg 0 Nb,NQ h2];simp only;rw[hg 1 Nb,hg 2 Nb,hg 3 Nb,hg 4 Nb,NQ h3,NQ Nb,hd 5 _ Nb,hd _ 4 Nb,NQ h5,hb]
theorem dC.at_{D body:Bs}{at_ n:Nat}(h:b5 (D.drop at_)=some (1,body,n))(hle:at_<=D.length):n=body.length+9/\at_+n<=D.length/\body.length<=65535/\dC (D.take (at_+n)) at_ body:=by
 obtain⟨-,h2,h3,h4,h5⟩:=dD h;rw[NT]at h3;refine⟨h2,Nb,Nb,by rw[NS];omega,?_⟩;rw[drop_take,take_take,show min (body.length+9) (at_+n-at_)=n by omega,<- h2];have:=kK (c:=(D.drop at_).take n) h (by rw[take_take,Nat.min_self]);rw[this]
theorem dC.grow{D body:Bs}{a b q:Nat}(h:dC (D.take a) q body)(hab:a<=b):dC (D.take b) q body:=by
 have:D.take b=D.take a++(D.drop a).take (b-a):=by
  rw[<- take_append_drop a (D.take b),take_take,Nat.min_eq_left hab,drop_take]
 rw[this];exact h.more
theorem AP(sl:Option Addr)(cap:Nat)(ns:List Int)(x:Int)(w:World)(h:ak w sl (ns.map dw))(hl:ns.length<=1099511627776):
  Calls prog 176 #[.slice sl ns.length cap,.int .i64 x] w (fun e w'=>(∃i:Int,e=.returned (.int .i64 i)/\decide (0<=i)=ns.contains x)/\w'=w):=by
 have HH:=NZ h;clear h;go_enter func176,ntmps176;go_wp2_with fail;go_loopw [8] (fun v wr=>∃k:Nat,k<=ns.length/\v=.int .i64 k/\wr=w/\x∉ns.take k) (fun v _=>ns.length-(intOf v).toNat)
 case atStart=>exact⟨0,Nat.zero_le _,rfl,by first|rfl|trivial,Nh⟩
 case round =>
  obtain⟨k,hk,rfl,rfl,hn⟩:=hrel;by_cases hlt:k<ns.length
  ·obtain⟨g,off,hg,hcell⟩:=HH.o Np;subst hg;obtain⟨y,hy⟩:=Na (ns[k]);have hck:wr.cell? ⟨g,off+k,none⟩=some (.int .i64 y):=by rw[hcell k (by simpa using hlt)];simp[hy,dw]
   have HR:=Ob hn hy;clear hn hy hcell;by_cases c1:x=y
   ·go_wp2_with fail;go_ret;refine⟨⟨k,rfl,?_⟩,by first|rfl|trivial⟩;have:x∈ns:=by rw[c1,HR.z];exact getElem_mem hlt
    simp[this]
   ·have hrel:x∉ns.take (k+1):=by rw[QH hlt,mem_append,NU,<- HR.z];exact fun h=>h.elim HR.a c1
    have SI:=NZ hrel;clear hrel;go_wp2_with fail;go_roundw
    case rel=>exact⟨k+1,Nb,by go_num,by first|rfl|trivial,SI.o⟩
    case measure=>simp[intOf];omega
  ·obtain rfl:k=ns.length:=Nb
   rw[take_length]at hn;go_wp2_with fail;go_ret;exact⟨⟨-1,rfl,by simp[hn]⟩,by first|rfl|trivial⟩
theorem t8(sl:Option Addr)(cap:Nat)(ns:List Int)(x:Int)(w:World)(h:ak w sl (ns.map dw))(hl:ns.length<=1099511627776):
  Calls prog 161 #[.slice sl ns.length cap,.int .i64 x] w (fun e w'=>e=.returned (.bool (ns.contains x))/\w'=w):=by
 have HI:=NZ (AP sl cap ns x w h hl);clear h;go_enter func161,ntmps161;go_wp2_with fail;refine HI.o.mono ?_;rintro e w1 ⟨⟨i,rfl,hi⟩,rfl⟩;have HC:=NZ hi;clear hi;by_cases c1:0<=i
 ·go_wp2_with fail;go_ret;rw[<- HC.o];simp[c1]
 ·go_wp2_with fail;go_ret;rw[<- HC.o];simp[]
def jd(X:Om)(u:Int):Om:={ X with used:=u }
def goB(ns:List Int)(V:Oe):Bool:=ns.contains (V.num:Int)
def gP(ns:List Int)(V:Oe):Bool:=!goB ns V
def cw(ns:List Int)(vs:List Oe):Nat:=((vs.filter (goB ns)).map (·.size)).sum
structure QL (a g nb cb:Nat) (sl:Option Addr) (cap2:Nat) (ns:List Int) (vs:List Oe) (W:World):Prop where
 ag:a≠g
 vs:∀V∈vs,V.blk≠a/\V.blk≠g/\W.heap[V.blk]?=some (dB V)
 nb:nb≠a/\nb≠g/\W.heap[nb]?=some (.cells #[.slice sl ns.length cap2] 171 (0,0))
 cb:cb≠a/\cb≠g/\W.heap[cb]?=some (.cells #[.pointer (some ⟨a,0,none⟩)] 258 (0,0))
 ns:ak W sl (ns.map dw)
 nsb:∀x,sl=some x->x.block≠a/\x.block≠g
theorem QL.keep{a g nb cb:Nat}{sl:Option Addr}{cap2:Nat}{ns:List Int}{vs:List Oe}{W W':World}(h:QL a g nb cb sl cap2 ns vs W)(hm:N7 (fun k=>k=a\/k=g) W W'):QL a g nb cb sl cap2 ns vs W' where
 ag:=h.ag
 vs:=fun V hV=>by
  obtain⟨h1,h2,h3⟩:=h.vs V hV
  exact⟨h1,h2,hm.at h3 (by rintro(h|h);exact h1 h;exact h2 h)⟩
 nb:=⟨h.nb.1,h.nb.2.1,hm.at h.nb.2.2 (by rintro(k|k);exact h.nb.1 k;exact h.nb.2.1 k)⟩
 cb:=⟨h.cb.1,h.cb.2.1,hm.at h.cb.2.2 (by rintro(k|k);exact h.cb.1 k;exact h.cb.2.1 k)⟩
 ns:=h.ns.keep hm (fun g' off e=>by
  have:=h.nsb _ e
  rintro(k|k);exact this.1 k;exact this.2 k)
 nsb:=h.nsb
def J1(a:Nat)(X:Om)(u:Int)(ns:List Int)(V:Oe)(w:World)(e:Ending)(w':World):Prop :=
 e=.returned (.bool (goB ns V))/\N7 (fun k=>k=a) w w'/\w'.heap[a]?=some (aL (jd X (u-(if goB ns V then V.size else 0:Nat))))
theorem Ay(a nb cb:Nat)(X:Om)(u:Int)(V:Oe)(sl:Option Addr)(cap2:Nat)(ns:List Int)(w:World)(ha:w.heap[a]?=some (aL (jd X u)))(hv:w.heap[V.blk]?=some (dB V))(hn:w.heap[nb]?=some (.cells #[.slice sl ns.length cap2] 171 (0,0)))(hc:w.heap[cb]?=some (.cells #[.pointer (some ⟨a,0,none⟩)] 258 (0,0)))(hs:ak w sl (ns.map dw))(hl:ns.length<=1099511627776)(hu : -2305843009213693952<=u/\u<=2305843009213693952)(hsz:V.size<=2305843009213693952):
  Calls prog 160 #[.pointer (some ⟨V.blk,0,none⟩),.pointer (some ⟨nb,0,none⟩),.pointer (some ⟨cb,0,none⟩)] w (J1 a X u ns V w):=by
 have n0:w.cell? ⟨nb,0,none⟩=some (.slice sl ns.length cap2):=aa hn 0 rfl;have v0:w.cell? ⟨V.blk,0,none⟩=some (.int .i64 V.num):=aa hv 0 rfl;have HW:=NZ (show IntKind.i64.wrap (u-V.size)=u-V.size from IntWalk.i64_in _ Nb);obtain⟨gb,hgb⟩:=Na (goB ns V);have HCo:=NZ (fun n=>(show Calls prog 161 #[.slice sl ns.length cap2,.int .i64 V.num] (w.drewN n) (fun e w'=>e=.returned (.bool gb)/\w'=w.drewN n) by rw[hgb];exact t8 sl cap2 ns V.num _ hs hl));have HH:=PD ha hv hc hs hgb;clear ha hv hn hc hs hgb;go_enter func160,ntmps160;go_wp2_with fail;go_quiet ((go_at_call 161;exact(HCo.o _).mono (fun e w' ⟨he,hw⟩=>⟨he,_,hw⟩)))
 cases gb with
 | false =>
  go_wp2_with fail;go_ret;refine⟨by rw[<- HH.w];rfl,(N7.refl _ w).drewN _,?_⟩;rw[<- HH.w];simpa using HH.a
 | true =>
  go_wp2_with fail;generalize hw1:w.drewN nq=w1;have a5:w1.cell? ⟨a,5,none⟩=some (.int .i64 u):=by rw[<- hw1];exact aa (w:=w) HH.a 5 rfl
  have f5:w1.frozen? ⟨a,5,none⟩=false:=by rw[<- hw1];exact aY (w:=w) HH.a 5
  have v1:w1.cell? ⟨V.blk,1,none⟩=some (.int .i64 V.size):=by rw[<- hw1];exact aa (w:=w) HH.b 1 rfl
  have c0:w1.cell? ⟨cb,0,none⟩=some (.pointer (some ⟨a,0,none⟩)):=by rw[<- hw1];exact aa (w:=w) HH.c 0 rfl
  have H1:=NZ hw1;clear hw1;refine wp_region_still_tail 11 HM.o Nc ?_;simp only[QE,take_zero,QD,drop_zero];repeat still_step
  refine wpStill_nil ?_;change wpList _ _ _ _ _ w1.drew;go_wp2_with fail;go_ret;have ho:w1.heap[a]?=some (aL (jd X u)):=by rw[<- H1.o];exact HH.a
  refine⟨by rw[<- HH.w];rfl,?_,?_⟩
  ·refine(N7.set1 ?_ _).drew;rw[<- H1.o];exact(N7.refl _ w).drewN _
  ·refine(bq ho 5 _).trans ?_;rw[<- HH.w];rfl
theorem yE(ns:List Int)(vs:List Oe)(V:Oe):cw ns (vs++[V])=cw ns vs+(if goB ns V then V.size else 0):=by
 unfold cw;rw[filter_append]
 cases h:goB ns V<;>simp[h]
theorem Dm(ns:List Int)(vs:List Oe):cw ns vs<=(vs.map (·.size)).sum:=by
 induction vs with
 | nil=>simp[cw]
 | cons V r ih =>
  unfold cw at ih ⊢;rw[filter_cons];split<;>simp only[map_cons,sum_cons]<;>omega
theorem vh(vs:List Oe)(k:Nat):((vs.take k).map (·.size)).sum<=(vs.map (·.size)).sum:=by
 conv=>rhs;rw[<- take_append_drop k vs,NW,sum_append]
 omega
def rP(u:Int)(vs:List Oe):Prop:=-1152921504606846976<=u/\u<=1152921504606846976/\(vs.map (·.size)).sum<=1152921504606846976/\vs.length<=1099511627776
theorem rP.at_{u:Int}{vs:List Oe}(h:rP u vs)(ns:List Int)(k:Nat)(hk:k<vs.length):(-2305843009213693952<=u-(cw ns (vs.take k):Nat)/\u-(cw ns (vs.take k):Nat)<=2305843009213693952)/\vs[k].size<=2305843009213693952:=by
 have h1:=Dm ns (vs.take k);have h2:=vh vs k;have h3:=vh vs (k+1);rw[QH hk,NW,sum_append]at h3;simp only[map_cons,map_nil,sum_cons,sum_nil]at h3;obtain⟨a,b,c,d⟩:=h;omega
theorem QL.call{a g nb cb:Nat}{sl:Option Addr}{cap2:Nat}{ns:List Int}{vs:List Oe}{W:World}(h:QL a g nb cb sl cap2 ns vs W){X:Om}{u:Int}(hu:rP u vs)(hl:ns.length<=1099511627776){k:Nat}(hk:k<vs.length)(ha:W.heap[a]?=some (aL (jd X (u-(cw ns (vs.take k):Nat))))):
  Calls prog 160 #[.pointer (some ⟨vs[k].blk,0,none⟩),.pointer (some ⟨nb,0,none⟩),.pointer (some ⟨cb,0,none⟩)] W (fun e w'=>e=.returned (.bool (goB ns vs[k]))/\N7 (fun k=>k=a) W w'/\w'.heap[a]?=some (aL (jd X (u-(cw ns (vs.take (k+1)):Nat))))):=by
 obtain⟨h1,h2⟩:=hu.at_ ns k hk;refine(Ay a nb cb X _ vs[k] sl cap2 ns W ha (h.vs _ (getElem_mem hk)).2.2 h.nb.2.2 h.cb.2.2 h.ns hl h1 h2).mono ?_;rintro e w' ⟨rfl,hm,hh⟩;refine⟨rfl,hm,?_⟩;rw[hh,QH hk,yE];congr 3;omega
def J4(a:Nat)(X:Om)(u:Int)(ns:List Int)(vs:List Oe)(w:World)(e:Ending)(w':World):Prop :=
 ∃k,k<=vs.length/\(∀V∈vs.take k,goB ns V=false)/\((∃h:k<vs.length,goB ns vs[k]=true/\e=.returned (.int .i64 (k:Nat)))\/(k=vs.length/\e=.returned (.int .i64 (-1))))/\N7 (fun k=>k=a) w w'/\w'.heap[a]?=some (aL (jd X (u-(cw ns (vs.take (k+1)):Nat))))
theorem sP(a g nb cb:Nat)(X:Om)(u:Int)(vs:List Oe)(pl:Option Addr)(cap:Nat)(sl:Option Addr)(cap2:Nat)(ns:List Int)(w:World)(hE:QL a g nb cb sl cap2 ns vs w)(ha:w.heap[a]?=some (aL (jd X u)))(hp:ak w pl (vs.map dN))(hpb:∀x,pl=some x->x.block≠a)(hu:rP u vs)(hl:ns.length<=1099511627776):
  Calls prog 175 #[.slice pl vs.length cap,.func (.func 160) #[] #[.pointer (some ⟨nb,0,none⟩),.pointer (some ⟨cb,0,none⟩)]] w (J4 a X u ns vs w):=by
 have hvl:=hu.2.2.2;have HH:=PD hE ha hp hpb hu;clear hE ha hp hpb hu;go_enter func175,ntmps175;go_wp2_with fail;go_loopw [8] (fun v wr=>∃k:Nat,k<=vs.length/\v=.int .i64 k/\N7 (fun k=>k=a) w wr/\wr.heap[a]?=some (aL (jd X (u-(cw ns (vs.take k):Nat))))/\∀V∈vs.take k,goB ns V=false) (fun v _=>vs.length-(intOf v).toNat)
 case atStart=>exact⟨0,Nat.zero_le _,rfl,N7.refl _ _,by rw[HH.b,take_zero];simp[cw],Nh⟩
 case round =>
  obtain⟨k,hk,rfl,hm,hh,hn⟩:=hrel;by_cases hlt:k<vs.length
  ·obtain⟨g',off,hg,hcell⟩:=HH.c.keep hm (fun g off e=>HH.d _ e) Np;subst hg;have hck:wr.cell? ⟨g',off+k,none⟩=some (dN vs[k]):=by rw[hcell k (by simpa using hlt)];simp
   unfold dN at hck;obtain⟨V,hV⟩:=Na (vs[k]);obtain⟨gb,hgb⟩:=Na (goB ns V);have hc:=(HH.a.keep (hm.mono (fun _ h=>.inl (.inl h)))).call HH.w hl hlt hh;rw[<- hV]at hc hck;rw[<- hgb]at hc;have HC:=NZ hc;have HR:=OW hm hn hV hgb;clear hm hh hn hcell hc hV hgb;go_wp2_with fail;refine HC.o.mono ?_;rintro e w2 ⟨rfl,hm2,hh2⟩;have Wi:N7 (fun k=>k=a) w w2:=HR.a.trans hm2;have H2:=Ob Wi hh2;clear hm2 hh2 Wi
   cases gb with
   | true =>
    go_wp2_with fail;go_ret;exact⟨k,Nb,HR.b,.inl ⟨hlt,by rw[<- HR.c,<- HR.x],rfl⟩,H2.a,H2.z⟩
   | false =>
    go_wp2_with fail;go_roundw
    case rel =>
     refine⟨k+1,Nb,by go_num,H2.a,H2.z,?_⟩;rw[QH hlt];intro V hV;rcases mem_append.1 hV with hV|hV
     ·exact HR.b V hV
     ·rw[mem_singleton.1 hV,<- HR.c,<- HR.x]
    case measure=>simp[intOf];omega
  ·obtain rfl:k=vs.length:=Nb
   have HR:=Oz hm hh hn;clear hm hh hn;go_wp2_with fail;go_ret;have h2:=HR.b;rw[take_length]at h2;exact⟨vs.length,Nb,HR.y,.inr ⟨rfl,rfl⟩,HR.a,by rw[take_of_length_le Nb];exact h2⟩
theorem JY(w:World):(zeroValue 149).run prog w=.ok (.pointer none) w:=Nc
def He(a g:Nat)(X:Om)(u:Int)(vs:List Oe)(cap:Nat)(ns:List Int)(w:World)(e:Ending)(w':World):Prop :=
 ∃cur:List Value,e=.returned (.slice (some ⟨g,0,none⟩) (vs.filter (gP ns)).length cap)/\N7 (fun k=>k=a\/k=g) w w'/\w'.heap[a]?=some (aL (jd X (u-(cw ns vs:Nat))))/\w'.heap[g]?=some (.cells cur.toArray 149 (0,0))/\cur.length=cap/\cur.take (vs.filter (gP ns)).length=(vs.filter (gP ns)).map dN
def Hf(a g:Nat)(X:Om)(u:Int)(vs:List Oe)(cap:Nat)(ns:List Int)(w:World)(s5 s6 _s7:Value)(W:World):Prop :=
 ∃(i j:Nat) (cur:List Value),s5=.int .i64 i/\s6=.int .i64 j/\i=((vs.take j).filter (gP ns)).length/\i<j/\j<=vs.length/\N7 (fun k=>k=a\/k=g) w W/\W.heap[a]?=some (aL (jd X (u-(cw ns (vs.take j):Nat))))/\W.heap[g]?=some (.cells cur.toArray 149 (0,0))/\cur.length=cap/\cur.take i=((vs.take j).filter (gP ns)).map dN/\∀m (h:m<vs.length),j<=m->cur[m]?=some (dN vs[m])
theorem re(a g nb cb:Nat)(X:Om)(u:Int)(vs:List Oe)(cap:Nat)(cur:List Value)(sl:Option Addr)(cap2:Nat)(ns:List Int)(w:World)(hE:QL a g nb cb sl cap2 ns vs w)(ha:w.heap[a]?=some (aL (jd X u)))(hg:w.heap[g]?=some (.cells cur.toArray 149 (0,0)))(hcl:cur.length=cap)(hct:cur.take vs.length=vs.map dN)(hcap:vs.length<=cap)(hu:rP u vs)(hl:ns.length<=1099511627776):
  Calls prog 159 #[.slice (some ⟨g,0,none⟩) vs.length cap,.func (.func 160) #[] #[.pointer (some ⟨nb,0,none⟩),.pointer (some ⟨cb,0,none⟩)]] w (He a g X u vs cap ns w):=by
 have hvl:=hu.2.2.2
 have UY:∀m (h:m<vs.length),cur[m]?=some (dN vs[m]):=fun m h=>by
  have:=congrArg (fun l=>l[m]?) hct;simpa[getElem?_take_of_lt h,h]using this
 have hI:=sP a g nb cb X u vs (some ⟨g,0,none⟩) cap sl cap2 ns w hE ha (fun hp=>⟨g,0,rfl,fun j hj=>by
  rw[NP]at hj;have:=aa hg j (v:=dN vs[j]) (by simpa using UY j hj);simpa using this⟩) (fun x hx=>by simp only[NY]at hx;subst hx;exact fun e=>hE.ag e.symm) hu hl
 have HI:=NZ hI;have HH:=Ry hE ha hg hcl hct hu UY;clear hE ha hg hct hcl hu hI UY;go_enter func159,ntmps159;go_wp2_with fail;refine HI.o.mono ?_;rintro e w1 ⟨k,hk,hn,hres,hm1,hh1⟩;have hg1:=hm1.at HH.c (fun e=>HH.a.ag e.symm);rcases hres with⟨hlt,hgk,rfl⟩|⟨rfl,rfl⟩
 ·have hkeep:(vs.take k).filter (gP ns)=vs.take k:=filter_eq_self.2 (fun V hV=>by simp[gP,hn V hV]);have hk1:(vs.take (k+1)).filter (gP ns)=vs.take k:=by rw[QH hlt,filter_append,hkeep];simp[gP,hgk]
  have hst:Hf a g X u vs cap ns w (.int .i64 k) (.int .i64 (k+1:Nat)) undef w1:=⟨k,k+1,cur,rfl,rfl,by rw[hk1,NS];omega,Nb,hlt,hm1.mono (fun _ h=>.inl (.inl h)),hh1,hg1,HH.d,by
   rw[hk1,map_take,<- HH.e,take_take];congr 1;omega,fun m h _=>HH.u m h⟩
  have H1:=NZ hst;have hk1m:((k:Int) == -1)=false:=Nh
  have hkm:¬(k:Int)=-1:=Nb
  clear hst hk1 hkeep hgk hn hm1 hh1 hg1;go_wp2_with fail;go_loopw [5,6,7] (fun s5 s6 s7 wr=>Hf a g X u vs cap ns w s5 s6 s7 wr) (fun _ s6 _ _=>vs.length-(intOf s6).toNat)
  case atStart=>exact H1.o
  case round =>
   obtain⟨i,j,cu,rfl,rfl,hi,hij,hj,hm,hh,hg,hcl,hct,UY⟩:=hrel;by_cases hjl:j<vs.length
   ·obtain⟨V,hV⟩:=Na (vs[j]);have hck:wr.cell? ⟨g,j,none⟩=some (dN V):=aa hg j (by rw[hV];simpa using UY j hjl (Nat.le_refl _));unfold dN at hck;obtain⟨old,hold⟩:∃old,wr.cell? ⟨g,i,none⟩=some old:=⟨cu[i],aa hg i Nh⟩;have hfr:=aY hg i;have hc:=(HH.a.keep hm).call HH.f hl hjl hh;obtain⟨gb,hgb⟩:=Na (goB ns V);rw[<- hV]at hc;rw[<- hgb]at hc;have HC:=NZ hc;have HR:=Uh hm hg hcl hct UY hV hgb hi;clear hm hh hg hcl hct UY hc hV hgb hi;go_wp2_with fail;refine HC.o.mono ?_;rintro e w2 ⟨rfl,hm2,hh2⟩;have hg2:=hm2.at HR.b (fun e=>HH.a.ag e.symm);have hold2:w2.cell? ⟨g,i,none⟩=some old:=by rw[<- hold];exact World.cell?_of_block (hm2.block g (ae HR.b) (fun e=>HH.a.ag e.symm))
    have hfr2:=aY hg2 i;have Wi:N7 (fun k=>k=a\/k=g) w w2:=HR.a.trans (hm2.mono (fun _ h=>.inl (.inl h)));have H2:=Oz hg2 Wi hh2;clear hg2 Wi hh2 hm2 hck hold hfr
    cases gb with
    | true =>
     go_wp2_with fail;go_roundw
     case rel =>
      refine⟨i,j+1,cu,rfl,by go_num,?_,Nb,hjl,H2.b,H2.y,H2.a,HR.c,?_,fun m h hjm=>HR.e m h Nb⟩
      all_goals
       rw[QH hjl,filter_append,<- HR.f];simp only[filter_cons,filter_nil,gP,<- HR.g,Bool.not_true,Bool.false_eq_true,if_false,append_nil]
      ·exact HR.t
      ·exact HR.d
     case measure=>simp[intOf];omega
    | false =>
     go_wp2_with fail;go_roundw
     case rel =>
      have hkV:gP ns V=true:=by simp[gP,<- HR.g]
      have hf:(vs.take (j+1)).filter (gP ns)=(vs.take j).filter (gP ns)++[V]:=by
       rw[QH hjl,filter_append,<- HR.f];simp[hkV]
      have hs:=bq H2.a i (dN V);rw[QA]at hs;have hil:i<cu.length:=by rw[HR.c];omega
      refine⟨i+1,j+1,cu.set i (dN V),by go_num,by go_num,?_,Nb,hjl,H2.b.setCell (.inl (.inr rfl)) _,?_,hs,by rw[length_set];exact HR.c,?_,fun m h hjm=>?_⟩
      ·rw[hf,NM,<- HR.t];rfl
      ·refine Eq.trans ?_ H2.y;exact((N7.refl (fun k=>k=g) w2).set1 (i:=i) (dN V)).block a (ae H2.y) HH.a.ag
      ·rw[hf,NW,<- HR.d,QH (by rw[length_set];exact hil),take_set_of_le (Nat.le_refl i)];simp
      ·rw[getElem?_set_ne Nb];exact HR.e m h Nb
     case measure=>simp[intOf];omega
   ·obtain rfl:j=vs.length:=Nb
    rw[take_length]at hh hi hct;have hilc:i<cap:=Nb
    have hCl:∀ty,(Builtin.clear_ #[153] ty #[.slice (some ⟨g,i,none⟩) (vs.length-i) (cap-i)]).run prog wr=.ok (.tuple #[]) (wr.setCells g i (replicate (vs.length-i) (.pointer none))):=fun ty =>
     Lib.run_clear_slice wr _ _ ty _ underlying153 (fun w=>JY w) rfl rfl g i _ _ Nb (fun t ht=>by rw[aa hg (i+t) (v:=cu[i+t]'Nb) Nh];rfl) (fun t ht=>aY hg _)
    obtain⟨h1,h2⟩:=fp hg i (replicate (vs.length-i) (.pointer none)) (by rw[length_replicate];omega);have HR:=Ry hm hh h1 h2 hcl hct hi;clear hm hh hg hcl hct UY h1 h2 hi;go_wp2_with fail;go_ret;refine⟨_,?_,HR.a.trans (HR.d.mono (fun _ h=>.inl (.inr h))),?_,HR.c,?_,?_⟩
    ·rw[<- HR.u];rfl
    ·refine Eq.trans ?_ HR.b;exact HR.d.block a (ae HR.b) HH.a.ag
    ·unfold spl;have:=HR.e;simp only[NM,NS,length_replicate,NT];omega
    ·unfold spl;have:=HR.e;rw[<- HR.u,NV,take_append_of_le_length Ny,take_take,Nat.min_self];exact HR.f
 ·have hf:vs.filter (gP ns)=vs:=filter_eq_self.2 (fun V hV=>by simp[gP,hn V (by rw[take_length];exact hV)]);have h2:=hh1;rw[take_of_length_le Nb]at h2;have HX:=OW hf h2 hg1 hm1;clear hf h2 hn hm1 hh1 hg1;go_wp2_with fail;go_ret;refine⟨cur,?_,HX.x.mono (fun _ h=>.inl (.inl h)),HX.b,HX.c,HH.d,?_⟩
  ·rw[HX.a];rfl
  ·rw[HX.a];exact HH.e
end
section
open Go.RowKit Go.Maps
open Go.ChangeMaps (setBlock)
theorem Turns.put2{A w w':World}{F G:HF}{a g:Nat}{φ ψ χ:Obj->Prop}{o1 o2:Obj}(h:Turns F ((a,φ)::(g,ψ)::G) A w)(hm:N7 (fun k=>k=a\/k=g) w w')(h1:w'.heap[a]?=some o1)(h2:w'.heap[g]?=some o2)(hχ:χ o2):Turns F ((a,Is o1)::(g,χ)::G) A w':=by
 refine h.trans ⟨hm.mono (fun k hk=>.inl (by rcases hk with rfl|rfl<;>simp)),⟨h.sat.nodup,fun p hp=>?_⟩,fun k hk=>.inl (by simpa using hk)⟩;rcases mem_cons.1 hp with rfl|hp
 ·exact⟨_,h1,Is.rfl⟩
 ·rcases mem_cons.1 hp with rfl|hp
  ·exact⟨_,h2,hχ⟩
  ·obtain⟨o,ho,hφ⟩:=h.sat.sat p (by simp[hp]);refine⟨o,hm.at ho (fun hk=>?_),hφ⟩;have hn:=h.sat.nodup;simp only[gL,nodup_cons,mem_cons,not_or]at hn;have hpd:p.1∈dom G:=mem_map.2 ⟨p,hp,rfl⟩;rcases hk with e|e
   ·exact hn.1.2 (e ▸ hpd)
   ·exact hn.2.1 (e ▸ hpd)
theorem t7{F G:HF}(h:F.Perm G)(x:Nat×(Obj->Prop)):cnt x F=cnt x G:=by unfold cnt;exact h.countP_eq _
def dW(ns:List Int)(vs:List Oe):List Oe:=vs.filter (gP ns)
def kd(ps:List bf)(c:Nat)(p:Bs)(v:Value)(ns:List Int):List bf:=if dW ns (ah ps p)=[]then bM ps p else eS ps c p v (dW ns (ah ps p))
theorem Dj{γ:Type}(d:γ)(ps:List (GE γ))(l m:Bs):Qr d (bM ps l) m=if m=l then d else Qr d ps m:=by
 unfold Qr bM;rw[find?_filter];by_cases h:m=l
 ·subst h;rw[NR rfl,find?_eq_none.2 Nh]
 ·rw[NQ h];congr 2;funext p;by_cases hp:p.key=m
  ·simp[hp,h]
  ·simp[hp]
theorem ug(ps:List bf)(c:Nat)(p:Bs)(v:Value)(ns:List Int)(l:Bs):ah (kd ps c p v ns) l=if l=p then dW ns (ah ps p)else ah ps l:=by
 unfold kd;split
 ·rename_i h;rw[h];exact Dj [] ps p l
 ·exact ql [] ps c p l v _
theorem Ge(ns:List Int)(vs:List Oe):(vs.flatMap bN).Perm ((dW ns vs).flatMap bN++(vs.filter (fun V => !gP ns V)).flatMap bN):=by
 rw[<- flatMap_append];exact(filter_append_perm (gP ns) vs).symm.flatMap_right _
theorem mt{ps:List bf}{p:Bs}(h:ah ps p≠[]):∃q∈ps,q.key=p/\ah ps p=q.g:=by
 unfold ah Qr at h ⊢
 cases hf:ps.find? (fun q=>decide (q.key=p))with
 | none=>rw[hf]at h;exact absurd rfl h
 | some q=>exact⟨q,mem_of_find?_eq_some hf,by simpa using find?_some hf,rfl⟩
theorem Az{ps:List bf}{c:Nat}(h:OL ps c){p:Bs}(hl:Py p){v:Value}{ns:List Int}(hv:eP v (dW ns (ah ps p)))(hne:ah ps p≠[]):OL (kd ps c p v ns) c:=by
 obtain⟨q,hq,hqk,hqg⟩:=mt hne;have hpl:∀V∈ah ps p,bQ V.cv V.N8:=by rw[hqg];exact(h.rows q hq).2
 unfold kd;split
 ·exact⟨by rw[mP];exact h.map.del p,fun x hx=>h.rows x (mem_filter.1 hx).1⟩
 ·have hc:cy (ps.map aR) c p=c:=by
   unfold cy;rw[NR (iC.2 ⟨aR q,mem_map.2 ⟨q,hq,rfl⟩,hqk⟩)]
  have:=h.map.put hl v;rw[hc]at this;refine⟨by rw[iI];exact this,fun x hx=>?_⟩;rcases iJ hx with⟨h1,_⟩|⟨h1,h2,h3⟩
  ·exact h.rows x h1
  ·refine⟨by rw[h2,h3];exact hv,fun V hV=>?_⟩;rw[h3]at hV;exact hpl V (mem_filter.1 hV).1
theorem wZ{ps:List bf}{c:Nat}{p:Bs}{v:Value}{ns:List Int}(h:∀q∈ps,q.g≠[]):∀q∈kd ps c p v ns,q.g≠[]:=by
 unfold kd;split
 ·exact fun x hx=>h x (mem_filter.1 hx).1
 ·rename_i hk;intro x hx;rcases iJ hx with⟨h1,_⟩|⟨_,_,h3⟩
  ·exact h x h1
  ·rw[h3];exact hk
def Hg(a:Nat)(X:Om)(ps:List bf)(pc:Nat)(p:Bs)(v:Value)(ns:List Int)(w:World)(e:Ending)(w':World):Prop :=
 ∃v',e=.returned (.tuple #[])/\eP v' (dW ns (ah ps p))/\Turns ((a,Is (aL X))::(aG X.pm ps pc++ck v ns)) ((a,Is (aL (jd X (X.used-(cw ns (ah ps p):Nat)))))::(aG X.pm (kd ps pc p v' ns) pc++ck v ns)) w w'
theorem uh(a:Nat)(X:Om)(ps:List bf)(pc:Nat)(p:Bs)(v:Value)(ns:List Int)(w:World)(h:Sat w ((a,Is (aL X))::(aG X.pm ps pc++ck v ns)))(Ph:RJ v ns)(hok:OL ps pc)(hl:Py p)(hne:ah ps p≠[])(hu:rP X.used (ah ps p))(hnl:ns.length<=1099511627776):
  Calls prog 140 #[.pointer (some ⟨a,0,none⟩),str p,v] w (Hg a X ps pc p v ns w):=by
 obtain⟨F1,hF1⟩:=Na ((a,Is (aL X))::(aG X.pm ps pc++ck v ns))
 have hT0:Turns F1 (er (eI (.slice none 0 0) ps p) (ah ps p)++((a,Is (aL X))::(X.pm,Is (aU str (ps.map aR) pc))::(dM ps p++ck v ns))) w w:=by
  rw[hF1];refine(Turns.refl h).to ?_;have hp:=kN p (by rw[<- cQ];exact hok.map.nodup);unfold aG;refine(Perm.cons _ ((Perm.cons _ hp).append_right _)).trans ?_;exact ac
 have hrow:=aW hT0.sat.left (uM hok p);obtain⟨v0,hv0⟩:=Na (eI (.slice none 0 0) ps p);obtain⟨vs,hvs⟩:=Na (ah ps p);rw[<- hv0,<- hvs]at hT0 hrow;rw[<- hvs]at hne hu;rcases hrow.2 with⟨-,h0⟩|⟨g,cap,cur,e1,-,hg,hc1,hc2,hc3,hc4⟩
 ·exact absurd (length_eq_zero_iff.1 h0) hne
 obtain⟨sl,cap2,e2,-,hcp2,hcs,hcb⟩:=aP (aW (h.sub (G:=ck v ns) (fun x=>by simp only[ao,af];omega)) Ph);subst e2
 have hdg:er v0 vs=[(g,fun o=>∃cap cur,v0=.slice (some ⟨g,0,none⟩) vs.length cap/\o=.cells cur 149 (0,0)/\vs.length<=cap/\cap<=maxLen/\cur.size=cap*1/\cur.toList.take (vs.length*1)=vs.map dN)]:=by
  rw[e1];rfl
 rw[hdg]at hT0;subst e1;have hnd:=hT0.sat.nodup;simp only[cons_append,nil_append,gL,cM,nodup_cons,mem_cons,mem_append,not_or]at hnd
 have hin:∀V∈vs,V.blk∈dom (dM ps p)/\w.heap[V.blk]?=some (dB V):=fun V hV=>by
  have hm:(V.blk,Is (dB V))∈dM ps p:=by
   unfold dM;rw[<- hvs];exact mem_append_right _ (mem_flatMap.2 ⟨V,hV,by simp[bN]⟩)
  exact⟨mem_map.2 ⟨_,hm,rfl⟩,hT0.sat.Q7 (by simp[hm])⟩
 have hal:∀b o,w.heap[b]?=some o->b<w.heap.size:=fun b o h=>ae h
 have ha0:=h.Q5
 have hE:∀(W:World) (nb cb:Nat),aV w W->W.heap[nb]?=some (.cells #[.slice sl ns.length cap2] 171 (0,0))->W.heap[cb]?=some (.cells #[.pointer (some ⟨a,0,none⟩)] 258 (0,0))->w.heap.size<=nb->w.heap.size<=cb->QL a g nb cb sl cap2 ns vs W:=fun W nb cb hs h1 h2 h3 h4=>by
  have la:=hal _ _ ha0;have lg:=hal _ _ hg;refine⟨fun e=>hnd.1.1 e.symm,fun V hV=>?_,⟨Nb,Nb,h1⟩,⟨Nb,Nb,h2⟩,hcs.keep hs (fun _ _ _=>id),fun x hx=>?_⟩
  ·obtain⟨k1,k2⟩:=hin V hV;exact⟨fun e=>hnd.2.1.2.1 (e ▸ k1),fun e=>hnd.1.2.2.1 (e ▸ k1),hs.at k2 id⟩
  ·have hx2:=(eL 3 1 ns.length _ (ns.map dw) x.block).2 (hcb x hx);exact⟨fun e=>hnd.2.1.2.2 (e ▸ hx2),fun e=>hnd.1.2.2.2 (e ▸ hx2)⟩
 have hmf:∀(fn:Fn) (first cap:Array Value) (w:World),(Instr.makeFunc fn first cap).run prog w=.ok (.func fn first cap) w:=fun _ _ _ _=>rfl
 have HH:=NZ (NK hT0 (NK hE (NK ha0 (NK hg (NK hok (NK hl (NK hu (NK hv0 (NK hvs (NK hF1 (NK hc3 hc4)))))))))));have lg0:=hal _ _ hg;have HL:=Oz hc1 hc2 lg0;have hla:=hal _ _ ha0;clear lg0 h Ph hT0 hE ha0 hg hok hl hu hv0 hvs hF1 hc3 hc4 hnd hin hal hcs hcb hrow hdg hne hc1 hc2 hcp2;go_enter func140,ntmps140;go_upto_region 1 with(fail);obtain⟨W,hW⟩:=Na ((w.alloc (.cells #[.pointer (some ⟨a,0,none⟩)] 258)).alloc (.cells #[.slice sl ns.length cap2] 171));have hs:aV w W:=by rw[hW];exact((N7.refl _ w).alloc _).alloc _
 have Ye:W.heap[w.heap.size]?=some (.cells #[.pointer (some ⟨a,0,none⟩)] 258 (0,0)):=by rw[hW];exact((N7.refl (fun _=>False) _).alloc _).at (aM w _) id
 have qae:W.heap[w.heap.size+1]?=some (.cells #[.slice sl ns.length cap2] 171 (0,0)):=by
  rw[hW];have:=aM (w.alloc (.cells #[.pointer (some ⟨a,0,none⟩)] 258)) (.cells #[.slice sl ns.length cap2] 171);rwa [World.size_alloc]at this
 have c0:W.cell? ⟨w.heap.size,0,none⟩=some (.pointer (some ⟨a,0,none⟩)):=aa Ye 0 rfl;have hla2:a<W.heap.size:=Nat.lt_of_lt_of_le hla hs.size;have a0:W.cell? ⟨a,0,none⟩=some (.map (some X.pm)):=aa (hs.at HH.c id) 0 rfl;have hg2:=hs.at HH.d id;have hT2:=HH.a.Q8 hs;have hTa:=hT2.to (H:=(a,Is (aL X))::(g,fun o=>∃Ui cur,Value.slice (some ⟨g,0,none⟩) vs.length cap=.slice (some ⟨g,0,none⟩) vs.length Ui/\o=.cells cur 149 (0,0)/\vs.length<=Ui/\Ui<=maxLen/\cur.size=Ui*1/\cur.toList.take (vs.length*1)=vs.map dN)::(X.pm,Is (aU str (ps.map aR) pc))::(dM ps p++ck (.slice sl ns.length cap2) ns)) ac;have hmo:=hT2.sat.Q7 (b:=X.pm) (o:=aU str (ps.map aR) pc) Nh;have HD:=NZ (re a g (w.heap.size+1) w.heap.size X X.used vs cap cur.toList sl cap2 ns W (HH.b W _ _ hs qae Ye Nb Nb) (hs.at HH.c id) (by simpa using hg2) (by have:=HH.q.c;simp at this ⊢;exact this) (by have:=HH.q.x;rwa [Nat.mul_one]at this) HL.a HH.g hnl);rw[<- hW];have H2:=Ob hTa hmo;clear hW hs Ye qae hg2 hT2 hTa hmo;go_wp2_with (at_lookup;refine dY dR rfl _ _ rfl underlying119 H2.z HH.e.map (fI _) p rfl rfl HH.f ?_;rw[cX,<- HH.h]);refine HD.o.mono ?_;rintro e w3 ⟨cur',rfl,Wi,hh3,hg3,hl3,ht3⟩;have hk3:(vs.filter (gP ns)).length<=vs.length:=length_filter_le _ _;have qag:eP (.slice (some ⟨g,0,none⟩) (dW ns vs).length cap) (dW ns vs):=⟨Nh,fun h=>by cases h⟩;have Oa:Turns F1 ((a,Is (aL (jd X (X.used-(cw ns vs:Nat)))))::(er (.slice (some ⟨g,0,none⟩) (dW ns vs).length cap) (dW ns vs)++(X.pm,Is (aU str (ps.map aR) pc))::(dM ps p++ck (.slice sl ns.length cap2) ns))) w w3:=H2.a.put2 Wi hh3 hg3 ⟨cap,cur'.toArray,rfl,rfl,Nat.le_trans hk3 HL.a,HL.b,by simpa using hl3,by simpa[dW]using ht3⟩;have H3:=Ob qag Oa
 have cbk:w3.cell? ⟨w.heap.size,0,none⟩=some (.pointer (some ⟨a,0,none⟩)):=by
  rw[<- c0];refine World.cell?_of_block (Wi.block _ (World.block_lt_of_cell? W _ c0) ?_);rintro(e|e)
  ·have e':w.heap.size=a:=e;omega
  ·have e':w.heap.size=g:=e;have:=HL.y;omega
 clear qag Oa Wi hh3 hg3 hl3 ht3 hk3 hla2 a0 c0;have hb3:=H3.z.sat;have a0:w3.cell? ⟨a,0,none⟩=some (.map (some X.pm)):=aa hb3.Q5 0 rfl;have c0:w3.cell? ⟨w.heap.size,0,none⟩=some (.pointer (some ⟨a,0,none⟩)):=cbk;by_cases hk:(dW ns vs).length=0
 ·have hk0:dW ns vs=[]:=length_eq_zero_iff.1 hk;have hki:(vs.filter (gP ns)).length=0:=hk;have HK:=NZ hk0;clear hk hk0
  have hdel:∀ty,(Builtin.delete_ #[119,9] ty #[.map (some X.pm),str p]).run prog w3=.ok (.tuple #[]) (setBlock w3 X.pm (aU str (yx (ps.map aR) p) pc)):=fun ty =>
   E1 dR underlying119 (hb3.Q7 (o:=aU str (ps.map aR) pc) Nh) HH.e.map HH.f
  have H4:=NZ ((H3.z.to (H:=(X.pm,Is (aU str (ps.map aR) pc))::((a,Is (aL (jd X (X.used-(cw ns vs:Nat)))))::(er (.slice (some ⟨g,0,none⟩) (dW ns vs).length cap) (dW ns vs)++(dM ps p++ck (.slice sl ns.length cap2) ns)))) ac).Qa (dq w3 X.pm (aU str (yx (ps.map aR) p) pc)) (ez (hb3.Q7 (o:=aU str (ps.map aR) pc) Nh)));clear hb3;go_wp2_with fail;refine bodyPost_ret (results_none rfl _ _ _) rfl ?_;refine⟨.slice none 0 0,rfl,?_,?_⟩
  ·rw[<- HH.q.a,HK.o];exact⟨rfl,fun _=>⟨rfl,rfl⟩⟩
  ·unfold kd;rw[<- HH.q.a,NR HK.o,<- HH.q.b];unfold aG;rw[mP];exact H4.o.drop (fun x=>by unfold dM;simp only[ao,af];omega)
 ·have hki:¬(vs.filter (gP ns)).length=0:=hk;have HK:=NZ hk;clear hk
  go_wp2_with (first
   | (refine ai rfl (lJ dR (.tmp 26) (.tmp 27) (.tmp 28) rfl underlying119 X.pm _ pc (H3.z.to (H:=(X.pm,Is (aU str (ps.map aR) pc))::((a,Is (aL (jd X (X.used-(cw ns vs:Nat)))))::(er (.slice (some ⟨g,0,none⟩) (dW ns vs).length cap) (dW ns vs)++(dM ps p++ck (.slice sl ns.length cap2) ns)))) ac) HH.e.map p (.slice (some ⟨g,0,none⟩) (dW ns vs).length cap) rfl rfl rfl HH.f ?_);intro w4 Oj;have H4:=NZ Oj;clear Oj;simp only[Act.put])
   | fail)
  refine bodyPost_end (results_none rfl _ _ _) rfl ?_;have hvs:=HH.q.a;have hne:ah ps p≠[]:=fun e=>HK.o (by rw[hvs,e];rfl)
  have hkn:¬dW ns (ah ps p)=[]:=fun e=>HK.o (by rw[hvs,e];rfl)
  obtain⟨q,hq,hqk,-⟩:=mt hne
  have hc:cy (ps.map aR) pc p=pc:=by
   unfold cy;rw[NR (iC.2 ⟨aR q,mem_map.2 ⟨q,hq,rfl⟩,hqk⟩)]
  refine⟨.slice (some ⟨g,0,none⟩) (dW ns vs).length cap,rfl,by rw[<- hvs];exact H3.a,?_⟩;have h4:=H4.o;rw[hc]at h4;unfold kd;rw[NQ hkn,<- hvs,<- HH.q.b];unfold aG;rw[iI];have hp:=uT ee ps pc p (.slice (some ⟨g,0,none⟩) (dW ns vs).length cap) (dW ns vs) (by rw[<- cQ];exact HH.e.map.nodup);have hkp:=Ge ns vs;have ho:dM ps p=gl ee (bM ps p)++vs.flatMap bN:=by unfold dM;rw[hvs]
  rw[ho]at h4;unfold ee at hp h4 ⊢;refine h4.drop (fun x=>?_);have h1:=t7 hp x;have h2:=t7 hkp x;simp only[ao,af]at h1 h2 ⊢;omega
end
end Go.Proofs.YtdhobpbngkainaaGreatDoor
