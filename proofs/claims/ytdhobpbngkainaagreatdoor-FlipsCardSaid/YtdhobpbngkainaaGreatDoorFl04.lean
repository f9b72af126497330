/- Ours. A part of the proof, made small by a program. -/
import Derived.Test.YtdhobpbngkainaaGreatDoorFl03
set_option maxRecDepth 100000
set_option maxHeartbeats 4000000
namespace Go.Proofs.YtdhobpbngkainaaGreatDoor
open List
section
open Go.RowKit
inductive RecR where
 | ver (p:Bs) (num size:Nat) (ats:List Int)
 | gone (p:Bs) (ns:List Int)
 | pin (k:UInt8) (p name:Bs) (num:Nat)
def uz:RecR->Value->Value
 | .ver p n s _,v=>.iface 173 (.agg #[.int .u8 2,str p,.int .i64 n,.int .i64 s,v])
 | .gone p _,v=>.iface 286 (.agg #[.int .u8 3,str p,v])
 | .pin k p m n,_=>.iface 233 (.agg #[.int .u8 k.toNat,str p,str m,.int .i64 n])
def mr:RecR->List Int
 | .ver _ _ _ a=>a
 | .gone _ a=>a
 | .pin _ _ _ _=>[]
def rN(s:Bs×Bool)(n:Nat):Bs×Bool:=(eR s.1 s.2 n,fa s.1 s.2 n)
def rT(s:Bs×Bool):Bs×Bool:=(lu s.1 s.2,kE s.1 s.2)
def fb(k:UInt8)(body:Bs):Option RecR :=
 let p:=gn body false
 let s1:=rT (body,false)
 if k=2 then
  let s2:=rN s1 4
  let s3:=rN s2 2
  if s3.2=false/\s3.1.length%4=0 then some (.ver p (db s1.1 s1.2 4) (db s2.1 s2.2 2) (iB s3.1))else none
 else if k=3 then
  if s1.2=false/\s1.1.length%4=0 then some (.gone p (iB s1.1))else none
 else if k=4\/k=5 then
  let s2:=rT s1
  let s3:=rN s2 4
  if s3.2=false/\s3.1=[]then some (.pin k p (gn s1.1 s1.2) (db s2.1 s2.2 4))else none
 else none
def RdT(A:World)(G:HF)(rb:Nat)(s:Bs×Bool)(W:World):Prop:=Turns [] (G++rbF rb) A W/\Rd W rb s.1 s.2
theorem RdT.is{A W:World}{G:HF}{rb:Nat}{s:Bs×Bool}(h:RdT A G rb s W):∃o,Turns [] (G++[(rb,Is o)]) A W/\W.heap[rb]?=some o:=by
 obtain⟨a,c,h1,-⟩:=h.2;exact⟨_,I0 (Mods.refl _ W) h.1 h1,h1⟩
theorem RdT.on{A W W':World}{G G':HF}{rb:Nat}{s:Bs×Bool}{o:Obj}(h:RdT A G rb s W)(hrb:rb=A.heap.size)(ho:W.heap[rb]?=some o)(hT:Turns [] (G'++[(rb,Is o)]) A W'):RdT A G' rb s W':=by
 refine⟨Dy hT,?_⟩;have ho':=hT.sat.Q7 (b:=rb) (o:=o) (by simp);obtain⟨a,cap,e1,e2,e3,e4⟩:=h.2;refine⟨a,cap,?_,e2,fun hp=>?_,e4⟩
 ·unfold sV at e1 ⊢;rw[ho',<- ho];exact e1
 ·obtain⟨g,off,ha,hc⟩:=e3 hp;have hg:g<rb:=e4 _ ha;refine⟨g,off,ha,fun j hj=>?_⟩;rw[<- hc j hj];exact World.cell?_of_block ((hT.mods.block g (by omega) (by simp)).trans (h.1.mods.block g (by omega) (by simp)).symm)
theorem RdT.alloc{A W:World}{G:HF}{rb:Nat}{s:Bs×Bool}(h:RdT A G rb s W)(hrb:rb=A.heap.size)(o:Obj):RdT A ((W.heap.size,Is o)::G) rb s (W.alloc o):=by
 obtain⟨o',h1,h2⟩:=h.is;exact h.on hrb h2 ((h1.Q8 o).to ae)
theorem RdT.call{A W W':World}{G:HF}{rb:Nat}{s s':Bs×Bool}(h:RdT A G rb s W)(hm:Mods (fun k=>k=rb) W W')(hR:Rd W' rb s'.1 s'.2):RdT A G rb s' W':=by
 obtain⟨a,c,h1,-⟩:=id hR;exact⟨Dy (I0 hm h.1 h1),hR⟩
theorem RdT.nums{A W W':World}{G H:HF}{rb:Nat}{s s':Bs×Bool}(h:RdT A G rb s W)(hT:Turns (rbF rb) (H++rbF rb) W W')(hR:Rd W' rb s'.1 s'.2):RdT A (H++G) rb s' W' :=
 ⟨(h.1.step (R:=G) (by unfold rbF;exact perm_append_comm) hT).to (by unfold rbF;exact ae),hR⟩
def j0(k:UInt8)(p:Bs):Obj:=.cells #[.int .u8 k.toNat,str p] 170 (0,0)
def EM:Obj:=.cells #[.int .u8 0,.string ⟨#[]⟩,.int .i64 0,.int .i64 0,.slice none 0 0] 173 (0,0)
def iH(p:Bs)(n m:Nat)(v:Value):Obj:=.cells #[.int .u8 2,str p,.int .i64 n,.int .i64 m,v] 173 (0,0)
theorem j7{rb:Nat}{s:Bs×Bool}{n:Nat}{w w':World}{e:Ending}(h:iR rb s.1 s.2 n w e w'):e=.returned (.int .i64 (db s.1 s.2 n))/\Rd w' rb (rN s n).1 (rN s n).2/\Mods (fun k=>k=rb) w w':=⟨h.1,h.2.1,h.2.2.1⟩
theorem DS{P:Program}{o:Oper}{a:Act}{w A:World}{K:Act->World->Prop}{Q:Exit->Act->World->Prop}{G:HF}{rb:Nat}{s:Bs×Bool}(O:Obj)(f:Nat->Value)(hr:(execOp a.eval o).run P w=.ok (.value (f w.heap.size)) (w.alloc O))(hT:RdT A G rb s w)(hrb:rb=A.heap.size)(hk:∀n w',RdT A ((n,Is O)::G) rb s w'->K (a.put o.dst (f n)) w'):o.wp P a w K Q:=m9 hr (hk _ _ (hT.alloc hrb O))
theorem fS{ops:Array Oper}{k:UInt8}{p:Bs}{hb rb:Nat}{A W:World}{G:HF}{s:Bs×Bool}{R:Act->Prop}{r:List Oper}{o:Oper}{a:Act}(h:RdT A G rb s W)(hm:(hb,Is (j0 k p))∈G)(hg:o.guard=none)(ho:o.op=.load 170 (.tmp 6))(hx:a.eval (.tmp 6)=.pointer (some ⟨hb,0,none⟩))(hk:wpStill Tryz.prog ops W R r (a.put o.dst (.agg #[.int .u8 k.toNat,str p]))):wpStill Tryz.prog ops W R (o::r) a :=
 iL 170 (.tmp 6) hg ho hb 0 hx [.int .u8 k.toNat,str p] _ (fun j v hv=>aa (h.1.sat.Q7 (mem_append_left _ hm)) (0+j) (by rw[Nat.zero_add,<- Array.getElem?_toList];exact hv)) Tryz.underlying170 rfl (by kernel_rfl) hk
theorem RdT.at{A W W':World}{G:HF}{rb:Nat}{s:Bs×Bool}(h:RdT A G rb s W)(hrb:rb=A.heap.size)(tW:∀{F G:HF} {b:World},Turns F G b W->Turns F G b W'):RdT A G rb s W':=by
 obtain⟨o,h1,h2⟩:=h.is;exact h.on hrb h2 (tW h1)
theorem LY(A:World)(hb:Nat)(p:Bs)(rb:Nat)(s1:Bs×Bool)(hrb:rb=A.heap.size){Q:Exit->Act->World->Prop}{w:World}{u1 u2 u3 u4 u7 u8 u9 aS aT ab ad ag aj ar av ax a0 a1 a2 a3 a4 a5 a6 a7 a8 a9 bY ba bc bg bj bl bo bs bv bx b0 b1 b2 b3 b4 b6 b7 b9 cb cc cg ch ci cj cl cm cp cs ct cu cv:Value}{ds:List Deferred}(hT:RdT A [(hb,Is (j0 2 p))] rb s1 w)(hl:s1.1.length<=70000)(hk:∀(c:Nat) (cx c0 c1 c2 c3 c4:Value) (w':World),RdT A [(c,Is (iH p (db s1.1 s1.2 4) (db (rN s1 4).1 (rN s1 4).2 2) (.slice none 0 0))),(hb,Is (j0 2 p))] rb (rN (rN s1 4) 2) w'->Q .normal { tmps:=#[.int .u8 2,u1,u2,u3,u4,.pointer (some ⟨rb,0,none⟩),.pointer (some ⟨hb,0,none⟩),u7,.pointer (some ⟨c,0,none⟩),u9,aS,aT,ab,ad,ag,aj,ar,av,ax,cx,c0,c1,c2,c3,c4,a6,a7,a8,a9,bY,ba,bc,bg,bj,bl,bo,bs,bv,bx,b0,b1,b2,b3,b4,b6,b7,b9,cb,cc,cg,ch,ci,cj,cl,cm,cp,cs,ct,cu,cv],defers:=ds } w'):
  (I4 6 Tryz.f101).wp Tryz.prog Q { tmps:=#[.int .u8 2,u1,u2,u3,u4,.pointer (some ⟨rb,0,none⟩),.pointer (some ⟨hb,0,none⟩),u7,u8,u9,aS,aT,ab,ad,ag,aj,ar,av,ax,a0,a1,a2,a3,a4,a5,a6,a7,a8,a9,bY,ba,bc,bg,bj,bl,bo,bs,bv,bx,b0,b1,b2,b3,b4,b6,b7,b9,cb,cc,cg,ch,ci,cj,cl,cm,cp,cs,ct,cu,cv],defers:=ds } w:=by
 have hl2:(rN s1 4).1.length<=70000:=Nat.le_trans (gk _ _ _) hl;obtain⟨s2,hs2⟩:∃s2,s2=rN s1 4:=⟨_,rfl⟩;obtain⟨s3,hs3⟩:∃s3,s3=rN s2 2:=⟨_,rfl⟩;obtain⟨n,hn⟩:∃n,n=db s1.1 s1.2 4:=⟨_,rfl⟩;obtain⟨m,hm⟩:∃m,m=db s2.1 s2.2 2:=⟨_,rfl⟩;rw[<- hs2]at hk hl2;rw[<- hs3,<- hn,<- hm]at hk;conv=>arg 2;whnf
 refine yO [0,1,3] (.two 2 [0,3] [] (.two 4 [0] [5] (.one 6 [0,1,3,5] [] (.one 7 [] [] .fin)) 6 [0,1,3] [] (.one 4 [0] [5] (.one 7 [] [] .fin))) 6 [0,1,3] [] (.one 2 [0,3] [] (.one 4 [0] [5] (.one 7 [] [] .fin)))) HM.out (by kernel_rfl) fun W tW=>?_
 simp only[sP,map_cons,map_nil,nth,QG,QF];have k0:=hT.at hrb tW;have HRB:=qqH hrb;clear tW hrb
 have n4:∀(W:World) (G:HF),RdT A G rb s1 W->Calls Tryz.prog 139 #[.pointer (some ⟨rb,0,none⟩),.int .i64 4] W (fun e w'=>e=.returned (.int .i64 n)/\RdT A G rb s2 w'):=fun W G h=>(dd rb s1.1 s1.2 4 _ h.2 (by omega) (by omega)).mono fun e w' hp=>by
  obtain⟨rfl,hR,hM⟩:=j7 hp;exact⟨by rw[hn],by rw[hs2];exact h.call hM hR⟩
 have n2:∀(W:World) (G:HF),RdT A G rb s2 W->Calls Tryz.prog 139 #[.pointer (some ⟨rb,0,none⟩),.int .i64 2] W (fun e w'=>e=.returned (.int .i64 m)/\RdT A G rb s3 w'):=fun W G h=>(dd rb s2.1 s2.2 2 _ h.2 (by omega) (by omega)).mono fun e w' hp=>by
  obtain⟨rfl,hR,hM⟩:=j7 hp;exact⟨by rw[hm],by rw[hs3];exact h.call hM hR⟩
 have N4:=qqH n4;have N2:=qqH n2;clear n4 n2 hs2 hs3 hn hm;refine fS (k:=2) (p:=p) k0 (by simp) rfl rfl rfl ?_;simp only[Act.put,QA,QB,QC];repeat still_step
 refine wpStill_nil ⟨bw (by kernel_rfl) (N4.out _ _ k0) ?A,DS EM (fun c=>.pointer (some ⟨c,0,none⟩)) (by kernel_rfl) k0 HRB.out fun c W1 k1=>⟨fS (k:=2) (p:=p) k1 (by simp) rfl rfl rfl (by(simp only[Act.put,QA,QB,QC];(repeat still_step);exact rfl)),wpStill_nil (bw (by kernel_rfl) (N4.out _ _ k1) ?B)⟩⟩
 case' A =>
  rintro e W1 ⟨rfl,k1⟩;refine⟨_,rfl,fS (k:=2) (p:=p) k1 (by simp) rfl rfl rfl (by(simp only[Act.put,QA,QB,QC];(repeat still_step);exact rfl)),wpStill_nil ⟨bw (by kernel_rfl) (N2.out _ _ k1) ?A1,DS EM (fun c=>.pointer (some ⟨c,0,none⟩)) (by kernel_rfl) k1 HRB.out fun c W2 k2=>⟨fS (k:=2) (p:=p) k2 (by simp) rfl rfl rfl (by(simp only[Act.put,QA,QB,QC];(repeat still_step);exact rfl)),wpStill_nil (bw (by kernel_rfl) (N2.out _ _ k2) ?A2)⟩⟩⟩
 case' B =>
  rintro e W2 ⟨rfl,k2⟩;refine⟨_,rfl,fS (k:=2) (p:=p) k2 (by simp) rfl rfl rfl (by(simp only[Act.put,QA,QB,QC];(repeat still_step);exact rfl)),wpStill_nil (bw (by kernel_rfl) (N2.out _ _ k2) ?B2)⟩
 case' A1 =>
  rintro e W2 ⟨rfl,k2⟩;refine⟨_,rfl,fS (k:=2) (p:=p) k2 (by simp) rfl rfl rfl rfl,?_⟩;simp only[Act.put,QA,QB,QC];repeat still_step
  refine wpStill_nil (DS EM (fun c=>.pointer (some ⟨c,0,none⟩)) (by kernel_rfl) k2 HRB.out fun c W3 k3=>⟨fS (k:=2) (p:=p) k3 (by simp) rfl rfl rfl (by(simp only[Act.put,QA,QB,QC];(repeat still_step);exact rfl)),?_⟩)
 case' A2 =>
  rintro e W3 ⟨rfl,k3⟩;refine⟨_,rfl,fS (k:=2) (p:=p) k3 (by simp) rfl rfl rfl rfl,?_⟩;simp only[Act.put,QA,QB,QC];repeat still_step
 case' B =>
  rintro e W3 ⟨rfl,k3⟩;refine⟨_,rfl,fS (k:=2) (p:=p) k3 (by simp) rfl rfl rfl rfl,?_⟩;simp only[Act.put,QA,QB,QC];repeat still_step
 all_goals
  obtain⟨o',h8,h9⟩:=k3.is;refine wpStill_nil (qq 173 (.tmp 8) (.tmp 24) rfl c #[.int .u8 0,.string ⟨#[]⟩,.int .i64 0,.int .i64 0,.slice none 0 0] #[.int .u8 2,str p,.int .i64 n,.int .i64 m,.slice none 0 0] 173 (h8.to (H:=(c,Is (.cells #[.int .u8 0,.string ⟨#[]⟩,.int .i64 0,.int .i64 0,.slice none 0 0] 173 (0,0)))::[(hb,Is (j0 2 p)),(rb,Is o')]) (by unfold EM;exact ae)) rfl rfl rfl (by kernel_rfl) (by simp[Value.oneCell',str]) fun w3 h10=>⟨rfl,wpStill_nil ?_⟩);simp only[Act.put,QA,QB,QC];exact hk c _ _ _ _ _ _ w3 (k3.on HRB.out h9 (h10.to (by unfold iH;exact ae)))
theorem yw(body:Bs):fb 2 body=if(rN (rN (rT (body,false)) 4) 2).2=false/\(rN (rN (rT (body,false)) 4) 2).1.length%4=0 then some (.ver (gn body false) (db (rT (body,false)).1 (rT (body,false)).2 4) (db (rN (rT (body,false)) 4).1 (rN (rT (body,false)) 4).2 2) (iB (rN (rN (rT (body,false)) 4) 2).1))else none:=by
 unfold fb;rw[if_pos rfl]
def cM(k:UInt8)(body:Bs)(w:World)(e:Ending)(w':World):Prop :=
 match fb k body with
 | none=>e=.returned .nilIface/\aX w w'
 | some r=>∃v,e=.returned (uz r v)/\iOk v (mr r)/\Turns [] (cA v (mr r)) w w'
theorem ze(a:Option Addr)(cap:Nat)(body:Bs)(w:World)(h:al w a (body.map am))(hcap:body.length<=cap)(ha:∀x,a=some x->x.block<w.heap.size)(hl:body.length<=70000):
  Calls Tryz.prog 101 #[.int .u8 2,.slice a body.length cap] w (cM 2 body w):=by
 obtain⟨rb,hrb⟩:∃rb,rb=w.heap.size:=⟨_,rfl⟩
 have hR0:RdT w [] rb (body,false) (w.alloc (.cells #[.slice a body.length cap,.bool false] 282)):=by
  refine⟨?_,a,cap,?_,hcap,h.keep ((Mods.refl (fun _=>False) w).alloc _) (fun _ _ _=>id),fun x hx=>hrb ▸ ha x hx⟩
  ·rw[hrb];exact(Turns.refl (Sat.nil w)).Qd (φ:=fun _=>True) trivial
  ·unfold sV;rw[hrb];exact aK w _
 have HT:=qqH (mV rb body false _ hR0.2 (by omega));have H0:=Hq2 hR0 hrb;rw[hrb]at HT;clear h ha hcap hR0;go_enter Tryz.func101,Tryz.ntmps101;go_wp2_with fail;refine HT.out.mono ?_;rintro e w2 ⟨rfl,hR2,hm2⟩;rw[<- hrb]at hR2 hm2 ⊢;have hR3:RdT w [] rb (rT (body,false)) w2:=H0.a.call hm2 hR2;obtain⟨p,hp⟩:∃p,p=gn body false:=⟨_,rfl⟩;obtain⟨s1,hs1⟩:∃s1,s1=rT (body,false):=⟨_,rfl⟩;have hl1:s1.1.length<=70000:=by rw[hs1];exact Nat.le_trans (iG _ _) hl
 rw[<- hs1]at hR3;rw[<- hp];have H2:=Hq3 hR3 hp hs1;clear hR2 hm2 hR3 hp hs1 hrb;go_upto_region 6 with(fail);obtain⟨hb,hhb⟩:∃hb,hb=w2.heap.size:=⟨_,rfl⟩;rw[<- hhb];refine LY w hb p rb s1 H0.z ?_ hl1 ?_
 ·rw[hhb];exact H2.a.alloc H0.z (j0 2 p)
 intro c _ _ _ _ _ _ w3 hT3;obtain⟨n,hn⟩:∃n,n=db s1.1 s1.2 4:=⟨_,rfl⟩;obtain⟨m,hm⟩:∃m,m=db (rN s1 4).1 (rN s1 4).2 2:=⟨_,rfl⟩;obtain⟨s3,hs3⟩:∃s3,s3=rN (rN s1 4) 2:=⟨_,rfl⟩;rw[<- hn,<- hm,<- hs3]at hT3;have hl3:s3.1.length<=70000:=by rw[hs3];exact Nat.le_trans (Nat.le_trans (gk _ _ _) (gk _ _ _)) hl1
 have HN:=qqH (n9 rb s3.1 s3.2 w3 hT3.2 hl3);have H3:=Hq4 hT3 hn hm hs3;have hcl:c<w3.heap.size:=hT3.1.sat.lt (by simp);clear hT3 hn hm hs3 hhb;go_wp2_with fail;refine HN.out.mono ?_;rintro e w4 ⟨v,ns,l',b',rfl,hio,hT4,hR4,hres⟩;have hT5:RdT w (cA v ns++[(c,Is (iH p n m (.slice none 0 0))),(hb,Is (j0 2 p))]) rb (l',b') w4:=RdT.nums (s':=(l',b')) H3.a hT4 hR4;obtain⟨o',h8,h9⟩:=hT5.is;have hcl4:c<w4.heap.size:=hT5.1.sat.lt (by simp);have hv1:=dl hT5.1.sat.left.left hio;have H5:=Hq6 hT5 hio trivial h8 h9 hv1;clear hT4 hR4 hio hT5 h8 h9 hv1;rcases hres with⟨hb',hs2,hl4,hl',hns⟩|⟨hb',hbad,-⟩
 ·subst hb';subst hl';have HX:=Hq3 hs2 hl4 hns;clear hs2 hl4 hns;go_wp2_with (first|(refine ai rfl (bu 171 (.tmp 27) (.tmp 26) rfl c 4 #[.int .u8 2,str p,.int .i64 n,.int .i64 m,.slice none 0 0] 173 v (H5.d.to (H:=(c,Is (.cells #[.int .u8 2,str p,.int .i64 n,.int .i64 m,.slice none 0 0] 173 (0,0)))::(cA v ns++[(hb,Is (j0 2 p)),(rb,Is o')])) (by unfold iH;exact ae)) rfl rfl (by simp) (by kernel_rfl) H5.f H5.g ?_);intro w5 hT6;have hR6:=RdT.on H5.a H0.z H5.e (G':=(c,Is (iH p n m v))::(cA v ns++[(hb,Is (j0 2 p))])) ((show Turns [] ((c,Is (iH p n m v))::(cA v ns++[(hb,Is (j0 2 p)),(rb,Is o')])) w w5 from hT6).to ae);have hb6:=hR6.1.sat.Q5;have d0:=aa (v:=.int .u8 2) hb6 0 rfl;have d1:=aa (v:=str p) hb6 1 rfl;have d2:=aa (v:=.int .i64 n) hb6 2 rfl;have d3:=aa (v:=.int .i64 m) hb6 3 rfl;have d4:=aa (v:=v) hb6 4 rfl;have hcl6:=ac hb6;obtain⟨ra,rc,hra,-,-,-⟩:=id hR6.2;have f0:=aa hra 0 rfl;have f1:=aa hra 1 rfl;have hrl6:=ac hra;have H6:=qqH hR6;clear hT6 hR6 hb6 hra;simp only[Act.put])|fail)
  have hrd:fb 2 body=some (.ver p n m ns):=by
   rw[yw,<- H2.y,<- H2.b,<- H3.b,<- H3.c,<- H3.x,if_pos ⟨HX.a,HX.b⟩,HX.y]
  have hfin:cM 2 body w (.returned (.iface 173 (.agg #[.int .u8 2,str p,.int .i64 n,.int .i64 m,v]))) w5:=by
   unfold cM;rw[hrd];exact⟨v,rfl,H5.b,H6.a.drop (fun x=>by show cnt x (cA v ns)<=_;simp only[ao,ah];omega)⟩
  go_ret;exact (by exact hfin)
 ·subst hb';have HX:=qqH hbad;clear hbad;go_wp2_with (first|(refine ai rfl (bu 171 (.tmp 27) (.tmp 26) rfl c 4 #[.int .u8 2,str p,.int .i64 n,.int .i64 m,.slice none 0 0] 173 v (H5.d.to (H:=(c,Is (.cells #[.int .u8 2,str p,.int .i64 n,.int .i64 m,.slice none 0 0] 173 (0,0)))::(cA v ns++[(hb,Is (j0 2 p)),(rb,Is o')])) (by unfold iH;exact ae)) rfl rfl (by simp) (by kernel_rfl) H5.f H5.g ?_);intro w5 hT6;have hR6:=RdT.on H5.a H0.z H5.e (G':=(c,Is (iH p n m v))::(cA v ns++[(hb,Is (j0 2 p))])) ((show Turns [] ((c,Is (iH p n m v))::(cA v ns++[(hb,Is (j0 2 p)),(rb,Is o')])) w w5 from hT6).to ae);have hb6:=hR6.1.sat.Q5;have d0:=aa (v:=.int .u8 2) hb6 0 rfl;have d1:=aa (v:=str p) hb6 1 rfl;have d2:=aa (v:=.int .i64 n) hb6 2 rfl;have d3:=aa (v:=.int .i64 m) hb6 3 rfl;have d4:=aa (v:=v) hb6 4 rfl;have hcl6:=ac hb6;obtain⟨ra,rc,hra,-,-,-⟩:=id hR6.2;have f0:=aa hra 0 rfl;have f1:=aa hra 1 rfl;have hrl6:=ac hra;have H6:=qqH hR6;clear hT6 hR6 hb6 hra;simp only[Act.put])|fail)
  have hrd:fb 2 body=none:=by
   rw[yw,<- H2.y,<- H3.x,if_neg];rintro⟨h1,h2⟩;rcases HX.out with h|h
   ·rw[h1]at h;cases h
   ·exact h h2
  have hfin:cM 2 body w (.returned .nilIface) w5:=by
   unfold cM;rw[hrd];exact⟨rfl,H6.a.news⟩
  go_ret;exact (by exact hfin)
end
section
def Ae(c:Int):Int :=
 bits BinOp.xor IntKind.u32
  (bits BinOp.xor IntKind.u32 ((c+1)*2654435769%4294967296) ((c+1)*2654435769%4294967296 / 65536)*2246822507%4294967296)
  (bits BinOp.xor IntKind.u32 ((c+1)*2654435769%4294967296) ((c+1)*2654435769%4294967296 / 65536)*2246822507%4294967296 / 8192)
def fu(h c:Int):Int:=(h*2+Ae c)%4294967296
def eV(h:Int)(n:Nat):Bool :=
 if 256<=n then true
 else if 64<=n then !(bits BinOp.and IntKind.u32 h 15 != 0)
 else if 16<=n then !(bits BinOp.and IntKind.u32 h 255 != 0)
 else false
theorem tM{h:Int}{n:Nat}(h1:256<=n):eV h n=true:=by unfold eV;rw[if_pos h1]
theorem Eg{h:Int}{n:Nat}{v:Bool}(h1:n<256)(h2:64<=n)(hv:(bits BinOp.and IntKind.u32 h 15 != 0)=v):eV h n = !v:=by
 unfold eV;rw[if_neg (by omega),if_pos h2,hv]
theorem Ef{h:Int}{n:Nat}{v:Bool}(h1:n<64)(h2:16<=n)(hv:(bits BinOp.and IntKind.u32 h 255 != 0)=v):eV h n = !v:=by
 unfold eV;rw[if_neg (by omega),if_neg (by omega),if_pos h2,hv]
theorem Ik{h:Int}{n:Nat}(h1:n<16):eV h n=false:=by unfold eV;rw[if_neg (by omega),if_neg (by omega),if_neg (by omega)]
def tV:Array Value:=((range 256).map fun k:Nat=>Value.int .u32 (Ae k)).toArray
def qE(h:Int)(n:Nat):Array Value:=tV++#[.int .u32 h,.int .i64 n]
def jD(k:Nat):Array Value:=((range k).map (fun k:Nat=>Value.int .u32 (Ae k))++(replicate (256-k) (Value.int .u32 0)++[Value.int .u32 0,Value.int .i64 0])).toArray
theorem jm:tV.size=256:=by simp[tV]
theorem Lg(h:Int)(n:Nat):(qE h n)[256]?=some (.int .u32 h):=by
 simp[qE,jm]
theorem Lh(h:Int)(n:Nat):(qE h n)[257]?=some (.int .i64 n):=by
 simp[qE,jm]
theorem Lf(h:Int)(n c:Nat)(hc:c<256):(qE h n)[c]?=some (.int .u32 (Ae c)):=by
 rw[qE,Array.getElem?_append,if_pos (by rw[jm];exact hc)];simp[tV,hc]
theorem Gm(g:Array Value)(a b a':Value)(k:Nat)(hk:g.size=k):(g++#[a,b]).setIfInBounds k a'=g++#[a',b]:=by
 subst hk;rw[Array.setIfInBounds_append_right (Nat.le_refl _)];simp
theorem DF(g:Array Value)(a b b':Value)(k:Nat)(hk:g.size+1=k):(g++#[a,b]).setIfInBounds k b'=g++#[a,b']:=by
 subst hk;rw[Array.setIfInBounds_append_right (by omega)];simp
theorem CG(h h':Int)(n:Nat):(qE h n).setIfInBounds 256 (.int .u32 h')=qE h' n:=Gm _ _ _ _ _ jm
theorem CH(h:Int)(n n':Nat)(v:Value)(hv:v=.int .i64 n'):(qE h n).setIfInBounds 257 v=qE h n':=by
 subst hv;exact DF _ _ _ _ _ (by rw[jm])
theorem xZ:jD 256=qE 0 0:=by
 simp[jD,qE,tV]
theorem Ag(k:Nat)(hk:k<256):(jD k).setIfInBounds k (.int .u32 (Ae k))=jD (k+1):=by
 apply Array.ext';simp only[jD,Array.toList_setIfInBounds];rw[set_append,if_neg (by simp)];obtain⟨m,hm⟩:∃m,256-k=m+1:=⟨256-k-1,by omega⟩;have hm':256-(k+1)=m:=by omega
 rw[hm,hm'];simp[range_succ,replicate_succ]
theorem Af(k:Nat)(hk:k<256):(jD k)[k]?=some (.int .u32 0):=by
 simp only[jD,getElem?_toArray];rw[getElem?_append_right (by simp)];obtain⟨m,hm⟩:∃m,256-k=m+1:=⟨256-k-1,by omega⟩;rw[hm];simp[replicate_succ]
theorem Fh(x:Int):(bits BinOp.and IntKind.u32 x 0 != 0)=false:=by
 have h:bits BinOp.and IntKind.u32 x 0=0:=by
  show IntKind.u32.wrap ((BitVec.ofInt 32 x &&& BitVec.ofInt 32 0).toNat:Int)=0;rw[show BitVec.ofInt 32 0=0#32 from rfl,BitVec.and_zero];rfl
 simp[h]
def dh:Int->Nat->List UInt8->List Nat
 | _,_,[]=>[]
 | h,n,c::cs=>if eV (fu h c.toNat) (n+1) || cs.isEmpty then(n+1)::dh 0 0 cs else dh (fu h c.toNat) (n+1) cs
def aL(data:List UInt8):List Nat:=dh 0 0 data
theorem wn(h:Int)(n:Nat)(c:UInt8)(cs:List UInt8)(e:eV (fu h c.toNat) (n+1)=true):dh h n (c::cs)=(n+1)::dh 0 0 cs:=by
 rw[dh];simp[e]
theorem tI(h:Int)(n:Nat)(c:UInt8):dh h n [c]=[n+1]:=by rw[dh];simp[dh]
theorem zQ(h:Int)(n:Nat)(c:UInt8)(cs:List UInt8)(e:eV (fu h c.toNat) (n+1)=false)(hcs:cs≠[]):dh h n (c::cs)=dh (fu h c.toNat) (n+1) cs:=by
 rw[dh];simp[e,hcs]
theorem sj(l:List UInt8):∀h n,(dh h n l).length<=l.length:=by
 induction l with
 | nil=>intro h n;simp[dh]
 | cons c cs ih =>
  intro h n;rw[dh];split
  ·have:=ih 0 0;simp;omega
  ·have:=ih (fu h c.toNat) (n+1);simp;omega
theorem Fs(l:List UInt8):∀h n,l≠[]->(dh h n l).sum=l.length+n:=by
 induction l with
 | nil=>intro h n hl;exact absurd rfl hl
 | cons c cs ih =>
  intro h n _;rw[dh];split
  ·by_cases hc:cs=[]
   ·subst hc;simp[dh];omega
   ·have:=ih 0 0 hc;simp;omega
  ·rename_i hn;have hc:cs≠[]:=by intro hc;subst hc;simp at hn
   have:=ih (fu h c.toNat) (n+1) hc;simp;omega
theorem iW(l:List UInt8):(aL l).sum=l.length:=by
 by_cases h:l=[]
 ·subst h;simp[aL,dh]
 ·have:=Fs l 0 0 h;simpa[aL]using this
theorem cZ(l:List UInt8):(aL l).length<=l.length:=sj l 0 0
def eN(w:World)(d off:Nat)(l:List UInt8):Prop:=∀j (h:j<l.length),w.cell? ⟨d,off+j,none⟩=some (.int .u8 ((l[j]'h).toNat:Nat))
theorem eN.keep{S:Nat->Prop}{w w':World}{d off:Nat}{l:List UInt8}(h:eN w d off l)(hm:Mods S w w')(hS:¬S d):eN w' d off l:=fun j hj=>by
 have hc:=h j hj
 have hlt:=World.block_lt_of_cell? w _ hc
 exact(World.cell?_of_block (w:=w) (hm.block d hlt hS)).trans hc
end
section
open Go.RowKit Go.Maps
def aB(D:Bs):List Bs:=cX (aL D) D
def eM(l:List VerL):Nat:=(l.getLast?.map (·.num)).getD 0
def bF(S:AS)(D:Bs):List Bs:=cn (S.K.map (·.1)) [] (aB D)
def dX(l:List Bs):Bs:=(l.map (frame 1)).flatten
structure PutStep (S S':AS) (l D:Bs) (V:VerL):Prop where
 a:S'.a=S.a
 quota:S'.X.quota=S.X.quota
 closed:S'.X.closed=S.X.closed
 ep:S'.X.ep=S.X.ep
 d:S'.X.d=S.X.d
 n:S'.L.n=S.L.n
 sc:S'.X.sc=S.X.sc+(bF S D).length
 sb:S'.X.sb=S.X.sb+((bF S D).map length).sum
 used:S'.X.used=S.X.used+D.length
 K:S'.K=S.K++ck S.data.length (bF S D)
 ts:S'.ts=S.ts
 vers:∀m,af S'.ps m=if m=l then af S.ps l++[V]else af S.ps m
 num:V.num=eM (af S.ps l)+1
 size:V.size=D.length
 held:V.held=0
 nchs:V.chs.length=(aB D).length
 chs:∀e∈(aB D).zip V.chs,e∈S'.K
 data:S'.data=S.data++dX (bF S D)++frame 2 (eC l V.num V.size (bt V.chs))
 other:∀f2 c2,(f2+c2<=S.A.first\/S.A.first+S.A.count<=f2)->au S'.L.now f2 c2=au S.L.now f2 c2
def xF(S:AS)(D:Bs)(b:Nat)(S':AS):Prop:=∀b',b+(bF S D).length+2<=b'->(aB D).length<=b'->ArB S' b'
def xG(S:AS)(l D:Bs)(b:Nat)(w:World)(e:Ending)(w':World):Prop :=
 (∃n,e=.returned (.tuple #[.int .i64 0,cO n])/\Turns (arF S) (arF S) w w' /\
  (
   (S.X.closed=true/\n=9)\/(S.X.closed=false/\aw l=false/\n=1)\/(S.X.closed=false/\aw l=true/\4000<D.length/\n=2) \/
   (S.X.closed=false/\aw l=true/\D.length<=4000/\S.X.quota<S.X.used+D.length/\n=7))) \/
 (S.X.closed=false/\aw l=true/\D.length<=4000/\S.X.used+D.length<=S.X.quota /\
  (
   (∃sp chs,e=.returned (.tuple #[.int .i64 0,cO 8])/\AreaOk { S.A with spare:=sp }/\Turns (arF S) (arF { S with A:={ S.A with spare:=sp } }) w w' /\
     128*S.A.count<S.data.length+(dX (bF S D)).length+(frame 2 (eC l (eM (af S.ps l)+1) D.length (bt chs))).length/\chs.length=(aB D).length) \/
   (∃S' V,e=.returned (.tuple #[.int .i64 (eM (af S.ps l)+1),.nilIface])/\PutStep S S' l D V/\ArOk S'/\xF S D b S'/\Turns (arF S) (arF S') w w')))
end
section
open Go.RowKit
def dz(w:World)(b:Nat)(h:Int)(n:Nat):Prop:=w.heap[b]?=some (.cells (qE h n) 296 (0,0))
def Mm:Array Value:=jD 0
theorem KD(w:World):(zeroValue 296).run Tryz.prog w=.ok (.agg Mm) w:=by kernel_rfl
def vi(w:World)(e:Ending)(w':World):Prop :=
 e=.returned (.pointer (some ⟨w.heap.size,0,none⟩))/\dz w' w.heap.size 0 0/\aX w w'
theorem si(w:World):Calls Tryz.prog 124 #[] w (vi w):=by
 have hz:=KD;go_enter Tryz.func124,Tryz.ntmps124;go_wp2;clear hz
 go_loopw [6] (fun i wr=>∃k:Nat,k<=256/\i=.int .i64 k/\wr.heap[w.heap.size]?=some (.cells (jD k) 296 (0,0))/\aX w wr)
  (fun i _=>256-(intOf i).toNat)
 case atStart=>exact⟨0,by omega,rfl,aK w _,(Mods.refl _ _).alloc _⟩
 case round =>
  obtain⟨k,hk,rfl,hcs,hs⟩:=hrel;by_cases hlt:k<256
  ·have hc:=aa hcs k (Af k hlt);have hf:=bf hcs k;have HC:=qqH hcs;clear hcs;go_wp2;go_roundw
   case rel =>
    refine⟨k+1,by omega,by go_num,?_,hs.setCell (.inr (Nat.le_refl _)) _⟩;rw[bB HC.out];exact congrArg some (congrArg (fun c=>Obj.cells c _ _) (Ag k hlt))
   case measure=>simp[intOf];omega
  ·obtain rfl:k=256:=by omega
   have HC:=qqH hcs;clear hcs;go_wp2;go_ret;exact⟨rfl,by unfold dz;rw[HC.out,xZ],hs⟩
def sM(w:World)(b:Nat)(h:Int)(n:Nat)(e:Ending)(w':World):Prop :=
 e=.returned (.bool (eV h n))/\dz w' b (if eV h n then 0 else h) (if eV h n then 0 else n)/\Mods (·=b) w w'/\w'.heap.size=w.heap.size
theorem fi{w:World}{b:Nat}{h:Int}{n:Nat}(hC:dz w b h n)(h' m:Int)(hm:m=h'):dz (w.setCell ⟨b,256,none⟩ (.int .u32 m)) b h' n :=
 (bB hC 256 _).trans (by rw[hm,CG])
theorem fj{w:World}{b:Nat}{h:Int}{n:Nat}(hC:dz w b h n)(n':Nat)(m:Int)(hm:m=n'):dz (w.setCell ⟨b,257,none⟩ (.int .i64 m)) b h n' :=
 (bB hC 257 _).trans (by rw[CH h n n' _ (by rw[hm])])
theorem fH{w:World}{b:Nat}{h:Int}{n:Nat}(hC:dz w b h n):dz w.drew b h n:=hC
theorem lI{w w':World}{b:Nat}{h:Int}{n:Nat}(e:eV h n=true)(hC:dz w' b 0 0)(hM:Mods (·=b) w w')(hz:w'.heap.size=w.heap.size):
  sM w b h n (.returned (.bool true)) w':=by
 refine⟨by rw[e],?_,hM,hz⟩;rw[e];exact hC
theorem mI{w w':World}{b:Nat}{h:Int}{n:Nat}(e:eV h n=false)(hC:dz w' b h n)(hM:Mods (·=b) w w')(hz:w'.heap.size=w.heap.size):
  sM w b h n (.returned (.bool false)) w':=by
 refine⟨by rw[e],?_,hM,hz⟩;rw[e];exact hC
theorem sN(w:World)(b:Nat)(h:Int)(n c:Nat)(hc:c<256)(hn:n<256)(hC:dz w b h n):
  Calls Tryz.prog 125 #[.pointer (some ⟨b,0,none⟩),.int .u8 c] w (sM w b (fu h c) (n+1)):=by
 have h1:=aa hC c (Lf h n c hc);have h2:=aa hC 256 (Lg h n);have h3:=aa hC 257 (Lh h n);have f2:=bf hC 256;have f3:=bf hC 257;have HC:=qqH hC;clear hC;have b0:=Fh;go_enter Tryz.func125,Tryz.ntmps125;go_wp2;go_region;all_goals go_wp2
 all_goals go_ret
 ·refine lI (tM (by omega)) ?_ ?_ ?_
  ·exact fH (fj (fi (fj (fi HC.out (fu h c) _ rfl) (n+1) _ rfl) 0 0 rfl) 0 0 rfl)
  ·repeat (first|exact Mods.refl _ _|refine Mods.drew ?_|refine Mods.set1 ?_ _)
  ·simp[World.drew]
 ·refine mI (Eg (v:=true) (by omega) (by omega) (by assumption)) ?_ ?_ ?_
  ·exact fH (fj (fi HC.out (fu h c) _ rfl) (n+1) _ rfl)
  ·repeat (first|exact Mods.refl _ _|refine Mods.drew ?_|refine Mods.set1 ?_ _)
  ·simp[World.drew]
 ·refine lI (Eg (v:=false) (by omega) (by omega) (by assumption)) ?_ ?_ ?_
  ·exact fH (fj (fi (fj (fi HC.out (fu h c) _ rfl) (n+1) _ rfl) 0 0 rfl) 0 0 rfl)
  ·repeat (first|exact Mods.refl _ _|refine Mods.drew ?_|refine Mods.set1 ?_ _)
  ·simp[World.drew]
 ·refine mI (Ef (v:=true) (by omega) (by omega) (by assumption)) ?_ ?_ ?_
  ·exact fH (fj (fi HC.out (fu h c) _ rfl) (n+1) _ rfl)
  ·repeat (first|exact Mods.refl _ _|refine Mods.drew ?_|refine Mods.set1 ?_ _)
  ·simp[World.drew]
 ·refine lI (Ef (v:=false) (by omega) (by omega) (by assumption)) ?_ ?_ ?_
  ·exact fH (fj (fi (fj (fi HC.out (fu h c) _ rfl) (n+1) _ rfl) 0 0 rfl) 0 0 rfl)
  ·repeat (first|exact Mods.refl _ _|refine Mods.drew ?_|refine Mods.set1 ?_ _)
  ·simp[World.drew]
 ·refine mI (Ik (by omega)) ?_ ?_ ?_
  ·exact fH (fj (fi HC.out (fu h c) _ rfl) (n+1) _ rfl)
  ·repeat (first|exact Mods.refl _ _|refine Mods.drew ?_|refine Mods.set1 ?_ _)
  ·simp[World.drew]
end
section
open Go.RowKit Go.Shelf
attribute [local go_sem] Oper.semAt_some
abbrev FW:Fence:=Fence.wide
def nl(J Jx:Nat->(Nat->Prop)->World->Prop)(i:Nat)(S:Nat->Prop)(A:World)(e:Ending)(B:World):Prop :=
 (e=.returned (.bool true)/\∃S',J (i+1) S' B/\Mods S A B/\∀k,S' k->k<B.heap.size/\(S k\/A.heap.size<=k)) \/
 (e=.returned (.bool false)/\∃S',Jx i S' B/\Mods S A B/\∀k,S' k->k<B.heap.size/\(S k\/A.heap.size<=k))
def pw(J Jx:Nat->(Nat->Prop)->World->Prop)(N:Nat)(S:Nat->Prop)(W:World)(e:Ending)(B:World):Prop :=
 (∃v,e=.returned v)/\∃S',(J N S' B\/∃i,i<N/\Jx i S' B)/\Mods S W B/\∀k,S' k->k<B.heap.size/\(S k\/W.heap.size<=k)
def xB(J:Nat->(Nat->Prop)->World->Prop)(data:List UInt8)(S0:Nat->Prop)(W:World)(c box d:Nat)(k:Nat)(i frm:Nat)(wr:World):Prop :=
 ∃S,J i S wr/\¬S c/\¬S box/\¬S d/\(∀q,S q->q<wr.heap.size/\(S0 q\/W.heap.size<=q))/\Mods S0 W wr/\c<wr.heap.size /\
  i<=(aL data).length/\(k=data.length->i=(aL data).length) /\
  (k<data.length->∃h n,dz wr c h n/\n<256/\frm+n=k/\frm=((aL data).take i).sum/\(aL data).drop i=dh h n (data.drop k))
theorem sn{l:List Nat}{i a:Nat}{r:List Nat}(h:l.drop i=a::r):∃hi:i<l.length,l[i]=a/\l.drop (i+1)=r/\(l.take (i+1)).sum=(l.take i).sum+a:=by
 have hi:i<l.length:=by
  rcases Nat.lt_or_ge i l.length with h'|h'
  ·exact h'
  ·rw[drop_of_length_le h']at h;cases h
 have e:l[i]=a:=by
  have:=getElem?_drop (xs:=l) (i:=i) (j:=0);rw[h]at this;simp at this;exact(List.getElem?_eq_some_iff.1 this.symm).2
 refine⟨hi,e,?_,?_⟩
 ·rw[<- drop_drop,h];rfl
 ·rw[QH hi,sum_append,e];simp
theorem rE{data:List UInt8}{k i frm m:Nat}{h:Int}{x:UInt8}(hlt:k<data.length)(hx:x=data[k])(hfm:frm+m=k)(hfr:frm=((aL data).take i).sum)(hdr:(aL data).drop i=dh h m (data.drop k))(he:eV (fu h x.toNat) (m+1)=true\/k+1=data.length):
  ∃hi:i<(aL data).length,(aL data)[i]=k+1-frm/\(aL data).drop (i+1)=dh 0 0 (data.drop (k+1))/\k+1=((aL data).take (i+1)).sum:=by
 have hd:data.drop k=x::data.drop (k+1):=by rw[hx];exact drop_eq_getElem_cons hlt
 have h2:(aL data).drop i=(m+1)::dh 0 0 (data.drop (k+1)):=by
  rw[hdr,hd];rcases he with he|he
  ·exact wn _ _ _ _ he
  ·rw[drop_of_length_le (by omega)];rw[tI];rfl
 obtain⟨hi,h3,h4,h5⟩:=sn h2;exact⟨hi,by omega,h4,by omega⟩
section
variable {J Jx:Nat->(Nat->Prop)->World->Prop} {data:List UInt8} {S0 S:Nat->Prop} {W wr w2 w3:World} {c box d k i frm m:Nat} {h:Int} {x:UInt8}
theorem Fv(hlt:k<data.length)(hx:x=data[k])(hfm:frm+m=k)(hfr:frm=((aL data).take i).sum)(hdr:(aL data).drop i=dh h m (data.drop k))(he:eV (fu h x.toNat) (m+1)=true\/k+1=data.length)(hSc:¬S c)(hSb:¬S box)(hSd:¬S d)(hSu:∀q,S q->q<wr.heap.size/\(S0 q\/W.heap.size<=q))(hM:Mods S0 W wr)(hcW:W.heap.size<=c)(hcl:c<wr.heap.size)(hbW:box<W.heap.size)(hdl:d<W.heap.size)(hM2:Mods (·=c) wr w2)(hC2:k+1<data.length->dz w2 c 0 0){S':Nat->Prop}(hJ:J (i+1) S' w3)(hM3:Mods S w2 w3)(hS':∀q,S' q->q<w3.heap.size/\(S q\/w2.heap.size<=q)):
  xB J data S0 W c box d (k+1) (i+1) (k+1) w3:=by
 obtain⟨hi,h3,h4,h5⟩:=rE hlt hx hfm hfr hdr he;have z2:=hM2.size;have z3:=hM3.size;have z1:=hM.size;refine⟨S',hJ,?_,?_,?_,?_,?_,by omega,by omega,?_,?_⟩
 ·intro hc;rcases(hS' c hc).2 with h'|h'
  ·exact hSc h'
  ·omega
 ·intro hc;rcases(hS' box hc).2 with h'|h'
  ·exact hSb h'
  ·omega
 ·intro hc;rcases(hS' d hc).2 with h'|h'
  ·exact hSd h'
  ·omega
 ·intro q hq;refine⟨(hS' q hq).1,?_⟩;rcases(hS' q hq).2 with h'|h'
  ·exact(hSu q h').2
  ·omega
 ·refine(hM.trans' hM2 (fun q hq=>?_)).trans' hM3 (fun q hq=>(hSu q hq).2);subst hq;exact .inr hcW
 ·intro hk;rw[show data.drop (k+1)=[]from drop_of_length_le (by omega)]at h4;simp only[dh]at h4;have:=drop_eq_nil_iff.1 h4;omega
 ·intro hk;exact⟨0,0,hM3.at (hC2 hk) hSc,by omega,by omega,h5,h4⟩
theorem Fw(hlt:k+1<data.length)(hx:x=data[k])(hfm:frm+m=k)(hfr:frm=((aL data).take i).sum)(hi:i<=(aL data).length)(hdr:(aL data).drop i=dh h m (data.drop k))(he:eV (fu h x.toNat) (m+1)=false)(hJ:J i S wr)(hfrm:∀i S A B,J i S A->(∀k,S k->k<A.heap.size)->Mods (fun k=>¬S k) A B->J i S B)(hSc:¬S c)(hSb:¬S box)(hSd:¬S d)(hSu:∀q,S q->q<wr.heap.size/\(S0 q\/W.heap.size<=q))(hM:Mods S0 W wr)(hcW:W.heap.size<=c)(hcl:c<wr.heap.size)(hM2:Mods (·=c) wr w2)(hC2:dz w2 c (fu h x.toNat) (m+1)):
  xB J data S0 W c box d (k+1) i frm w2:=by
 have z2:=hM2.size;refine⟨S,hfrm i S wr w2 hJ (fun q hq=>(hSu q hq).1) (hM2.mono (fun q hq=>.inl (by subst hq;exact hSc))),hSc,hSb,hSd,fun q hq=>⟨by have:=(hSu q hq).1;omega,(hSu q hq).2⟩,?_,by omega,hi,by omega,?_⟩
 ·refine hM.trans' hM2 (fun q hq=>?_);subst hq;exact .inr hcW
 ·intro _;have hd:data.drop k=x::data.drop (k+1):=by rw[hx];exact drop_eq_getElem_cons (by omega)
  refine⟨fu h x.toNat,m+1,hC2,?_,by omega,hfr,?_⟩
  ·rcases Nat.lt_or_ge (m+1) 256 with h'|h'
   ·exact h'
   ·rw[tM h']at he;cases he
  ·rw[hdr,hd,zQ _ _ _ _ he];intro hn;have:=drop_eq_nil_iff.1 hn;omega
end
def vL(P:Program)(n l d off:Nat)(data:List UInt8)(J Jx:Nat->(Nat->Prop)->World->Prop):Prop :=
  ∀i S A (hi:i<(aL data).length),J i S A->eN A d off data->(∀k,S k->k<A.heap.size)->¬S d ->
   YieldAt FW n P l #[.slice (some ⟨d,off+((aL data).take i).sum,none⟩) (aL data)[i] (aL data)[i]] A (nl J Jx i S A)
def xD(J:Nat->(Nat->Prop)->World->Prop):Prop:=∀i S A B,J i S A->(∀k,S k->k<A.heap.size)->Mods (fun k=>¬S k) A B->J i S B
theorem CL{n l d off:Nat}{data:List UInt8}{J Jx:Nat->(Nat->Prop)->World->Prop}(hround:vL Tryz.prog n l d off data J Jx)(hfrm:xD J){k i frm m:Nat}{h:Int}{x:UInt8}(hlt:k<data.length)(hx:x=data[k])(hfm:frm+m=k)(hfr:frm=((aL data).take i).sum)(hdr:(aL data).drop i=dh h m (data.drop k))(he:eV (fu h x.toNat) (m+1)=true\/k+1=data.length){S S0:Nat->Prop}{W wr w2:World}{c:Nat}(hJ:J i S wr)(hd:eN W d off data)(hSu:∀q,S q->q<wr.heap.size/\(S0 q\/W.heap.size<=q))(hM:Mods S0 W wr)(hSd0:¬S0 d)(hSd:¬S d)(hSc:¬S c)(hM2:Mods (·=c) wr w2)(hdc:d≠c):
  YieldAt FW n Tryz.prog l #[.slice (some ⟨d,off+frm,none⟩) (k+1-frm) (k+1-frm)] w2 (nl J Jx i S w2)/\i<(aL data).length:=by
 obtain⟨hi,h3,h4,h5⟩:=rE hlt hx hfm hfr hdr he
 have:=hround i S w2 hi (hfrm i S wr w2 hJ (fun q hq=>(hSu q hq).1) (hM2.mono (fun q hq=>.inl (by subst hq;exact hSc)))) ((hd.keep hM hSd0).keep hM2 hdc)
  (fun q hq=>Nat.lt_of_lt_of_le (hSu q hq).1 hM2.size) hSd
 rw[h3,<- hfr]at this;exact⟨this,hi⟩
theorem yW(n l box d off cap:Nat)(a:Option Addr)(data:List UInt8)(J Jx:Nat->(Nat->Prop)->World->Prop)(W:World)(S0:Nat->Prop)(ha:0<data.length->a=some ⟨d,off,none⟩)(hcap:data.length<=cap)(hmax:data.length<=140737488351232)(hbox:W.heap[box]?=some (.cells #[.slice a data.length cap] 38 (0,0)))(hd:eN W d off data)(hSb:¬S0 box)(hSd:¬S0 d)(hSo:∀k,S0 k->k<W.heap.size)(h0:J 0 S0 W)(hfrm:xD J)(hround:vL Tryz.prog n l d off data J Jx):
  CallsIn FW (n+1) Tryz.prog 123 #[.func (.yield l) #[] #[],.pointer (some ⟨box,0,none⟩)] W (pw J Jx (aL data).length S0 W):=by
 have hbW:=ac hbox;refine callsIn_of_wp Tryz.func123 rfl trivial ?_ rfl;simp only[Tryz.ntmps123,size_toArray,length_cons,length_nil,Nat.reduceAdd,Nat.reduceSub,Array.replicate_succ,Array.replicate_zero,push_toArray,append_toArray,nil_append,cons_append];gi_wp2_with fail;refine⟨trivial,(callsIn_wide.2 (si _)).mono ?_⟩;rintro e w1 ⟨rfl,hC1,hs1⟩;obtain⟨c,hcdef⟩:∃c,c=W.heap.size:=⟨_,rfl⟩;rw[<- hcdef]at hC1 ⊢;have hbox1:=aa (hs1.at hbox id) 0 (v:=.slice a data.length cap) (by simp);have HC1:=Hq6 hC1 hcdef h0 hSo hbox hs1;clear hC1 hcdef h0 hSo hbox hs1;have HR:=qqH hround;have HF:=qqH hfrm;have HD:=qqH hd;clear hround hfrm hd;gi_wp2_with fail
 gi_loopw [4,10] (fun fr kk wr=>∃(k i frm:Nat),k<=data.length/\fr=.int .i64 frm/\kk=.int .i64 k/\xB J data S0 W c box d k i frm wr)
  (fun _ kk _=>data.length-(intOf kk).toNat)
 case atStart =>
  obtain⟨hC1,hc,h0,hSo,hbox,hs1⟩:=HC1.out;refine⟨0,0,0,by omega,rfl,rfl,S0,HF.out 0 S0 W w1 h0 hSo (hs1.mods _),?_,hSb,hSd,fun q hq=>⟨by have:=hSo q hq;have:=hs1.size;omega,.inl hq⟩,hs1.mods _,?_,by omega,?_,?_⟩
  ·intro hq;have:=hSo _ hq;omega
  ·have:=ac hC1;exact this
  ·intro hk;have:data=[]:=eq_nil_of_length_eq_zero hk.symm;subst this;simp[aL,dh]
  ·intro hk;exact⟨0,0,hC1,by omega,rfl,by simp,by simp[aL]⟩
 case round =>
  obtain⟨k,i,frm,hk,rfl,rfl,hR⟩:=hrel;by_cases hlt:k<data.length
  ·obtain⟨S,hJ,hSc,hSb',hSd',hSu,hM,hcl,hi,_,hst⟩:=hR;obtain⟨h,m,hC,hm,hfm,hfr',hdr⟩:=hst hlt;obtain rfl:=ha (by omega);have hbx:=aa (hM.at HC1.e hSb) 0 (v:=.slice (some ⟨d,off,none⟩) data.length cap) (by simp);have hdk:=(HD.out.keep hM hSd) k hlt;have hdl:d<W.heap.size:=World.block_lt_of_cell? W _ (HD.out k hlt);have hcW:W.heap.size<=c:=by have:=HC1.b;omega
   have hbx':∀w2:World,Mods (·=c) wr w2->w2.cell? ⟨box,0,none⟩=some (.slice (some ⟨d,off,none⟩) data.length cap):=fun w2 h2=>by
    have e:=h2.block box (by have:=hM.size;omega) (by omega);exact(World.cell?_of_block (w:=wr) e).trans hbx
   have HI:=Hq6 hJ hSu hM hC hfr' hdr;have HB:=qqH hbx';clear hJ hSu hM hC hfr' hdr hst hbx';obtain⟨x,hx⟩:∃x:UInt8,x=data[k]:=⟨_,rfl⟩;rw[<- hx]at hdk;have Hx:=qqH hx;clear hx;have hxl:=x.toNat_lt;have hfk:frm<=k:=by omega
   have hfc:frm<cap:=by omega
   have HFM:=qqH hfm;clear hfm;by_cases hE:eV (fu h x.toNat) (m+1)=true\/k+1=data.length
   ·obtain⟨z,hz⟩:∃z,eV (fu h x.toNat) (m+1)=z:=⟨_,rfl⟩;have HE:=qqH hE;have HZ:=qqH hz;clear hE hz;gi_wp2_with fail;refine⟨trivial,(callsIn_wide.2 (sN wr c h m x.toNat hxl (by omega) HI.d)).mono ?_⟩;rintro e w2 ⟨rfl,hC2,hM2,hz2⟩;rw[HZ.out]at hC2 ⊢;have hb2:=HB.out w2 hM2
    have hlast:z=false->((k:Int)==(data.length:Int)-1)=true:=fun hzf=>by
     rcases HE.out with h'|h'
     ·rw[HZ.out,hzf]at h';cases h'
     ·simp;omega
    obtain⟨hI1,hI2,hI3,hI4,hI5,hI6⟩:=HI.out;obtain⟨⟨fn,tmps,assign,body,hy,hRd⟩,hil⟩:=CL HR.out HF.out hlt Hx.out HFM.out hI5 hI6 HE.out hI1 HD.out hI2 hI3 hSd hSd' hSc hM2 (by omega)
    have hCz:k+1<data.length->dz w2 c 0 0:=fun hk1=>by
     rcases HE.out with h'|h'
     ·rw[HZ.out]at h';rw[h']at hC2;exact hC2
     ·omega
    have HN:=qqH (fun(w3:World) (S':Nat->Prop) (hJ3:J (i+1) S' w3) (hM3:Mods S w2 w3) (hS3:∀q,S' q->q<w3.heap.size/\(S q\/w2.heap.size<=q)) =>
     Fv (box:=box) hlt Hx.out HFM.out hI5 hI6 HE.out hSc hSb' hSd' hI2 hI3 hcW hcl hbW hdl hM2 hCz hJ3 hM3 hS3)
    have HX:=Hq5 hil (hI3.trans' hM2 (T:=(·=c)) (fun q hq=>.inr (by omega))) hI2 hM2.size hI3.size;clear hC2 hM2 hz2 hI1 hI2 hI3 hI4 hI5 hI6 hCz hil
    cases z
    ·have hl:=hlast rfl;clear hlast;gi_wp2_with fail;refine hRd.mono ?_;rintro e w3 (⟨rfl,S',hJ3,hM3,hS3⟩|⟨rfl,S',hJ3,hM3,hS3⟩)
     ·have HR3:=qqH (HN.out w3 S' hJ3 hM3 hS3);clear hJ3 hM3 hS3 hy;gi_wp2;go_roundw
      case rel=>exact⟨k+1,i+1,k+1,by omega,by go_num,by go_num,HR3.out⟩
      case measure=>simp[intOf];omega
     ·obtain⟨hil,hM02,hI2,hz2,hz1⟩:=HX.out
      have HP:Hid (pw J Jx (aL data).length S0 W (.returned (.tuple #[])) w3) :=
       ⟨⟨_,rfl⟩,S',.inr ⟨i,hil,hJ3⟩,hM02.trans' hM3 (fun q hq=>(hI2 q hq).2),fun q hq=>⟨(hS3 q hq).1,by
        rcases(hS3 q hq).2 with h'|h'
        ·exact(hI2 q h').2
        ·exact .inr (by omega)⟩⟩
      clear hJ3 hM3 hS3 hy hil hM02 hI2 hz2 hz1;gi_wp2;refine bodyPost_ret (results_none rfl _ _ _) rfl ?_;exact HP.out
    ·clear hlast;gi_wp2_with fail;refine hRd.mono ?_;rintro e w3 (⟨rfl,S',hJ3,hM3,hS3⟩|⟨rfl,S',hJ3,hM3,hS3⟩)
     ·have HR3:=qqH (HN.out w3 S' hJ3 hM3 hS3);clear hJ3 hM3 hS3 hy;gi_wp2;go_roundw
      case rel=>exact⟨k+1,i+1,k+1,by omega,by go_num,by go_num,HR3.out⟩
      case measure=>simp[intOf];omega
     ·obtain⟨hil,hM02,hI2,hz2,hz1⟩:=HX.out
      have HP:Hid (pw J Jx (aL data).length S0 W (.returned (.tuple #[])) w3) :=
       ⟨⟨_,rfl⟩,S',.inr ⟨i,hil,hJ3⟩,hM02.trans' hM3 (fun q hq=>(hI2 q hq).2),fun q hq=>⟨(hS3 q hq).1,by
        rcases(hS3 q hq).2 with h'|h'
        ·exact(hI2 q h').2
        ·exact .inr (by omega)⟩⟩
      clear hJ3 hM3 hS3 hy hil hM02 hI2 hz2 hz1;gi_wp2;refine bodyPost_ret (results_none rfl _ _ _) rfl ?_;exact HP.out
   ·have hk1:k+1<data.length:=by
     rcases Nat.lt_or_ge (k+1) data.length with h'|h'
     ·exact h'
     ·exact absurd (.inr (by omega)) hE
    have hz:eV (fu h x.toNat) (m+1)=false:=by
     cases hz:eV (fu h x.toNat) (m+1)
     ·rfl
     ·exact absurd (.inl hz) hE
    have hne:((k:Int)==(data.length:Int)-1)=false:=by simp;omega
    have HZ:=qqH hz;clear hE hz;gi_wp2_with fail;refine⟨trivial,(callsIn_wide.2 (sN wr c h m x.toNat hxl (by omega) HI.d)).mono ?_⟩;rintro e w2 ⟨rfl,hC2,hM2,hz2⟩;rw[HZ.out]at hC2 ⊢;have hb2:=HB.out w2 hM2;obtain⟨hI1,hI2,hI3,hI4,hI5,hI6⟩:=HI.out;have HN:=qqH (Fw (box:=box) (d:=d) hk1 Hx.out HFM.out hI5 hi hI6 HZ.out hI1 HF.out hSc hSb' hSd' hI2 hI3 hcW hcl hM2 hC2);clear hC2 hM2 hz2 hI1 hI2 hI3 hI4 hI5 hI6;gi_wp2;go_roundw
    case rel=>exact⟨k+1,i,frm,by omega,rfl,by go_num,HN.out⟩
    case measure=>simp[intOf];omega
  ·obtain rfl:k=data.length:=by omega
   obtain⟨S,hJ,hSc,hSb',hSd',hSu,hM,hcl,hi,hil,hst⟩:=hR
   have HP:Hid (pw J Jx (aL data).length S0 W (.returned (.tuple #[])) wr) :=
    ⟨⟨_,rfl⟩,S,.inl (by rw[hil rfl]at hJ;exact hJ),hM,hSu⟩
   clear hJ hSu hM hil hst;gi_wp2;go_end0;exact HP.out
end
section
open Go.RowKit Go.Shelf
def Own(S S':Nat->Prop)(A B:World):Prop:=Mods S A B/\∀k,S' k->k<B.heap.size/\(S k\/A.heap.size<=k)
def Fk(I:Nat->(Nat->Prop)->World->Prop)(Ix:Code->Nat->(Nat->Prop)->World->Prop)(i:Nat)(S:Nat->Prop)(A:World):Exit->Act->World->Prop
 | .normal,_,B=>∃S',I (i+1) S' B/\Own S S' A B
 | .ret,_,B=>∃S',Ix .ret i S' B/\Own S S' A B
 | .exit id,_,B=>∃S',Ix (.exit id) i S' B/\Own S S' A B
 | .goto t,_,B=>∃S',Ix (.goto t) i S' B/\Own S S' A B
 | .panic _,_,_=>False
 | .outgrown,_,_=>False
def fY(d off:Nat)(data:List UInt8)(i:Nat):Value :=
 .slice (some ⟨d,off+((aL data).take i).sum,none⟩) ((aL data).getD i 0) ((aL data).getD i 0)
theorem Lu{S S':Nat->Prop}{A B:World}(h:Own S S' A B):∀k,S' k->k<B.heap.size:=fun k hk=>(h.2 k hk).1
theorem GJ{n:Nat}{g:Operand}{p:Tmp}{assign body:Code}{Q:Exit->Act->World->Prop}{a:Act}{w:World}(box d off cap:Nat)(a0:Option Addr)(data:List UInt8)(hg:a.eval g=.func (.func 123) #[] #[.pointer (some ⟨box,0,none⟩)])(ha:0<data.length->a0=some ⟨d,off,none⟩)(hcap:data.length<=cap)(hmax:data.length<=140737488351232)(hbox:w.heap[box]?=some (.cells #[.slice a0 data.length cap] 38 (0,0)))(hd:eN w d off data)(hdw:d≠w.heap.size/\d≠w.heap.size+1)(I:Nat->(Nat->Prop)->World->Prop)(Ix:Code->Nat->(Nat->Prop)->World->Prop)(S0:Nat->Prop)(hSb:¬S0 box)(hSd:¬S0 d)(hSo:∀k,S0 k->k<w.heap.size)(h0:I 0 S0 w)(hI:xD I)(hIx:∀c,xD (Ix c))(a₁:Nat->Act)(hassign:∀(l i:Nat) (W:World) (K:Act->World->Prop),K (a₁ i) W ->
   assign.wpIn (FW.inRound l) n Tryz.prog (Exit.then K (fun _ _ _=>False)) { tmps:=a.tmps.setIfInBounds p (fY d off data i),defers:=[] } W)(hbody:∀(l i:Nat) (S:Nat->Prop) (A:World),i<(aL data).length->I i S A->eN A d off data->(∀k,S k->k<A.heap.size)->¬S d->w.heap.size<=A.heap.size ->
   body.wpIn (FW.inRound l) n Tryz.prog (Fk I Ix i S A) (a₁ i) A)(hdone:∀(D:Nat) (S:Nat->Prop) (B:World),w.heap.size<=D->I (aL data).length S B->Own S0 S w B->¬S D->B.heap[D]?=some (.deferred (some [])) ->
   Q .normal { a with defers:={ target:=.collected D,args:=#[] }::a.defers } B)(hstop:∀(D i:Nat) (c:Code) (S:Nat->Prop) (B:World),w.heap.size<=D->i<(aL data).length->Ix c i S B->Own S0 S w B->¬S D->B.heap[D]?=some (.deferred (some [])) ->
   c.wpIn FW (n+1+1) Tryz.prog Q { a with defers:={ target:=.collected D,args:=#[] }::a.defers } B):
  (Code.rangeFunc g #[p] assign body).wpIn FW (n+1+1) Tryz.prog Q a w:=by
 refine wpIn_rangeFunc ?_;intro fn _;obtain⟨rec,hrec⟩:∃rec:LoopState->Option Code->Loop,rec=fun st pe=>{ state:=st,pending:=pe,fn,tmps:=a.tmps,params:=#[p],assign,body,defers:=w.heap.size }:=⟨_,rfl⟩
 obtain⟨W1,hW1⟩:∃W1,(w.alloc (.deferred (some []))).alloc (.loop (rec .ready none))=W1:=⟨_,rfl⟩;obtain⟨L,hL⟩:∃L,L=w.heap.size+1:=⟨_,rfl⟩;obtain⟨D,hD⟩:∃D,D=w.heap.size:=⟨_,rfl⟩;have hz1:W1.heap.size=w.heap.size+2:=by rw[<- hW1];simp
 have hL1:W1.heap[L]?=some (.loop (rec .ready none)):=by
  rw[<- hW1,hL];have:=World.alloc_heap_new (w.alloc (.deferred (some []))) (.loop (rec .ready none));rwa [World.size_alloc]at this
 have hK1:W1.heap[D]?=some (.deferred (some [])):=by
  rw[<- hW1,hD];exact(Below.heap_alloc _ _ _ (by simp)).trans (World.alloc_heap_new w _)
 have hs1:aX w W1:=by rw[<- hW1];exact((Mods.refl _ w).alloc _).alloc _
 refine⟨L,[{ target:=.collected D,args:=#[] }],W1,{ target:=.fn (.func 123) #[.pointer (some ⟨box,0,none⟩)],args:=#[.func (.yield L) #[] #[]] },W1,123,
  #[.func (.yield L) #[] #[]]++#[.pointer (some ⟨box,0,none⟩)],W1,?_,?_,?_,?_,(fun h=>by cases h),?_⟩
 ·rw[<- hW1,hrec,hL,hD];exact run_enterLoop_outer _ _ _ _ _
 ·simp only[resolve,hg];simp[go_sem]
 ·intro f' _;trivial
 ·have eg:=enters_of (P:=Tryz.prog) Tryz.func123 (by kernel_rfl) rfl;simp[invoke,go_sem,eg _ W1]
 ·obtain⟨J,hJ⟩:∃J:Nat->(Nat->Prop)->World->Prop,J=fun i T A=>∃S,I i S A/\(∀q,T q↔S q\/q=L\/q=D)/\¬S L/\¬S D/\A.heap[L]?=some (.loop (rec .ready none)) /\
    A.heap[D]?=some (.deferred (some []))/\(∀k,S k->k<A.heap.size)/\w.heap.size<=A.heap.size:=⟨_,rfl⟩
  obtain⟨Jx,hJx⟩:∃Jx:Nat->(Nat->Prop)->World->Prop,Jx=fun i T A=>∃c S,Ix c i S A/\(∀q,T q↔S q\/q=L\/q=D)/\¬S L/\¬S D/\A.heap[L]?=some (.loop (rec .done (some c))) /\
    A.heap[D]?=some (.deferred (some []))/\(∀k,S k->k<A.heap.size)/\w.heap.size<=A.heap.size:=⟨_,rfl⟩
  have hput:∀{S:Nat->Prop} {A:World} (o:Obj),¬S L->Mods (fun k=>¬S k) A (A.putObj L o):=fun o h=>(Mods.refl _ _).putObj (.inl h) o
  have hbW:=ac hbox;refine(yW n L box d off cap a0 data J Jx W1 (fun q=>S0 q\/q=L\/q=D) ha hcap hmax (hs1.at hbox id) (hd.keep hs1 id) ?_ ?_ ?_ ?_ ?_ ?_).mono ?_
  ·rintro(h|h|h)
   ·exact hSb h
   ·omega
   ·omega
  ·rintro(h|h|h)
   ·exact hSd h
   ·omega
   ·omega
  ·rintro q (h|h|h)
   ·have:=hSo q h;omega
   ·omega
   ·omega
  ·rw[hJ];exact⟨S0,hI 0 S0 w W1 h0 hSo (hs1.mods _),fun q=>Iff.rfl,fun h=>by have:=hSo _ h;omega,fun h=>by have:=hSo _ h;omega,hL1,hK1,fun k hk=>by have:=hSo k hk;omega,by omega⟩
  ·rw[hJ];rintro i T A B ⟨S,hi,hT,hSL,hSD,hl,hk,ho,hz⟩ hTo hM;have hM':Mods (fun k=>¬S k) A B:=hM.mono (fun q hq=>.inl (fun h=>hq ((hT q).2 (.inl h))));exact⟨S,hI i S A B hi ho hM',hT,hSL,hSD,hM.at hl (fun h=>h ((hT L).2 (.inr (.inl rfl)))),hM.at hk (fun h=>h ((hT D).2 (.inr (.inr rfl)))),fun k hk'=>Nat.lt_of_lt_of_le (ho k hk') hM.size,Nat.le_trans hz hM.size⟩
  ·rintro i T A hi hj hdA hTo hTd;rw[hJ]at hj;obtain⟨S,hi',hT,hSL,hSD,hl,hk,ho,hz⟩:=hj;have hSd':¬S d:=fun h=>hTd ((hT d).2 (.inl h))
   have hlt:=ac hl;have hy:=run_yield (P:=Tryz.prog) (args:=#[fY d off data i]) hl (by rw[hrec];rfl);rw[hrec]at hy
   have hget:fY d off data i=.slice (some ⟨d,off+((aL data).take i).sum,none⟩) (aL data)[i] (aL data)[i]:=by
    simp[fY,getD_eq_getElem?_getD,hi]
   rw[<- hget]
   have hy':(Instr.yield L #[fY d off data i]).run Tryz.prog A=.ok (.round L fn (a.tmps.setIfInBounds p (fY d off data i)) assign body) A:=by
    rw[hy];simp
   refine⟨fn,_,assign,body,hy',roundIn_of_wpIn trivial (hassign L i A (fun a₁' w₁=>∃w₂,(Instr.beginRound L).run Tryz.prog w₁=.ok () w₂/\body.wpIn (FW.inRound L) n Tryz.prog (roundPost Tryz.prog L (nl J Jx i T A)) a₁' w₂) ⟨_,run_beginRound hl (by rw[hrec]),?_⟩)⟩;obtain⟨A2,hA2⟩:∃A2,A2=A.putObj L (.loop { rec .ready none with state:=.busy }):=⟨_,rfl⟩;rw[<- hA2];have hl2:A2.heap[L]?=some (.loop (rec .busy none)):=by rw[hA2,World.putObj_heap_same hlt,hrec]
   have hMA:Mods (fun k=>¬S k) A A2:=by rw[hA2];exact hput _ hSL
   have hMA':Mods (fun k=>k=L) A A2:=by rw[hA2];exact Mods.putObj (S:=fun k=>k=L) (Mods.refl _ _) (r:=L) (Or.inl rfl) _
   have hzA:A2.heap.size=A.heap.size:=by rw[hA2];simp
   have hk2:A2.heap[D]?=some (.deferred (some [])):=hMA'.at hk (by omega);refine wpIn_mono (hbody L i S A2 hi (hI i S A A2 hi' ho hMA) (hdA.keep hMA' (by omega)) (fun q hq=>by have:=ho q hq;omega) hSd' (by omega)) ?_
   have fin:∀(jump:Option Code) (S':Nat->Prop) (B:World),Own S S' A2 B ->
     (Instr.endRound L jump).run Tryz.prog B=.ok (.bool jump.isNone) (B.putObj L (.loop (rec (if jump.isNone then .ready else .done) jump))) /\
     ¬S' L/\¬S' D/\(B.putObj L (.loop (rec (if jump.isNone then .ready else .done) jump))).heap[L]?=some (.loop (rec (if jump.isNone then .ready else .done) jump)) /\
     (B.putObj L (.loop (rec (if jump.isNone then .ready else .done) jump))).heap[D]?=some (.deferred (some [])) /\
     Mods T A (B.putObj L (.loop (rec (if jump.isNone then .ready else .done) jump)))/\w.heap.size<=B.heap.size/\(∀k,S' k->k<B.heap.size):=fun jump S' B hO=>by
    have hl3:B.heap[L]?=some (.loop (rec .busy none)):=hO.1.at hl2 hSL;have hk3:=hO.1.at hk2 hSD;have hr:=run_endRound (P:=Tryz.prog) jump hl3;rw[hrec]at hr ⊢
    have hSL':¬S' L:=fun h=>by
     rcases(hO.2 L h).2 with h'|h'
     ·exact hSL h'
     ·omega
    have hSD':¬S' D:=fun h=>by
     rcases(hO.2 D h).2 with h'|h'
     ·exact hSD h'
     ·omega
    refine⟨hr,hSL',hSD',World.putObj_heap_same (ac hl3),(World.putObj_heap_other (by omega)).trans hk3,?_,by have:=hO.1.size;omega,Lu hO⟩;refine((hMA'.mono (fun q hq=>.inl ((hT q).2 (.inr (.inl hq))))).trans (hO.1.mono (fun q hq=>.inl ((hT q).2 (.inl hq))))).putObj (.inl ((hT L).2 (.inr (.inl rfl)))) _
   have own':∀(jump:Option Code) (S':Nat->Prop) (B:World),Own S S' A2 B->∀k,(S' k\/k=L\/k=D)->k<(B.putObj L (.loop (rec (if jump.isNone then .ready else .done) jump))).heap.size/\(T k\/A.heap.size<=k):=fun jump S' B hO k hk'=>by
    have:=hO.1.size;have:=ac hk;rw[World.putObj_size];rcases hk' with h|h|h
    ·refine⟨(hO.2 k h).1,?_⟩;rcases(hO.2 k h).2 with h'|h'
     ·exact .inl ((hT k).2 (.inl h'))
     ·exact .inr (by omega)
    ·exact⟨by omega,.inl ((hT k).2 (.inr (.inl h)))⟩
    ·exact⟨by omega,.inl ((hT k).2 (.inr (.inr h)))⟩
   have left:∀(c:Code) (S':Nat->Prop) (B:World),Ix c i S' B->Own S S' A2 B->∃v w',(Instr.endRound L (some c)).run Tryz.prog B=.ok v w'/\nl J Jx i T A (.returned v) w':=fun c S' B hx hO=>by
    obtain⟨hr,hSL',hSD',hl4,hk4,hM4,hz4,ho4⟩:=fin (some c) S' B hO;refine⟨_,_,hr,.inr ⟨rfl,fun k=>S' k\/k=L\/k=D,?_,hM4,own' (some c) S' B hO⟩⟩;rw[hJx];exact⟨c,S',hIx c i S' B _ hx ho4 (hput _ hSL'),fun q=>Iff.rfl,hSL',hSD',hl4,hk4,fun k hk'=>by rw[World.putObj_size];exact ho4 k hk',by rw[World.putObj_size];exact hz4⟩
   rintro e a3 B hp
   cases e with
   | normal =>
    obtain⟨S',hi3,hO⟩:=hp;obtain⟨hr,hSL',hSD',hl4,hk4,hM4,hz4,ho4⟩:=fin none S' B hO;refine⟨_,_,hr,.inl ⟨rfl,fun k=>S' k\/k=L\/k=D,?_,hM4,own' none S' B hO⟩⟩;rw[hJ];exact⟨S',hI (i+1) S' B _ hi3 ho4 (hput _ hSL'),fun q=>Iff.rfl,hSL',hSD',hl4,hk4,fun k hk'=>by rw[World.putObj_size];exact ho4 k hk',by rw[World.putObj_size];exact hz4⟩
   | ret=>obtain⟨S',hx,hO⟩:=hp;exact left _ S' B hx hO
   | exit id=>obtain⟨S',hx,hO⟩:=hp;exact left _ S' B hx hO
   | goto t=>obtain⟨S',hx,hO⟩:=hp;exact left _ S' B hx hO
   | panic ch=>exact hp.elim
   | outgrown=>exact hp.elim
  ·rintro e B ⟨⟨v,rfl⟩,T,hJJ,hM,hTo⟩;have hz:=hM.size
   have back:∀S,(∀q,T q↔S q\/q=L\/q=D)->¬S L->¬S D->∀o,Own S0 S w (B.putObj L o):=fun S hT hSL hSD o=>by
    refine⟨((hs1.mods S0).trans' hM (fun q hq=>?_)).putObj (.inr (by omega)) o,fun k hk=>?_⟩
    ·rcases hq with h|h|h
     ·exact .inl h
     ·exact .inr (by omega)
     ·exact .inr (by omega)
    ·rw[World.putObj_size];obtain⟨h1,h2⟩:=hTo k ((hT k).2 (.inl hk));refine⟨h1,?_⟩;rcases h2 with(h|h|h)|h
     ·exact .inl h
     ·exact absurd (h ▸ hk) hSL
     ·exact absurd (h ▸ hk) hSD
     ·exact .inr (by omega)
   rcases hJJ with hj|⟨i,hiN,hx⟩
   ·rw[hJ]at hj;obtain⟨S,hi,hT,hSL,hSD,hl,hk,ho,hzz⟩:=hj;have hr:=run_endLoop (P:=Tryz.prog) hl (by rw[hrec];simp);rw[hrec]at hr;refine⟨none,_,hr,?_⟩;exact hdone D S _ (by omega) (hI _ S B _ hi ho (hput _ hSL)) (back S hT hSL hSD _) hSD ((World.putObj_heap_other (by omega)).trans hk)
   ·rw[hJx]at hx;obtain⟨c,S,hi,hT,hSL,hSD,hl,hk,ho,hzz⟩:=hx;have hr:=run_endLoop (P:=Tryz.prog) hl (by rw[hrec];simp);rw[hrec]at hr;refine⟨some c,_,hr,?_⟩;exact hstop D i c S _ (by omega) hiN (hIx c _ S B _ hi ho (hput _ hSL)) (back S hT hSL hSD _) hSD ((World.putObj_heap_other (by omega)).trans hk)
def KP(J:Nat->HF->Prop)(i:Nat)(F:HF)(A:World):Exit->Act->World->Prop
 | .normal,_,B=>∃F',J (i+1) F'/\Turns F F' A B
 | .ret,_,_=>False
 | .exit _,_,_=>False
 | .goto _,_,_=>False
 | .panic _,_,_=>False
 | .outgrown,_,_=>False
theorem DV{n:Nat}{g:Operand}{p:Tmp}{assign body:Code}{Q:Exit->Act->World->Prop}{a:Act}{w:World}(box d off cap:Nat)(a0:Option Addr)(data:List UInt8)(hg:a.eval g=.func (.func 123) #[] #[.pointer (some ⟨box,0,none⟩)])(ha:0<data.length->a0=some ⟨d,off,none⟩)(hcap:data.length<=cap)(hmax:data.length<=140737488351232)(hbox:w.heap[box]?=some (.cells #[.slice a0 data.length cap] 38 (0,0)))(hd:eN w d off data)(hdw:d≠w.heap.size/\d≠w.heap.size+1)(J:Nat->HF->Prop)(F0:HF)(h0:J 0 F0)(hs:Sat w F0)(hSb:box∉dom F0)(hSd:d∉dom F0)(a₁:Nat->Act)(hassign:∀(l i:Nat) (W:World) (K:Act->World->Prop),K (a₁ i) W ->
   assign.wpIn (FW.inRound l) n Tryz.prog (Exit.then K (fun _ _ _=>False)) { tmps:=a.tmps.setIfInBounds p (fY d off data i),defers:=[] } W)(hbody:∀(l i:Nat) (F:HF) (A:World),i<(aL data).length->J i F->Sat A F->eN A d off data->d∉dom F->w.heap.size<=A.heap.size ->
   body.wpIn (FW.inRound l) n Tryz.prog (KP J i F A) (a₁ i) A)(hdone:∀(D:Nat) (F:HF) (B:World),w.heap.size<=D->J (aL data).length F->Turns F0 F w B->D∉dom F->B.heap[D]?=some (.deferred (some [])) ->
   Q .normal { a with defers:={ target:=.collected D,args:=#[] }::a.defers } B):
  (Code.rangeFunc g #[p] assign body).wpIn FW (n+1+1) Tryz.prog Q a w:=by
 refine GJ box d off cap a0 data hg ha hcap hmax hbox hd hdw (fun i S A=>∃F,J i F/\Sat A F/\∀q,S q↔q∈dom F) (fun _ _ _ _=>False) (fun q=>q∈dom F0) hSb hSd (fun k hk=>hs.lt hk) ⟨F0,h0,hs,fun _=>Iff.rfl⟩
  ?_ (fun _ _ _ _ _ h=>h.elim) a₁ hassign ?_ ?_ (fun _ _ _ _ _ _ _ h=>h.elim)
 ·rintro i S A B ⟨F,hJ,hF,hS⟩ hlt hM;exact⟨F,hJ,hF.frame hM (fun b hb hn=>hn ((hS b).2 hb)),hS⟩
 ·rintro l i S A hi ⟨F,hJ,hF,hS⟩ hdA hlt hSd' hle;refine wpIn_mono (hbody l i F A hi hJ hF hdA (fun h=>hSd' ((hS d).2 h)) hle) ?_;intro e a3 B hp
  cases e with
  | normal =>
   obtain⟨F',hJ',hT⟩:=hp;refine⟨fun q=>q∈dom F',⟨F',hJ',hT.sat,fun _=>Iff.rfl⟩,hT.mods.mono (fun b hb=>.inl ((hS b).2 hb)),fun k hk=>⟨hT.sat.lt hk,?_⟩⟩;rcases hT.fresh k hk with h|h
   ·exact .inl ((hS k).2 h)
   ·exact .inr h
  | _=>exact hp.elim
 ·rintro D S B hD ⟨F,hJ,hF,hS⟩ hO hSD hK;exact hdone D F B hD hJ ⟨hO.1,hF,fun b hb=>(hO.2 b ((hS b).2 hb)).2⟩ (fun h=>hSD ((hS D).2 h)) hK
theorem mU{P:Program}{fn:Func}{p q:Tmp}{t1 t2:TypeId}(h:fn.results=#[.cell p t1,.cell q t2])(tmps:Array Value)(w:World)(b c:Nat)(u v:Value){d1 d2:TypeDesc}(hu1:P.underlying t1=some d1)(hd1:kw d1=true)(hu2:P.underlying t2=some d2)(hd2:kw d2=true)(hp:tmps.getD p undef=.pointer (some ⟨b,0,none⟩))(hq:tmps.getD q undef=.pointer (some ⟨c,0,none⟩))(hb:w.cell? ⟨b,0,none⟩=some u)(hc:w.cell? ⟨c,0,none⟩=some v):
  (results fn tmps).run P w=.ok (.tuple #[u,v]) w:=by
 have hp':tmps[p]?.getD undef=.pointer (some ⟨b,0,none⟩):=by simpa using hp
 have hq':tmps[q]?.getD undef=.pointer (some ⟨c,0,none⟩):=by simpa using hq
 have e1:(loadVar t1 ⟨b,0,none⟩).run P w=.ok u w:=by
  cases d1<;>simp[kw]at hd1<;>simp[loadVar,isAgg,underlying,hu1,Result.andThen,hb]
 have e2:(loadVar t2 ⟨c,0,none⟩).run P w=.ok v w:=by
  cases d2<;>simp[kw]at hd2<;>simp[loadVar,isAgg,underlying,hu2,Result.andThen,hc]
 simp[results,h,hp',hq',asAddr,e1,e2]
structure RecL where
 val:Value
 bytes:Bs
def fk(v:Value)(l:List RecL):HF:=bN 38 1 v (l.map (·.val)).length (l.map (·.val))++l.flatMap fun r=>aI r.val r.bytes
def KQ(v:Value)(l:List RecL):Prop:=eE 1 v (l.map (·.val)).length (l.map (·.val))/\∀r∈l,bOk r.val r.bytes
end
section
open Go.RowKit Go.Maps Go.Shelf
theorem iv(has:List Bs)(c:Bs):∀(l acc:List Bs),cn has acc (l++[c])=if c∈has\/c∈cn has acc l then cn has acc l else cn has acc l++[c]
 | [],acc=>by simp only[nil_append,cn];congr
 | x::l,acc=>by
  simp only[cons_append,cn]
  split<;>exact iv has c l _
theorem jl(has:List Bs):∀(l acc:List Bs),∀c∈cn has acc l,c∈acc\/(c∈l/\c∉has)
 | [],acc=>fun c h=>.inl h
 | x::l,acc=>fun c h=>by
  simp only[cn]at h
  split at h
  ·rcases jl has l acc c h with h'|⟨h1,h2⟩
   ·exact .inl h'
   ·exact .inr ⟨mem_cons_of_mem _ h1,h2⟩
  ·rename_i hn
   rcases jl has l _ c h with h'|⟨h1,h2⟩
   ·rcases mem_append.1 h' with h'|h'
    ·exact .inl h'
    ·simp only[mem_singleton]at h';subst h';exact .inr ⟨by simp,fun hh=>hn (.inl hh)⟩
   ·exact .inr ⟨mem_cons_of_mem _ h1,h2⟩
theorem jc(has:List Bs):∀(l acc:List Bs),acc.Nodup->(cn has acc l).Nodup
 | [],acc,h=>h
 | x::l,acc,h=>by
  simp only[cn]
  split
  ·exact jc has l acc h
  ·rename_i hn
   refine jc has l _ (nodup_append.2 ⟨h,by simp,?_⟩)
   intro a ha b hb e
   simp only[mem_singleton]at hb
   exact hn (.inr (hb ▸ e ▸ ha))
theorem ku(has:List Bs):∀(l acc:List Bs),(cn has acc l).length<=acc.length+l.length
 | [],acc=>by simp[cn]
 | x::l,acc=>by
  simp only[cn]
  split
  ·have:=ku has l acc;simp;omega
  ·have:=ku has l (acc++[x]);simp at this ⊢;omega
def gf(q:Nat×Nat):Value:=.agg #[.int .i64 q.1,.int .i64 q.2]
def bz:Nat->Nat->List Bs->List (Ent Bs)
 | _,_,[]=>[]
 | at_,b,c::r=>⟨c,gf (at_,c.length),b⟩::bz (at_+c.length+9) (b+1) r
theorem gd:∀(l:List Bs) (at_ b:Nat),(bz at_ b l).map (·.key)=l
 | [],_,_=>rfl
 | c::r,at_,b=>by simp[bz,gd r]
theorem oQ(l:List Bs)(at_ b:Nat):(bz at_ b l).length=l.length:=by
 have:=congrArg length (gd l at_ b);simpa using this
theorem iu(c:Bs)(r:List Bs):bd (c::r)=c.length+9+bd r:=rfl
theorem tS(l:List Bs)(c:Bs):bd (l++[c])=bd l+(c.length+9):=by simp[bd]
theorem nZ(m:List Bs):∀(l:List Bs) (at_ b:Nat),bz at_ b (l++m)=bz at_ b l++bz (at_+bd l) (b+l.length) m
 | [],at_,b=>by simp[bz,bd]
 | c::r,at_,b=>by
  simp only[cons_append,bz,nZ m r,iu,length_cons]
  rw[show at_+c.length+9+bd r=at_+(c.length+9+bd r) by omega,show b+1+r.length=b+(r.length+1) by omega]
theorem mO:∀(l:List Bs) (at_ b:Nat),∀e∈bz at_ b l,b<=e.born/\e.born<b+l.length
 | [],_,_,e,h=>by simp[bz]at h
 | c::r,at_,b,e,h=>by
  simp only[bz,mem_cons]at h
  rcases h with rfl|h
  ·simp
  ·have:=mO r _ _ e h;simp;omega
theorem pT:∀(l:List Bs) (at_ b:Nat),((bz at_ b l).map (·.born)).Nodup
 | [],_,_=>by simp[bz]
 | c::r,at_,b=>by
  simp only[bz,map_cons,nodup_cons]
  refine⟨fun h=>?_,pT r _ _⟩
  obtain⟨e,he,hb⟩:=mem_map.1 h
  have:=mO r _ _ e he
  omega
theorem wB{l:List Bs}(h:l.Nodup)(hs:∀c∈l,OkS c)(at_:Nat):MapOk OkS (bz at_ 0 l) l.length where
 nodup:=by rw[gd];exact h
 borns:=pT l at_ 0
 lt:=fun e he=>by have:=mO l at_ 0 e he;omega
 ok:=fun e he=>hs _ (by rw[<- gd l at_ 0];exact mem_map.2 ⟨e,he,rfl⟩)
theorem oS:∀(l:List Bs) (at_ b:Nat),∀e∈bz at_ b l,∃q,(e.key,q)∈ck at_ l/\e.val=gf q
 | [],_,_,e,h=>by simp[bz]at h
 | c::r,at_,b,e,h=>by
  simp only[bz,mem_cons]at h
  rcases h with rfl|h
  ·exact⟨_,mem_cons_self,rfl⟩
  ·obtain⟨q,h1,h2⟩:=oS r _ _ e h
   exact⟨q,mem_cons_of_mem _ h1,h2⟩
theorem tU:∀(l:List Bs) (at_ b:Nat),(bz at_ b l).map (fun e=>(e.key,e.val))=(ck at_ l).map (fun p=>(p.1,gf p.2))
 | [],_,_=>rfl
 | c::r,at_,b=>by simp[bz,ck,tU r]
theorem lL(l:List Bs)(at_ b:Nat)(c:Bs):ix (bz at_ b l) c=decide (c∈l):=by
 rw[Bool.eq_iff_iff,iy,decide_eq_true_eq];have hk:=gd l at_ b;constructor
 ·rintro⟨e,he,rfl⟩;rw[<- hk];exact mem_map.2 ⟨e,he,rfl⟩
 ·intro h;rw[<- hk]at h;obtain⟨e,he,h2⟩:=mem_map.1 h;exact⟨e,he,h2⟩
theorem CU{l:List Bs}{at_ b:Nat}{c:Bs}(h:c∈l):∃q,(c,q)∈ck at_ l/\dB (bz at_ b l) c=some (gf q):=by
 have h1:=lL l at_ b c;rw[decide_eq_true h,gI]at h1
 cases hg:dB (bz at_ b l) c with
 | none=>rw[hg]at h1;cases h1
 | some v =>
  obtain⟨e,he,hk,hv⟩:=lk hg;obtain⟨q,hq,h2⟩:=oS l at_ b e he;exact⟨q,hk ▸ hq,by rw[<- hv,h2]⟩
theorem CV{l:List Bs}{at_:Nat}{c:Bs}(h:c∉l):gA (bz at_ 0 l) l.length c (gf (at_+bd l,c.length))=bz at_ 0 (l++[c])/\cw (bz at_ 0 l) l.length c=(l++[c]).length:=by
 have h1:=lL l at_ 0 c;rw[decide_eq_false h]at h1;unfold gA cw;rw[h1,nZ];simp[bz]
theorem rU(l:List Bs)(c:Bs)(at_:Nat):ck at_ (l++[c])=ck at_ l++[(c,at_+bd l,c.length)]:=by rw[vA];rfl
theorem ca(D:Bs):(aB D).length=(aL D).length:=du _ _
def oJ(D:Bs)(i:Nat):Bs:=(D.drop ((aL D).take i).sum).take ((aL D).getD i 0)
theorem fF{D:Bs}{i:Nat}(h:i<(aL D).length):(aB D).take (i+1)=(aB D).take i++[oJ D i]:=by
 have h':i<(aB D).length:=by rw[ca];exact h
 have e:(aB D)[i]=(D.drop ((aL D).take i).sum).take (aL D)[i]:=kL _ _ _ h;rw[QH h',e];unfold oJ;simp[getD_eq_getElem?_getD,h]
theorem mY(l:List Nat)(i:Nat)(h:i<l.length):(l.take i).sum+l[i]<=l.sum:=by
 conv=>rhs;rw[<- take_append_drop (i+1) l,sum_append,QH h,sum_append]
 simp
theorem tx{D:Bs}{i:Nat}(h:i<(aL D).length):(oJ D i).length=(aL D).getD i 0:=by
 have h1:=mY (aL D) i h;rw[iW]at h1;unfold oJ;rw[length_take,length_drop];simp only[getD_eq_getElem?_getD,h,getElem?_eq_getElem,Option.getD_some];omega
theorem xN{w:World}{d off:Nat}{D:Bs}{i:Nat}(hD:eN w d off D)(h:i<(aL D).length):al w (some ⟨d,off+((aL D).take i).sum,none⟩) ((oJ D i).map am):=fun _=>by
 refine⟨d,_,rfl,fun j hj=>?_⟩
 have hl:=tx h
 have h1:=mY (aL D) i h
 rw[iW]at h1
 have e:(aL D).getD i 0=(aL D)[i]:=by simp[getD_eq_getElem?_getD,h]
 rw[length_map,hl,e]at hj
 have:=hD (((aL D).take i).sum+j) (by omega)
 rw[<- Nat.add_assoc]at this
 rw[this]
 simp[oJ,am]
def cB(n:Int):Obj:=.cells #[.int .i64 n] 3 (0,0)
def dg(a:Nat):Obj:=.cells #[.pointer (some ⟨a,0,none⟩)] 32 (0,0)
def eU(v:Value):Obj:=.cells #[v] 45 (0,0)
def cV(b:Nat):Obj:=.cells #[.pointer (some ⟨b,0,none⟩)] 149 (0,0)
def cT(v:Value):Obj:=.cells #[v] 61 (0,0)
def dW(b:Nat):Obj:=.cells #[.map (some b)] 154 (0,0)
def G8(S:AS)(D:Bs)(B9 B11 B12 B13 Bm Bv num:Nat)(R:HF)(i:Nat)(F:HF):Prop :=
 ∃(sp:List (Nat×Nat×Nat)) (acc:List Bs) (fv rv:Value) (chs:List (Nat×Nat)) (recs:List RecL),
  acc=cn (S.K.map (·.1)) [] ((aB D).take i)/\AreaOk { S.A with spare:=sp }/\recs.map (·.bytes)=acc.map (frame 1)/\KQ rv recs/\cd fv chs/\chs.length=i /\
  (∀e∈((aB D).take i).zip chs,e∈S.K++ck S.data.length acc) /\
  F=(B13,Is (cB ((S.data.length+bd acc:Nat):Int)))::(B12,Is (dW Bm))::(Bm,Is (aQ str (bz S.data.length 0 acc) acc.length))::(B11,Is (cT rv)) ::
   (fk rv recs++((B9,Is (cV Bv))::(bT ⟨Bv,num,D.length,fv,chs,0⟩++(R++arF { S with A:={ S.A with spare:=sp } }))))
theorem Lw{l:List Bs}{chs:List (Nat×Nat)}{c:Bs}{q:Nat×Nat}{T T':List (Bs×Nat×Nat)}(hl:l.length=chs.length)(h:∀e∈l.zip chs,e∈T)(hT:∀e∈T,e∈T')(hq:(c,q)∈T'):∀e∈(l++[c]).zip (chs++[q]),e∈T':=by
 intro e he;rw[zip_append hl]at he;rcases mem_append.1 he with h'|h'
 ·exact hT e (h e h')
 ·simp only[zip_cons_cons,zip_nil_right,mem_singleton]at h';subst h';exact hq
theorem dF{D:Bs}{c:Bs}(h:c∈aB D):c.length<=D.length:=by
 obtain⟨i,hi,rfl⟩:=mem_iff_getElem.1 h;have hi':i<(aL D).length:=by rw[<- ca];exact hi
 have e:(aB D)[i]=(D.drop ((aL D).take i).sum).take (aL D)[i]:=kL _ _ _ hi';rw[e,length_take,length_drop];omega
theorem K7{S:AS}{D:Bs}{i:Nat}(hD:D.length<=4000):∀c∈cn (S.K.map (·.1)) [] ((aB D).take i),OkS c:=fun c hc=>by
 rcases jl _ _ _ c hc with h|⟨h,_⟩
 ·simp at h
 ·have:=dF (mem_of_mem_take h)
  unfold OkS;omega
theorem pS:∀(l:List Bs) (m:Nat),(∀c∈l,c.length<=m)->bd l<=l.length*(m+9)
 | [],_,_=>by simp[bd]
 | c::r,m,h=>by
  have h1:=h c (by simp)
  have h2:=pS r m (fun x hx=>h x (by simp[hx]))
  rw[iu,length_cons,Nat.add_mul]
  omega
def qG:Code->Option (Code×Code)
 | .rangeFunc _ _ a b=>some (a,b)
 | .seq a b=>match qG a with|some r=>some r|none=>qG b
 | .block _ c=>qG c
 | .scope c=>qG c
 | _=>none
def I6:Code->Option Code
 | .seq a b=>if(qG a).isSome then some b else I6 b
 | _=>none
noncomputable def Kh:Code:=((Tryz.f25.body.bind qG).map (·.2)).getD .skip
noncomputable def Ki:Code:=(Tryz.f25.body.bind I6).getD .skip
end
section
open Go.RowKit Go.Maps
def wW(v:Value):Obj:=.cells #[v] 38 (0,0)
theorem F9{v:Value}{l:List (Nat×Nat)}(h:cd v l){w:World}(hs:Sat w (aU v l)):v.oneCell'=true/\v.cells=#[v]:=by
 obtain⟨sl,cap,rfl,_⟩:=gh hs h;exact⟨rfl,rfl⟩
theorem nB{w:World}{v:Value}{l:Bs}(h:bOk v l)(hs:Sat w (aI v l)):v.oneCell'=true/\v.cells=#[v]/\∃a cap,v=.slice a l.length cap:=by
 obtain⟨a,cap,rfl,_⟩:=aP (dr hs h);exact⟨rfl,rfl,a,cap,rfl⟩
theorem EF{w:World}{e:Nat}{v:Value}{l:List Value}(hs:Sat w (bN e 1 v l.length l))(h:eE 1 v l.length l):v.oneCell'=true/\v.cells=#[v]:=by
 obtain⟨a,cap,rfl,_⟩:=aP (aR hs h);exact⟨rfl,rfl⟩
theorem EB{lb n:Nat}(F1 Z:HF)(A:World)(B15 B9 Bv:Nat)(VV:VerL)(q:Nat×Nat)(fv:Value)(chs:List (Nat×Nat)){Q:Exit->Act->World->Prop}{w:World}{u0 u1 u2 u3 u4 u5 u6 u7 u8 aS aT ab ad ag aj ar av ax a0 a1 a2 a3 a4 a5 a6 a7 a8 a9 bY ba bc bg bj bl bo bs bv bx b0 b1 b2 b3 b4 b6 b7 b9 cb cc cg ch ci cj cl cm cp cs ct cu cx c0 c1 c2 c3 c4 c5 c6 c7 dO dT df dn dp dv d0 d1 d2 d3 d4 d5 d6 d7 d8 eA eQ eX ea eg el em en ep es ev e0 e1 e2 e3 e4 e5 e6 e7 fE fl fn fo fr fs fz f0 f1 f2 f3 f4 f5 f6 f7 f8 f9 gD gb gg gp gq gs gu gv gx g2 g3 g4 g5 g6 g7 g9 hA hB hC hD hE hF hG hH hI hJ hK hL hM hN hO hP hQ hR hS hU hV hW hX hY hZ ha hb hc hd he hf hg hh hi hj hl hm hn ho hp hq:Value}{ds:List Deferred}(hT:Turns F1 ((B15,Is (aG q))::(B9,Is (cV Bv))::(Bv,Is (dq VV))::(aU fv chs++Z)) A w)(hpo:cd fv chs)(hcv:VV.cv=fv)(hcl:chs.length<=100000)(hQo:¬LetsOut Q)(hk:∀(hr hs ht hw hx hy hz h3 h4 h5:Value) (w':World),cd h3 (chs++[q])->Turns F1 ((Bv,Is (.cells ((fC VV).setIfInBounds 2 h3) 152 (0,0)))::(B15,Is (aG q))::(B9,Is (cV Bv))::(aU h3 (chs++[q])++Z)) A w'->Q .normal { tmps:=#[u0,u1,u2,u3,u4,u5,u6,u7,u8,.pointer (some ⟨B9,0,none⟩),aS,aT,ab,ad,ag,.pointer (some ⟨B15,0,none⟩),aj,ar,av,ax,a0,a1,a2,a3,a4,a5,a6,a7,a8,a9,bY,ba,bc,bg,bj,bl,bo,bs,bv,bx,b0,b1,b2,b3,b4,b6,b7,b9,cb,cc,cg,ch,ci,cj,cl,cm,cp,cs,ct,cu,cx,c0,c1,c2,c3,c4,c5,c6,c7,dO,dT,df,dn,dp,dv,d0,d1,d2,d3,d4,d5,d6,d7,d8,eA,eQ,eX,ea,eg,el,em,en,ep,es,ev,e0,e1,e2,e3,e4,e5,e6,e7,fE,fl,fn,fo,fr,fs,fz,f0,f1,f2,f3,f4,f5,f6,f7,f8,f9,gD,gb,gg,gp,gq,gs,gu,gv,gx,hr,hs,ht,hw,hx,hy,hz,h3,h4,h5,hD,hE,hF,hG,hH,hI,hJ,hK,hL,hM,hN,hO,hP,hQ,hR,hS,hU,hV,hW,hX,hY,hZ,ha,hb,hc,hd,he,hf,hg,hh,hi,hj,hl,hm,hn,ho,hp,hq],defers:=ds } w'):
  (I4 28 Tryz.f25).wpIn (Fence.wide.inRound lb) n Tryz.prog Q { tmps:=#[u0,u1,u2,u3,u4,u5,u6,u7,u8,.pointer (some ⟨B9,0,none⟩),aS,aT,ab,ad,ag,.pointer (some ⟨B15,0,none⟩),aj,ar,av,ax,a0,a1,a2,a3,a4,a5,a6,a7,a8,a9,bY,ba,bc,bg,bj,bl,bo,bs,bv,bx,b0,b1,b2,b3,b4,b6,b7,b9,cb,cc,cg,ch,ci,cj,cl,cm,cp,cs,ct,cu,cx,c0,c1,c2,c3,c4,c5,c6,c7,dO,dT,df,dn,dp,dv,d0,d1,d2,d3,d4,d5,d6,d7,d8,eA,eQ,eX,ea,eg,el,em,en,ep,es,ev,e0,e1,e2,e3,e4,e5,e6,e7,fE,fl,fn,fo,fr,fs,fz,f0,f1,f2,f3,f4,f5,f6,f7,f8,f9,gD,gb,gg,gp,gq,gs,gu,gv,gx,g2,g3,g4,g5,g6,g7,g9,hA,hB,hC,hD,hE,hF,hG,hH,hI,hJ,hK,hL,hM,hN,hO,hP,hQ,hR,hS,hU,hV,hW,hX,hY,hZ,ha,hb,hc,hd,he,hf,hg,hh,hi,hj,hl,hm,hn,ho,hp,hq],defers:=ds } w:=by
 conv=>arg 4;whnf
 refine uV [([0,1,2,3,4,5],6,[0,1,2,3,4]),([],7,[0]),([8,9],10,[])] [] HM.out (by kernel_rfl) hQo (by kernel_rfl) fun W tW=>?_
 simp only[Mix,map_cons,map_nil,nth,QG,QF];have hT1:=tW hT;clear tW;have g:∀{W:World},W.heap[B9]?=some (cV Bv)->W.heap[Bv]?=some (dq VV)->W.cell? ⟨B9,0,none⟩=some (.pointer (some ⟨Bv,0,none⟩))/\W.cell? ⟨Bv,2,none⟩=some fv:=fun h1 h2=>⟨aa h1 0 rfl,aa h2 2 (by rw[<- hcv];rfl)⟩
 obtain⟨g0,g1⟩:=g (hT1.sat.Q7 (by simp)) (hT1.sat.Q7 (by simp));repeat still_step
 refine iL 161 (.tmp 15) rfl rfl B15 0 rfl [.int .i64 q.1,.int .i64 q.2] _ (fun j v hv=>aa hT1.sat.Q5 (0+j) (by rw[Nat.zero_add,<- Array.getElem?_toList];exact hv)) Tryz.underlying161 rfl (by kernel_rfl) (wpStill_nil ?_);refine i6 (aG q) (fun n=>.slice (some ⟨n,0,none⟩) 1 1) (by kernel_rfl) hT1 fun n W2 hT2=>⟨by(obtain⟨g0,g1⟩:=g (hT2.sat.Q7 (by simp)) (hT2.sat.Q7 (by simp));(repeat still_step);exact rfl),wpStill_nil ?_⟩
 refine kF (.tmp 133) (.tmp 135) rfl fv chs rfl (hT2.to (H:=aU fv chs++((n,Is (aG q))::(B15,Is (aG q))::(B9,Is (cV Bv))::(Bv,Is (dq VV))::Z)) ae) hpo (some ⟨n,0,none⟩) 1 1 rfl [q] rfl (fun _=>⟨_,rfl,fun j u hu=>by
  rw[Addr.add_lit,Nat.zero_add];exact aa hT2.sat.Q5 j (by rw[<- Array.getElem?_toList];exact hu)⟩) (by simp;omega) fun v1 W3 h1 hT3=>⟨by(obtain⟨g0,g1⟩:=g (hT3.sat.Q7 (by simp)) (hT3.sat.Q7 (by simp));(repeat still_step);exact rfl),?_⟩
 simp only[Act.put,QA,QB,QC];repeat still_step
 have p1:=F9 h1 hT3.sat.left;refine wpStill_nil (bu 150 (.tmp 138) (.tmp 136) rfl Bv 2 (fC VV) 152 v1 (hT3.to (H:=(Bv,Is (dq VV))::(aU v1 (chs++[q])++((n,Is (aG q))::(B15,Is (aG q))::(B9,Is (cV Bv))::Z))) ae) rfl rfl (by simp[fC]) (by kernel_rfl) p1.1 p1.2 fun W4 hT4=>⟨rfl,?_⟩);simp only[Act.put];exact hk _ _ _ _ _ _ _ _ _ _ W4 h1 (hT4.drop bS)
theorem Gt(w:World)(l:Bs):∃cap w',(convert 9 38 (str l)).run Tryz.prog w=.ok (.slice (some ⟨w.heap.size,0,none⟩) l.length cap) w'/\aX w w'/\al w' (some ⟨w.heap.size,0,none⟩) (l.map am):=by
 refine⟨_,_,Go.Lib.run_convert_string_bytes w 9 38 5 ⟨l.toArray⟩ Tryz.underlying9 Tryz.underlying38 Tryz.underlying5,⟨rfl,rfl,rfl,?_,fun k hk _=>?_⟩,fun _=>⟨_,_,rfl,fun j hj=>?_⟩⟩
 ·rw[Go.Lib.bytesWorld_size];omega
 ·exact Go.Lib.bytesWorld_at_old w _ _ k hk
 ·have hj':j<l.length:=by simpa using hj
  rw[Nat.zero_add,Go.Lib.bytesWorld_cell w _ _ j (by simpa[ByteArray.size]using hj')];simp[am,getD,hj']
theorem DU{o:Oper}{a:Act}{w:World}{K:Act->World->Prop}{Q:Exit->Act->World->Prop}(x:Operand)(ho:o.op=.convert 9 38 x)(l:Bs)(hx:a.eval x=str l)(hk:∀n cap w',aX w w'->al w' (some ⟨n,0,none⟩) (l.map am)->w.heap.size<=n->K (a.put o.dst (.slice (some ⟨n,0,none⟩) l.length cap)) w'):o.wp Tryz.prog a w K Q:=by
 obtain⟨cap,w',h1,h2,h3⟩:=Gt w l;refine m9 (v:=.slice (some ⟨w.heap.size,0,none⟩) l.length cap) (w':=w') ?_ (hk _ cap w' h2 h3 (Nat.le_refl _));simp[execOp,ho,hx,h1,Result.andThen]
theorem mM(c:Bs)(r:List Bs):dX (c::r)=frame 1 c++dX r:=by simp[dX]
theorem gH:∀l:List Bs,(dX l).length=bd l
 | []=>rfl
 | c::r=>by rw[mM,length_append,aJ,iu,gH r]
theorem qW(rest:Bs):∀(l:List Bs) (data:Bs),(∀c∈l,c.length<65536)->∀e∈ck data.length l,e.2.2=e.1.length/\dw (data++dX l++rest) e.2.1 e.1
 | [],_,_,e,h=>by simp[ck]at h
 | c::r,data,hl,e,h=>by
  simp only[ck,mem_cons]at h
  rcases h with rfl|h
  ·refine⟨rfl,?_⟩
   have:=dw.frame (data:=data) (body:=c) (rest:=dX r++rest) (hl c (by simp))
   rw[mM]
   simpa[append_assoc]using this
  ·have h2:=qW rest r (data++frame 1 c) (fun x hx=>hl x (by simp[hx])) e (by rw[length_append,aJ,<- Nat.add_assoc];exact h)
   rw[mM]
   simpa[append_assoc]using h2
theorem rS{ps:List aW}{pc:Nat}(hok:PathsOk ps pc){l:Bs}(hl:OkS l){v:Value}{V:VerL}(hv:eP v (af ps l++[V]))(hV:cd V.cv V.chs):PathsOk (kh ps pc l v V) (cw (ps.map aO) pc l) where
 map:=by unfold kh;rw[iE];exact hok.map.put hl v
 rows:=fun p hp=>by
  rcases fx hp with⟨h1,_⟩|⟨_,h2,h3⟩
  ·exact hok.rows p h1
  ·refine⟨by rw[h2,h3];exact hv,fun U hU=>?_⟩
   rw[h3]at hU
   rcases mem_append.1 hU with h|h
   ·unfold af gOf at h
    cases hf:ps.find? (fun p=>decide (p.key=l))with
    | none=>rw[hf]at h;simp at h
    | some p'=>rw[hf]at h;exact(hok.rows p' (mem_of_find?_eq_some hf)).2 U h
   ·simp only[mem_singleton]at h;subst h;exact hV
theorem bD{ps:List aW}{l:Bs}(h:af ps l≠[]):∃p∈ps,p.key=l/\p.g=af ps l:=by
 unfold af gOf at h ⊢
 cases hf:ps.find? (fun p=>decide (p.key=l))with
 | none=>rw[hf]at h;exact absurd rfl h
 | some p=>exact⟨p,mem_of_find?_eq_some hf,by simpa using find?_some hf,rfl⟩
theorem Jc{γ:Type}(ps:List (GE γ))(c:Nat)(l:Bs)(v:Value)(g:γ):(ef ps c l v g).length<=ps.length+1:=by
 unfold ef;split<;>simp
theorem kY{α β:Type}:∀{l:List α} {m:List β},l.length=m.length->∀b∈m,∃a∈l,(a,b)∈l.zip m
 | [],[],_,b,hb=>by simp at hb
 | a::l,x::m,h,b,hb=>by
  rcases mem_cons.1 hb with rfl|hb
  ·exact⟨a,by simp,by simp⟩
  ·obtain⟨a',h1,h2⟩:=kY (by simpa using h) b hb
   exact⟨a',by simp[h1],by simp[h2]⟩
theorem Ec:∀{l:List Bs} {m:List (Nat×Nat)},l.length=m.length->(∀e∈l.zip m,e.2.2=e.1.length)->(m.map (·.2)).sum=(l.map length).sum
 | [],[],_,_=>rfl
 | c::l,q::m,h,hz=>by
  have h1:=hz (c,q) (by simp)
  have h2:=Ec (l:=l) (m:=m) (by simpa using h) (fun e he=>hz e (by simp[he]))
  simp only[map_cons,sum_cons]
  rw[h2]
  simp only at h1
  rw[h1]
theorem mE:∀(l:List Nat) (d:Bs),l.sum=d.length->((cX l d).map length).sum=d.length
 | [],d,h=>by simpa[cX]using h
 | n::r,d,h=>by
  simp only[sum_cons]at h
  simp only[cX,map_cons,sum_cons,length_take]
  rw[mE r (d.drop n) (by rw[length_drop];omega),length_drop]
  omega
theorem pK(D:Bs):((aB D).map length).sum=D.length:=mE _ _ (iW D)
theorem ri(has:List Bs):∀(l acc:List Bs),((cn has acc l).map length).sum<=(acc.map length).sum+(l.map length).sum
 | [],acc=>by simp[cn]
 | c::l,acc=>by
  simp only[cn]
  split
  ·have:=ri has l acc;simp;omega
  ·have:=ri has l (acc++[c]);simp at this ⊢;omega
theorem jC(l:List Bs):bd l=(l.map length).sum+9*l.length:=by
 induction l with
 | nil=>rfl
 | cons c r ih=>rw[iu,ih];simp;omega
theorem iV(S:AS)(D:Bs):((bF S D).map length).sum<=D.length:=by
 have:=ri (S.K.map (·.1)) (aB D) [];rw[pK]at this;unfold bF;simpa using this
theorem oT(S:AS)(D:Bs):(bF S D).length<=D.length:=by
 have h1:=ku (S.K.map (·.1)) (aB D) [];have h2:=cZ D;rw[ca]at h1;unfold bF;simp at h1;omega
theorem oU{S:AS}{D c:Bs}(h:c∈bF S D):c∈aB D/\c∉S.K.map (·.1):=by
 rcases jl _ _ _ c h with h|h
 ·simp at h
 ·exact h
theorem l6(data:Bs):(bL data).length=128:=by
 unfold bL;have:=fI data;simp[ak];omega
theorem uc{S:AS}{b:Nat}(hB:ArB S b)(l:Bs):eM (af S.ps l)<=4294967296+b:=by
 unfold eM
 cases hg:(af S.ps l).getLast? with
 | none=>simp
 | some V =>
  have hV:=mem_of_getLast? hg;obtain⟨p,hp,_,h2⟩:=bD (ps:=S.ps) (l:=l) (fun e=>by rw[e]at hV;simp at hV);rw[<- h2]at hV;exact((hB.vers p hp).2.2 V hV).1
theorem gc(l:Bs)(n s:Int)(chs:List (Nat×Nat)):(frame 2 (eC l n s (bt chs))).length=l.length+16+4*chs.length:=by
 simp only[aJ,eC,length_append,bI,bV,cH,bt,length_map];omega
theorem IX{S:AS}{l D:Bs}{b:Nat}(hok:ArOk S)(hB:ArB S b)(hl:l.length<=20)(hD:D.length<=4000){sp:List (Nat×Nat×Nat)}(hA:AreaOk { S.A with spare:=sp }){V:VerL}(hnum:V.num=eM (af S.ps l)+1)(hsize:V.size=D.length)(hheld:V.held=0)(hnc:V.chs.length=(aB D).length)(hchs:∀e∈(aB D).zip V.chs,e∈S.K++ck S.data.length (bF S D))(hV:cd V.cv V.chs){L':DevL}(hL:DevOk L')(hLn:L'.n=S.L.n)(hdat:eB L'.now S.A.first S.A.count (S.data++dX (bF S D)++frame 2 (eC l V.num V.size (bt V.chs))))(hoth:∀f2 c2,(f2+c2<=S.A.first\/S.A.first+S.A.count<=f2)->au L'.now f2 c2=au S.L.now f2 c2)(hLc:L'.chs.length<=S.L.chs.length+(dX (bF S D)++frame 2 (eC l V.num V.size (bt V.chs))).length){cs':List kg}{cc':Nat}(hcs:ChunksOk cs' cc')(hkin:∀k,(aY cs' k).Perm (((S.K++ck S.data.length (bF S D)).filter (fun e=>decide (ed e.1=k))).map (·.2))){v':Value}(hv:eP v' (af S.ps l++[V])):
  ∀S',S'={ S with X:={ S.X with sc:=S.X.sc+(bF S D).length,sb:=S.X.sb+((bF S D).map length).sum,used:=S.X.used+D.length },A:={ S.A with spare:=sp,end_:=(S.data++dX (bF S D)++frame 2 (eC l V.num V.size (bt V.chs))).length,tail:=bL (S.data++dX (bF S D)++frame 2 (eC l V.num V.size (bt V.chs))) },L:=L',ps:=kh S.ps S.pc l v' V,pc:=cw (S.ps.map aO) S.pc l,cs:=cs',cc:=cc',data:=S.data++dX (bF S D)++frame 2 (eC l V.num V.size (bt V.chs)),K:=S.K++ck S.data.length (bF S D) } ->
  PutStep S S' l D V/\ArOk S'/\xF S D b S':=by
 rintro S' rfl;have hfl:=oT S D;have hfs:=iV S D
 have hkat:∀e∈S.K++ck S.data.length (bF S D),e.2.2=e.1.length/\dw (S.data++dX (bF S D)++frame 2 (eC l V.num V.size (bt V.chs))) e.2.1 e.1:=fun e he=>by
  rcases mem_append.1 he with h|h
  ·refine⟨(hok.kat e h).1,?_⟩;rw[append_assoc];exact(hok.kat e h).2.more
  ·exact qW _ _ _ (fun c hc=>by have:=dF (oU hc).1;omega) e h
 have hpl:(ck S.data.length (bF S D)).length=(bF S D).length:=by
  have:=congrArg length (tU (bF S D) S.data.length 0);simp only[length_map]at this;rw[<- this,oQ]
 have hln:=uc hB l;have hcn:=cZ D;rw[ca]at hnc
 have hvers:∀p∈kh S.ps S.pc l v' V,(p∈S.ps/\p.key≠l)\/(p.key=l/\p.g=af S.ps l++[V]):=fun p hp=>by
  rcases fx hp with h|⟨h1,_,h3⟩
  ·exact .inl h
  ·exact .inr ⟨h1,h3⟩
 refine⟨⟨rfl,rfl,rfl,rfl,rfl,hLn,rfl,rfl,rfl,rfl,rfl,fun m=>?_,hnum,hsize,hheld,by rw[hnc,ca],hchs,rfl,hoth⟩,?_,?_⟩
 ·simp only[af,kh,pU]
 ·exact {
   dev:=hL,n16:=by rw[hLn];exact hok.n16,nmax:=by rw[hLn];exact hok.nmax,area:=⟨l6 _,hA.few,hA.caps⟩,first:=by rw[hLn];exact hok.first,count:=by rw[hLn];exact hok.count
   end_:=rfl,tail:=rfl,dat:=hdat,paths:=rS hok.paths (by unfold OkS;omega) hv hV,tags:=hok.tags,chunks:=hcs,kin:=hkin,kat:=hkat
   vers:=fun p hp U hU=>by
    have old:∀p∈S.ps,∀U∈p.g,(∀q∈U.chs,∃e∈S.K++ck S.data.length (bF S D),e.2=q)/\U.size=(U.chs.map (·.2)).sum:=fun p hp U hU =>
     ⟨fun q hq=>by obtain⟨e,he,h⟩:=(hok.vers p hp U hU).1 q hq;exact⟨e,mem_append_left _ he,h⟩,(hok.vers p hp U hU).2⟩
    rcases hvers p hp with⟨h1,_⟩|⟨_,h3⟩
    ·exact old p h1 U hU
    ·rw[h3]at hU
     rcases mem_append.1 hU with h|h
     ·obtain⟨p',hp',_,h2⟩:=bD (ps:=S.ps) (l:=l) (fun e=>by rw[e]at h;simp at h)
      rw[<- h2]at h
      exact old p' hp' U h
     ·simp only[mem_singleton]at h
      subst h
      have hll:(aB D).length=U.chs.length:=by rw[hnc,ca]
      refine⟨fun q hq=>?_,?_⟩
      ·obtain⟨c,_,h2⟩:=kY hll q hq
       exact⟨(c,q),hchs _ h2,rfl⟩
      ·rw[hsize,Ec hll (fun e he=>(hkat e (hchs e he)).1),pK]
   some:=fun p hp=>by
    rcases hvers p hp with⟨h1,_⟩|⟨_,h3⟩
    ·exact hok.some p h1
    ·rw[h3];simp
   sound:=hok.sound,ep:=hok.ep }
 ·intro b' hb1 hb3;rw[ca]at hb3
  have hfr:(dX (bF S D)++frame 2 (eC l V.num V.size (bt V.chs))).length<=262144*2:=by
   rw[length_append,gH,jC,gc];omega
  have hb2:b<=b':=by omega
  exact {
   K:=by have:=hB.K;simp only[length_append,hpl];omega
   np:=by have h1:=Jc S.ps S.pc l v' (af S.ps l++[V]);have:=hB.np;show(ef S.ps S.pc l v' (af S.ps l++[V])).length<=_;omega
   nt:=by have:=hB.nt;show S.ts.length<=_;omega
   vers:=fun p hp=>by
    have old:∀U:VerL,U.num<=4294967296+b/\U.chs.length<=b/\U.size<=65536*b/\U.held.natAbs<=b->U.num<=4294967296+b'/\U.chs.length<=b'/\U.size<=65536*b'/\U.held.natAbs<=b':=fun U h=>by omega
    rcases hvers p hp with⟨h1,_⟩|⟨h0,h3⟩
    ·obtain⟨k1,k2,k3⟩:=hB.vers p h1
     exact⟨k1,by omega,fun U hU=>old U (k3 U hU)⟩
    ·rw[h0,h3]
     have hlen:(af S.ps l).length<=b/\∀U∈af S.ps l,U.num<=4294967296+b/\U.chs.length<=b/\U.size<=65536*b/\U.held.natAbs<=b:=by
      by_cases hn:af S.ps l=[]
      ·rw[hn];exact⟨by simp,fun U hU=>by simp at hU⟩
      ·obtain⟨p',hp',_,h2⟩:=bD hn
       rw[<- h2];exact⟨(hB.vers p' hp').2.1,(hB.vers p' hp').2.2⟩
     refine⟨by omega,by simp;omega,fun U hU=>?_⟩
     rcases mem_append.1 hU with h|h
     ·exact old U (hlen.2 U h)
     ·simp only[mem_singleton]at h
      subst h
      rw[hnum,hsize,hheld,hnc]
      exact⟨by omega,by omega,by omega,by simp⟩
   tags:=fun p hp=>by obtain⟨k1,k2,k3⟩:=hB.tags p hp;exact⟨k1,k2,by omega⟩
   used:=by have:=hB.used;simp only;omega
   sc:=by have:=hB.sc;simp only;omega
   sb:=by have:=hB.sb;simp only;omega
   quota:=hB.quota
   chs:=by have:=hB.chs;simp only at hLc ⊢;omega }
def OkI(n:Int):Prop:=-9223372036854775808<=n/\n<=9223372036854775807
theorem C5:EncOk Tryz.prog 3 dQ OkI where
 keyed:=int_keyed Tryz.underlying3
 inj:=fun a b h=>by simpa[dQ]using h
 key:=fun a h=>⟨_,Go.Maps.keyOf_int_mk Tryz.underlying3 (by
  unfold OkI at h
  simp[Lit.wf,IntKind.signed,IntKind.bits,IntKind.min,IntKind.max]
  omega)⟩
theorem KT(w:World):(zeroValue 3).run Tryz.prog w=.ok (.int .i64 0) w:=by kernel_rfl
def dt(szf:Int->Option Nat):List Int->Option (List (Nat×Nat))
 | []=>some []
 | a::r=>match szf a,dt szf r with
  | some s,some l=>some ((a.toNat,s)::l)
  | _,_=>none
theorem oI(szf:Int->Option Nat)(a:Int):∀l:List Int,dt szf (l++[a])=match dt szf l,szf a with|some m,some s=>some (m++[(a.toNat,s)])|_,_=>none
 | []=>by simp only[nil_append,dt];cases szf a<;>rfl
 | b::r=>by
  simp only[cons_append,dt,oI szf a r]
  cases szf b<;>cases dt szf r<;>cases szf a<;>rfl
theorem tw{szf:Int->Option Nat}:∀{l m:List Int},dt szf l=none->dt szf (l++m)=none
 | [],_,h=>by cases h
 | b::r,m,h=>by
  simp only[cons_append,dt]at h ⊢
  cases hb:szf b with
  | none=>rfl
  | some s =>
   rw[hb]at h
   cases hr:dt szf r with
   | none=>rw[tw hr]
   | some l=>rw[hr]at h;cases h
theorem nC{szf:Int->Option Nat}:∀{l:List Int} {m:List (Nat×Nat)},dt szf l=some m->m.length=l.length
 | [],m,h=>by simp only[dt,Option.some.injEq]at h;subst h;rfl
 | b::r,m,h=>by
  simp only[dt]at h
  cases hb:szf b with
  | none=>rw[hb]at h;cases h
  | some s =>
   cases hr:dt szf r with
   | none=>rw[hb,hr]at h;cases h
   | some l=>rw[hb,hr]at h;simp only[Option.some.injEq]at h;subst h;simp[nC hr]
theorem wj{szf:Int->Option Nat}(hs:∀a s,szf a=some s->s<=65535):∀{l:List Int} {m:List (Nat×Nat)},dt szf l=some m->(m.map (·.2)).sum<=65535*l.length
 | [],m,h=>by simp only[dt,Option.some.injEq]at h;subst h;simp
 | b::r,m,h=>by
  simp only[dt]at h
  cases hb:szf b with
  | none=>rw[hb]at h;cases h
  | some s =>
   cases hr:dt szf r with
   | none=>rw[hb,hr]at h;cases h
   | some l =>
    rw[hb,hr]at h
    simp only[Option.some.injEq]at h
    subst h
    have h1:=wj hs hr
    have h2:=hs b s hb
    simp only[map_cons,sum_cons,length_cons]
    omega
theorem Fb(X:ArchL)(s:Int):(bb X).setIfInBounds 5 (.int .i64 s)=bb { X with used:=s }:=rfl
theorem Fe(c:Array Value)(w:World):(Instr.typeAssert (.iface 173 (.agg c)) 215 173 true).run Tryz.prog w=.ok (.tuple #[.agg c,.bool true]) w:=by kernel_rfl
def iQ(a:Nat)(X:ArchL)(ps:List aW)(pc sm:Nat)(sz:List (Ent Int))(szc:Nat)(v:Value)(ats:List Int):HF :=
 (a,Is (aH X))::(aF X.pm ps pc++((sm,Is (aQ dQ sz szc))::cA v ats))
def E5(a:Nat)(X:ArchL)(ps:List aW)(pc sm:Nat)(sz:List (Ent Int))(szc:Nat)(v:Value)(szf:Int->Option Nat)(p:Bs)(n m:Nat)(ats:List Int)(w:World)(e:Ending)(w':World):Prop :=
 ((∀chs,dt szf ats=some chs->(chs.map (·.2)).sum≠m)/\e=.returned (.bool false)/\Turns (iQ a X ps pc sm sz szc v ats) (iQ a X ps pc sm sz szc v ats) w w') \/
 (∃chs b cv v',dt szf ats=some chs/\(chs.map (·.2)).sum=m/\e=.returned (.bool true)/\cd cv chs/\eP v' (af ps p++[⟨b,n,m,cv,chs,0⟩]) /\
  Turns (iQ a X ps pc sm sz szc v ats) (iQ a { X with used:=X.used+m } (kh ps pc p v' ⟨b,n,m,cv,chs,0⟩) (cw (ps.map aO) pc p) sm sz szc v ats) w w')
def JA(F1:HF)(szf:Int->Option Nat)(ats:List Int)(n m tb:Nat)(p:Bs)(v:Value)(vb:Nat)(w:World)(sum i:Value)(W:World):Prop :=
 ∃(k:Nat) (cv:Value) (chs:List (Nat×Nat)) (J:HF),k<=ats.length/\i=.int .i64 k/\dt szf (ats.take k)=some chs/\sum=.int .i64 ((chs.map (·.2)).sum:Nat)/\cd cv chs /\
  Turns F1 ((vb,Is (dq ⟨vb,n,m,cv,chs,0⟩))::(aU cv chs++((tb,Is (iH p n m v))::(F1++J)))) w W
theorem Bb(a:Nat)(X:ArchL)(ps:List aW)(pc sm:Nat)(sz:List (Ent Int))(szc:Nat)(v:Value)(szf:Int->Option Nat)(p:Bs)(n m:Nat)(ats:List Int)(w:World)(h:Sat w (iQ a X ps pc sm sz szc v ats))(hio:iOk v ats)(hsz:MapOk OkI sz szc)(hz:∀k,dB sz k=(szf k).map (fun s=>.int .i64 (s:Nat)))(hs:∀a s,szf a=some s->s<=65535)(hat:∀x∈ats,0<=x/\x<=4294967296)(hal:ats.length<=100000)(hok:PathsOk ps pc)(hl:OkS p)(hlen:(af ps p).length<=100000)(hus : -2305843009213693952<=X.used/\X.used<=2305843009213693952)(hm:m<=4294967296):
  Calls Tryz.prog 100 #[.pointer (some ⟨a,0,none⟩),uz (.ver p n m ats) v,.map (some sm)] w (E5 a X ps pc sm sz szc v szf p n m ats w):=by
 obtain⟨F1,hF1⟩:∃F1,F1=iQ a X ps pc sm sz szc v ats:=⟨_,rfl⟩;have hsm:=h.Q7 (b:=sm) (o:=aQ dQ sz szc) (by simp[iQ])
 obtain⟨av,cap,hv,-,hcap,hcap2,hcell⟩:∃av cap,v=.slice av ats.length cap/\True/\ats.length<=cap/\cap<=9223372036854775807/\al w av (ats.map dQ):=by
  obtain⟨a',c',e1,-,h3,h4,h5⟩:=aP (aR (h.sub (G:=cA v ats) (fun x=>by simp only[iQ,ao,ah];omega)) hio);exact⟨a',c',e1,trivial,h3,by have:=dl (h.sub (G:=cA v ats) (fun x=>by simp only[iQ,ao,ah];omega)) hio;obtain⟨-,-,a2,c2,e2,-,h2⟩:=this;rw[e1]at e2;simp only[Value.slice.injEq]at e2;obtain⟨-,-,rfl⟩:=e2;exact h2,h4⟩
 have HH:=qqH (And.intro h (And.intro hio (And.intro hsz (And.intro hz (And.intro hs (And.intro hat (And.intro hok (And.intro hl (And.intro hlen (And.intro hus (And.intro hF1 hv)))))))))));clear h hio hsz hz hs hat hok hl hlen hcell;have hT0:Turns F1 F1 w w:=by rw[hF1];exact Turns.refl HH.a
 subst hv;unfold uz;obtain⟨tb,htb⟩:∃tb,tb=w.heap.size:=⟨_,rfl⟩;obtain⟨vb,hvb⟩:∃vb,vb=w.heap.size+1:=⟨_,rfl⟩
 have hT1:Turns F1 ((vb,Is (dq ⟨vb,n,m,.slice none 0 0,[],0⟩))::((tb,Is (iH p n m (.slice av ats.length cap)))::F1)) w ((w.alloc (iH p n m (.slice av ats.length cap))).alloc (dq ⟨vb,n,m,.slice none 0 0,[],0⟩)):=by
  have:=(hT0.Q8 (iH p n m (.slice av ats.length cap))).Q8 (dq ⟨vb,n,m,.slice none 0 0,[],0⟩);rw[World.size_alloc,<- htb]at this;rw[hvb,<- htb];exact this
 have HT1:=qqH hT1;have HB:=Hq3 htb hvb hF1;clear hT0 hT1 hF1 hsm htb hvb;go_enter Tryz.func100,Tryz.ntmps100;have hta:=Fe #[.int .u8 2,str p,.int .i64 n,.int .i64 m,.slice av ats.length cap] w;go_wp2_with fail;rw[<- HB.b,<- HB.a];clear hta;go_loopw [9,32] (fun sum i wr=>JA F1 szf ats n m tb p (.slice av ats.length cap) vb w sum i wr) (fun _ i _=>ats.length-(intOf i).toNat)
 case atStart=>exact⟨0,.slice none 0 0,[],[],Nat.zero_le _,rfl,rfl,rfl,⟨rfl,fun _=>⟨rfl,rfl⟩⟩,by rw[append_nil];exact HT1.out⟩
 case round =>
  obtain⟨k,cv,chs,J,hk,rfl,hch,rfl,hpo,hT⟩:=hrel;obtain⟨sm1,hsm1⟩:∃sm1,sm1=(chs.map (·.2)).sum:=⟨_,rfl⟩;have hsl:sm1<=65535*k:=by have:=wj HH.e hch;rw[length_take]at this;rw[hsm1];omega
  have hcl:chs.length=k:=by rw[nC hch,length_take];omega
  rw[<- hsm1];have htb:=hT.sat.Q7 (b:=tb) (o:=iH p n m (.slice av ats.length cap)) (by simp);have t2:wr.cell? ⟨tb,3,none⟩=some (.int .i64 m):=aa htb 3 rfl;have htl:=ac htb;by_cases hlt:k<ats.length
  ·have hrow:al wr av (ats.map dQ):=by
    have hs:=hT.sat.sub (G:=cA (.slice av ats.length cap) ats) (fun x=>by rw[HB.y];simp only[iQ,ao,ah];omega);obtain⟨a',c',e1,-,-,h4,-⟩:=aP (aR hs HH.b);simp only[Value.slice.injEq]at e1;obtain⟨rfl,-,-⟩:=e1;exact h4
   obtain⟨g,off,hg,hcell⟩:=hrow (by rw[length_map];omega);subst hg;have hc1:=hcell k (by rw[length_map];exact hlt);rw[getElem_map]at hc1;obtain⟨x,hx⟩:∃x,x=ats[k]:=⟨_,rfl⟩;rw[<- hx]at hc1;unfold dQ at hc1;have hxr:=HH.f x (by rw[hx];exact getElem_mem hlt);have htk:ats.take (k+1)=ats.take k++[x]:=by rw[QH hlt,hx]
   have hsb:=hT.sat.Q7 (b:=sm) (o:=aQ dQ sz szc) (by rw[HB.y];simp[iQ]);have hget:=HH.d x;have hhas:=gI (l:=sz) (k:=x);have hvbo:=hT.sat.Q7 (b:=vb) (o:=dq ⟨vb,n,m,cv,chs,0⟩) (by simp);have v2:wr.cell? ⟨vb,2,none⟩=some cv:=aa hvbo 2 rfl;have hvl:=ac hvbo;rw[hget]at hhas
   cases hzx:szf x with
   | none =>
    rw[hzx]at hget hhas;have HR:=Hq7 hT hsb hget hhas htk hzx hxr;clear hT hsb hget hhas htk hzx hx hcell hrow hpo hvbo htb hxr;go_wp2_with ((refine ai rfl (iI C5 (.tmp 37) (.tmp 38) rfl Tryz.underlying212 HR.b HH.c (KT _) x rfl rfl ⟨by have:=HR.u;omega,by have:=HR.u;omega⟩ ?_);rw[HR.c,HR.d];simp only[Option.map_none,Option.getD_none,Option.isSome_none]));go_ret;refine (.inl ⟨fun c' hc'=>?_,rfl,?_⟩)
    ·have h1:dt szf (ats.take (k+1))=none:=by rw[HR.e,oI,HR.f];cases dt szf (ats.take k)<;>rfl
     have h2:=tw (m:=ats.drop (k+1)) h1;rw[take_append_drop]at h2;rw[h2]at hc';cases hc'
    ·rw[<- HB.y];exact HR.a.drop (fun x=>by simp only[ao,ah];omega)
   | some s =>
    rw[hzx]at hget hhas;have hs6:=HH.e x s hzx;have hch2:dt szf (ats.take (k+1))=some (chs++[(x.toNat,s)]):=by rw[htk,oI,hch,hzx]
    have hx2:(x.toNat:Int)=x:=by omega
    have hTp:=hT.to (H:=aU cv chs++((vb,Is (dq ⟨vb,n,m,cv,chs,0⟩))::((tb,Is (iH p n m (.slice (some ⟨g,off,none⟩) ats.length cap)))::(F1++J)))) ae;have HR:=Hq9 hTp hsb hget hhas hch2 hpo hxr hsm1 hx2;clear hT hTp hsb hget hhas htk hzx hx hcell hrow hpo hvbo htb hxr hch2 hch hx2 hsm1
    go_wp2_with (first
     | (refine ai rfl (iI C5 (.tmp 37) (.tmp 38) rfl Tryz.underlying212 HR.b HH.c (KT _) x rfl rfl ⟨by have:=HR.g;omega,by have:=HR.g;omega⟩ ?_);rw[HR.c,HR.d];simp only[Option.map_some,Option.getD_some,Option.isSome_some])
     | (at_builtin;refine ai rfl ?_;refine kF (.tmp 51) (.tmp 55) rfl _ chs rfl (HR.a.alloc _) HR.f _ 1 1 rfl [(x.toNat,s)] rfl (fun _=>⟨_,rfl,fun j u hu=>iU _ _ _ j u (by simpa only[cS,flatMap_cons,flatMap_nil,append_nil,qV,HR.out.2.2.2.2.2.2.2.2]using hu)⟩) (by simp;omega) ?_;intro v5 w5 hok5 hT5;have hb5:=hT5.sat.Q7 (b:=vb) (o:=dq ⟨vb,n,m,cv,chs,0⟩) (by simp);have v5c:w5.cell? ⟨vb,2,none⟩=some cv:=aa hb5 2 rfl;have hv5l:=ac hb5;have h51:=dl hT5.sat.left hok5;have H5:=Hq3 hok5 hT5 h51;clear hok5 hT5 hb5 h51)
     | (refine ai rfl (bu 150 (.tmp 58) (.tmp 56) rfl vb 2 (fC ⟨vb,n,m,cv,chs,0⟩) 152 v5 (H5.b.to (H:=(vb,Is (dq ⟨vb,n,m,cv,chs,0⟩))::(aU v5 (chs++[(x.toNat,s)])++((tb,Is (iH p n m (.slice (some ⟨g,off,none⟩) ats.length cap)))::(F1++J)))) ae) rfl rfl (by simp[fC]) (by kernel_rfl) H5.c H5.d ?_);intro w6 hT6;have HT6:=qqH hT6;clear hT6;simp only[Act.put])
     | fail)
    go_roundw
    case rel =>
     refine⟨k+1,v5,chs++[(x.toNat,s)],J,by omega,by go_num,HR.e,?_,H5.a,?_⟩
     ·rw[map_append,sum_append,<- HR.h];simp
     ·exact HT6.out
    case measure=>simp[intOf];omega
  ·obtain rfl:k=ats.length:=by omega
   rw[take_length]at hch;by_cases hse:sm1=m
   ·have hTp:=hT.to (H:=(tb,Is (iH p n m (.slice av ats.length cap)))::((a,Is (aH X))::((aF X.pm ps pc++bT ⟨vb,n,m,cv,chs,0⟩)++((sm,Is (aQ dQ sz szc))::(cA (.slice av ats.length cap) ats++J))))) (by rw[HB.y];unfold iQ bT;exact ae);have HR:=Hq4 hTp hch hpo hsm1;clear hT hTp hch hpo hsm1 htb;subst hse;go_upto_region 17 with(fail);refine cL [([0,1,2,3,4,5,6],7,[])] [] HM.out (by kernel_rfl) fun W tW=>?_
    simp only[Mix,map_cons,map_nil,nth,QG,QF];have k0:=tW (HR.a.to (H:=((a,Is (aH X))::(aF X.pm ps pc++bT ⟨vb,n,sm1,cv,chs,0⟩))++((tb,Is (iH p n sm1 (.slice av ats.length cap)))::((sm,Is (aQ dQ sz szc))::(cA (.slice av ats.length cap) ats++J)))) ae);clear tW;have g0:W.cell? ⟨tb,1,none⟩=some (str p):=aa (k0.sat.Q7 (b:=tb) (o:=iH p n sm1 (.slice av ats.length cap)) (by simp)) 1 rfl;repeat still_step
    refine wpStill_nil (bw (by kernel_rfl) (qA a X.pm X.tm X.cm pc X.sc X.sb X.used ps p ⟨vb,n,sm1,cv,chs,0⟩ (bb X) 128 W k0.sat.left ⟨rfl,rfl,rfl,rfl,rfl,rfl⟩ HH.g HH.h HH.out.2.2.2.2.2.2.2.2.1 (by have:=HH.out.2.2.2.2.2.2.2.2.2.1;simp only;omega) (by simp only;omega)) ?_);rintro e w7 ⟨v7,rfl,hv7,hT3⟩;have hT7:=k0.step (Perm.refl _) hT3;rw[Fb]at hT7;refine⟨_,rfl,rfl,?_⟩;simp only[Act.put,QA,QB,QC];refine wpStill_nil ?_;have H7:=Hq2 hv7 hT7;clear k0 g0 hv7 hT3 hT7;go_wp2_with fail;go_ret;refine (.inr ⟨chs,vb,cv,v7,HR.b,HR.x.symm,rfl,HR.c,H7.a,?_⟩);rw[<- HB.y];exact H7.z.drop (fun x=>by unfold iQ aH;simp only[ao,ah];omega)
   ·have HR:=Hq3 hT hch hsm1;have hse2:¬((sm1:Int)=(m:Int)):=by omega
    clear hT hch hpo hsm1 htb;go_wp2_with fail;go_ret;refine (.inl ⟨fun c' hc'=>?_,rfl,?_⟩)
    ·rw[HR.b]at hc';obtain rfl:=Option.some.inj hc';rw[<- HR.y];exact hse
    ·rw[<- HB.y];exact HR.a.drop (fun x=>by simp only[ao,ah];omega)
def BZ(S:AS)(l D:Bs)(b num:Nat)(B6 B7:Nat)(F:HF)(B w':World)(n:Int)(ev:Value):Prop :=
 (∃sp chs J,n=0/\ev=cO 8/\AreaOk { S.A with spare:=sp }/\Turns F ((B6,Is (cB 0))::(B7,Is (eU (cO 8)))::(arF { S with A:={ S.A with spare:=sp } }++J)) B w' /\
  128*S.A.count<S.data.length+(dX (bF S D)).length+(frame 2 (eC l num D.length (bt chs))).length/\chs.length=(aB D).length) \/
 (∃S' V J,n=num/\ev=.nilIface/\PutStep S S' l D V/\ArOk S'/\xF S D b S'/\Turns F ((B6,Is (cB num))::(B7,Is (eU (.nilIface)))::(arF S'++J)) B w')
theorem Ey{w:World}{b e n:Nat}{v:Value}{xs:List Value}{a:Option Addr}{cap:Nat}(h:w.ownsRow b e 1 v n xs)(hv:v=.slice a n cap):cap<=9223372036854775807:=by
 obtain⟨a',c',h1,_,_,h2,_⟩:=o9 h;rw[hv]at h1;simp only[Value.slice.injEq]at h1;omega
def LS:Value->Nat
 | .int _ a=>a.toNat
 | _=>0
def KH(i:Nat):Value->Value
 | .agg c=>c.getD i undef
 | _=>undef
def CM(e:Ent Bs):Bs×Nat×Nat:=(e.key,LS (KH 0 e.val),LS (KH 1 e.val))
theorem tN:∀(l:List Bs) (at_ b:Nat),(bz at_ b l).map CM=ck at_ l
 | [],_,_=>rfl
 | c::r,at_,b=>by
  simp only[bz,ck,map_cons,tN r]
  congr 1
def XK(X:ArchL)(done:List (Ent Bs)):ArchL:={ X with sc:=X.sc+done.length,sb:=X.sb+(done.map (fun e=>e.key.length)).sum }
def D4(S:AS)(S1:HF)(acc:List Bs)(F Z:HF)(B:World)(Bm r:Nat)(w:World):Prop :=
 ∃(done todo:List (Ent Bs)) (cs:List kg) (cc:Nat) (J:HF),(done++todo).Perm (bz S.data.length 0 acc)/\ChunksOk cs cc /\
  (∀k,(aY cs k).Perm (((S.K++done.map CM).filter (fun e=>decide (ed e.1=k))).map (·.2))) /\
  Turns F ((r,Is (dC Bm acc.length done))::(Bm,Is (aQ str (bz S.data.length 0 acc) acc.length))::(S.a,Is (aH (XK S.X done)))::(aM S.X.cm cs cc++(S1++(J++Z)))) B w
def mP(r n:Nat)(w:World):Nat:=match w.heap[r]? with
 | some (.mapIter _ _ seen _)=>n-seen.size
 | _=>0
theorem JE(X:ArchL)(done:List (Ent Bs))(e:Ent Bs):(.cells (((bb (XK X done)).setIfInBounds 3 (.int .i64 ((XK X done).sc+1))).setIfInBounds 4 (.int .i64 ((XK X done).sb+e.key.length))) 128 (0,0):Obj)=aH (XK X (done++[e])):=by
 have h1:X.sc+(done.length:Int)+1=X.sc+((done++[e]).length:Nat):=by simp;omega
 have h2:X.sb+((done.map (fun e=>e.key.length)).sum:Nat)+(e.key.length:Int)=X.sb+(((done++[e]).map (fun e=>e.key.length)).sum:Nat):=by simp;omega
 unfold aH;congr 1;simp only[bb,XK];rw[h1,h2];rfl
theorem K6(X:ArchL){done fE:List (Ent Bs)}{acc:List Bs}{at_:Nat}(size n:Nat)(hs:size=n)(h:done.Perm fE)(hf:fE=bz at_ 0 acc):(.cells ((bb (XK X done)).setIfInBounds 5 (.int .i64 ((XK X done).used+size))) 128 (0,0):Obj)=aH { X with sc:=X.sc+acc.length,sb:=X.sb+(acc.map length).sum,used:=X.used+n }:=by
 have h1:done.length=acc.length:=by rw[h.length_eq,hf,oQ]
 have h2:(done.map (fun e=>e.key.length)).sum=(acc.map length).sum:=by
  rw[((h.map (fun e=>e.key.length)).sum_nat),hf];conv=>rhs;rw[<- gd acc at_ 0,map_map]
  rfl
 subst hs;unfold aH;congr 1;simp only[bb,XK];rw[h1,h2];rfl
theorem pL{cs:List kg}{cc:Nat}(h:ChunksOk cs cc){k:Bs}(hk:Ok4 k){v:Value}{g:List (Nat×Nat)}(hv:cd v g):ChunksOk (ef cs cc k v g) (cw (cs.map aO) cc k) where
 map:=by rw[iE];exact h.map.put hk v
 rows:=fun p hp=>by
  rcases fx hp with⟨h1,_⟩|⟨_,h2,h3⟩
  ·exact h.rows p h1
  ·rw[h2,h3];exact hv
theorem Ih{done todo fE:List (Ent Bs)}{acc:List Bs}{at_ m:Nat}(h:(done++todo).Perm fE)(hf:fE=bz at_ 0 acc)(hm:(acc.map length).sum<=m):(done.map (fun e=>e.key.length)).sum<=m:=by
 have h1:=((h.map (fun e=>e.key.length)).sum_nat)
 have h2:fE.map (fun e=>e.key.length)=acc.map length:=by
  rw[hf];conv=>rhs;rw[<- gd acc at_ 0,map_map]
  rfl
 rw[h2,map_append,sum_append]at h1;omega
theorem Aw{cs:List kg}{cc:Nat}{T:List (Bs×Nat×Nat)}(h:∀k,(aY cs k).Perm ((T.filter (fun e=>decide (ed e.1=k))).map (·.2)))(c:Bs)(q:Nat×Nat)(v:Value):
  ∀k,(aY (ef cs cc (ed c) v (aY cs (ed c)++[q])) k).Perm (((T++[(c,q)]).filter (fun e=>decide (ed e.1=k))).map (·.2)):=by
 intro k;rw[filter_append,map_append];have e1:aY (ef cs cc (ed c) v (aY cs (ed c)++[q])) k=if k=ed c then aY cs (ed c)++[q]else aY cs k:=pU [] cs cc (ed c) k v _
 rw[e1];by_cases hk:k=ed c
 ·subst hk;simp only[if_true,filter_cons,decide_true,filter_nil,map_cons,map_nil];exact(h _).append_right _
 ·have hk2:¬ed c=k:=fun e=>hk e.symm
  simp only[hk,if_false,filter_cons,hk2,decide_false,Bool.false_eq_true,filter_nil,map_nil,append_nil];exact h k
theorem Ds(S:AS)(hok:ArOk S)(b:Nat)(hB:ArB S b)(hb:b<=90000)(l D:Bs)(_:aw l=true)(hll:l.length<=20)(hDl:D.length<=4000)(B3 B6 B7 B9 B11 B12 B13 Bm Bv num:Nat)(hnum:num=eM (af S.ps l)+1)(F:HF)(B:World)(hJ:G8 S D B9 B11 B12 B13 Bm Bv num ((B3,Is (dg S.a))::[(B6,Is (cB 0)),(B7,Is (eU .nilIface))]) (aL D).length F)(hF:Sat B F){u0 u2 u4 u5 u8 aS aT ad ag aj ar ax a0 a1 a2 a3 a4 a5 a6 a7 a8 a9 bY ba bc bg bj bl bo bs bv bx b0 b1 b2 b4 b6 b7 cb cg ch ci cj cl cp ct cu cx c0 c1 c2 c3 c4 c5 dO dT df dn dp dv d0 d1 d2 d3 d4 d5 d6 d7 d8 eA eQ eX ea eg el em en ep es e3 e4 e5 e7 fl fn fo fr fs fz f0 f1 f2 f3 f4 f5 f8 f9 gD gb gg gp gs gu gv gx g1 g2 g3 g4 g5 g6 g7 hA hC hD hE hG hH hI hK hL hM hN hO hP hR hS hU hW hX ha hf hg hh hi hj hk hl hm ho hu hw hy h5 h6 h7 h8 h9 iF iN iS id ih i0 i1 i2 i3 j1 j2 j3 j4 kM kU kk kl ks kv k6 k7 k8:Value}{ds:List Deferred}{Q:Exit->Act->World->Prop}(hQ:∀(tmps:Array Value) (w':World) (n:Int) (ev:Value),tmps.getD 6 undef=.pointer (some ⟨B6,0,none⟩)->tmps.getD 7 undef=.pointer (some ⟨B7,0,none⟩)->BZ S l D b num B6 B7 F B w' n ev->Q .ret { tmps:=tmps,defers:=ds } w'):
  Ki.wp Tryz.prog Q { tmps:=#[u0,str l,u2,.pointer (some ⟨B3,0,none⟩),u4,u5,.pointer (some ⟨B6,0,none⟩),.pointer (some ⟨B7,0,none⟩),u8,.pointer (some ⟨B9,0,none⟩),aS,.pointer (some ⟨B11,0,none⟩),.pointer (some ⟨B12,0,none⟩),aT,ad,ag,aj,ar,ax,a0,a1,a2,a3,a4,a5,a6,a7,a8,a9,bY,ba,bc,bg,bj,bl,bo,bs,bv,bx,b0,b1,b2,b4,b6,b7,cb,cg,ch,ci,cj,cl,cp,ct,cu,cx,c0,c1,c2,c3,c4,c5,dO,dT,df,dn,dp,dv,d0,d1,d2,d3,d4,d5,d6,d7,d8,eA,eQ,eX,ea,eg,el,em,en,ep,es,e3,e4,e5,e7,fl,fn,fo,fr,fs,fz,f0,f1,f2,f3,f4,f5,f8,f9,gD,gb,gg,gp,gs,gu,gv,gx,g1,g2,g3,g4,g5,g6,g7,hA,hC,hD,hE,hG,hH,hI,hK,hL,hM,hN,hO,hP,hR,hS,hU,hW,hX,ha,hf,hg,hh,hi,hj,hk,hl,hm,ho,hu,hw,hy,h5,h6,h7,h8,h9,iF,iN,iS,id,ih,i0,i1,i2,i3,j1,j2,j3,j4,kM,kU,kk,kl,ks,kv,k6,k7,k8],defers:=ds } B:=by
 obtain⟨sp,acc,fv,rv,chs,recs,hacc,hAo,hrb,hro,hpo,hcl,hin,hFe⟩:=hJ;have hacc2:acc=bF S D:=by rw[hacc,<- ca,take_length];rfl
 rw[<- ca,take_length]at hin;obtain⟨V,hV⟩:∃V:VerL,V=⟨Bv,num,D.length,fv,chs,0⟩:=⟨_,rfl⟩;have hchl:chs.length<=4000:=by have:=cZ D;omega
 obtain⟨Y,hY⟩:∃Y,Y=(B3,Is (dg S.a))::(B6,Is (cB 0))::(B7,Is (eU .nilIface))::(S.a,Is (aH S.X))::(aq S.X.ab S.X.d { S.A with spare:=sp }++(az S.X.d S.L++(aF S.X.pm S.ps S.pc++(b8 S.X.tm S.ts S.tc++aM S.X.cm S.cs S.cc)))):=⟨_,rfl⟩;obtain⟨Z,hZ⟩:∃Z,Z=(B13,Is (cB ((S.data.length+bd acc:Nat):Int)))::(B12,Is (dW Bm))::(Bm,Is (aQ str (bz S.data.length 0 acc) acc.length))::((recs.flatMap fun r=>aI r.val r.bytes)++Y):=⟨_,rfl⟩
 have hT:Turns F (bN 38 1 rv (recs.map (·.val)).length (recs.map (·.val))++((B11,Is (cT rv))::(B9,Is (cV V.blk))::(bT V++Z))) B B:=by
  refine(Turns.refl hF).to ?_;rw[hFe,hZ,hY,hV];unfold fk arF;exact ae
 have hrl:(recs.map (·.val)).length=acc.length:=by
  have:=congrArg length hrb;simpa using this
 have hal:=oT S D;rw[<- hacc2]at hal
 have hKat:∀e∈S.K,e.2.1<=137438953472:=fun e he=>by
  have h1:=(hok.kat e he).2.1;have h2:=hok.dat.2;have h3:=hok.fits;have h4:=hok.nmax;omega
 have hln:=uc hB l;have hdl:=hok.dat.2;have hnn:=hok.nmax;have hfit:=hok.fits
 have hat:∀n∈bt chs,I64 n:=fun n hn=>by
  obtain⟨q,hq,rfl⟩:=mem_map.1 hn;obtain⟨c,hc,hz⟩:=kY (l:=aB D) (by rw[hcl,ca]) q hq
  have hbig:q.1<=1099511627776:=by
   rcases mem_append.1 (hin _ hz)with h|h
   ·have:=hKat _ h;simp only at this;omega
   ·rw[hacc2]at h;have h2:=qW [] (bF S D) S.data (fun x hx=>by have:=dF (oU hx).1;omega) _ h;have h3:=h2.2.1;have h4:=iV S D;rw[<- hacc2]at h3 h4;simp only[append_nil,length_append,gH,jC]at h3;omega
  unfold I64;omega
 have HH:=qqH (And.intro hok (And.intro hB (And.intro hF (And.intro hacc2 (And.intro hAo (And.intro hrb (And.intro hro (And.intro hpo (And.intro hcl (And.intro hin (And.intro hFe (And.intro hV (And.intro hY (And.intro hZ (And.intro hT (And.intro hrl (And.intro hat hQ)))))))))))))))));have HN:=Hq7 hnum hln hal hdl hnn hfit hchl;clear hok hB hF hacc hacc2 hAo hrb hro hpo hcl hin hFe hV hY hZ hT hrl hat hQ hnum hln hal hdl hnn hfit hKat hchl;conv=>arg 2;whnf
 go_wp2_with fail;obtain⟨rl,hrl⟩:∃rl,rl=recs.map (·.val):=⟨_,rfl⟩;have k0:=HH.out.2.2.2.2.2.2.2.2.2.2.2.2.2.2.1;have hro:=HH.g.1;have hl9:rl.length<=1000000:=by rw[hrl];have:=HH.out.2.2.2.2.2.2.2.2.2.2.2.2.2.2.2.1;have:=HN.c;omega
 rw[<- hrl]at k0 hro
 have hcv:cd V.cv V.chs/\V.chs.length<=100000/\I64 V.num/\I64 V.size/\∀n∈bt V.chs,I64 n:=by
  rw[HH.out.2.2.2.2.2.2.2.2.2.2.2.1];have h1:=HN.a;have h2:=HN.b;have h3:=HN.u;refine⟨HH.h,by show chs.length<=_;omega,by show I64 (num:Int);unfold I64;omega,by show I64 (D.length:Int);unfold I64;omega,HH.out.2.2.2.2.2.2.2.2.2.2.2.2.2.2.2.2.1⟩
 have HP:=Hq5 k0 hrl hro hl9 hcv;clear k0 hrl hro hl9 hcv;refine cL [([0,1,2],3,[0]),([4],5,[0]),([],6,[0]),([],7,[]),([],8,[])] [] HM.out (by kernel_rfl) fun W tW=>?_
 simp only[Mix,map_cons,map_nil,nth,QG,QF];have k0:=tW HP.a;clear tW;have g:∀{W:World},W.heap[B11]?=some (cT rv)->W.cell? ⟨B11,0,none⟩=some rv:=fun h=>aa h 0 rfl
 have g0:=g (k0.sat.Q7 (by simp));have g9:W.cell? ⟨B9,0,none⟩=some (.pointer (some ⟨V.blk,0,none⟩)):=aa (k0.sat.Q7 (b:=B9) (o:=cV V.blk) (by simp)) 0 rfl;repeat still_step
 refine wpStill_nil (bw (by kernel_rfl) (ju l V W (k0.sat.sub bS) HP.e HP.f) ?_);rintro e w3 ⟨av,cv,rfl,hc,hs⟩;have k1:=k0.Q9 hs;refine⟨_,rfl,by(have g0:=g (k1.sat.Q7 (by simp));(repeat still_step);exact rfl),?_⟩;refine cD rfl (v:=.iface 173 (.agg #[.int .u8 2,str l,.int .i64 V.num,.int .i64 V.size,.slice av (bt V.chs).length cv])) (by kernel_rfl) (wpStill_nil ?_);refine bw (by kernel_rfl) (ng 2 l V.num V.size av cv (bt V.chs) w3 hc (by omega) HP.g HP.h HP.out.2.2.2.2.2.2.2.2 (by unfold bt;rw[length_map];exact HP.f)) ?_;rintro e w4 ⟨vb,rfl,hb1,hT3⟩;have k2:=Turns.Qb k1 hT3;refine⟨_,rfl,by(have g0:=g (k2.sat.Q7 (by simp));(repeat still_step);exact rfl),?_⟩;simp only[Act.put,QA,QB,QC];refine wpStill_nil ?_;have o1:=(nB hb1 k2.sat.left).1;refine i6 (wW vb) (fun n=>.slice (some ⟨n,0,none⟩) 1 1) (by obtain⟨-,-,av2,cv2,hv⟩:=nB hb1 k2.sat.left;rw[hv];kernel_rfl) k2 fun n W2 k3=>⟨by(have g0:=g (k3.sat.Q7 (by simp));(repeat still_step);exact rfl),?_⟩
 simp only[Act.put,QA,QB,QC];refine wpStill_nil ?_;refine qp (.tmp 139) (.tmp 145) rfl rv rl rfl (k3.to (H:=bN 38 1 rv rl.length rl++((n,Is (wW vb))::(aI vb (frame 2 (eC l V.num V.size (bt V.chs)))++((B11,Is (cT rv))::(B9,Is (cV V.blk))::(bT V++Z))))) ae) HP.c n vb rfl o1 (aa k3.sat.Q5 0 rfl) HP.d fun rv2 W3 hr1 k4=>⟨rfl,?_⟩
 simp only[Act.put,QA,QB,QC];refine wpStill_nil ?_;have p1:=EF k4.sat.left hr1;refine bu 61 (.tmp 11) (.tmp 146) rfl B11 0 #[rv] 61 rv2 (k4.to (H:=(B11,Is (cT rv))::(bN 38 1 rv2 (rl++[vb]).length (rl++[vb])++((n,Is (wW vb))::(aI vb (frame 2 (eC l V.num V.size (bt V.chs)))++((B9,Is (cV V.blk))::(bT V++Z)))))) ae) rfl rfl (by simp) (by kernel_rfl) p1.1 p1.2 fun w1 k5=>⟨rfl,?_⟩
 simp only[Act.put];refine wpStill_nil ?_;have hT1:Turns F ((B11,Is (cT rv2))::(bN 38 1 rv2 (rl++[vb]).length (rl++[vb])++(aI vb (frame 2 (eC l V.num V.size (bt V.chs)))++((B9,Is (cV V.blk))::(bT V++Z))))) B w1:=(show Turns F ((B11,Is (cT rv2))::_) B w1 from k5).drop bS;rw[HP.b]at hr1 hT1;clear HP k0 g g0 g9 hc hs k1 hT3 k2 o1 k3 k4 p1 k5;obtain⟨recs2,hrecs2⟩:∃recs2:List RecL,recs2=recs++[⟨vb,frame 2 (eC l V.num V.size (bt V.chs))⟩]:=⟨_,rfl⟩;have hrm:recs.map (·.val)++[vb]=recs2.map (·.val):=by rw[hrecs2,map_append];rfl
 rw[hrm]at hr1 hT1
 have hrb2:∀r∈recs2,bOk r.val r.bytes:=fun r hr=>by
  rw[hrecs2]at hr;rcases mem_append.1 hr with h|h
  ·exact HH.g.2 r h
  ·simp only[mem_singleton]at h;subst h;exact hb1
 obtain⟨sl2,cap2,rfl,-,-,hrc,hrow⟩:=aP (aR hT1.sat.tail.left hr1);obtain⟨RB,hRB⟩:∃RB,RB=recs2.flatMap fun r=>aI r.val r.bytes:=⟨_,rfl⟩
 obtain⟨G1,hG1⟩:∃G1,G1=(B9,Is (cV V.blk))::(bT V++((B13,Is (cB ((S.data.length+bd acc:Nat):Int)))::(B12,Is (dW Bm))::(Bm,Is (aQ str (bz S.data.length 0 acc) acc.length))::(B3,Is (dg S.a))::(B6,Is (cB 0))::(B7,Is (eU .nilIface))::(aF S.X.pm S.ps S.pc++(b8 S.X.tm S.ts S.tc++aM S.X.cm S.cs S.cc)))):=⟨_,rfl⟩
 have hT2:Turns F (((S.a,Is (aH S.X))::(aq S.X.ab S.X.d { S.A with spare:=sp }++az S.X.d S.L))++((B11,Is (cT (.slice sl2 (recs2.map (·.val)).length cap2)))::(bN 38 1 (.slice sl2 (recs2.map (·.val)).length cap2) (recs2.map (·.val)).length (recs2.map (·.val))++(RB++G1)))) B w1:=by
  refine hT1.to ?_;rw[HH.out.2.2.2.2.2.2.2.2.2.2.2.2.2.1,HH.out.2.2.2.2.2.2.2.2.2.2.2.2.1,hRB,hG1,hrecs2];simp only[flatMap_append,flatMap_cons,flatMap_nil,append_nil];exact ae
 obtain⟨rs,hrs⟩:∃rs,rs=recs2.map (·.bytes):=⟨_,rfl⟩;have hrsl:(recs2.map (·.val)).length=rs.length:=by rw[hrs,length_map,length_map]
 have hflat:rs.flatten=dX (bF S D)++frame 2 (eC l V.num V.size (bt V.chs)):=by
  rw[hrs,hrecs2,map_append,HH.f,<- HH.d];simp[dX]
 have hrb3:RB=recs2.flatMap fun r=>aI r.val r.bytes:=hRB
 have hsum:fM rs<=200000:=by
  rw[<- kD,hflat,length_append,gH,jC,gc];have h1:=iV S D;have h2:=oT S D;have h3:=HN.u;have h4:V.chs.length=chs.length:=by rw[HH.out.2.2.2.2.2.2.2.2.2.2.2.1]
  omega
 have hlen5:rs.length<=5000:=by
  rw[<- hrsl,<- hrm,length_append];have:=HH.out.2.2.2.2.2.2.2.2.2.2.2.2.2.2.2.1;have:=HN.c;simp at *;omega
 have HCh:=qqH (pJ S.a S.X S.X.ab S.X.d rfl { S.A with spare:=sp } S.L S.data rs (recs2.map (·.val)) sl2 cap2 w1 hT2.sat.left HH.a.sound HH.a.dev HH.a.fits HH.a.nmax HH.a.end_ HH.a.tail HH.a.dat hrsl (by omega) (by omega) (by have:=HH.b.chs;omega)
  hrc (fun x hx=>?hx1) (fun k h1 h2=>?hx2))
 case hx1 =>
  have hb:=hrow x hx;have hin:x.block∈dom (bN 38 1 (.slice sl2 (recs2.map (·.val)).length cap2) (recs2.map (·.val)).length (recs2.map (·.val))):=(ff _ _ _ _ _ _).2 hb;intro hd;exact hT2.sat.Qh (b:=x.block) (by rw[gF];exact mem_cons_of_mem _ hd) (by rw[gF,cJ];exact mem_cons_of_mem _ (mem_append_left _ hin))
 case hx2 =>
  have hk2:k<recs2.length:=by simpa using h1
  have hmem:recs2[k]∈recs2:=getElem_mem hk2;have hsub:Sat w1 (aI recs2[k].val recs2[k].bytes):=Sat.flat (f:=fun r:RecL=>aI r.val r.bytes) (by rw[<- hrb3];exact hT2.sat.right.tail.right.left) hmem;obtain⟨ka,kc,ke,-,kcap,kcells,kown⟩:=aP (dr hsub (hrb2 _ hmem));have e2:rs[k]=recs2[k].bytes:=by simp[hrs]
  refine⟨ka,kc,?_,by rw[e2];exact kcap,Ey (dr hsub (hrb2 _ hmem)) ke,?_,fun x hx=>?_⟩
  ·rw[getElem_map,ke,e2]
  ·rw[e2];exact kcells
  ·have hin:x.block∈dom (aI recs2[k].val recs2[k].bytes):=(ff _ _ _ _ _ _).2 (kown x hx)
   have hin2:x.block∈dom RB:=by
    obtain⟨p,hp,hpe⟩:=mem_map.1 hin;rw[hrb3];exact mem_map.2 ⟨p,mem_flatMap.2 ⟨_,hmem,hp⟩,hpe⟩
   exact⟨fun hd=>hT2.sat.Qh (b:=x.block) (by rw[gF];exact mem_cons_of_mem _ hd) (by simp only[gF,cJ];exact mem_cons_of_mem _ (mem_append_right _ (mem_append_left _ hin2))),hsub.lt hin⟩
 have HR1:=Hq6 hT2 hrs hflat hsum hG1 hrsl;have b3:w1.cell? ⟨B3,0,none⟩=some (.pointer (some ⟨S.a,0,none⟩)):=aa (hT2.sat.Q7 (b:=B3) (o:=dg S.a) (by rw[hG1];simp)) 0 rfl;have b11:w1.cell? ⟨B11,0,none⟩=some (.slice sl2 (recs2.map (·.val)).length cap2):=aa (hT2.sat.Q7 (b:=B11) (o:=cT (.slice sl2 (recs2.map (·.val)).length cap2)) (by simp)) 0 rfl;rw[hrsl]at b11;clear hb1 hr1 hT1 hrc hrow hRB hG1 hT2 hrs hflat hrb3 hrb2 hrm;go_wp2_with fail;refine HCh.out.mono ?_;rintro e w2 (⟨hfull,rfl,hs2⟩|⟨hfit,rfl,hch⟩)
 ·have HR2:=Hq2 hfull (HR1.a.Q9 hs2);have hb6:=HR2.z.sat.Q7 (b:=B6) (o:=cB 0) (by rw[HR1.e];simp);have hb7:=HR2.z.sat.Q7 (b:=B7) (o:=eU .nilIface) (by rw[HR1.e];simp);have c6:w2.cell? ⟨B6,0,none⟩=some (.int .i64 0):=aa hb6 0 rfl;have c7:w2.cell? ⟨B7,0,none⟩=some .nilIface:=aa hb7 0 rfl;have f6:=bf hb6 0;have f7:=bf hb7 0;have hnd:(dom [(B6,Is (cB 0)),(B7,Is (eU .nilIface))]).Nodup:=(HR2.z.sat.sub (G:=[(B6,Is (cB 0)),(B7,Is (eU .nilIface))]) (by rw[HR1.e];exact(fun _=>by simp only[ao,ah,fd]<;>omega))).nodup;have h67:¬B6=B7:=by simpa using hnd
  have h76:¬B7=B6:=fun h=>h67 h.symm
  clear hfull hs2 hb6 hb7 hnd;unfold cO;go_wp2_with fail;refine HH.out.2.2.2.2.2.2.2.2.2.2.2.2.2.2.2.2.2 _ _ 0 (cO 8) rfl rfl (.inl ⟨sp,chs,((B11,Is (cT (.slice sl2 (recs2.map (·.val)).length cap2)))::(bN 38 1 (.slice sl2 (recs2.map (·.val)).length cap2) (recs2.map (·.val)).length (recs2.map (·.val))++(RB++((B9,Is (cV V.blk))::(bT V++[(B13,Is (cB ((S.data.length+bd acc:Nat):Int))),(B12,Is (dW Bm)),(Bm,Is (aQ str (bz S.data.length 0 acc) acc.length)),(B3,Is (dg S.a))]))))),rfl,rfl,HH.e,?_,?_,by rw[ca];exact HH.out.2.2.2.2.2.2.2.2.1⟩)
  ·have hq:=HR2.z;rw[HR1.e]at hq;have q1:=hq.to (H:=(B6,Is (cB 0))::(B7,Is (eU .nilIface))::(arF { S with A:={ S.A with spare:=sp } }++((B11,Is (cT (.slice sl2 (recs2.map (·.val)).length cap2)))::(bN 38 1 (.slice sl2 (recs2.map (·.val)).length cap2) (recs2.map (·.val)).length (recs2.map (·.val))++(RB++((B9,Is (cV V.blk))::(bT V++[(B13,Is (cB ((S.data.length+bd acc:Nat):Int))),(B12,Is (dW Bm)),(Bm,Is (aQ str (bz S.data.length 0 acc) acc.length)),(B3,Is (dg S.a))]))))))) (by unfold arF;exact ae);have q2:=q1.Qa (o:=cB 0) ((Mods.refl (fun k=>k=B6) w2).set1 (i:=0) (.int .i64 0)) (bB q1.sat.Q5 0 (.int .i64 0));have q3:=q2.to (H:=(B7,Is (eU .nilIface))::(B6,Is (cB 0))::_) (Perm.swap _ _ _);have q4:=q3.Qa (o:=eU (cO 8)) ((Mods.refl (fun k=>k=B7) _).set1 (i:=0) (cO 8)) (bB q3.sat.Q5 0 (cO 8));exact q4.to (Perm.swap _ _ _)
  ·have h1:=HR2.a;rw[<- kD,HR1.c,length_append,HH.out.2.2.2.2.2.2.2.2.2.2.2.1]at h1;have h2:=gc l num D.length chs;have h3:=gc l (num:Int) ((⟨Bv,num,D.length,fv,chs,0⟩:VerL).size) chs;simp only at h1 h2 h3 ⊢;omega
 ·obtain⟨L',hTc,hDv,hLn,hdat,hoth,hlc⟩:=hch;obtain⟨S1,hS1⟩:∃S1,S1=aq S.X.ab S.X.d { S.A with spare:=sp,end_:=(S.data++rs.flatten).length,tail:=bL (S.data++rs.flatten) }++(az S.X.d L'++(aF S.X.pm S.ps S.pc++b8 S.X.tm S.ts S.tc)):=⟨_,rfl⟩;obtain⟨Z0,hZ0⟩:∃Z0,Z0=(B3,Is (dg S.a))::(B6,Is (cB 0))::(B7,Is (eU .nilIface))::(B9,Is (cV V.blk))::(B12,Is (dW Bm))::bT V:=⟨_,rfl⟩
  have hT3:Turns F ((Bm,Is (aQ str (bz S.data.length 0 acc) acc.length))::(S.a,Is (aH S.X))::(aM S.X.cm S.cs S.cc++(S1++(((B11,Is (cT (.slice sl2 (recs2.map (·.val)).length cap2)))::(bN 38 1 (.slice sl2 (recs2.map (·.val)).length cap2) (recs2.map (·.val)).length (recs2.map (·.val))++(RB++[(B13,Is (cB ((S.data.length+bd acc:Nat):Int)))])))++Z0)))) B w2:=by
   have q:=HR1.a.step (R:=(S.a,Is (aH S.X))::((B11,Is (cT (.slice sl2 (recs2.map (·.val)).length cap2)))::(bN 38 1 (.slice sl2 (recs2.map (·.val)).length cap2) (recs2.map (·.val)).length (recs2.map (·.val))++(RB++G1)))) ae hTc;refine q.to ?_;rw[HR1.e,hS1,hZ0];exact ae
  have hmk:MapOk OkS (bz S.data.length 0 acc) acc.length:=by
   rw[HH.d];exact wB (jc _ _ _ nodup_nil) (fun c hc=>by have:=dF (oU hc).1;unfold OkS;omega) _
  obtain⟨fE,hfE⟩:∃fE,fE=bz S.data.length 0 acc:=⟨_,rfl⟩;rw[<- hfE]at hmk hT3;have hbm:=hT3.sat.Q5;have b12:w2.cell? ⟨B12,0,none⟩=some (.map (some Bm)):=aa (hT3.sat.Q7 (b:=B12) (o:=dW Bm) (by rw[hZ0];simp)) 0 rfl;obtain⟨r,hr⟩:∃r,r=w2.heap.size:=⟨_,rfl⟩
  have hrel0:D4 S S1 acc F Z0 B Bm r (w2.alloc (dC Bm acc.length ([]:List (Ent Bs)))):=by
   refine⟨[],fE,S.cs,S.cc,((B11,Is (cT (.slice sl2 (recs2.map (·.val)).length cap2)))::(bN 38 1 (.slice sl2 (recs2.map (·.val)).length cap2) (recs2.map (·.val)).length (recs2.map (·.val))++(RB++[(B13,Is (cB ((S.data.length+bd acc:Nat):Int)))]))),by rw[hfE];exact Perm.refl _,HH.a.chunks,fun k=>by simpa using HH.a.kin k,?_⟩;rw[<- hfE];have hx:aH (XK S.X [])=aH S.X:=by simp[XK]
   rw[hx,hr];exact(hT3.Q8 _).to ae
  have HR3:=qqH (And.intro hDv (And.intro hLn (And.intro hdat (And.intro hoth (And.intro hlc (And.intro hS1 (And.intro hZ0 (And.intro hmk (And.intro hfE (And.intro hr (And.intro hrel0 hbm)))))))))));clear hfit hTc hDv hLn hdat hoth hlc hS1 hZ0 hT3 hmk hfE hbm hrel0 hr;go_wp2_with ((refine ai rfl (EP (.tmp 153) rfl Tryz.underlying154 HR3.out.2.2.2.2.2.2.2.2.2.2.2 rfl ?_);rw[<- HR3.out.2.2.2.2.2.2.2.2.2.1]));go_frame;go_loopw [155] (fun _ wr=>D4 S S1 acc F Z0 B Bm r wr) (fun _ wr=>mP r acc.length wr)
  case atStart=>exact HR3.out.2.2.2.2.2.2.2.2.2.2.1
  case round =>
   obtain⟨done,todo,cs,cc,J,hperm,hcsok,hkin,hTr⟩:=hrel;rw[<- HR3.out.2.2.2.2.2.2.2.2.1]at hperm hTr;have hri:=hTr.sat.Q5;have hrm:=hTr.sat.Q7 (b:=Bm) (o:=aQ str fE acc.length) (by simp);have hal2:acc.length<=4000:=by have:=HN.c;omega
   have hfl:fE.length=acc.length:=by rw[HR3.out.2.2.2.2.2.2.2.2.1,oQ]
   have hdl:done.length+todo.length=acc.length:=by rw[<- hfl,<- hperm.length_eq,length_append]
   rcases xf (P:=Tryz.prog) (ty:=0) hri hrm HR3.h hperm with⟨ht,hnx⟩|⟨e,rest,w4,ht,hw4,hnx⟩
   ·have hte:done.Perm fE:=by rw[ht,append_nil]at hperm;exact hperm
    have HD:=Hq6 hte hcsok hkin hTr hfl hdl;clear hte hcsok hkin hTr hfl hdl hperm hri hrm ht;go_wp2_with fail;have h:=HD.d;rw[HR3.g,HR3.f]at h;have h:=h.to (H:=((S.a,Is (aH (XK S.X done)))::(aF S.X.pm S.ps S.pc++bT V))++((B3,Is (dg S.a))::(B9,Is (cV V.blk))::((r,Is (dC Bm acc.length done))::(Bm,Is (aQ str fE acc.length))::(aM S.X.cm cs cc++(J++((B6,Is (cB 0))::(B7,Is (eU .nilIface))::(B12,Is (dW Bm))::(aq S.X.ab S.X.d { S.A with spare:=sp,end_:=(S.data++rs.flatten).length,tail:=bL (S.data++rs.flatten) }++(az S.X.d L'++b8 S.X.tm S.ts S.tc)))))))) ae;have k3:=aa (h.sat.Q7 (b:=B3) (o:=dg S.a) (by simp)) 0 (v:=.pointer (some ⟨S.a,0,none⟩)) rfl;have k9:=aa (h.sat.Q7 (b:=B9) (o:=cV V.blk) (by simp)) 0 (v:=.pointer (some ⟨V.blk,0,none⟩)) rfl
    have HA:=qqH (qA S.a (XK S.X done).pm (XK S.X done).tm (XK S.X done).cm S.pc (XK S.X done).sc (XK S.X done).sb (XK S.X done).used S.ps l V (bb (XK S.X done)) 128 wr.drew h.drew.sat.left ⟨rfl,rfl,rfl,rfl,rfl,rfl⟩ HH.a.paths (by unfold OkS;omega) (by
     by_cases hn:af S.ps l=[]
     ·rw[hn];simp
     ·obtain⟨p',hp',_,h2⟩:=bD hn;rw[<- h2];have:=(HH.b.vers p' hp').2.1;omega) (by
     have h1:=HH.b.used;rw[HH.out.2.2.2.2.2.2.2.2.2.2.2.1];simp only[XK];omega) (by
     rw[HH.out.2.2.2.2.2.2.2.2.2.2.2.1];simp only;omega))
    have H0:=qqH h;clear h;refine wp_region_still_tail 5 HM.out (by kernel_rfl) ?_;simp only[QE,take_zero,QD,drop_zero];repeat still_step
    refine wpStill_nil ?_;change wpList _ _ _ _ _ wr.drew;go_wp2_with fail;refine HA.out.mono ?_;rintro e w6 ⟨v',rfl,hv',hT6⟩;have hT6:=H0.out.drew.step (Perm.refl _) hT6;clear k3 k9;have hps:Sat w6 (aF S.X.pm (kh S.ps S.pc l v' V) (cw (S.ps.map aO) S.pc l)):=hT6.sat.left.tail;have hver:w6.heap[V.blk]?=some (dq V):=((hps.tail.perm (qS S.pc l v' V (by rw[<- cE];exact HH.a.paths.map.nodup))).right.right).Q5
    have hT7:Turns F ((B6,Is (cB 0))::(B7,Is (eU .nilIface))::((S.a,Is (.cells ((bb (XK S.X done)).setIfInBounds 5 (.int .i64 ((XK S.X done).used+V.size))) 128 (0,0)))::(aq S.X.ab S.X.d { S.A with spare:=sp,end_:=(S.data++rs.flatten).length,tail:=bL (S.data++rs.flatten) }++(az S.X.d L'++(aF S.X.pm (kh S.ps S.pc l v' V) (cw (S.ps.map aO) S.pc l)++(b8 S.X.tm S.ts S.tc++aM S.X.cm cs cc))))++((r,Is (dC Bm acc.length done))::(Bm,Is (aQ str fE acc.length))::(J++((B3,Is (dg S.a))::(B9,Is (cV V.blk))::(B12,Is (dW Bm))::[]))))) B w6:=by
     have e0:(XK S.X done).pm=S.X.pm:=rfl;rw[e0]at hT6;exact hT6.to ae
    have hb6:=hT7.sat.Q5;have hb7:=hT7.sat.tail.Q5;have hnd:=(hT7.sat.sub (G:=[(B6,Is (cB 0)),(B7,Is (eU .nilIface))]) (fun _=>by simp only[ao,ah,fd]<;>omega)).nodup;have h67:¬B6=B7:=by simpa using hnd
    have h76:¬B7=B6:=fun h=>h67 h.symm
    have c6:w6.cell? ⟨B6,0,none⟩=some (.int .i64 0):=aa hb6 0 rfl;have c7:w6.cell? ⟨B7,0,none⟩=some .nilIface:=aa hb7 0 rfl;have f6:=bf hb6 0;have f7:=bf hb7 0;have b9:w6.cell? ⟨B9,0,none⟩=some (.pointer (some ⟨V.blk,0,none⟩)):=aa (hT7.sat.Q7 (b:=B9) (o:=cV V.blk) (by simp)) 0 rfl;have bv0:w6.cell? ⟨V.blk,0,none⟩=some (.int .i64 V.num):=aa hver 0 rfl;have HG:=Hq2 hT7 hv';clear hT6 hps hver hT7 hb6 hb7 hnd hv';go_wp2_with fail;have hT8:=HG.a.Qa (o:=cB V.num) ((Mods.refl (fun k=>k=B6) w6).set1 (i:=0) (.int .i64 V.num)) (bB HG.a.sat.Q5 0 (.int .i64 V.num));have hT9:=hT8.to (H:=(B7,Is (eU .nilIface))::(B6,Is (cB V.num))::_) (Perm.swap _ _ _);have hT10:=hT9.Qa (o:=eU .nilIface) ((Mods.refl (fun k=>k=B7) _).set1 (i:=0) .nilIface) (bB hT9.sat.Q5 0 .nilIface)
    have hfin:∃S',PutStep S S' l D V/\ArOk S'/\xF S D b S'/\arF S'=((S.a,Is (.cells ((bb (XK S.X done)).setIfInBounds 5 (.int .i64 ((XK S.X done).used+V.size))) 128 (0,0)))::(aq S.X.ab S.X.d { S.A with spare:=sp,end_:=(S.data++rs.flatten).length,tail:=bL (S.data++rs.flatten) }++(az S.X.d L'++(aF S.X.pm (kh S.ps S.pc l v' V) (cw (S.ps.map aO) S.pc l)++(b8 S.X.tm S.ts S.tc++aM S.X.cm cs cc))))):=by
     have hVe:=HH.out.2.2.2.2.2.2.2.2.2.2.2.1;have hfl:=HR1.c;have hap:S.data++rs.flatten=S.data++dX (bF S D)++frame 2 (eC l V.num V.size (bt V.chs)):=by rw[hfl,append_assoc]
     have hdk:(done.map CM).Perm (ck S.data.length (bF S D)):=by
      have:=HD.a.map CM;rw[HR3.out.2.2.2.2.2.2.2.2.1,tN,HH.d]at this;exact this
     obtain⟨p1,p2,p3⟩:=IX HH.a HH.b (by omega) hDl (V:=V) HH.e (by rw[hVe];exact HN.a) (by rw[hVe]) (by rw[hVe]) (by rw[hVe,ca];exact HH.out.2.2.2.2.2.2.2.2.1) (by rw[hVe,<- HH.d];exact HH.out.2.2.2.2.2.2.2.2.2.1) (by rw[hVe];exact HH.h)
      HR3.a HR3.b (by rw[<- hap];exact HR3.c) HR3.d (by rw[<- hfl];exact HR3.e) HD.b (fun k=>(HD.c k).trans (((hdk.append_left S.K).filter _).map _)) HG.z _ rfl
     refine⟨_,p1,p2,p3,?_⟩;unfold arF;simp only;rw[hap];have hx:=K6 S.X V.size D.length (by rw[hVe]) HD.a (HR3.out.2.2.2.2.2.2.2.2.1.trans (by rw[HH.d]));rw[hx]
    obtain⟨S',p1,p2,p3,p4⟩:=hfin;refine HH.out.2.2.2.2.2.2.2.2.2.2.2.2.2.2.2.2.2 _ _ num .nilIface rfl rfl (.inr ⟨S',V,((r,Is (dC Bm acc.length done))::(Bm,Is (aQ str fE acc.length))::(J++((B3,Is (dg S.a))::(B9,Is (cV V.blk))::(B12,Is (dW Bm))::[]))),rfl,rfl,p1,p2,p3,?_⟩);have hnv:(V.num:Int)=num:=by rw[HH.out.2.2.2.2.2.2.2.2.2.2.2.1]
    rw[p4,<- hnv];exact hT10.to (Perm.swap _ _ _)
   ·obtain⟨w5,hw5⟩:∃w5,w5=Go.ChangeMaps.setBlock w4 r (dC Bm acc.length (done++[e])):=⟨_,rfl⟩;rw[<- hw5]at hnx
    have hT5:Turns F ((r,Is (dC Bm acc.length (done++[e])))::(Bm,Is (aQ str fE acc.length))::(S.a,Is (aH (XK S.X done)))::(aM S.X.cm cs cc++(S1++(J++Z0)))) B w5:=by
     rw[hw5];rcases hw4 with rfl|rfl
     ·exact hTr.Qa (de _ _ _) (ew hri)
     ·exact(hTr.drew).Qa (de _ _ _) (ew (by exact hri))
    have heE:e∈fE:=hperm.mem_iff.1 (mem_append_right _ (ht.mem_iff.2 (by simp)));have hri5:=hT5.sat.Q5;have hrm5:=hT5.sat.Q7 (b:=Bm) (o:=aQ str fE acc.length) (by simp);have hen:=uG (P:=Tryz.prog) hri5 hrm5 HR3.h heE;obtain⟨q,hq,hev⟩:=oS acc S.data.length 0 e (by rw[<- HR3.out.2.2.2.2.2.2.2.2.1];exact heE);obtain⟨c,hc⟩:∃c,c=e.key:=⟨_,rfl⟩;rw[hev,<- hc]at hnx hen;simp only[gf]at hnx hen;have b3':w5.cell? ⟨B3,0,none⟩=some (.pointer (some ⟨S.a,0,none⟩)):=aa (hT5.sat.Q7 (b:=B3) (o:=dg S.a) (by rw[HR3.g];simp)) 0 rfl;have HD:=qqH (And.intro hperm (And.intro hcsok (And.intro hkin (And.intro hT5 (And.intro heE (And.intro hev (And.intro hc (And.intro hq (And.intro ht (And.intro hdl (And.intro hri hri5)))))))))));clear hperm hcsok hkin hTr hrm hw5 hw4 heE hri5 hrm5 hev hc hq ht hT5 hri;go_wp2_with fail;obtain⟨Z6,hZ6⟩:∃Z6,Z6=((r,Is (dC Bm acc.length (done++[e])))::(Bm,Is (aQ str fE acc.length))::(S1++(J++((B6,Is (cB 0))::(B7,Is (eU .nilIface))::(B9,Is (cV V.blk))::(B12,Is (dW Bm))::bT V)))):=⟨_,rfl⟩
    have k0:Turns F (((S.a,Is (.cells (bb (XK S.X done)) 128 (0,0)))::aM S.X.cm cs cc)++((B3,Is (dg S.a))::(w5.heap.size,Is (aG q))::Z6)) B (w5.alloc (.cells #[.int .i64 q.1,.int .i64 q.2] 161)):=by
     have h:=Turns.Q8 HD.d (aG q);rw[HR3.g]at h;rw[hZ6];show Turns F (((S.a,Is (aH (XK S.X done)))::aM S.X.cm cs cc)++_) B _;exact h.to ae
    have HZ6:=Hq2 hZ6 k0;clear hZ6 k0;refine cL [([0,1,2,3,5],4,[0,1,2,5]),([],6,[])] [] HM.out (by kernel_rfl) fun W tW=>?_
    simp only[Mix,map_cons,map_nil,nth,QG,QF];have k0:=tW HZ6.z;clear tW;have g:∀{W:World},W.heap[B3]?=some (dg S.a)->W.cell? ⟨B3,0,none⟩=some (.pointer (some ⟨S.a,0,none⟩)):=fun h=>aa h 0 rfl
    have gq:∀{W:World},W.heap[w5.heap.size]?=some (aG q)->W.rangeAt w5.heap.size 0 [.int .i64 q.1,.int .i64 q.2]:=fun h j v hv=>aa h (0+j) (by rw[Nat.zero_add,<- Array.getElem?_toList];exact hv)
    have g0:=g (k0.sat.Q7 (by simp));repeat still_step
    refine iL 161 (.tmp 22) rfl rfl w5.heap.size 0 rfl [.int .i64 q.1,.int .i64 q.2] _ (gq (k0.sat.Q7 (by simp))) Tryz.underlying161 rfl (by kernel_rfl) (wpStill_nil ?_);refine DU (.tmp 163) rfl c rfl fun n cap w1 h1 h2 _=>⟨?_,?_⟩
    ·have k1:=k0.Q9 h1;have g0:=g (k1.sat.Q7 (by simp));repeat still_step
     exact iL 161 (.tmp 22) rfl rfl w5.heap.size 0 rfl [.int .i64 q.1,.int .i64 q.2] _ (gq (k1.sat.Q7 (by simp))) Tryz.underlying161 rfl (by kernel_rfl) rfl
    have k1:=k0.Q9 h1;simp only[Act.put,QA,QB,QC];refine wpStill_nil ?_;refine bw (by kernel_rfl) (oX S.a (XK S.X done).pm (XK S.X done).tm (XK S.X done).cm cc (XK S.X done).sc (XK S.X done).sb (XK S.X done).used cs c (some ⟨n,0,none⟩) cap q (bb (XK S.X done)) 128 w1 k1.sat.left ⟨rfl,rfl,rfl,rfl,rfl,rfl⟩ HD.b h2 ?l1 ?l2 ?l3 ?l4) ?_
    case l1 =>
     have h:=(HD.c (ed c)).length_eq;have h2:=length_filter_le (fun e=>decide (ed e.1=ed c)) (S.K++done.map CM);have h3:=HH.b.K;rw[length_map]at h;rw[length_append,length_map]at h2;unfold ed at h h2;omega
    case l2 =>
     rw[HD.g];have:=HR3.h.ok e HD.e;exact this
    case l3 =>
     have:=HH.b.sc;simp only[XK];omega
    case l4 =>
     have h1:=HH.b.sb;have h2:(done.map (fun e=>e.key.length)).sum<=4000:=Ih HD.a HR3.out.2.2.2.2.2.2.2.2.1 (by rw[HH.d];exact Nat.le_trans (iV S D) hDl);simp only[XK];omega
    rintro e6 w6 ⟨v',rfl,hv',hT3⟩;have hT6:=k1.step (Perm.refl _) hT3;refine⟨_,rfl,rfl,wpStill_nil ?_⟩;rw[HZ6.a]at hT6;go_frame;go_roundw
    case rel =>
     refine⟨_,_,_,_,_,_,_,_,_,_,_,_,_,_,?_,rfl⟩;have hwho:=HD.g;refine⟨done++[e],rest,ef cs cc (ed c) v' (aY cs (ed c)++[q]),cw (cs.map aO) cc (ed c),(w5.heap.size,Is (aG q))::J,by rw[<- HR3.out.2.2.2.2.2.2.2.2.1];exact FN HD.a HD.out.2.2.2.2.2.2.2.2.1,pL HD.b (bE _ _) hv',?_,?_⟩
     ·rw[map_append,<- append_assoc]
      have he:[e].map CM=[(c,q)]:=by
       simp only[map_cons,map_nil,CM,HD.f,<- hwho];rfl
      rw[he];exact Aw HD.c c q v'
     ·have hx:=JE S.X done e;rw[<- hwho]at hx;have e0:(XK S.X done).cm=S.X.cm:=rfl;rw[hx,e0]at hT6;refine hT6.to ?_;rw[HR3.g,HR3.out.2.2.2.2.2.2.2.2.1];unfold ed;exact ae
    case measure =>
     have e1:mP r acc.length wr=acc.length-done.length:=by unfold mP;rw[HD.out.2.2.2.2.2.2.2.2.2.2.1];simp[dC]
     have e2:mP r acc.length w6=acc.length-(done.length+1):=by unfold mP;rw[hT6.sat.Q7 (b:=r) (o:=dC Bm acc.length (done++[e])) (by simp)];simp[dC]
     rw[e1,e2];have h3:=HD.out.2.2.2.2.2.2.2.2.2.1;have h4:=HD.out.2.2.2.2.2.2.2.2.1.length_eq;simp only[length_cons]at h4;omega
theorem Ge(x rest:Bs):db (x++rest) false x.length=bk x:=by
 unfold db;rw[if_neg (by simp),take_left]
theorem IZ(x rest:Bs):rN (x++rest,false) x.length=(rest,false):=by
 unfold rN eR fa;rw[if_neg (by simp),drop_left];simp
theorem wc{n:Int}{k:Nat}(h0:0<=n)(h1:n<256 ^ k):(bk (beI n k):Int)=n:=by
 obtain⟨m,rfl⟩:∃m:Nat,n=m:=⟨n.toNat,by omega⟩;have h2:m<256 ^ k:=by have:((256 ^ k:Nat):Int)=256 ^ k:=Int.natCast_pow 256 k;omega
 rw[xJ,gC,Nat.mod_eq_of_lt h2]
theorem qX{n:Int}{k:Nat}(h0:0<=n)(h1:n<256 ^ k)(rest:Bs):(db (beI n k++rest) false k:Int)=n:=by
 have:=Ge (beI n k) rest;rw[bV]at this;rw[this];exact wc h0 h1
theorem Dv(n:Int)(k:Nat)(rest:Bs):rN (beI n k++rest,false) k=(rest,false):=by
 have:=IZ (beI n k) rest;rwa [bV]at this
theorem Gx{p:Bs}(hp:p.length<=255)(rest:Bs):db (ei p++rest) false 1=p.length/\eR (ei p++rest) false 1=p++rest/\fa (ei p++rest) false 1=false:=by
 unfold ei db eR fa;refine⟨?_,?_,?_⟩
 ·rw[if_neg (by simp)];simp only[cons_append,QE,take_zero];unfold bk;simp only[foldl_cons,foldl_nil,Nat.zero_mul,Nat.zero_add];rw[UInt8.toNat_ofNat'];exact Nat.mod_eq_of_lt (by omega)
 ·rw[if_neg (by simp)];rfl
 ·simp
theorem l7{p:Bs}(hp:p.length<=255)(rest:Bs):gn (ei p++rest) false=p/\rT (ei p++rest,false)=(rest,false):=by
 obtain⟨h1,h2,h3⟩:=Gx hp rest;have hN:uR (ei p++rest) false=p.length:=by unfold uR;exact h1
 refine⟨?_,?_⟩
 ·unfold gn;rw[h2,h3,hN,if_neg (by simp),take_left]
 ·unfold rT lu kE;simp only[h2,h3,hN];have:=IZ p rest;exact this
theorem uk(a:Int)(r:List Int):dL (a::r)=beI a 4++dL r:=by simp[dL]
theorem AM:∀(l:List Int) (i:Nat) (hi:i<l.length),((dL l).drop (4*i)).take 4=beI l[i] 4
 | [],i,hi=>by simp at hi
 | a::r,0,_=>by
  rw[uk,Nat.mul_zero,drop_zero]
  have:=take_left (l₁:=beI a 4) (l₂:=dL r)
  rw[bV]at this;exact this
 | a::r,i+1,hi=>by
  have e1:(dL (a::r)).drop (4*(i+1))=(dL r).drop (4*i):=by
   have h4:4*(i+1)=(beI a 4).length+4*i:=by rw[bV];omega
   rw[uk,h4,<- drop_drop,drop_left]
  rw[e1];exact AM r i (by simpa using hi)
theorem wN{l:List Int}(h:∀n∈l,0<=n/\n<4294967296):iB (dL l)=l:=by
 refine ext_getElem (by rw[iZ,cH];omega) (fun i h1 h2=>?_)
 have e1:(iB (dL l))[i]?=some ((bk (((dL l).drop (4*i)).take 4):Nat):Int):=by
  unfold iB;rw[getElem?_map,getElem?_range (by rw[cH];omega)];rfl
 rw[getElem?_eq_getElem h1]at e1;rw[Option.some.inj e1,AM l i h2];have:=h l[i] (getElem_mem h2);exact wc this.1 (by omega)
theorem wU{p:Bs}{num size:Nat}{ats:List Int}(hp:p.length<=255)(hn:num<4294967296)(hs:size<65536)(ha:∀n∈ats,0<=n/\n<4294967296):fb 2 (eC p num size ats)=some (.ver p num size ats):=by
 have e0:eC p num size ats=ei p++(beI num 4++(beI size 2++dL ats)):=by unfold eC;simp
 obtain⟨t1,t2⟩:=l7 hp (beI num 4++(beI size 2++dL ats));rw[yw,e0,t1,t2,Dv,Dv];rw[if_pos ⟨rfl,by rw[cH];omega⟩,wN ha];have h1:=qX (n:=(num:Int)) (k:=4) (by omega) (by omega) (beI size 2++dL ats);have h2:=qX (n:=(size:Int)) (k:=2) (by omega) (by omega) (dL ats);simp only[Option.some.injEq,RecR.ver.injEq,true_and,and_true];exact⟨by omega,by omega⟩
theorem DB{p:Bs}{ns:List Int}(hp:p.length<=255)(ha:∀n∈ns,0<=n/\n<4294967296):fb 3 (dZ p ns)=some (.gone p ns):=by
 have e0:dZ p ns=ei p++dL ns:=rfl;obtain⟨t1,t2⟩:=l7 hp (dL ns);unfold fb;simp only[e0,t1,t2];rw[if_neg (by decide),if_pos trivial,if_pos ⟨trivial,by rw[cH];omega⟩,wN ha]
theorem qZ{k:UInt8}(hk:k=4\/k=5){p name:Bs}{num:Nat}(hp:p.length<=255)(hq:name.length<=255)(hn:num<4294967296):fb k (dR p name num)=some (.pin k p name num):=by
 have e0:dR p name num=ei p++(ei name++beI num 4):=by unfold dR;simp
 obtain⟨t1,t2⟩:=l7 hp (ei name++beI num 4);obtain⟨t3,t4⟩:=l7 hq (beI num 4);have t5:=Dv num 4 [];rw[append_nil]at t5;have h1:=qX (n:=(num:Int)) (k:=4) (by omega) (by omega) [];rw[append_nil]at h1;unfold fb;simp only[e0,t1,t2,t3,t4,t5];rw[if_neg (by rcases hk with rfl|rfl<;>decide),if_neg (by rcases hk with rfl|rfl<;>decide),if_pos hk,if_pos ⟨trivial,trivial⟩];simp only[Option.some.injEq,RecR.pin.injEq,true_and];omega
abbrev KL:=List (Bs×Nat×Nat)
abbrev Tg:=Bs×Bs×Int
def ex(p:fq):Tg:=(p.key,p.g.1,p.g.2)
structure HV where
 p:Bs
 num:Nat
 size:Nat
 chs:List (Nat×Nat)
 held:Int
structure PSt where
 K:KL
 H:List HV
 T:List Tg
def kj(K:KL)(a:Int):Option Nat:=(K.find? (fun e=>decide ((e.2.1:Int)=a))).map (·.2.2)
def jt(H:List HV)(p:Bs)(ns:List Int):List HV:=H.filter (fun h => !(decide (h.p=p)&&ns.contains (h.num:Int)))
def fw(H:List HV)(p:Bs)(n:Int)(d:Int):List HV:=H.map (fun h=>if h.p=p/\(h.num:Int)=n then { h with held:=h.held+d } else h)
def lS(T:List Tg)(x:Tg):List Tg:=if T.any (fun t=>decide (t.1=x.1))then T.map (fun t=>if t.1=x.1 then x else t)else T++[x]
def zT(T:List Tg)(m:Bs):List Tg:=T.filter (fun t => !decide (t.1=m))
def fy(at_:Nat)(s:PSt)(k:UInt8)(body:Bs):Option PSt :=
 if k=1 then some { s with K:=s.K++[(body,at_,body.length)] }
 else match fb k body with
  | none=>none
  | some (.ver p n m ats)=>match dt (kj s.K) ats with
   | none=>none
   | some chs=>if(chs.map (·.2)).sum=m then some { s with H:=s.H++[⟨p,n,m,chs,0⟩] } else none
  | some (.gone p ns)=>if s.H.any (fun h=>decide (h.p=p))then some { s with H:=jt s.H p ns } else none
  | some (.pin q p m n)=>if q=4 then some { s with H:=fw s.H p n 1,T:=lS s.T (m,p,n) } else some { s with H:=fw s.H p n (-1),T:=zT s.T m }
inductive Reach (D:Bs):Nat->PSt->Prop
 | zero:Reach D 0 ⟨[],[],[]⟩
 | next {at_ s s' k body n}:Reach D at_ s->bM (D.drop at_)=some (k,body,n)->fy at_ s k body=some s'->Reach D (at_+n) s'
def km(D:Bs)(at_:Nat)(s:PSt):Prop:=∀k body n,bM (D.drop at_)=some (k,body,n)->fy at_ s k body=none
abbrev fT:=List (UInt8×Bs)
def bn(rs:fT):Bs:=(rs.map fun r=>frame r.1 r.2).flatten
def oA(rs:fT):Prop:=∀r∈rs,r.1≠0/\r.2.length<65536
def il:Nat->PSt->fT->Option PSt
 | _,s,[]=>some s
 | a,s,r::q=>(fy a s r.1 r.2).bind (fun s'=>il (a+(r.2.length+9)) s' q)
theorem co(a b:fT):bn (a++b)=bn a++bn b:=by simp[bn]
theorem ia(r:UInt8×Bs)(b:fT):bn (r::b)=frame r.1 r.2++bn b:=by simp[bn]
theorem tJ(k:UInt8)(b:Bs):(bn [(k,b)]).length=b.length+9:=by simp[bn,aJ]
theorem dM(q:fT):∀(r:fT) (a:Nat) (s:PSt),il a s (r++q)=(il a s r).bind (fun s'=>il (a+(bn r).length) s' q)
 | [],a,s=>by simp[il,bn]
 | x::r,a,s=>by
  simp only[cons_append,il,Option.bind_assoc,ia,length_append,aJ]
  congr 1
  funext s'
  rw[dM q r]
  congr 1
  funext t
  rw[Nat.add_assoc]
theorem yk(n:Nat):bM (ak n)=none:=by
 unfold bM;split
 ·rfl
 ·rw[if_pos];unfold ak
  cases n with
  | zero=>rfl
  | succ n=>simp[replicate_succ]
theorem qY{rs:fT}(h:oA rs){z:Nat}{at_:Nat}{s:PSt}(hr:Reach (bn rs++ak z) at_ s):∃a b,rs=a++b/\at_=(bn a).length/\il 0 ⟨[],[],[]⟩ a=some s:=by
 induction hr with
 | zero=>exact⟨[],rs,rfl,rfl,rfl⟩
 | @next at_ s s' k body n _ ho hs ih =>
  obtain⟨a,b,rfl,rfl,hrun⟩:=ih;rw[co,append_assoc,drop_left]at ho
  cases b with
  | nil=>rw[show bn []=[]from rfl,nil_append,yk]at ho;cases ho
  | cons r b =>
   have hk:=h r (by simp);rw[ia,append_assoc,ge _ _ _ hk.1 hk.2]at ho;simp only[Option.some.injEq,Prod.mk.injEq]at ho;obtain⟨rfl,rfl,rfl⟩:=ho;exact⟨a++[r],b,by simp,by rw[co,length_append,tJ],by rw[dM,hrun];simp[il,hs]⟩
theorem nJ{rs:fT}(h:oA rs){z at_:Nat}{s t:PSt}(hr:Reach (bn rs++ak z) at_ s)(hf:km (bn rs++ak z) at_ s)(ht:il 0 ⟨[],[],[]⟩ rs=some t):at_=(bn rs).length/\s=t:=by
 obtain⟨a,b,rfl,rfl,hrun⟩:=qY h hr
 cases b with
 | nil =>
  rw[append_nil]at ht ⊢;rw[hrun]at ht;exact⟨rfl,Option.some.inj ht⟩
 | cons r b =>
  have hk:=h r (by simp);have h1:=hf r.1 r.2 (r.2.length+9) (by rw[co,append_assoc,drop_left,ia,append_assoc,ge _ _ _ hk.1 hk.2]);rw[dM,hrun]at ht;simp[il,h1]at ht
def cy(h:HV):Nat×Nat×List (Nat×Nat)×Int:=(h.num,h.size,h.chs,h.held)
def bp(V:VerL):Nat×Nat×List (Nat×Nat)×Int:=(V.num,V.size,V.chs,V.held)
structure Cnt (at_:Nat) (s:PSt):Prop where
 n:9*(s.K.length+s.H.length+s.T.length)<=at_
 held:∀h∈s.H,9*h.held.natAbs<=at_
 size:∀h∈s.H,h.p.length<=255/\h.num<4294967296/\h.size<=65535/\h.chs.length<=65536
 tag:∀t∈s.T,t.1.length<=255/\t.2.1.length<=255/\0<=t.2.2/\t.2.2<4294967296
structure CtOk (D:Bs) (X:ArchL) (ps:List aW) (pc:Nat) (cs:List kg) (cc:Nat) (ts:List fq) (tc:Nat) (sz:List (Ent Int)) (szc:Nat) (at_:Nat) (s:PSt):Prop where
 reach:Reach D at_ s
 le:at_<=D.length
 cnt:Cnt at_ s
 paths:PathsOk ps pc
 chunks:ChunksOk cs cc
 tags:TagsOk ts tc
 kin:∀k,(aY cs k).Perm ((s.K.filter (fun e=>decide (ed e.1=k))).map (·.2))
 kat:∀e∈s.K,e.2.2=e.1.length/\e.1.length<=65535/\dw (D.take at_) e.2.1 e.1
 hist:∀l,(af ps l).map bp=(s.H.filter (fun h=>decide (h.p=l))).map cy
 nem:∀p∈ps,p.g≠[]
 chsK:∀h∈s.H,(∀q∈h.chs,∃e∈s.K,e.2=q)/\h.size=(h.chs.map (·.2)).sum
 used:X.used=((s.H.map (·.size)).sum:Nat)
 sc:X.sc=s.K.length
 sb:X.sb=((s.K.map (·.1.length)).sum:Nat)
 map:MapOk OkI sz szc
 get:∀k,dB sz k=(kj s.K k).map (fun m=>.int .i64 (m:Nat))
 tagT:ts.map ex=s.T
theorem Bu(K:KL)(e:Bs×Nat×Nat)(a:Int):kj (K++[e]) a=(kj K a).or (if(e.2.1:Int)=a then some e.2.2 else none):=by
 unfold kj;rw[find?_append]
 cases hf:K.find? (fun e=>decide ((e.2.1:Int)=a))with
 | some x=>simp
 | none =>
  simp only[Option.none_or,Option.map_none,find?_cons,find?_nil];by_cases h:(e.2.1:Int)=a<;>simp[h]
theorem Gw{K:KL}{n:Nat}(h:∀e∈K,e.2.1<n):kj K n=none:=by
 unfold kj;rw[find?_eq_none.2]
 ·rfl
 ·intro e he;have:=h e he;simp;omega
theorem Bw{K:KL}{a:Int}{s:Nat}(h:kj K a=some s):∃e∈K,e.2=(a.toNat,s):=by
 unfold kj at h
 cases hf:K.find? (fun e=>decide ((e.2.1:Int)=a))with
 | none=>rw[hf]at h;cases h
 | some e =>
  rw[hf]at h;have h1:(e.2.1:Int)=a:=by simpa using find?_some hf
  refine⟨e,mem_of_find?_eq_some hf,?_⟩;simp only[Option.map_some,Option.some.injEq]at h;rw[<- h,<- h1];rfl
theorem wi{K:KL}:∀{l:List Int} {m:List (Nat×Nat)},dt (kj K) l=some m->∀q∈m,∃e∈K,e.2=q
 | [],m,h,q,hq=>by simp only[dt,Option.some.injEq]at h;subst h;cases hq
 | b::r,m,h,q,hq=>by
  simp only[dt]at h
  cases hb:kj K b with
  | none=>rw[hb]at h;cases h
  | some s =>
   cases hr:dt (kj K) r with
   | none=>rw[hb,hr]at h;cases h
   | some l =>
    rw[hb,hr]at h
    simp only[Option.some.injEq]at h
    subst h
    rcases mem_cons.1 hq with rfl|hq
    ·exact Bw hb
    ·exact wi hr q hq
theorem kx{b c:Bs}{k:UInt8}{body:Bs}{n:Nat}(h:bM b=some (k,body,n))(hc:c.take n=b.take n):bM c=some (k,body,n):=by
 obtain⟨-,hn,hnb,hbody,-⟩:=dx h
 have hlen:n<=c.length:=by
  have:=congrArg length hc;rw[length_take,length_take]at this;omega
 have hg:∀j,j<n->c.getD j 0=b.getD j 0:=fun j hj=>by
  have:=congrArg (fun l=>l[j]?) hc;simp only[getElem?_take_of_lt hj]at this;rw[getD_eq_getElem?_getD,getD_eq_getElem?_getD,this]
 have hd:∀i m,i+m<=n->(c.drop i).take m=(b.drop i).take m:=fun i m hi=>by
  have:=congrArg (fun l=>(l.drop i).take m) hc;simp only[drop_take,take_take]at this;rwa [Nat.min_eq_left (by omega)]at this
 unfold bM at h;split at h
 ·cases h
 split at h
 ·cases h
 simp only at h;split at h
 ·cases h
 split at h
 ·cases h
 split at h
 ·cases h
 rename_i h1 h2 h3 h4 h5;simp only[Option.some.injEq,Prod.mk.injEq]at h;obtain⟨rfl,hb,rfl⟩:=h;unfold bM;rw[if_neg (by omega),hg 0 (by omega),if_neg h2];simp only;rw[hg 1 (by omega),hg 2 (by omega),hg 3 (by omega),hg 4 (by omega),if_neg h3,if_neg (by omega),hd 5 _ (by omega),hd _ 4 (by omega),if_neg h5,hb]
theorem dw.at_{D body:Bs}{at_ n:Nat}(h:bM (D.drop at_)=some (1,body,n))(hle:at_<=D.length):n=body.length+9/\at_+n<=D.length/\body.length<=65535/\dw (D.take (at_+n)) at_ body:=by
 obtain⟨-,h2,h3,h4,h5⟩:=dx h;rw[length_drop]at h3;refine⟨h2,by omega,by omega,by rw[length_take];omega,?_⟩;rw[drop_take,take_take,show min (body.length+9) (at_+n-at_)=n by omega,<- h2];have:=kx (c:=(D.drop at_).take n) h (by rw[take_take,Nat.min_self]);rw[this]
theorem dw.grow{D body:Bs}{a b q:Nat}(h:dw (D.take a) q body)(hab:a<=b):dw (D.take b) q body:=by
 have:D.take b=D.take a++(D.drop a).take (b-a):=by
  rw[<- take_append_drop a (D.take b),take_take,Nat.min_eq_left hab,drop_take]
 rw[this];exact h.more
theorem An(sl:Option Addr)(cap:Nat)(ns:List Int)(x:Int)(w:World)(h:al w sl (ns.map dQ))(hl:ns.length<=1099511627776):
  Calls Tryz.prog 176 #[.slice sl ns.length cap,.int .i64 x] w (fun e w'=>(∃i:Int,e=.returned (.int .i64 i)/\decide (0<=i)=ns.contains x)/\w'=w):=by
 have HH:=qqH h;clear h;go_enter Tryz.func176,Tryz.ntmps176;go_wp2_with fail;go_loopw [8] (fun v wr=>∃k:Nat,k<=ns.length/\v=.int .i64 k/\wr=w/\x∉ns.take k) (fun v _=>ns.length-(intOf v).toNat)
 case atStart=>exact⟨0,Nat.zero_le _,rfl,by first|rfl|trivial,by simp⟩
 case round =>
  obtain⟨k,hk,rfl,rfl,hn⟩:=hrel;by_cases hlt:k<ns.length
  ·obtain⟨g,off,hg,hcell⟩:=HH.out (by rw[length_map];omega);subst hg;obtain⟨y,hy⟩:∃y,y=ns[k]:=⟨_,rfl⟩;have hck:wr.cell? ⟨g,off+k,none⟩=some (.int .i64 y):=by rw[hcell k (by simpa using hlt)];simp[hy,dQ]
   have HR:=Hq2 hn hy;clear hn hy hcell;by_cases c1:x=y
   ·go_wp2_with fail;go_ret;refine⟨⟨k,rfl,?_⟩,by first|rfl|trivial⟩;have:x∈ns:=by rw[c1,HR.z];exact getElem_mem hlt
    simp[this]
   ·have hrel:x∉ns.take (k+1):=by rw[QH hlt,mem_append,mem_singleton,<- HR.z];exact fun h=>h.elim HR.a c1
    have HREL:=qqH hrel;clear hrel;go_wp2_with fail;go_roundw
    case rel=>exact⟨k+1,by omega,by go_num,by first|rfl|trivial,HREL.out⟩
    case measure=>simp[intOf];omega
  ·obtain rfl:k=ns.length:=by omega
   rw[take_length]at hn;go_wp2_with fail;go_ret;exact⟨⟨-1,rfl,by simp[hn]⟩,by first|rfl|trivial⟩
theorem tC(sl:Option Addr)(cap:Nat)(ns:List Int)(x:Int)(w:World)(h:al w sl (ns.map dQ))(hl:ns.length<=1099511627776):
  Calls Tryz.prog 161 #[.slice sl ns.length cap,.int .i64 x] w (fun e w'=>e=.returned (.bool (ns.contains x))/\w'=w):=by
 have HI:=qqH (An sl cap ns x w h hl);clear h;go_enter Tryz.func161,Tryz.ntmps161;go_wp2_with fail;refine HI.out.mono ?_;rintro e w1 ⟨⟨i,rfl,hi⟩,rfl⟩;have HC:=qqH hi;clear hi;by_cases c1:0<=i
 ·go_wp2_with fail;go_ret;rw[<- HC.out];simp[c1]
 ·go_wp2_with fail;go_ret;rw[<- HC.out];simp[]
def i5(X:ArchL)(u:Int):ArchL:={ X with used:=u }
def goB(ns:List Int)(V:VerL):Bool:=ns.contains (V.num:Int)
def gK(ns:List Int)(V:VerL):Bool:=!goB ns V
def bX(ns:List Int)(vs:List VerL):Nat:=((vs.filter (goB ns)).map (·.size)).sum
structure DelEnv (a g nb cb:Nat) (sl:Option Addr) (cap2:Nat) (ns:List Int) (vs:List VerL) (W:World):Prop where
 ag:a≠g
 vs:∀V∈vs,V.blk≠a/\V.blk≠g/\W.heap[V.blk]?=some (dq V)
 nb:nb≠a/\nb≠g/\W.heap[nb]?=some (.cells #[.slice sl ns.length cap2] 171 (0,0))
 cb:cb≠a/\cb≠g/\W.heap[cb]?=some (.cells #[.pointer (some ⟨a,0,none⟩)] 258 (0,0))
 ns:al W sl (ns.map dQ)
 nsb:∀x,sl=some x->x.block≠a/\x.block≠g
theorem DelEnv.keep{a g nb cb:Nat}{sl:Option Addr}{cap2:Nat}{ns:List Int}{vs:List VerL}{W W':World}(h:DelEnv a g nb cb sl cap2 ns vs W)(hm:Mods (fun k=>k=a\/k=g) W W'):DelEnv a g nb cb sl cap2 ns vs W' where
 ag:=h.ag
 vs:=fun V hV=>by
  obtain⟨h1,h2,h3⟩:=h.vs V hV
  exact⟨h1,h2,hm.at h3 (by rintro(h|h);exact h1 h;exact h2 h)⟩
 nb:=⟨h.nb.1,h.nb.2.1,hm.at h.nb.2.2 (by rintro(k|k);exact h.nb.1 k;exact h.nb.2.1 k)⟩
 cb:=⟨h.cb.1,h.cb.2.1,hm.at h.cb.2.2 (by rintro(k|k);exact h.cb.1 k;exact h.cb.2.1 k)⟩
 ns:=h.ns.keep hm (fun g' off e=>by
  have:=h.nsb _ e
  rintro(k|k);exact this.1 k;exact this.2 k)
 nsb:=h.nsb
def Js(a:Nat)(X:ArchL)(u:Int)(ns:List Int)(V:VerL)(w:World)(e:Ending)(w':World):Prop :=
 e=.returned (.bool (goB ns V))/\Mods (fun k=>k=a) w w'/\w'.heap[a]?=some (aH (i5 X (u-(if goB ns V then V.size else 0:Nat))))
theorem zY(a nb cb:Nat)(X:ArchL)(u:Int)(V:VerL)(sl:Option Addr)(cap2:Nat)(ns:List Int)(w:World)(ha:w.heap[a]?=some (aH (i5 X u)))(hv:w.heap[V.blk]?=some (dq V))(hn:w.heap[nb]?=some (.cells #[.slice sl ns.length cap2] 171 (0,0)))(hc:w.heap[cb]?=some (.cells #[.pointer (some ⟨a,0,none⟩)] 258 (0,0)))(hs:al w sl (ns.map dQ))(hl:ns.length<=1099511627776)(hu : -2305843009213693952<=u/\u<=2305843009213693952)(hsz:V.size<=2305843009213693952):
  Calls Tryz.prog 160 #[.pointer (some ⟨V.blk,0,none⟩),.pointer (some ⟨nb,0,none⟩),.pointer (some ⟨cb,0,none⟩)] w (Js a X u ns V w):=by
 have n0:w.cell? ⟨nb,0,none⟩=some (.slice sl ns.length cap2):=aa hn 0 rfl;have v0:w.cell? ⟨V.blk,0,none⟩=some (.int .i64 V.num):=aa hv 0 rfl;have HW:=qqH (show IntKind.i64.wrap (u-V.size)=u-V.size from IntWalk.i64_in _ (by omega));obtain⟨gb,hgb⟩:∃gb,gb=goB ns V:=⟨_,rfl⟩;have HCo:=qqH (fun n=>(show Calls Tryz.prog 161 #[.slice sl ns.length cap2,.int .i64 V.num] (w.drewN n) (fun e w'=>e=.returned (.bool gb)/\w'=w.drewN n) by rw[hgb];exact tC sl cap2 ns V.num _ hs hl));have HH:=Hq5 ha hv hc hs hgb;clear ha hv hn hc hs hgb;go_enter Tryz.func160,Tryz.ntmps160;go_wp2_with fail;go_quiet ((go_at_call 161;exact(HCo.out _).mono (fun e w' ⟨he,hw⟩=>⟨he,_,hw⟩)))
 cases gb with
 | false =>
  go_wp2_with fail;go_ret;refine⟨by rw[<- HH.w];rfl,(Mods.refl _ w).drewN _,?_⟩;rw[<- HH.w];simpa using HH.a
 | true =>
  go_wp2_with fail;generalize hw1:w.drewN nq=w1;have a5:w1.cell? ⟨a,5,none⟩=some (.int .i64 u):=by rw[<- hw1];exact aa (w:=w) HH.a 5 rfl
  have f5:w1.frozen? ⟨a,5,none⟩=false:=by rw[<- hw1];exact bf (w:=w) HH.a 5
  have v1:w1.cell? ⟨V.blk,1,none⟩=some (.int .i64 V.size):=by rw[<- hw1];exact aa (w:=w) HH.b 1 rfl
  have c0:w1.cell? ⟨cb,0,none⟩=some (.pointer (some ⟨a,0,none⟩)):=by rw[<- hw1];exact aa (w:=w) HH.c 0 rfl
  have H1:=qqH hw1;clear hw1;refine wp_region_still_tail 11 HM.out (by kernel_rfl) ?_;simp only[QE,take_zero,QD,drop_zero];repeat still_step
  refine wpStill_nil ?_;change wpList _ _ _ _ _ w1.drew;go_wp2_with fail;go_ret;have ho:w1.heap[a]?=some (aH (i5 X u)):=by rw[<- H1.out];exact HH.a
  refine⟨by rw[<- HH.w];rfl,?_,?_⟩
  ·refine(Mods.set1 ?_ _).drew;rw[<- H1.out];exact(Mods.refl _ w).drewN _
  ·refine(bB ho 5 _).trans ?_;rw[<- HH.w];rfl
theorem x5(ns:List Int)(vs:List VerL)(V:VerL):bX ns (vs++[V])=bX ns vs+(if goB ns V then V.size else 0):=by
 unfold bX;rw[filter_append]
 cases h:goB ns V<;>simp[h]
theorem CX(ns:List Int)(vs:List VerL):bX ns vs<=(vs.map (·.size)).sum:=by
 induction vs with
 | nil=>simp[bX]
 | cons V r ih =>
  unfold bX at ih ⊢;rw[filter_cons];split<;>simp only[map_cons,sum_cons]<;>omega
theorem uM(vs:List VerL)(k:Nat):((vs.take k).map (·.size)).sum<=(vs.map (·.size)).sum:=by
 conv=>rhs;rw[<- take_append_drop k vs,map_append,sum_append]
 omega
def rt(u:Int)(vs:List VerL):Prop:=-1152921504606846976<=u/\u<=1152921504606846976/\(vs.map (·.size)).sum<=1152921504606846976/\vs.length<=1099511627776
theorem rt.at_{u:Int}{vs:List VerL}(h:rt u vs)(ns:List Int)(k:Nat)(hk:k<vs.length):(-2305843009213693952<=u-(bX ns (vs.take k):Nat)/\u-(bX ns (vs.take k):Nat)<=2305843009213693952)/\vs[k].size<=2305843009213693952:=by
 have h1:=CX ns (vs.take k);have h2:=uM vs k;have h3:=uM vs (k+1);rw[QH hk,map_append,sum_append]at h3;simp only[map_cons,map_nil,sum_cons,sum_nil]at h3;obtain⟨a,b,c,d⟩:=h;omega
theorem DelEnv.call{a g nb cb:Nat}{sl:Option Addr}{cap2:Nat}{ns:List Int}{vs:List VerL}{W:World}(h:DelEnv a g nb cb sl cap2 ns vs W){X:ArchL}{u:Int}(hu:rt u vs)(hl:ns.length<=1099511627776){k:Nat}(hk:k<vs.length)(ha:W.heap[a]?=some (aH (i5 X (u-(bX ns (vs.take k):Nat))))):
  Calls Tryz.prog 160 #[.pointer (some ⟨vs[k].blk,0,none⟩),.pointer (some ⟨nb,0,none⟩),.pointer (some ⟨cb,0,none⟩)] W (fun e w'=>e=.returned (.bool (goB ns vs[k]))/\Mods (fun k=>k=a) W w'/\w'.heap[a]?=some (aH (i5 X (u-(bX ns (vs.take (k+1)):Nat))))):=by
 obtain⟨h1,h2⟩:=hu.at_ ns k hk;refine(zY a nb cb X _ vs[k] sl cap2 ns W ha (h.vs _ (getElem_mem hk)).2.2 h.nb.2.2 h.cb.2.2 h.ns hl h1 h2).mono ?_;rintro e w' ⟨rfl,hm,hh⟩;refine⟨rfl,hm,?_⟩;rw[hh,QH hk,x5];congr 3;omega
def Jt(a:Nat)(X:ArchL)(u:Int)(ns:List Int)(vs:List VerL)(w:World)(e:Ending)(w':World):Prop :=
 ∃k,k<=vs.length/\(∀V∈vs.take k,goB ns V=false)/\((∃h:k<vs.length,goB ns vs[k]=true/\e=.returned (.int .i64 (k:Nat)))\/(k=vs.length/\e=.returned (.int .i64 (-1))))/\Mods (fun k=>k=a) w w'/\w'.heap[a]?=some (aH (i5 X (u-(bX ns (vs.take (k+1)):Nat))))
theorem sq(a g nb cb:Nat)(X:ArchL)(u:Int)(vs:List VerL)(pl:Option Addr)(cap:Nat)(sl:Option Addr)(cap2:Nat)(ns:List Int)(w:World)(hE:DelEnv a g nb cb sl cap2 ns vs w)(ha:w.heap[a]?=some (aH (i5 X u)))(hp:al w pl (vs.map ee))(hpb:∀x,pl=some x->x.block≠a)(hu:rt u vs)(hl:ns.length<=1099511627776):
  Calls Tryz.prog 175 #[.slice pl vs.length cap,.func (.func 160) #[] #[.pointer (some ⟨nb,0,none⟩),.pointer (some ⟨cb,0,none⟩)]] w (Jt a X u ns vs w):=by
 have hvl:=hu.2.2.2;have HH:=Hq5 hE ha hp hpb hu;clear hE ha hp hpb hu;go_enter Tryz.func175,Tryz.ntmps175;go_wp2_with fail;go_loopw [8] (fun v wr=>∃k:Nat,k<=vs.length/\v=.int .i64 k/\Mods (fun k=>k=a) w wr/\wr.heap[a]?=some (aH (i5 X (u-(bX ns (vs.take k):Nat))))/\∀V∈vs.take k,goB ns V=false) (fun v _=>vs.length-(intOf v).toNat)
 case atStart=>exact⟨0,Nat.zero_le _,rfl,Mods.refl _ _,by rw[HH.b,take_zero];simp[bX],by simp⟩
 case round =>
  obtain⟨k,hk,rfl,hm,hh,hn⟩:=hrel;by_cases hlt:k<vs.length
  ·obtain⟨g',off,hg,hcell⟩:=HH.c.keep hm (fun g off e=>HH.d _ e) (by rw[length_map];omega);subst hg;have hck:wr.cell? ⟨g',off+k,none⟩=some (ee vs[k]):=by rw[hcell k (by simpa using hlt)];simp
   unfold ee at hck;obtain⟨V,hV⟩:∃V,V=vs[k]:=⟨_,rfl⟩;obtain⟨gb,hgb⟩:∃gb,gb=goB ns V:=⟨_,rfl⟩;have hc:=(HH.a.keep (hm.mono (fun _ h=>.inl (.inl h)))).call HH.w hl hlt hh;rw[<- hV]at hc hck;rw[<- hgb]at hc;have HC:=qqH hc;have HR:=Hq4 hm hn hV hgb;clear hm hh hn hcell hc hV hgb;go_wp2_with fail;refine HC.out.mono ?_;rintro e w2 ⟨rfl,hm2,hh2⟩;have hm3:Mods (fun k=>k=a) w w2:=HR.a.trans hm2;have H2:=Hq2 hm3 hh2;clear hm2 hh2 hm3
   cases gb with
   | true =>
    go_wp2_with fail;go_ret;exact⟨k,by omega,HR.b,.inl ⟨hlt,by rw[<- HR.c,<- HR.x],rfl⟩,H2.a,H2.z⟩
   | false =>
    go_wp2_with fail;go_roundw
    case rel =>
     refine⟨k+1,by omega,by go_num,H2.a,H2.z,?_⟩;rw[QH hlt];intro V hV;rcases mem_append.1 hV with hV|hV
     ·exact HR.b V hV
     ·rw[mem_singleton.1 hV,<- HR.c,<- HR.x]
    case measure=>simp[intOf];omega
  ·obtain rfl:k=vs.length:=by omega
   have HR:=Hq3 hm hh hn;clear hm hh hn;go_wp2_with fail;go_ret;have h2:=HR.b;rw[take_length]at h2;exact⟨vs.length,by omega,HR.y,.inr ⟨rfl,rfl⟩,HR.a,by rw[take_of_length_le (by omega)];exact h2⟩
theorem Jp(w:World):(zeroValue 149).run Tryz.prog w=.ok (.pointer none) w:=by kernel_rfl
def GP(a g:Nat)(X:ArchL)(u:Int)(vs:List VerL)(cap:Nat)(ns:List Int)(w:World)(e:Ending)(w':World):Prop :=
 ∃cur:List Value,e=.returned (.slice (some ⟨g,0,none⟩) (vs.filter (gK ns)).length cap)/\Mods (fun k=>k=a\/k=g) w w'/\w'.heap[a]?=some (aH (i5 X (u-(bX ns vs:Nat))))/\w'.heap[g]?=some (.cells cur.toArray 149 (0,0))/\cur.length=cap/\cur.take (vs.filter (gK ns)).length=(vs.filter (gK ns)).map ee
def GQ(a g:Nat)(X:ArchL)(u:Int)(vs:List VerL)(cap:Nat)(ns:List Int)(w:World)(s5 s6 _s7:Value)(W:World):Prop :=
 ∃(i j:Nat) (cur:List Value),s5=.int .i64 i/\s6=.int .i64 j/\i=((vs.take j).filter (gK ns)).length/\i<j/\j<=vs.length/\Mods (fun k=>k=a\/k=g) w W/\W.heap[a]?=some (aH (i5 X (u-(bX ns (vs.take j):Nat))))/\W.heap[g]?=some (.cells cur.toArray 149 (0,0))/\cur.length=cap/\cur.take i=((vs.take j).filter (gK ns)).map ee/\∀m (h:m<vs.length),j<=m->cur[m]?=some (ee vs[m])
theorem qF(a g nb cb:Nat)(X:ArchL)(u:Int)(vs:List VerL)(cap:Nat)(cur:List Value)(sl:Option Addr)(cap2:Nat)(ns:List Int)(w:World)(hE:DelEnv a g nb cb sl cap2 ns vs w)(ha:w.heap[a]?=some (aH (i5 X u)))(hg:w.heap[g]?=some (.cells cur.toArray 149 (0,0)))(hcl:cur.length=cap)(hct:cur.take vs.length=vs.map ee)(hcap:vs.length<=cap)(hu:rt u vs)(hl:ns.length<=1099511627776):
  Calls Tryz.prog 159 #[.slice (some ⟨g,0,none⟩) vs.length cap,.func (.func 160) #[] #[.pointer (some ⟨nb,0,none⟩),.pointer (some ⟨cb,0,none⟩)]] w (GP a g X u vs cap ns w):=by
 have hvl:=hu.2.2.2
 have hcu:∀m (h:m<vs.length),cur[m]?=some (ee vs[m]):=fun m h=>by
  have:=congrArg (fun l=>l[m]?) hct;simpa[getElem?_take_of_lt h,h]using this
 have hI:=sq a g nb cb X u vs (some ⟨g,0,none⟩) cap sl cap2 ns w hE ha (fun hp=>⟨g,0,rfl,fun j hj=>by
  rw[length_map]at hj;have:=aa hg j (v:=ee vs[j]) (by simpa using hcu j hj);simpa using this⟩) (fun x hx=>by simp only[Option.some.injEq]at hx;subst hx;exact fun e=>hE.ag e.symm) hu hl
 have HI:=qqH hI;have HH:=Hq7 hE ha hg hcl hct hu hcu;clear hE ha hg hct hcl hu hI hcu;go_enter Tryz.func159,Tryz.ntmps159;go_wp2_with fail;refine HI.out.mono ?_;rintro e w1 ⟨k,hk,hn,hres,hm1,hh1⟩;have hg1:=hm1.at HH.c (fun e=>HH.a.ag e.symm);rcases hres with⟨hlt,hgk,rfl⟩|⟨rfl,rfl⟩
 ·have hkeep:(vs.take k).filter (gK ns)=vs.take k:=filter_eq_self.2 (fun V hV=>by simp[gK,hn V hV]);have hk1:(vs.take (k+1)).filter (gK ns)=vs.take k:=by rw[QH hlt,filter_append,hkeep];simp[gK,hgk]
  have hst:GQ a g X u vs cap ns w (.int .i64 k) (.int .i64 (k+1:Nat)) undef w1:=⟨k,k+1,cur,rfl,rfl,by rw[hk1,length_take];omega,by omega,hlt,hm1.mono (fun _ h=>.inl (.inl h)),hh1,hg1,HH.d,by
   rw[hk1,map_take,<- HH.e,take_take];congr 1;omega,fun m h _=>HH.u m h⟩
  have H1:=qqH hst;have hk1m:((k:Int) == -1)=false:=by simp
  have hkm:¬(k:Int)=-1:=by omega
  clear hst hk1 hkeep hgk hn hm1 hh1 hg1;go_wp2_with fail;go_loopw [5,6,7] (fun s5 s6 s7 wr=>GQ a g X u vs cap ns w s5 s6 s7 wr) (fun _ s6 _ _=>vs.length-(intOf s6).toNat)
  case atStart=>exact H1.out
  case round =>
   obtain⟨i,j,cu,rfl,rfl,hi,hij,hj,hm,hh,hg,hcl,hct,hcu⟩:=hrel;by_cases hjl:j<vs.length
   ·obtain⟨V,hV⟩:∃V,V=vs[j]:=⟨_,rfl⟩;have hck:wr.cell? ⟨g,j,none⟩=some (ee V):=aa hg j (by rw[hV];simpa using hcu j hjl (Nat.le_refl _));unfold ee at hck;obtain⟨old,hold⟩:∃old,wr.cell? ⟨g,i,none⟩=some old:=⟨cu[i],aa hg i (by simp)⟩;have hfr:=bf hg i;have hc:=(HH.a.keep hm).call HH.f hl hjl hh;obtain⟨gb,hgb⟩:∃gb,gb=goB ns V:=⟨_,rfl⟩;rw[<- hV]at hc;rw[<- hgb]at hc;have HC:=qqH hc;have HR:=Hq8 hm hg hcl hct hcu hV hgb hi;clear hm hh hg hcl hct hcu hc hV hgb hi;go_wp2_with fail;refine HC.out.mono ?_;rintro e w2 ⟨rfl,hm2,hh2⟩;have hg2:=hm2.at HR.b (fun e=>HH.a.ag e.symm);have hold2:w2.cell? ⟨g,i,none⟩=some old:=by rw[<- hold];exact World.cell?_of_block (hm2.block g (ac HR.b) (fun e=>HH.a.ag e.symm))
    have hfr2:=bf hg2 i;have hm3:Mods (fun k=>k=a\/k=g) w w2:=HR.a.trans (hm2.mono (fun _ h=>.inl (.inl h)));have H2:=Hq3 hg2 hm3 hh2;clear hg2 hm3 hh2 hm2 hck hold hfr
    cases gb with
    | true =>
     go_wp2_with fail;go_roundw
     case rel =>
      refine⟨i,j+1,cu,rfl,by go_num,?_,by omega,hjl,H2.b,H2.y,H2.a,HR.c,?_,fun m h hjm=>HR.e m h (by omega)⟩
      all_goals
       rw[QH hjl,filter_append,<- HR.f];simp only[filter_cons,filter_nil,gK,<- HR.g,Bool.not_true,Bool.false_eq_true,if_false,append_nil]
      ·exact HR.t
      ·exact HR.d
     case measure=>simp[intOf];omega
    | false =>
     go_wp2_with fail;go_roundw
     case rel =>
      have hkV:gK ns V=true:=by simp[gK,<- HR.g]
      have hf:(vs.take (j+1)).filter (gK ns)=(vs.take j).filter (gK ns)++[V]:=by
       rw[QH hjl,filter_append,<- HR.f];simp[hkV]
      have hs:=bB H2.a i (ee V);rw[QA]at hs;have hil:i<cu.length:=by rw[HR.c];omega
      refine⟨i+1,j+1,cu.set i (ee V),by go_num,by go_num,?_,by omega,hjl,H2.b.setCell (.inl (.inr rfl)) _,?_,hs,by rw[length_set];exact HR.c,?_,fun m h hjm=>?_⟩
      ·rw[hf,length_append,<- HR.t];rfl
      ·refine Eq.trans ?_ H2.y;exact((Mods.refl (fun k=>k=g) w2).set1 (i:=i) (ee V)).block a (ac H2.y) HH.a.ag
      ·rw[hf,map_append,<- HR.d,QH (by rw[length_set];exact hil),take_set_of_le (Nat.le_refl i)];simp
      ·rw[getElem?_set_ne (by omega)];exact HR.e m h (by omega)
     case measure=>simp[intOf];omega
   ·obtain rfl:j=vs.length:=by omega
    rw[take_length]at hh hi hct;have hilc:i<cap:=by omega
    have hCl:∀ty,(Builtin.clear_ #[153] ty #[.slice (some ⟨g,i,none⟩) (vs.length-i) (cap-i)]).run Tryz.prog wr=.ok (.tuple #[]) (wr.setCells g i (replicate (vs.length-i) (.pointer none))):=fun ty =>
     Lib.run_clear_slice wr _ _ ty _ Tryz.underlying153 (fun w=>Jp w) rfl rfl g i _ _ (by omega) (fun t ht=>by rw[aa hg (i+t) (v:=cu[i+t]'(by omega)) (by simp)];rfl) (fun t ht=>bf hg _)
    obtain⟨h1,h2⟩:=fm hg i (replicate (vs.length-i) (.pointer none)) (by rw[length_replicate];omega);have HR:=Hq7 hm hh h1 h2 hcl hct hi;clear hm hh hg hcl hct hcu h1 h2 hi;go_wp2_with fail;go_ret;refine⟨_,?_,HR.a.trans (HR.d.mono (fun _ h=>.inl (.inr h))),?_,HR.c,?_,?_⟩
    ·rw[<- HR.u];rfl
    ·refine Eq.trans ?_ HR.b;exact HR.d.block a (ac HR.b) HH.a.ag
    ·unfold spl;have:=HR.e;simp only[length_append,length_take,length_replicate,length_drop];omega
    ·unfold spl;have:=HR.e;rw[<- HR.u,append_assoc,take_append_of_le_length (by rw[length_take];omega),take_take,Nat.min_self];exact HR.f
 ·have hf:vs.filter (gK ns)=vs:=filter_eq_self.2 (fun V hV=>by simp[gK,hn V (by rw[take_length];exact hV)]);have h2:=hh1;rw[take_of_length_le (by omega)]at h2;have HX:=Hq4 hf h2 hg1 hm1;clear hf h2 hn hm1 hh1 hg1;go_wp2_with fail;go_ret;refine⟨cur,?_,HX.x.mono (fun _ h=>.inl (.inl h)),HX.b,HX.c,HH.d,?_⟩
  ·rw[HX.a];rfl
  ·rw[HX.a];exact HH.e
end
section
open Go.RowKit Go.Maps
open Go.ChangeMaps (setBlock)
theorem Turns.put2{A w w':World}{F G:HF}{a g:Nat}{φ ψ χ:Obj->Prop}{o1 o2:Obj}(h:Turns F ((a,φ)::(g,ψ)::G) A w)(hm:Mods (fun k=>k=a\/k=g) w w')(h1:w'.heap[a]?=some o1)(h2:w'.heap[g]?=some o2)(hχ:χ o2):Turns F ((a,Is o1)::(g,χ)::G) A w':=by
 refine h.trans ⟨hm.mono (fun k hk=>.inl (by rcases hk with rfl|rfl<;>simp)),⟨h.sat.nodup,fun p hp=>?_⟩,fun k hk=>.inl (by simpa using hk)⟩;rcases mem_cons.1 hp with rfl|hp
 ·exact⟨_,h1,Is.rfl⟩
 ·rcases mem_cons.1 hp with rfl|hp
  ·exact⟨_,h2,hχ⟩
  ·obtain⟨o,ho,hφ⟩:=h.sat.sat p (by simp[hp]);refine⟨o,hm.at ho (fun hk=>?_),hφ⟩;have hn:=h.sat.nodup;simp only[gF,nodup_cons,mem_cons,not_or]at hn;have hpd:p.1∈dom G:=mem_map.2 ⟨p,hp,rfl⟩;rcases hk with e|e
   ·exact hn.1.2 (e ▸ hpd)
   ·exact hn.2.1 (e ▸ hpd)
theorem tA{F G:HF}(h:F.Perm G)(x:Nat×(Obj->Prop)):cnt x F=cnt x G:=by unfold cnt;exact h.countP_eq _
def dD(ns:List Int)(vs:List VerL):List VerL:=vs.filter (gK ns)
def ga(ps:List aW)(c:Nat)(p:Bs)(v:Value)(ns:List Int):List aW:=if dD ns (af ps p)=[]then bH ps p else ef ps c p v (dD ns (af ps p))
theorem CW{γ:Type}(d:γ)(ps:List (GE γ))(l m:Bs):gOf d (bH ps l) m=if m=l then d else gOf d ps m:=by
 unfold gOf bH;rw[find?_filter];by_cases h:m=l
 ·subst h;rw[if_pos rfl,find?_eq_none.2 (by simp)]
 ·rw[if_neg h];congr 2;funext p;by_cases hp:p.key=m
  ·simp[hp,h]
  ·simp[hp]
theorem lH(ps:List aW)(c:Nat)(p:Bs)(v:Value)(ns:List Int)(l:Bs):af (ga ps c p v ns) l=if l=p then dD ns (af ps p)else af ps l:=by
 unfold ga;split
 ·rename_i h;rw[h];exact CW [] ps p l
 ·exact pU [] ps c p l v _
theorem FV(ns:List Int)(vs:List VerL):(vs.flatMap bT).Perm ((dD ns vs).flatMap bT++(vs.filter (fun V => !gK ns V)).flatMap bT):=by
 rw[<- flatMap_append];exact(filter_append_perm (gK ns) vs).symm.flatMap_right _
theorem jJ{ps:List aW}{p:Bs}(h:af ps p≠[]):∃q∈ps,q.key=p/\af ps p=q.g:=by
 unfold af gOf at h ⊢
 cases hf:ps.find? (fun q=>decide (q.key=p))with
 | none=>rw[hf]at h;exact absurd rfl h
 | some q=>exact⟨q,mem_of_find?_eq_some hf,by simpa using find?_some hf,rfl⟩
theorem zZ{ps:List aW}{c:Nat}(h:PathsOk ps c){p:Bs}(hl:OkS p){v:Value}{ns:List Int}(hv:eP v (dD ns (af ps p)))(hne:af ps p≠[]):PathsOk (ga ps c p v ns) c:=by
 obtain⟨q,hq,hqk,hqg⟩:=jJ hne;have hpl:∀V∈af ps p,cd V.cv V.chs:=by rw[hqg];exact(h.rows q hq).2
 unfold ga;split
 ·exact⟨by rw[mG];exact h.map.del p,fun x hx=>h.rows x (mem_filter.1 hx).1⟩
 ·have hc:cw (ps.map aO) c p=c:=by
   unfold cw;rw[if_pos (iy.2 ⟨aO q,mem_map.2 ⟨q,hq,rfl⟩,hqk⟩)]
  have:=h.map.put hl v;rw[hc]at this;refine⟨by rw[iE];exact this,fun x hx=>?_⟩;rcases fx hx with⟨h1,_⟩|⟨h1,h2,h3⟩
  ·exact h.rows x h1
  ·refine⟨by rw[h2,h3];exact hv,fun V hV=>?_⟩;rw[h3]at hV;exact hpl V (mem_filter.1 hV).1
theorem wq{ps:List aW}{c:Nat}{p:Bs}{v:Value}{ns:List Int}(h:∀q∈ps,q.g≠[]):∀q∈ga ps c p v ns,q.g≠[]:=by
 unfold ga;split
 ·exact fun x hx=>h x (mem_filter.1 hx).1
 ·rename_i hk;intro x hx;rcases fx hx with⟨h1,_⟩|⟨_,_,h3⟩
  ·exact h x h1
  ·rw[h3];exact hk
def GR(a:Nat)(X:ArchL)(ps:List aW)(pc:Nat)(p:Bs)(v:Value)(ns:List Int)(w:World)(e:Ending)(w':World):Prop :=
 ∃v',e=.returned (.tuple #[])/\eP v' (dD ns (af ps p))/\Turns ((a,Is (aH X))::(aF X.pm ps pc++cA v ns)) ((a,Is (aH (i5 X (X.used-(bX ns (af ps p):Nat)))))::(aF X.pm (ga ps pc p v' ns) pc++cA v ns)) w w'
theorem tL(a:Nat)(X:ArchL)(ps:List aW)(pc:Nat)(p:Bs)(v:Value)(ns:List Int)(w:World)(h:Sat w ((a,Is (aH X))::(aF X.pm ps pc++cA v ns)))(hio:iOk v ns)(hok:PathsOk ps pc)(hl:OkS p)(hne:af ps p≠[])(hu:rt X.used (af ps p))(hnl:ns.length<=1099511627776):
  Calls Tryz.prog 140 #[.pointer (some ⟨a,0,none⟩),str p,v] w (GR a X ps pc p v ns w):=by
 obtain⟨F1,hF1⟩:∃F1,F1=(a,Is (aH X))::(aF X.pm ps pc++cA v ns):=⟨_,rfl⟩
 have hT0:Turns F1 (ek (eH (.slice none 0 0) ps p) (af ps p)++((a,Is (aH X))::(X.pm,Is (aQ str (ps.map aO) pc))::(dH ps p++cA v ns))) w w:=by
  rw[hF1];refine(Turns.refl h).to ?_;have hp:=kz p (by rw[<- cE];exact hok.map.nodup);unfold aF;refine(Perm.cons _ ((Perm.cons _ hp).append_right _)).trans ?_;exact ae
 have hrow:=aR hT0.sat.left (uw hok p);obtain⟨v0,hv0⟩:∃v0,v0=eH (.slice none 0 0) ps p:=⟨_,rfl⟩;obtain⟨vs,hvs⟩:∃vs,vs=af ps p:=⟨_,rfl⟩;rw[<- hv0,<- hvs]at hT0 hrow;rw[<- hvs]at hne hu;rcases hrow.2 with⟨-,h0⟩|⟨g,cap,cur,e1,-,hg,hc1,hc2,hc3,hc4⟩
 ·exact absurd (length_eq_zero_iff.1 h0) hne
 obtain⟨sl,cap2,e2,-,hcp2,hcs,hcb⟩:=aP (aR (h.sub (G:=cA v ns) (fun x=>by simp only[ao,ah];omega)) hio);subst e2
 have hdg:ek v0 vs=[(g,fun o=>∃cap cur,v0=.slice (some ⟨g,0,none⟩) vs.length cap/\o=.cells cur 149 (0,0)/\vs.length<=cap/\cap<=maxLen/\cur.size=cap*1/\cur.toList.take (vs.length*1)=vs.map ee)]:=by
  rw[e1];rfl
 rw[hdg]at hT0;subst e1;have hnd:=hT0.sat.nodup;simp only[cons_append,nil_append,gF,cJ,nodup_cons,mem_cons,mem_append,not_or]at hnd
 have hin:∀V∈vs,V.blk∈dom (dH ps p)/\w.heap[V.blk]?=some (dq V):=fun V hV=>by
  have hm:(V.blk,Is (dq V))∈dH ps p:=by
   unfold dH;rw[<- hvs];exact mem_append_right _ (mem_flatMap.2 ⟨V,hV,by simp[bT]⟩)
  exact⟨mem_map.2 ⟨_,hm,rfl⟩,hT0.sat.Q7 (by simp[hm])⟩
 have hal:∀b o,w.heap[b]?=some o->b<w.heap.size:=fun b o h=>ac h
 have ha0:=h.Q5
 have hE:∀(W:World) (nb cb:Nat),aX w W->W.heap[nb]?=some (.cells #[.slice sl ns.length cap2] 171 (0,0))->W.heap[cb]?=some (.cells #[.pointer (some ⟨a,0,none⟩)] 258 (0,0))->w.heap.size<=nb->w.heap.size<=cb->DelEnv a g nb cb sl cap2 ns vs W:=fun W nb cb hs h1 h2 h3 h4=>by
  have la:=hal _ _ ha0;have lg:=hal _ _ hg;refine⟨fun e=>hnd.1.1 e.symm,fun V hV=>?_,⟨by omega,by omega,h1⟩,⟨by omega,by omega,h2⟩,hcs.keep hs (fun _ _ _=>id),fun x hx=>?_⟩
  ·obtain⟨k1,k2⟩:=hin V hV;exact⟨fun e=>hnd.2.1.2.1 (e ▸ k1),fun e=>hnd.1.2.2.1 (e ▸ k1),hs.at k2 id⟩
  ·have hx2:=(ff 3 1 ns.length _ (ns.map dQ) x.block).2 (hcb x hx);exact⟨fun e=>hnd.2.1.2.2 (e ▸ hx2),fun e=>hnd.1.2.2.2 (e ▸ hx2)⟩
 have hmf:∀(fn:Fn) (first cap:Array Value) (w:World),(Instr.makeFunc fn first cap).run Tryz.prog w=.ok (.func fn first cap) w:=fun _ _ _ _=>rfl
 have HH:=qqH (And.intro hT0 (And.intro hE (And.intro ha0 (And.intro hg (And.intro hok (And.intro hl (And.intro hu (And.intro hv0 (And.intro hvs (And.intro hF1 (And.intro hc3 hc4)))))))))));have lg0:=hal _ _ hg;have HL:=Hq3 hc1 hc2 lg0;have hla:=hal _ _ ha0;clear lg0 h hio hT0 hE ha0 hg hok hl hu hv0 hvs hF1 hc3 hc4 hnd hin hal hcs hcb hrow hdg hne hc1 hc2 hcp2;go_enter Tryz.func140,Tryz.ntmps140;go_upto_region 1 with(fail);obtain⟨W,hW⟩:∃W,W=(w.alloc (.cells #[.pointer (some ⟨a,0,none⟩)] 258)).alloc (.cells #[.slice sl ns.length cap2] 171):=⟨_,rfl⟩;have hs:aX w W:=by rw[hW];exact((Mods.refl _ w).alloc _).alloc _
 have hcbo:W.heap[w.heap.size]?=some (.cells #[.pointer (some ⟨a,0,none⟩)] 258 (0,0)):=by rw[hW];exact((Mods.refl (fun _=>False) _).alloc _).at (aK w _) id
 have hnbo:W.heap[w.heap.size+1]?=some (.cells #[.slice sl ns.length cap2] 171 (0,0)):=by
  rw[hW];have:=aK (w.alloc (.cells #[.pointer (some ⟨a,0,none⟩)] 258)) (.cells #[.slice sl ns.length cap2] 171);rwa [World.size_alloc]at this
 have c0:W.cell? ⟨w.heap.size,0,none⟩=some (.pointer (some ⟨a,0,none⟩)):=aa hcbo 0 rfl;have hla2:a<W.heap.size:=Nat.lt_of_lt_of_le hla hs.size;have a0:W.cell? ⟨a,0,none⟩=some (.map (some X.pm)):=aa (hs.at HH.c id) 0 rfl;have hg2:=hs.at HH.d id;have hT2:=HH.a.Q9 hs;have hTa:=hT2.to (H:=(a,Is (aH X))::(g,fun o=>∃cap_1 cur,Value.slice (some ⟨g,0,none⟩) vs.length cap=.slice (some ⟨g,0,none⟩) vs.length cap_1/\o=.cells cur 149 (0,0)/\vs.length<=cap_1/\cap_1<=maxLen/\cur.size=cap_1*1/\cur.toList.take (vs.length*1)=vs.map ee)::(X.pm,Is (aQ str (ps.map aO) pc))::(dH ps p++cA (.slice sl ns.length cap2) ns)) ae;have hmo:=hT2.sat.Q7 (b:=X.pm) (o:=aQ str (ps.map aO) pc) (by simp);have HD:=qqH (qF a g (w.heap.size+1) w.heap.size X X.used vs cap cur.toList sl cap2 ns W (HH.b W _ _ hs hnbo hcbo (by omega) (by omega)) (hs.at HH.c id) (by simpa using hg2) (by have:=HH.out.2.2.2.2.2.2.2.2.2.2.1;simp at this ⊢;exact this) (by have:=HH.out.2.2.2.2.2.2.2.2.2.2.2;rwa [Nat.mul_one]at this) HL.a HH.g hnl);rw[<- hW];have H2:=Hq2 hTa hmo;clear hW hs hcbo hnbo hg2 hT2 hTa hmo;go_wp2_with (at_lookup;refine ez eb rfl _ _ rfl Tryz.underlying119 H2.z HH.e.map (gz _) p rfl rfl HH.f ?_;rw[cY,<- HH.h]);refine HD.out.mono ?_;rintro e w3 ⟨cur',rfl,hm3,hh3,hg3,hl3,ht3⟩;have hk3:(vs.filter (gK ns)).length<=vs.length:=length_filter_le _ _;have hokv:eP (.slice (some ⟨g,0,none⟩) (dD ns vs).length cap) (dD ns vs):=⟨by simp,fun h=>by cases h⟩;have hT3:Turns F1 ((a,Is (aH (i5 X (X.used-(bX ns vs:Nat)))))::(ek (.slice (some ⟨g,0,none⟩) (dD ns vs).length cap) (dD ns vs)++(X.pm,Is (aQ str (ps.map aO) pc))::(dH ps p++cA (.slice sl ns.length cap2) ns))) w w3:=H2.a.put2 hm3 hh3 hg3 ⟨cap,cur'.toArray,rfl,rfl,Nat.le_trans hk3 HL.a,HL.b,by simpa using hl3,by simpa[dD]using ht3⟩;have H3:=Hq2 hokv hT3
 have cbk:w3.cell? ⟨w.heap.size,0,none⟩=some (.pointer (some ⟨a,0,none⟩)):=by
  rw[<- c0];refine World.cell?_of_block (hm3.block _ (World.block_lt_of_cell? W _ c0) ?_);rintro(e|e)
  ·have e':w.heap.size=a:=e;omega
  ·have e':w.heap.size=g:=e;have:=HL.y;omega
 clear hokv hT3 hm3 hh3 hg3 hl3 ht3 hk3 hla2 a0 c0;have hb3:=H3.z.sat;have a0:w3.cell? ⟨a,0,none⟩=some (.map (some X.pm)):=aa hb3.Q5 0 rfl;have c0:w3.cell? ⟨w.heap.size,0,none⟩=some (.pointer (some ⟨a,0,none⟩)):=cbk;by_cases hk:(dD ns vs).length=0
 ·have hk0:dD ns vs=[]:=length_eq_zero_iff.1 hk;have hki:(vs.filter (gK ns)).length=0:=hk;have HK:=qqH hk0;clear hk hk0
  have hdel:∀ty,(Builtin.delete_ #[119,9] ty #[.map (some X.pm),str p]).run Tryz.prog w3=.ok (.tuple #[]) (setBlock w3 X.pm (aQ str (xS (ps.map aO) p) pc)):=fun ty =>
   EG eb Tryz.underlying119 (hb3.Q7 (o:=aQ str (ps.map aO) pc) (by simp)) HH.e.map HH.f
  have H4:=qqH ((H3.z.to (H:=(X.pm,Is (aQ str (ps.map aO) pc))::((a,Is (aH (i5 X (X.used-(bX ns vs:Nat)))))::(ek (.slice (some ⟨g,0,none⟩) (dD ns vs).length cap) (dD ns vs)++(dH ps p++cA (.slice sl ns.length cap2) ns)))) ae).Qa (de w3 X.pm (aQ str (xS (ps.map aO) p) pc)) (ew (hb3.Q7 (o:=aQ str (ps.map aO) pc) (by simp))));clear hb3;go_wp2_with fail;refine bodyPost_ret (results_none rfl _ _ _) rfl ?_;refine⟨.slice none 0 0,rfl,?_,?_⟩
  ·rw[<- HH.out.2.2.2.2.2.2.2.2.1,HK.out];exact⟨rfl,fun _=>⟨rfl,rfl⟩⟩
  ·unfold ga;rw[<- HH.out.2.2.2.2.2.2.2.2.1,if_pos HK.out,<- HH.out.2.2.2.2.2.2.2.2.2.1];unfold aF;rw[mG];exact H4.out.drop (fun x=>by unfold dH;simp only[ao,ah];omega)
 ·have hki:¬(vs.filter (gK ns)).length=0:=hk;have HK:=qqH hk;clear hk
  go_wp2_with (first
   | (refine ai rfl (lw eb (.tmp 26) (.tmp 27) (.tmp 28) rfl Tryz.underlying119 X.pm _ pc (H3.z.to (H:=(X.pm,Is (aQ str (ps.map aO) pc))::((a,Is (aH (i5 X (X.used-(bX ns vs:Nat)))))::(ek (.slice (some ⟨g,0,none⟩) (dD ns vs).length cap) (dD ns vs)++(dH ps p++cA (.slice sl ns.length cap2) ns)))) ae) HH.e.map p (.slice (some ⟨g,0,none⟩) (dD ns vs).length cap) rfl rfl rfl HH.f ?_);intro w4 hT4;have H4:=qqH hT4;clear hT4;simp only[Act.put])
   | fail)
  refine bodyPost_end (results_none rfl _ _ _) rfl ?_;have hvs:=HH.out.2.2.2.2.2.2.2.2.1;have hne:af ps p≠[]:=fun e=>HK.out (by rw[hvs,e];rfl)
  have hkn:¬dD ns (af ps p)=[]:=fun e=>HK.out (by rw[hvs,e];rfl)
  obtain⟨q,hq,hqk,-⟩:=jJ hne
  have hc:cw (ps.map aO) pc p=pc:=by
   unfold cw;rw[if_pos (iy.2 ⟨aO q,mem_map.2 ⟨q,hq,rfl⟩,hqk⟩)]
  refine⟨.slice (some ⟨g,0,none⟩) (dD ns vs).length cap,rfl,by rw[<- hvs];exact H3.a,?_⟩;have h4:=H4.out;rw[hc]at h4;unfold ga;rw[if_neg hkn,<- hvs,<- HH.out.2.2.2.2.2.2.2.2.2.1];unfold aF;rw[iE];have hp:=uB er ps pc p (.slice (some ⟨g,0,none⟩) (dD ns vs).length cap) (dD ns vs) (by rw[<- cE];exact HH.e.map.nodup);have hkp:=FV ns vs;have ho:dH ps p=gm er (bH ps p)++vs.flatMap bT:=by unfold dH;rw[hvs]
  rw[ho]at h4;unfold er at hp h4 ⊢;refine h4.drop (fun x=>?_);have h1:=tA hp x;have h2:=tA hkp x;simp only[ao,ah]at h1 h2 ⊢;omega
end
end Go.Proofs.YtdhobpbngkainaaGreatDoor
