/- Ours. A part of the proof, made small by a program. -/
import Derived.Test.YtdhobpbngkainaaGreatDoorKq05
set_option maxRecDepth 100000
set_option maxHeartbeats 4000000
namespace Go.Proofs.YtdhobpbngkainaaGreatDoor
section
open Go.RowKit Go.Maps
theorem I4{F G:HF}{A W:World}{v:Value}{D:Bs}(h:Turns F (aK v D++G) A W)(hok:bOk v D)(hne:D≠[]):∃g cap o,v=.slice (some ⟨g,0,none⟩) D.length cap/\D.length<=cap/\cap<=9223372036854775807/\Turns F ((g,Is o)::G) A W/\(∀W':World,W'.heap[g]?=some o->ak W' (some ⟨g,0,none⟩) (D.map ao)):=by
 have hown:=dX h.sat.left hok;rcases hown.2 with⟨-,h0⟩|⟨g,cap,cur,rfl,-,hg,h1,h2,h3,h4⟩
 ·exact absurd (List.eq_nil_of_length_eq_zero h0) hne
 ·refine⟨g,cap,.cells cur 5 (0,0),rfl,h1,by unfold maxLen at h2;omega,?_,fun W' hW hp=>⟨g,0,rfl,fun j hj=>?_⟩⟩
  ·have e:aK (.slice (some ⟨g,0,none⟩) D.length cap) D++G=(g,_)::G:=rfl;rw[e]at h;exact h.put (Mods.refl _ _) hg Is.rfl
  ·rw[Nat.zero_add];refine aa hW j ?_;rw[<- Array.getElem?_toList];have hj2:j<D.length:=by simpa using hj
   have e1:(cur.toList.take (D.length*1))[j]?=cur.toList[j]?:=by rw[List.getElem?_take,if_pos (by omega)]
   rw[<- e1,h4];exact List.getElem?_eq_getElem hj
def l8(pm tm cm d ab e:Nat)(q:Int):ArchL:=⟨pm,tm,cm,0,0,0,d,ab,e,dk q,false,.nilIface⟩
def kt(L:DevL)(e ch:Nat):AreaL:=⟨2+e%2*aD L.n,aD L.n,0,aq 128,ch,[]⟩
def wH(F1 Z:HF)(A:World)(d u:Nat)(L:DevL)(q:Int)(e wh:Nat)(v:Value)(W:World):Prop :=
 ∃g pm tm cm ab ch,v=.pointer (some ⟨g,0,none⟩)/\Turns F1 ((g,Is (aO (l8 pm tm cm d ab e q)))::(ay ab d (kt L e ch)++([(cm,Is (.map #[] 0)),(tm,Is (.map #[] 0)),(pm,Is (.map #[] 0))]++((u,Is (gB e wh))::(aE d L++Z))))) A W
theorem J3(F1 Z:HF)(A:World)(d u:Nat)(L:DevL)(q:Int)(e wh:Nat){Q:Exit->Act->World->Prop}{w:World}{u2 u3 u4 u5 u6 u7 u8 u9 aS aT ad ag aj ar av ax a0 a1 a2 a3 a4 a5 a6 a7 a9 bY bg bj bk bo bs bv bx b0 b1 b2 b3 b4 b6 b7 b9 ca cb cc ci cj cl cp cs ct cu cv cx c0 c1 c2 c3 c4 c5 c6 c7 dO dT df dn dp dv d0 d1 d2 d3 d4 d5 d6 d7 eA eC eQ eR eU eW eX:Value}{ds:List Deferred}(hT:Turns F1 ((u,Is (gB e wh))::(aE d L++Z)) A w)(hn:16<=L.n)(hn2:L.n<=1073741824)(he:e<4294967296)(hk:∀(eb ec eg el em en ep es ev e1 e2 e4 ea:Value) (w':World),wH F1 Z A d u L q e wh ea w'->Q .normal { tmps:=#[.pointer (some ⟨d,0,none⟩),.int .i64 q,u2,u3,u4,u5,u6,u7,u8,u9,.pointer (some ⟨u,0,none⟩),ea,aT,ad,ag,aj,ar,av,ax,a0,a1,a2,a3,a4,a5,a6,a7,a9,bY,bg,bj,bk,bo,bs,bv,bx,b0,b1,b2,b3,b4,eb,ec,eg,el,em,en,ep,es,ev,e1,e2,e4,cu,cv,cx,c0,c1,c2,c3,c4,c5,c6,c7,dO,dT,df,dn,dp,dv,d0,d1,d2,d3,d4,d5,d6,d7,eA,eC,eQ,eR,eU,eW,eX],defers:=ds } w'):
  (iq 11 Tryz.f22).wp Tryz.prog Q { tmps:=#[.pointer (some ⟨d,0,none⟩),.int .i64 q,u2,u3,u4,u5,u6,u7,u8,u9,.pointer (some ⟨u,0,none⟩),aS,aT,ad,ag,aj,ar,av,ax,a0,a1,a2,a3,a4,a5,a6,a7,a9,bY,bg,bj,bk,bo,bs,bv,bx,b0,b1,b2,b3,b4,b6,b7,b9,ca,cb,cc,ci,cj,cl,cp,cs,ct,cu,cv,cx,c0,c1,c2,c3,c4,c5,c6,c7,dO,dT,df,dn,dp,dv,d0,d1,d2,d3,d4,d5,d6,d7,eA,eC,eQ,eR,eU,eW,eX],defers:=ds } w:=by
 have HM:=qqH (show Tryz.prog.follows .mixedOrders=true by kernel_rfl);conv=>arg 2;whnf
 refine bK (A:=?A) (hA:=?hA) HM.out (iT [fun _=>True,fun v=>v=.pointer (some ⟨d,0,none⟩),fun v=>v=.pointer (some ⟨d,0,none⟩),fun v=>v=.pointer (some ⟨u,0,none⟩),fun v=>v=.int .u32 e,fun _=>True,fun v=>v=.pointer (some ⟨u,0,none⟩),fun v=>v=.int .u32 e,fun v=>v=.int .i64 q,fun v=>v=.int .i64 (dk q),fun _=>True,fun _=>True,fun _=>True])
  (fun vs W=>match vs with
   | []=>Turns F1 ((u,Is (gB e wh))::(aE d L++Z)) A W
   | [v0]=>∃pm tm cm,v0=.agg (gR pm tm cm 0 0 0)/\Turns F1 ([(cm,Is (.map #[] 0)),(tm,Is (.map #[] 0)),(pm,Is (.map #[] 0))]++((u,Is (gB e wh))::(aE d L++Z))) A W
   | [v0,v5]=>∃pm tm cm ab ch,v0=.agg (gR pm tm cm 0 0 0)/\v5=.pointer (some ⟨ab,0,none⟩)/\Turns F1 (ay ab d (kt L e ch)++([(cm,Is (.map #[] 0)),(tm,Is (.map #[] 0)),(pm,Is (.map #[] 0))]++((u,Is (gB e wh))::(aE d L++Z)))) A W
   | [_,_,v]=>∃pm tm cm ab ch,v=.agg (bf (l8 pm tm cm d ab e q))/\Turns F1 (ay ab d (kt L e ch)++([(cm,Is (.map #[] 0)),(tm,Is (.map #[] 0)),(pm,Is (.map #[] 0))]++((u,Is (gB e wh))::(aE d L++Z)))) A W
   | [_,_,_,v]=>wH F1 Z A d u L q e wh v W
   | [_,_,_,_,v]=>wH F1 Z A d u L q e wh v W
   | _=>False)
  (fun W=>W.cell? ⟨u,0,none⟩=some (.int .u32 e)) [0,5,10,11,12] ?hC (by kernel_rfl) (by kernel_rfl) (by decide) (by decide) ?h0 ?hs ?he
 case hA=>intro x;simp only[aw,Act.put,List.setIfInBounds_toArray,List.set_cons_zero,List.set_cons_succ,Nat.reduceAdd];rfl
 case hs =>
  refine⟨au 0 rfl rfl (fun x wq hd hS K hK=>?_),ac rfl rfl (fun x wq hd hC K hK hKw=>?_),ac rfl rfl (fun x wq hd hC K hK hKw=>?_),ac rfl rfl (fun x wq hd hC K hK hKw=>?_),ac rfl rfl (fun x wq hd hC K hK hKw=>?_),au 1 rfl rfl (fun x wq hd hS K hK=>?_),ac rfl rfl (fun x wq hd hC K hK hKw=>?_),ac rfl rfl (fun x wq hd hC K hK hKw=>?_),ac rfl rfl (fun x wq hd hC K hK hKw=>?_),ac rfl rfl (fun x wq hd hC K hK hKw=>?_),au 2 rfl rfl (fun x wq hd hS K hK=>?_),au 3 rfl rfl (fun x wq hd hS K hK=>?_),au 4 rfl rfl (fun x wq hd hS K hK=>?_),trivial⟩
  ·refine bd (by kernel_rfl) (ld wq) ?_;rintro e3 w3 ⟨pm,tm,cm,rfl,hT3⟩;exact⟨_,rfl,hK _ _ trivial ⟨pm,tm,cm,rfl,Turns.Qb hS hT3⟩⟩
  ·exact am (by kernel_rfl) (hK _ rfl)
  ·exact am (by kernel_rfl) (hK _ rfl)
  ·exact am (by kernel_rfl) (hK _ rfl)
  ·have h3:x 3=.pointer (some ⟨u,0,none⟩):=ae hd 3 (by kernel_rfl);exact bD Tryz.underlying116 rfl rfl (by rw[h3];rfl) (hC) (hK _ rfl)
  ·have h2:x 2=.pointer (some ⟨d,0,none⟩):=ae hd 2 (by kernel_rfl);have h4:x 4=.int .u32 e:=ae hd 4 (by kernel_rfl);obtain⟨pm,tm,cm,e0,hT⟩:=hS;refine bd (by rw[h2,h4];kernel_rfl) (sO d L e wq (hT.sat.sub bw) (by omega) hn2 he) ?_;rintro e3 w3 ⟨ab,ch,rfl,hT3⟩;exact⟨_,rfl,hK _ _ trivial ⟨pm,tm,cm,ab,ch,e0,rfl,Turns.Qb hT hT3⟩⟩
  ·exact am (by kernel_rfl) (hK _ rfl)
  ·have h6:x 6=.pointer (some ⟨u,0,none⟩):=ae hd 6 (by kernel_rfl);exact bD Tryz.underlying116 rfl rfl (by rw[h6];rfl) (hC) (hK _ rfl)
  ·exact am (by kernel_rfl) (hK _ rfl)
  ·have h8:x 8=.int .i64 q:=ae hd 8 (by kernel_rfl);exact am (by rw[h8];kernel_rfl) (hK _ rfl)
  ·have h1:x 1=.pointer (some ⟨d,0,none⟩):=ae hd 1 (by kernel_rfl);have h7:x 7=.int .u32 e:=ae hd 7 (by kernel_rfl);have h9:x 9=.int .i64 (dk q):=ae hd 9 (by kernel_rfl);obtain⟨pm,tm,cm,ab,ch,e0,e5,hT⟩:=hS;exact am (by rw[e0,h1,e5,h7,h9];kernel_rfl) (hK _ _ trivial ⟨pm,tm,cm,ab,ch,rfl,hT⟩)
  ·obtain⟨pm,tm,cm,ab,ch,e10,hT⟩:=hS;exact am (by rw[e10];kernel_rfl) (hK _ _ trivial ⟨_,pm,tm,cm,ab,ch,rfl,hT.Q8 _⟩)
  ·obtain⟨g,pm,tm,cm,ab,ch,e11,hT⟩:=hS;exact am (by rw[e11];kernel_rfl) (hK _ _ trivial ⟨g,pm,tm,cm,ab,ch,rfl,hT⟩)
 case hC =>
  intro vs W hS;have key:∀{F:HF},Sat W F->(u,Is (gB e wh))∈F->W.cell? ⟨u,0,none⟩=some (.int .u32 e):=fun hs hm=>aa (hs.Q7 hm) 0 rfl
  match vs,hS with
  | [],hT=>exact key hT.sat (by simp)
  | [_],⟨pm,tm,cm,_,hT⟩=>exact key hT.sat (by simp)
  | [_,_],⟨pm,tm,cm,ab,ch,_,_,hT⟩=>exact key hT.sat (by simp)
  | [_,_,_],⟨pm,tm,cm,ab,ch,_,hT⟩=>exact key hT.sat (by simp)
  | [_,_,_,_],⟨g,pm,tm,cm,ab,ch,_,hT⟩=>exact key hT.sat (by simp)
  | [_,_,_,_,_],⟨g,pm,tm,cm,ab,ch,_,hT⟩=>exact key hT.sat (by simp)
 case h0 =>
  exact(show Turns F1 ((u,Is (gB e wh))::(aE d L++Z)) A w from hT).drew
 case he =>
  intro x w3 hφ hS;exact hk (x 0) (x 1) (x 2) (x 3) (x 4) (x 5) (x 6) (x 7) (x 8) (x 9) (x 10) (x 11) (x 12) w3 hS
structure OpenIs (d:Nat) (L:DevL) (q:Int) (e:Nat) (D:Bs) (S:AS):Prop where
 ct:∃at_ s sz szc,CtOk D S.X S.ps S.pc S.cs S.cc S.ts S.tc sz szc at_ s/\rH D at_ s/\S.data=D.take at_/\s.K=S.K
 X:∃us sc sb,S.X=lf (l8 S.X.pm S.X.tm S.X.cm d S.X.ab e q) us sc sb
 A:S.A.first=2+e%2*aD L.n/\S.A.count=aD L.n/\S.A.end_=S.data.length/\S.A.tail=cE S.data/\S.A.spare=[]
 dev:DevOk S.L/\S.L.n=L.n/\S.L.safe=S.L.now/\S.L.chs=[]
 dat:gf S.L.now S.A.first S.A.count S.data
 other:∀f2 c2,(f2+c2<=S.A.first\/S.A.first+S.A.count<=f2)->aP S.L.now f2 c2=aP L.now f2 c2
def uZ(d:Nat)(L:DevL)(q:Int)(e:Nat)(w:World)(ev:Ending)(w':World):Prop :=
 ∃S,ev=.returned (.tuple #[.pointer (some ⟨S.a,0,none⟩),.nilIface])/\OpenIs d L q e (aP L.now (2+e%2*aD L.n) (aD L.n)) S/\Turns (aE d L) (arF S) w w'
theorem FI(d:Nat)(L:DevL)(us:Nat->Option (Nat×Nat))(e wh:Nat)(q:Int)(w:World)(h:Sat w (aE d L))(hL:DevOk L)(hn:16<=L.n)(hn2:L.n<=8388608)(hch:L.chs.length<=137438953472)(hU:∀k,k<2->F8 L.now us k)(h01:us 0=none\/us 1=none)(hus:mg us 2=[(e,wh)])(hz:dQ L.now 2=false)(he:e<4294967296)(hR:∀at_ s,Reach (aP L.now (2+e%2*aD L.n) (aD L.n)) at_ s->at_<=810000)(hwh:∀at_ s,Reach (aP L.now (2+e%2*aD L.n) (aD L.n)) at_ s->rH (aP L.now (2+e%2*aD L.n) (aD L.n)) at_ s->wh<=at_)(hwl:wh<4294967296):
  Calls Tryz.prog 22 #[.pointer (some ⟨d,0,none⟩),.int .i64 q] w (uZ d L q e w):=by
 have HSc:=qqH (kC d L w h);have HUs:=qqH (fun W (hW:aX w W)=>CI d L us W (h.same hW) hL hn hU h01);have HH:=Hq7 h hL hch hR hwh hus hz;clear h hL hch hU h01 hus hR hwh hz;go_enter Tryz.func22,Tryz.ntmps22;go_wp2_with fail;refine HSc.out.mono ?_;rintro ev w1 ⟨rfl,rfl⟩;go_wp2_with fail;refine(HUs.out _ (Mods.refl _ _)).mono ?_;rintro ev w2 ⟨v2,rfl,hu2,hT2⟩;rw[HH.u];rw[HH.f]at hu2 hT2;obtain⟨sl,cap,rfl,hcap,hcap2,hcells,hblk⟩:=bV hT2.sat hu2 (by decide);obtain⟨gu,offu,hgu,hcu⟩:=hcells (by simp[pW]);subst hgu;have c0:w2.cell? ⟨gu,offu,none⟩=some (.int .u32 e):=by simpa[pW]using hcu 0 (by simp[pW])
 have c1:w2.cell? ⟨gu,offu+1,none⟩=some (.int .u32 wh):=by simpa[pW]using hcu 1 (by simp[pW])
 have hone:([(e,wh)]:List (Nat×Nat)).length=1:=rfl;rw[hone]at hcap ⊢;have hTd:Turns (aE d L) (aE d L) w w2:=Turns.same HH.a hT2.news;have H2:=qqH hTd;clear hu2 hT2 hcells hblk hcu hTd hone;go_wp2_with fail;obtain⟨D,hD⟩:∃D,D=aP L.now (2+e%2*aD L.n) (aD L.n):=⟨_,rfl⟩
 have hfit:2+e%2*aD L.n+aD L.n<=L.n:=by
  unfold aD;rcases Nat.mod_two_eq_zero_or_one e with h|h<;>rw[h]<;>omega
 have hDl:D.length=128*aD L.n:=by rw[hD];exact gr HH.b.nowL hfit
 have hh7:7<=aD L.n/\aD L.n<=L.n:=by unfold aD;omega
 have HD:=Hq4 hD hDl hfit hh7;clear hD hDl hfit hh7;go_loopw [37] (fun i wr=>i=.int .i64 0/\wr=w2) (fun _ _=>0)
 case atStart=>exact⟨rfl,rfl⟩
 case round =>
  obtain⟨rfl,rfl⟩:=hrel;go_upto_region 11 with(fail);obtain⟨u,hu⟩:∃u,u=wr.heap.size:=⟨_,rfl⟩;rw[<- hu];refine J3 (aE d L) [] w d u L q e wh ?_ hn (by omega) he ?_
  ·rw[hu,List.append_nil];exact H2.out.Q8 (gB e wh)
  intro _ _ _ _ _ _ _ _ _ _ _ _ y11 w3 hmid;obtain⟨g,pm,tm,cm,ab,ch,rfl,hT3⟩:=hmid;have g7:w3.cell? ⟨g,7,none⟩=some (.pointer (some ⟨ab,0,none⟩)):=aa hT3.sat.Q5 7 rfl;have hgl:=ah hT3.sat.Q5;have HAll:=qqH (uW ab d (kt L e ch) L w3 (hT3.sat.sub bw) HH.b HD.c (by omega));have H3:=qqH hT3;clear hT3 hu;go_wp2_with fail;refine HAll.out.mono ?_;rintro ev w4 ⟨v,rfl,hok,hT4⟩;change bOk v (aP L.now (2+e%2*aD L.n) (aD L.n))at hok;change Turns [] (aK v (aP L.now (2+e%2*aD L.n) (aD L.n))) w3 w4 at hT4;rw[<- HD.a]at hok hT4;obtain⟨gD,capD,o,rfl,hcD,hcD2,hT5,hcell⟩:=I4 (Turns.Qb H3.out hT4) hok (fun h=>by have:=HD.b;rw[h]at this;simp at this;have:=HD.x;omega)
  have hTp:Turns (aE d L) ((ctF g (l8 pm tm cm d ab e q) [] 0 [] 0 [] 0++[(gD,Is o)])++(ay ab d (kt L e ch)++((u,Is (gB e wh))::aE d L))) w w4:=hT5.to (by
   show List.Perm _ ((((g,Is (aO (l8 pm tm cm d ab e q)))::([(pm,Is (.map #[] 0))]++([(cm,Is (.map #[] 0))]++[(tm,Is (.map #[] 0))])))++[(gD,Is o)])++(ay ab d (kt L e ch)++((u,Is (gB e wh))::aE d L)));exact af)
  have HRp:=qqH (xD g (l8 pm tm cm d ab e q) D gD 0 capD o w4 hTp.sat.left ⟨rfl,rfl,rfl⟩ hcell hcD (by have:=HD.b;have:=HD.x;omega) (by rw[HD.a];exact HH.d));have h4g:w4.cell? ⟨g,7,none⟩=some (.pointer (some ⟨ab,0,none⟩)):=aa (hTp.sat.Q7 (b:=g) (o:=aO (l8 pm tm cm d ab e q)) (by simp[ctF])) 7 rfl;have H5:=Hq4 hTp hcell hcD hcD2;clear hok hT4 hT5 hcell hTp g7;go_wp2_with fail;refine HRp.out.mono ?_;rintro ev w5 ⟨at_,s,us',sc,sb,ps,pc,cs,cc,ts,tc,sz,szc,rfl,hct,href,hTr⟩;have hT6:=H5.a.step (List.Perm.refl _) hTr;have hle:=hct.le
  have hlt:¬((at_:Int)<(wh:Int)):=by
   have:=HH.e at_ s (by rw[<- HD.a];exact hct.reach) (by rw[<- HD.a];exact href);omega
  have hu6:=hT6.sat.Q7 (b:=u) (o:=gB e wh) (by simp);have u1:w5.cell? ⟨u,1,none⟩=some (.int .u32 wh):=aa hu6 1 rfl;have hul:=ah hu6;have g5:w5.cell? ⟨g,7,none⟩=some (.pointer (some ⟨ab,0,none⟩)):=aa (hT6.sat.Q7 (b:=g) (o:=aO (lf (l8 pm tm cm d ab e q) us' sc sb)) (by simp[ctF])) 7 rfl;have hgl5:g<w5.heap.size:=hT6.sat.lt (by simp[ctF]);have hDl:=HD.b
  have hcut:=uX ab d (kt L e ch) L at_ (some ⟨gD,0,none⟩) capD D w5 (hT6.sat.sub bw) HH.b HD.c (by omega) ⟨ap _,by simp[kt],fun _ h=>by simp[kt]at h⟩ (H5.b w5 (hT6.sat.Q7 (b:=gD) (o:=o) (by simp)))
   (fun x hx hin=>by
    simp only[Option.some.injEq]at hx;subst hx;have h1:Sat w5 ((gD,Is o)::(ay ab d (kt L e ch)++aE d L)):=hT6.sat.sub bw;exact h1.notMem hin) hDl H5.c H5.x (by show 0<aD L.n;have:=HD.x;omega) (by show at_<=128*aD L.n;omega) HH.c
   (fun m hm hx=>by
    rw[HD.a]at hx;rw[pQ (by exact hm)]at hx;rw[HD.a];exact hx)
  have HC:=qqH hcut;have H6:=Hq3 hct href hT6;clear hct href hTr hT6 hcut hu6 hDl;go_wp2_with fail;refine HC.out.mono ?_;rintro ev w6 ⟨rfl,L',hT7,hL',hn',hnow',hsafe',hch'⟩;have hT8:=H6.y.step (F:=ay ab d (kt L e ch)++aE d L) (R:=ctF g (lf (l8 pm tm cm d ab e q) us' sc sb) ps pc cs cc ts tc++((gD,Is o)::[(u,Is (gB e wh))])) af hT7;have H8:=Hq6 hT8 hL' hn' hnow' hsafe' hch';clear hT7 hT8 hL' hn' hnow' hsafe' hch';go_wp2_with fail;have hDl:=HD.b;have hdl:(D.take at_).length=at_:=by rw[List.length_take];omega
  have htl:(D.take at_).drop (128*(at_ / 128))++aq (128-at_%128)=cE (D.take at_):=by unfold cE dC;rw[hdl]
  obtain⟨S,hS⟩:∃S:AS,S={ a:=g,X:=lf (l8 pm tm cm d ab e q) us' sc sb,A:={ kt L e ch with end_:=at_,tail:=(D.take at_).drop (128*(at_ / 128))++aq (128-at_%128) },L:=L',ps:=ps,pc:=pc,cs:=cs,cc:=cc,ts:=ts,tc:=tc,data:=D.take at_,K:=s.K }:=⟨_,rfl⟩;have hcd:=yR (l:=L.now) (ws:=D) (first:=2+e%2*aD L.n) (count:=aD L.n) (end_:=at_) (by rw[HH.b.nowL];have:=HD.c;omega) (by rw[<- HD.a]) hDl (by omega)
  have hfin:uZ d L q e w (.returned (.tuple #[.pointer (some ⟨g,0,none⟩),.nilIface])) w6:=by
   refine⟨S,by rw[hS],?_,?_⟩
   ·rw[<- HD.a];refine⟨⟨at_,s,sz,szc,by rw[hS];exact H6.a,H6.b,by rw[hS],by rw[hS]⟩,⟨us',sc,sb,by rw[hS];rfl⟩,?_,by rw[hS];exact⟨H8.b,H8.c,H8.e,H8.v⟩,?_,fun f2 c2 hf=>?_⟩
    ·rw[hS];exact⟨rfl,rfl,hdl.symm,htl,rfl⟩
    ·rw[hS];show gf L'.now (2+e%2*aD L.n) (aD L.n) (D.take at_);rw[H8.d];exact hcd.1
    ·rw[hS]at hf ⊢;show aP L'.now f2 c2=_;rw[H8.d];exact hcd.2 f2 c2 hf
   ·rw[hS];refine H8.a.drop (fun x=>?_);show cnt x ((g,Is (aO (lf (l8 pm tm cm d ab e q) us' sc sb)))::(ay ab d { kt L e ch with end_:=at_,tail:=(D.take at_).drop (128*(at_ / 128))++aq (128-at_%128) }++(aE d L'++(aU pm ps pc++(dm tm ts tc++bm cm cs cc)))))<=_;unfold ctF;show _<=cnt x ((ay ab d { kt L e ch with end_:=at_,tail:=(D.take at_).drop (128*(at_ / 128))++aq (128-at_%128) }++aE d L')++(((g,Is (aO (lf (l8 pm tm cm d ab e q) us' sc sb)))::(aU pm ps pc++(bm cm cs cc++dm tm ts tc)))++((gD,Is o)::[(u,Is (gB e wh))])));simp only[aB,an,gC];omega
  exact bodyPost_ret (results_tmp2 rfl _ _ _) rfl (by exact hfin)
end
section
open Go.RowKit
def FQ(s:ByteArray)(w:World)(B:Bool)(v i:Value)(wr:World):Prop :=
 ∃k m x:Nat,k<=s.size/\v=.int .u8 x/\i=.int .i64 k/\(x=47↔m=0)/\ee m (s.data.toList.drop k)=B/\aX w wr
theorem uA(s:ByteArray)(w:World)(h:s.size=0):Calls Tryz.prog 108 #[.string s] w (fD false w):=by
 go_enter Tryz.func108,Tryz.ntmps108;go_wp2_with fail;exact bodyPost_ret (results_tmp rfl _ _ _) rfl ⟨rfl,Mods.refl _ _⟩
theorem xx(s:ByteArray)(w:World)(h:¬s.size=0)(hl:¬(s.size:Int)<=20):Calls Tryz.prog 108 #[.string s] w (fD false w):=by
 have h2:¬((s.size:Int)=0):=by omega
 have h3:(20:Int)<(s.size:Int):=by omega
 go_enter Tryz.func108,Tryz.ntmps108;go_wp2_with fail;exact bodyPost_ret (results_tmp rfl _ _ _) rfl ⟨rfl,Mods.refl _ _⟩
theorem zP(s:ByteArray)(w:World)(h:¬s.size=0)(hl:(s.size:Int)<=20):Calls Tryz.prog 108 #[.string s] w (fD (ee 0 s.data.toList) w):=by
 have h2:¬((s.size:Int)=0):=by omega
 have h3:¬(20:Int)<(s.size:Int):=by omega
 go_enter Tryz.func108,Tryz.ntmps108;go_wp2_with fail;clear h2 h3;go_loopw [3,4] (fun v i wr=>FQ s w (ee 0 s.data.toList) v i wr) (fun _ i _=>s.size-(intOf i).toNat)
 case atStart=>exact⟨0,0,47,Nat.zero_le _,rfl,rfl,by omega,by simp,Mods.refl _ _⟩
 case round =>
  obtain⟨k,m,x,hk,rfl,rfl,hxm,hB,hs⟩:=hrel;have HB:=Hq3 hB hs hxm;clear hB hs hxm h;by_cases hlt:k<s.size
  ·have hsl:s.data.toList.length=s.size:=by simp
   have hdr:s.data.toList.drop k=s[k]::s.data.toList.drop (k+1):=by
    rw[List.drop_eq_getElem_cons (by omega)];rfl
   have HD:=qqH hdr;clear hdr hsl;go_upto_region 8 with(fail);obtain⟨c,hc⟩:∃c,c=s[k].toNat:=⟨_,rfl⟩;have hcl:c<256:=by rw[hc];exact UInt8.toNat_lt _
   have hB2:(if c=47/\0<m then ee 0 (s.data.toList.drop (k+1))else if kI c then ee (m+1) (s.data.toList.drop (k+1))else false)=ee 0 s.data.toList:=by
    have:=HB.a;rw[HD.out,ee,<- hc,tr,<- hc]at this;exact this
   have HB2:=qqH hB2;simp only[<- hc];clear hB2 hc;by_cases c1:c=47
   ·subst c1;by_cases hx:x=47
    ·have hm:m=0:=(HB.y).1 hx;subst hx;go_wp2_with fail;refine bodyPost_ret (results_tmp rfl _ _ _) rfl ⟨?_,HB.b⟩;have:=HB2.out;rw[if_neg (by omega),if_neg (by decide)]at this;rw[<- this];rfl
    ·have hm:0<m:=by have:=HB.y;omega
     have hx2:¬((x:Int)=47):=by omega
     go_wp2_with fail;go_roundw
     case rel=>exact⟨k+1,0,47,by omega,rfl,by go_num,by omega,by have:=HB2.out;rwa [if_pos ⟨rfl,hm⟩]at this,HB.b⟩
     case measure=>simp[intOf];omega
   ·by_cases c2:kI c=true
    ·have HC2:=qqH c2;have hne:¬(c:Int)=47:=by omega
     have hp:(97<=c/\c<=122)\/(48<=c/\c<=57)\/c=46\/c=45\/c=95:=by
      unfold kI at c2;simp only[Bool.or_eq_true,Bool.and_eq_true,decide_eq_true_eq,beq_iff_eq]at c2;omega
     clear c2;rcases hp with hp|hp|hp|hp|hp
     all_goals first|subst hp|(obtain⟨hp1,hp2⟩:=hp;have hp3:(c:Int)<=122:=by omega)
     all_goals go_wp2_with fail
     all_goals
      go_roundw
      case rel=>exact⟨k+1,m+1,_,by omega,rfl,by go_num,(by omega),(by have:=HB2.out;rw[if_neg (by first|omega|decide),if_pos HC2.out]at this;exact this),HB.b⟩
      case measure=>first|(simp[intOf];done)|(simp[intOf];omega)
    ·have HC2:=qqH c2
     have hp:¬(97<=c/\c<=122)/\¬(48<=c/\c<=57)/\¬c=46/\¬c=45/\¬c=95:=by
      unfold kI at c2;simp only[Bool.or_eq_true,Bool.and_eq_true,decide_eq_true_eq,beq_iff_eq]at c2;omega
     obtain⟨hp1,hp2,hp3,hp4,hp5⟩:=hp;have hne:¬(c:Int)=47:=by omega
     clear c2
     have hE:Ending.returned (Value.bool false)=.returned (.bool (ee 0 s.data.toList)):=by
      have:=HB2.out;rw[if_neg (by omega),if_neg HC2.out]at this;rw[<- this]
     have HE:=qqH hE;clear hE;have q1:((c:Int)==46)=false:=by simp;omega
     have q2:((c:Int)==45)=false:=by simp;omega
     have q3:((c:Int)==95)=false:=by simp;omega
     have q4:((c:Int) != 47)=true:=by simp;omega
     rcases(show c<48\/(57<c/\c<97)\/122<c by omega)with hq|⟨hq,hq'⟩|hq
     ·have r1:¬(97:Int)<=c:=by omega
      have r2:¬(48:Int)<=c:=by omega
      go_wp2_with fail;exact bodyPost_ret (results_tmp rfl _ _ _) rfl (by exact⟨HE.out,HB.b⟩)
     ·have r1:¬(97:Int)<=c:=by omega
      have r2:(48:Int)<=c:=by omega
      have r3:decide ((c:Int)<=57)=false:=by simp;omega
      go_wp2_with fail;exact bodyPost_ret (results_tmp rfl _ _ _) rfl (by exact⟨HE.out,HB.b⟩)
     ·have r1:(97:Int)<=c:=by omega
      have r2:(48:Int)<=c:=by omega
      have r3:decide ((c:Int)<=57)=false:=by simp;omega
      have r4:decide ((c:Int)<=122)=false:=by simp;omega
      go_wp2_with fail;exact bodyPost_ret (results_tmp rfl _ _ _) rfl (by exact⟨HE.out,HB.b⟩)
  ·obtain rfl:k=s.size:=by omega
   go_wp2_with fail;refine bodyPost_ret (results_tmp rfl _ _ _) rfl ⟨?_,HB.b⟩;have h1:=HB.a;have h2:=HB.y;rw[List.drop_of_length_le (by simp),ee]at h1;show Ending.returned (Value.bool ((x:Int) != 47))=_;rw[<- h1];by_cases hx:x=47
   ·have hm:=h2.1 hx;subst hx;subst hm;rfl
   ·have hm:0<m:=by omega
    have:((x:Int) != 47)=true:=by simp;omega
    rw[this,decide_eq_true hm]
theorem i9(l:Bs)(w:World):Calls Tryz.prog 108 #[str l] w (fD (aA l) w):=by
 have hs:(⟨l.toArray⟩:ByteArray).size=l.length:=by simp[ByteArray.size]
 have hd:(⟨l.toArray⟩:ByteArray).data.toList=l:=by simp
 unfold aA;by_cases h0:l=[]
 ·rw[decide_eq_false (by simpa using h0)];exact uA _ w (by rw[hs,h0];rfl)
 ·have hne:¬(⟨l.toArray⟩:ByteArray).size=0:=by rw[hs];exact fun h=>h0 (List.eq_nil_of_length_eq_zero h)
  rw[decide_eq_true (by simpa using h0)];by_cases h1:l.length<=20
  ·rw[decide_eq_true h1];have:=zP ⟨l.toArray⟩ w hne (by rw[hs];omega);rw[hd]at this;simpa using this
  ·rw[decide_eq_false h1];simpa using xx ⟨l.toArray⟩ w hne (by rw[hs];omega)
end
section
open Go.RowKit Go.Maps
theorem wj:∀(l:List RVer) (i:Nat) (h:i<l.length) (j:Nat) (_:j<4),(bB l)[i*4+j]?=(lj l[i])[j]?
 | [],i,h,_,_=>by simp at h
 | a::r,0,_,j,hj=>by
  simp only[bB,List.flatMap_cons,Nat.zero_mul,Nat.zero_add,List.getElem_cons_zero]
  rw[List.getElem?_append_left (by simpa[lj]using hj)]
 | a::r,i+1,h,j,hj=>by
  simp only[bB,List.flatMap_cons,List.getElem_cons_succ]
  rw[List.getElem?_append_right (by simp[lj];omega),show(i+1)*4+j-(lj a).length=i*4+j by simp[lj];omega]
  exact wj r i (by simpa using h) j hj
theorem xH{w:World}{g off:Nat}{l:List RVer}(h:∀j (h:j<(bB l).length),w.cell? ⟨g,off+j,none⟩=some ((bB l)[j]'h)){i:Nat}(hi:i<l.length):
  w.cell? ⟨g,off+i*4,none⟩=some (str l[i].path)/\w.cell? ⟨g,off+i*4+1,none⟩=some (.int .i64 l[i].num)/\w.cell? ⟨g,off+i*4+2,none⟩=some l[i].cv/\w.cell? ⟨g,off+i*4+3,none⟩=some (.int .i64 l[i].held):=by
 have key:∀j (hj:j<4) (v:Value),(lj l[i])[j]?=some v->w.cell? ⟨g,off+i*4+j,none⟩=some v:=fun j hj v hv=>by
  have h1:=wj l i hi j hj;rw[hv]at h1;obtain⟨p,e⟩:=List.getElem?_eq_some_iff.1 h1;have h2:=h (i*4+j) p;rw[<- Nat.add_assoc]at h2;rw[h2,e]
 exact⟨key 0 (by omega) _ rfl,key 1 (by omega) _ rfl,key 2 (by omega) _ rfl,key 3 (by omega) _ rfl⟩
structure RefAt (R:RefL) (P:fc) (w:World):Prop where
 ref:Sat w (aI R)
 ok:RefOk R
 pool:Sat w (bc P)
 pok:qb P
 inp:qL P R
 len:R.vs.length<=100000
 clen:∀v∈R.vs,v.cont.length<=100000
theorem RefAt.same{R:RefL}{P:fc}{w w':World}(h:RefAt R P w)(hs:aX w w'):RefAt R P w':=⟨h.ref.same hs,h.ok,h.pool.same hs,h.pok,h.inp,h.len,h.clen⟩
theorem RefAt.row{R:RefL}{P:fc}{w:World}(h:RefAt R P w):∃sl cap,R.vv=.slice sl R.vs.length cap/\R.vs.length<=cap/\cap<=9223372036854775807/\w.heap[R.blk]?=some (iA R)/\(0<R.vs.length->∃g off,sl=some ⟨g,off,none⟩/\∀i (hi:i<R.vs.length),w.cell? ⟨g,off+i*4,none⟩=some (str R.vs[i].path)/\w.cell? ⟨g,off+i*4+1,none⟩=some (.int .i64 R.vs[i].num)/\w.cell? ⟨g,off+i*4+2,none⟩=some R.vs[i].cv/\w.cell? ⟨g,off+i*4+3,none⟩=some (.int .i64 R.vs[i].held)):=by
 obtain⟨sl,cap,e1,e2,e3,hc,-⟩:=bV h.ref.tail.left h.ok.vs (by decide);refine⟨sl,cap,e1,e2,e3,h.ref.Q5,fun hp=>?_⟩;obtain⟨g,off,hg,hcc⟩:=hc (by rw[bu];omega);exact⟨g,off,hg,fun i hi=>xH hcc hi⟩
theorem RefAt.cont{R:RefL}{P:fc}{w:World}(h:RefAt R P w){v:RVer}(hv:v∈R.vs):∃sl cap,v.cv=.slice sl v.cont.length cap/\v.cont.length<=cap/\ak w sl (v.cont.map ao)/\(∀x,sl=some x->x.block∈dom (bc P)):=jZ h.pok h.pool (h.inp v hv)
def fB(l:List RVer):Nat:=(l.map (·.cont.length)).sum
theorem Ay{l:List RVer}(h:∀v∈l,v.cont.length<=100000):fB l<=100000*l.length:=by
 unfold fB;induction l with
 | nil=>simp
 | cons a r ih =>
  have h1:=h a (by simp);have h2:=ih (fun v hv=>h v (by simp[hv]));simp only[List.map_cons,List.sum_cons,List.length_cons];omega
theorem zR(R:RefL)(P:fc)(w:World)(h:RefAt R P w):Calls Tryz.prog 43 #[.pointer (some ⟨R.blk,0,none⟩)] w (fun e w'=>e=.returned (.int .i64 (fB R.vs:Nat))/\aX w w'):=by
 obtain⟨sl,cap,e1,e2,e3,hb,hcell⟩:=h.row;have HC:=qqH (fun v hv=>h.cont (v:=v) hv);have hlen:=h.len;have HL:=qqH h.clen;have c0:w.cell? ⟨R.blk,0,none⟩=some (.slice sl R.vs.length cap):=by rw[<- e1];exact aa hb 0 rfl
 have hbl:=ah hb;have HH:=qqH hcell;clear h e1 hb hcell;go_enter Tryz.func43,Tryz.ntmps43;go_wp2_with fail;go_loopw [3,4] (fun n i wr=>∃k:Nat,k<=R.vs.length/\i=.int .i64 k/\n=.int .i64 (fB (R.vs.take k):Nat)/\wr=w) (fun _ i _=>R.vs.length-(intOf i).toNat)
 case atStart=>exact⟨0,Nat.zero_le _,rfl,rfl,rfl⟩
 case round =>
  obtain⟨k,hk,rfl,rfl,rfl⟩:=hrel;by_cases hlt:k<R.vs.length
  ·obtain⟨g,off,hg,hcc⟩:=HH.out (by omega);subst hg;obtain⟨-,-,hc,-⟩:=hcc k hlt;obtain⟨csl,ccap,hcv,-,-,-⟩:=HC.out R.vs[k] (List.getElem_mem hlt);rw[hcv]at hc
   have htk:fB (R.vs.take (k+1))=fB (R.vs.take k)+R.vs[k].cont.length:=by
    unfold fB;rw[List.take_succ_eq_append_getElem hlt,List.map_append,List.sum_append];simp
   have hub:=Ay (l:=R.vs.take k) (fun v hv=>HL.out v (List.mem_of_mem_take hv));have hcl:=HL.out R.vs[k] (List.getElem_mem hlt);rw[List.length_take]at hub;obtain⟨q,hq⟩:∃q,q=fB (R.vs.take k):=⟨_,rfl⟩;obtain⟨cl,hcl2⟩:∃cl,cl=R.vs[k].cont.length:=⟨_,rfl⟩;rw[<- hq]at htk hub;rw[<- hcl2]at htk hcl hc;rw[<- hq];have HT:=qqH htk;have hub2:q<=100000*100000:=by have:=Nat.mul_le_mul_left 100000 (show min k R.vs.length<=100000 by omega);omega
   clear htk hcc hcv hq hcl2 hub;go_wp2_with fail;go_roundw
   case rel=>exact⟨k+1,by omega,by go_num,by rw[HT.out];go_num,by first|rfl|trivial⟩
   case measure=>simp[intOf];omega
  ·obtain rfl:k=R.vs.length:=by omega
   go_wp2_with fail;refine bodyPost_ret (results_tmp rfl _ _ _) rfl ⟨?_,Mods.refl _ _⟩;rw[List.take_length];rfl
def jX(p:Bs)(n:Int)(v:RVer):Bool:=decide (v.path=p)&&(decide (v.num=n) || decide (n=0))
def bR(vs:List RVer)(p:Bs)(n:Int):Nat->Int
 | 0=>-1
 | k+1=>if(vs[k]?).elim false (jX p n)then k else bR vs p n k
theorem pi(vs:List RVer)(p:Bs)(n:Int):∀k,-1<=bR vs p n k/\bR vs p n k<k
 | 0=>by simp[bR]
 | k+1=>by
  have:=pi vs p n k
  unfold bR
  split<;>omega
theorem qS{vs:List RVer}{p:Bs}{n:Int}{k:Nat}(h:k<vs.length):bR vs p n (k+1)=if jX p n vs[k]then(k:Int)else bR vs p n k:=by
 rw[bR,List.getElem?_eq_getElem h];rfl
theorem ky(R:RefL)(P:fc)(p:Bs)(n:Int)(w:World)(h:RefAt R P w):Calls Tryz.prog 111 #[.pointer (some ⟨R.blk,0,none⟩),str p,.int .i64 n] w (fun e w'=>e=.returned (.int .i64 (bR R.vs p n R.vs.length))/\aX w w'):=by
 have hlen:=h.len;have HH:=qqH h;have hbl:=ah h.ref.Q5;clear h;go_enter Tryz.func111,Tryz.ntmps111;go_wp2_with fail;go_loopw [7,8] (fun b i wr=>∃k:Nat,k<=R.vs.length/\i=.int .i64 k/\b=.int .i64 (bR R.vs p n k)/\aX w wr) (fun _ i _=>R.vs.length-(intOf i).toNat)
 case atStart=>exact⟨0,Nat.zero_le _,rfl,rfl,Mods.refl _ _⟩
 case round =>
  obtain⟨k,hk,rfl,rfl,hs⟩:=hrel;have hA:=HH.out.same hs;obtain⟨sl,cap,e1,e2,e3,hb,hcell⟩:=hA.row;have c0:wr.cell? ⟨R.blk,0,none⟩=some (.slice sl R.vs.length cap):=by rw[<- e1];exact aa hb 0 rfl
  have hbl':=ah hb;have HS:=Hq2 hs hA;clear hs e1 hb;by_cases hlt:k<R.vs.length
  ·obtain⟨g,off,hg,hcc⟩:=hcell (by omega);subst hg;obtain⟨h0,h1,h2,h3⟩:=hcc k hlt;obtain⟨csl,ccap,hcv,-,-,-⟩:=hA.cont (List.getElem_mem hlt);rw[hcv]at h2;have hnx:=qS (p:=p) (n:=n) hlt;unfold jX at hnx;obtain⟨pk,hpk⟩:∃pk,pk=R.vs[k].path:=⟨_,rfl⟩;obtain⟨nk,hnk⟩:∃nk,nk=R.vs[k].num:=⟨_,rfl⟩;rw[<- hpk]at h0 hnx;rw[<- hnk]at h1 hnx;have hgl:=World.block_lt_of_cell? wr _ h0;have HX:=qqH hnx;clear hcc hcell hA hcv hnx hpk hnk;by_cases hp:pk=p
   ·have hp':=hp.symm;clear hp;subst hp';by_cases hn:nk=n
    ·subst hn;have hfin:bR R.vs p nk (k+1)=(k:Int):=by rw[HX.out];simp
     have HF:=qqH hfin;clear hfin;go_wp2_with fail;go_roundw
     case rel=>exact⟨k+1,by omega,by go_num,by rw[HF.out],by first|exact HS.a|exact HS.a.alloc _⟩
     case measure=>simp[intOf];omega
    ·by_cases hz:n=0
     ·subst hz;have hfin:bR R.vs p 0 (k+1)=(k:Int):=by rw[HX.out];simp
      have HF:=qqH hfin;clear hfin;go_wp2_with fail;go_roundw
      case rel=>exact⟨k+1,by omega,by go_num,by rw[HF.out],by first|exact HS.a|exact HS.a.alloc _⟩
      case measure=>simp[intOf];omega
     ·have q1:(nk==n)=false:=by simp[hn]
      have q2:(n==0)=false:=by simp[hz]
      have hfin:bR R.vs p n (k+1)=bR R.vs p n k:=by rw[HX.out,decide_eq_false hn,decide_eq_false hz];simp
      have HF:=qqH hfin;clear hfin;go_wp2_with fail;go_roundw
      case rel=>exact⟨k+1,by omega,by go_num,by rw[HF.out],by first|exact HS.a|exact HS.a.alloc _⟩
      case measure=>simp[intOf];omega
   ·have hfin:bR R.vs p n (k+1)=bR R.vs p n k:=by rw[HX.out,decide_eq_false hp];simp
    have HF:=qqH hfin;clear hfin;go_wp2_with fail;go_roundw
    case rel=>exact⟨k+1,by omega,by go_num,by rw[HF.out],by first|exact HS.a|exact HS.a.alloc _⟩
    case measure=>simp[intOf];omega
  ·obtain rfl:k=R.vs.length:=by omega
   clear hcell;go_wp2_with fail;exact bodyPost_ret (results_tmp rfl _ _ _) rfl (by exact⟨rfl,HS.a⟩)
def nV(R:RefL)(p:Bs)(n:Int):Option RVer:=if 0<=bR R.vs p n R.vs.length then R.vs[(bR R.vs p n R.vs.length).toNat]? else none
def cO(R:RefL)(p:Bs)(n:Int):Except Int RVer :=
 if R.closed then .error 9 else if aA p then(match nV R p n with|some v=>.ok v|none=>.error 3)else .error 1
def jf(R:RefL)(p:Bs)(n:Int)(w:World)(e:Ending)(w':World):Prop :=
 aX w w'/\match cO R p n with|.ok v=>e=.returned (.tuple #[v.cv,.int .i64 0])/\v∈R.vs|.error k=>e=.returned (.tuple #[.slice none 0 0,.int .i64 k])
theorem j0(R:RefL)(P:fc)(p:Bs)(n:Int)(w:World)(h:RefAt R P w):Calls Tryz.prog 102 #[.pointer (some ⟨R.blk,0,none⟩),str p,.int .i64 n] w (jf R p n w):=by
 have HI:=qqH (i9 p w);have hbl:=ah h.ref.Q5;have HH:=qqH h;clear h;go_enter Tryz.func102,Tryz.ntmps102;go_wp2_with fail;refine HI.out.mono ?_;rintro e w1 ⟨rfl,hs1⟩;have hA1:=HH.out.same hs1;have hb1:=hA1.ref.Q5;have c3:w1.cell? ⟨R.blk,3,none⟩=some (.bool R.closed):=aa hb1 3 rfl;have hbl1:=ah hb1;have H1:=Hq2 hs1 hA1;clear hs1 hA1 hb1
 cases hc:R.closed with
 | true =>
  rw[hc]at c3;have hr:cO R p n=.error 9:=by unfold cO;rw[hc,if_pos rfl]
  have HR:=qqH hr;clear hr hc;go_wp2_with fail;refine bodyPost_ret (results_tmp2 rfl _ _ _) rfl (by unfold jf;rw[HR.out];exact⟨H1.a,rfl⟩)
 | false =>
  rw[hc]at c3
  cases hp:aA p with
  | false =>
   have hr:cO R p n=.error 1:=by unfold cO;rw[hc,hp];rfl
   have HR:=qqH hr;clear hr hc;go_wp2_with fail;refine bodyPost_ret (results_tmp2 rfl _ _ _) rfl (by unfold jf;rw[HR.out];exact⟨H1.a,rfl⟩)
  | true =>
   have HF:=qqH (ky R P p n w1 H1.z);have HC:=qqH hc;have HP:=qqH hp;clear hc;go_wp2_with fail;refine HF.out.mono ?_;rintro e w2 ⟨rfl,hs2⟩;have hA2:=H1.z.same hs2;obtain⟨sl,cap,e1,e2,e3,hb,hcell⟩:=hA2.row;have c0:w2.cell? ⟨R.blk,0,none⟩=some (.slice sl R.vs.length cap):=by rw[<- e1];exact aa hb 0 rfl
   have hbl2:=ah hb;have hrange:=pi R.vs p n R.vs.length;have hrf:nV R p n=if 0<=bR R.vs p n R.vs.length then R.vs[(bR R.vs p n R.vs.length).toNat]? else none:=rfl
   obtain⟨b,hb'⟩:∃b,b=bR R.vs p n R.vs.length:=⟨_,rfl⟩;rw[<- hb']at hrange hrf ⊢;have H2:=Hq2 (H1.a.trans hs2) hA2;clear hs2 hA2 hb e1 hb';by_cases hneg:b<0
   ·have hr:cO R p n=.error 3:=by unfold cO;rw[HC.out,if_neg (by simp),HP.out,if_pos rfl,hrf,if_neg (by omega)]
    have HR:=qqH hr;clear hr hrf hcell;go_wp2_with fail;refine bodyPost_ret (results_tmp2 rfl _ _ _) rfl (by unfold jf;rw[HR.out];exact⟨H2.a,rfl⟩)
   ·obtain⟨b,rfl⟩:∃b':Nat,b=b':=⟨b.toNat,by omega⟩;have hlt:b<R.vs.length:=by omega
    obtain⟨g,off,hg,hcc⟩:=hcell (by omega);subst hg;obtain⟨-,-,h2,-⟩:=hcc b hlt;obtain⟨csl,ccap,hcv,-,-,-⟩:=H2.z.cont (List.getElem_mem hlt);have hr:cO R p n=.ok R.vs[b]:=by unfold cO;rw[HC.out,if_neg (by simp),HP.out,if_pos rfl,hrf,if_pos (by omega),Int.toNat_natCast,List.getElem?_eq_getElem hlt]
    rw[hcv]at h2;have HR:=Hq3 hr hcv (List.getElem_mem hlt);clear hr hrf hcc hcell hcv;go_wp2_with fail;refine bodyPost_ret (results_tmp2 rfl _ _ _) rfl (by unfold jf;rw[HR.a];exact⟨H2.a,by rw[HR.b];rfl,HR.y⟩)
theorem Ce{W:World}{sl:Option Addr}{X:Bs}{a c:Nat}(hW:ak W sl (X.map ao))(ha:a<=X.length):(X.drop a).take c=[]\/∃g off,sl=some ⟨g,off,none⟩/\ak W (some ⟨g,off+a,none⟩) (((X.drop a).take c).map ao):=by
 by_cases h0:X=[]
 ·subst h0;exact .inl (by simp)
 ·obtain⟨g,off,hg,-⟩:=hW (by rw[List.length_map];exact List.length_pos_iff.2 h0);refine .inr ⟨g,off,hg,?_⟩;rw[hg]at hW;have h1:=fI hW a ha;have h5:(X.drop a).take c=(X.drop a).take (min c (X.drop a).length):=by rw[<- List.take_take,List.take_length]
  rw[h5];exact jT h1 _ (Nat.min_le_right _ _)
def jg(R:RefL)(p:Bs)(n a c:Int)(w:World)(e:Ending)(w':World):Prop :=
 aX w w'/\match cO R p n with
  | .error k=>e=.returned (.tuple #[.slice none 0 0,.int .i64 k])
  | .ok v=>v∈R.vs/\(((a<0\/c<0\/(v.cont.length:Int)<a)/\e=.returned (.tuple #[.slice none 0 0,.int .i64 4])) \/
    (¬(a<0\/c<0\/(v.cont.length:Int)<a)/\∃sl cap,e=.returned (.tuple #[.slice sl ((v.cont.drop a.toNat).take c.toNat).length cap,.int .i64 0])/\ak w' sl (((v.cont.drop a.toNat).take c.toNat).map ao)/\((v.cont.drop a.toNat).take c.toNat≠[]->∃g off cap',v.cv=.slice (some ⟨g,off,none⟩) v.cont.length cap'/\sl=some ⟨g,off+a.toNat,none⟩)))
theorem uB(R:RefL)(P:fc)(p:Bs)(n a c:Int)(w:World)(h:RefAt R P w)(hc9:c<=9223372036854775807):Calls Tryz.prog 104 #[.pointer (some ⟨R.blk,0,none⟩),str p,.int .i64 n,.int .i64 a,.int .i64 c] w (jg R p n a c w):=by
 have HG:=qqH (j0 R P p n w h);have HH:=qqH h;clear h;go_enter Tryz.func104,Tryz.ntmps104;go_wp2_with fail;refine HG.out.mono ?_;intro e w1 hp;unfold jf at hp;obtain⟨hs,hp⟩:=hp
 cases hr:cO R p n with
 | error k =>
  rw[hr]at hp;subst hp
  have hk:¬k=0:=by
   unfold cO at hr;split at hr
   ·simp at hr;omega
   ·split at hr
    ·split at hr<;>simp at hr;omega
    ·simp at hr;omega
  have HR:=Hq2 hr hs;clear hr hs;go_wp2_with fail;refine bodyPost_ret (results_tmp2 rfl _ _ _) rfl (by unfold jg;rw[HR.a];exact⟨HR.z,rfl⟩)
 | ok v =>
  rw[hr]at hp;obtain⟨rfl,hv⟩:=hp;have hA:=HH.out.same hs;obtain⟨sl,cap,hcv,hcap,hcell,-⟩:=hA.cont hv;have HDM:=qqH hcv;have hvl:=HH.out.clen v hv;obtain⟨L,hL⟩:∃L,L=v.cont.length:=⟨_,rfl⟩;rw[<- hL]at hcv hcap hvl;have HR:=Hq5 hr hs hv hcell hL;have hcc2:∃c2:Nat,cap=c2:=⟨cap,rfl⟩;clear hr hs hv hA hcell hL hcc2;rw[hcv];by_cases h1:a<0
  ·go_wp2_with fail;refine bodyPost_ret (results_tmp2 rfl _ _ _) rfl (by unfold jg;rw[HR.a];exact⟨HR.b,HR.c,.inl ⟨.inl h1,rfl⟩⟩)
  ·by_cases h2:c<0
   ·go_wp2_with fail;refine bodyPost_ret (results_tmp2 rfl _ _ _) rfl (by unfold jg;rw[HR.a];exact⟨HR.b,HR.c,.inl ⟨.inr (.inl h2),rfl⟩⟩)
   ·by_cases h3:(L:Int)<a
    ·go_wp2_with fail;refine bodyPost_ret (results_tmp2 rfl _ _ _) rfl (by unfold jg;rw[HR.a];exact⟨HR.b,HR.c,.inl ⟨.inr (.inr (by rw[<- HR.w];exact h3)),rfl⟩⟩)
    ·obtain⟨a,rfl⟩:∃a':Nat,a=a':=⟨a.toNat,by omega⟩;obtain⟨c,rfl⟩:∃c':Nat,c=c':=⟨c.toNat,by omega⟩;have hpart:=fun W hW=>Ce (W:=W) (sl:=sl) (X:=v.cont) (a:=a) (c:=c) hW (by have:=HR.w;omega)
     have hpl:((v.cont.drop a).take c).length=min c (L-a):=by rw[List.length_take,List.length_drop,HR.w]
     have hfin:∀(sl':Option Addr) (m k:Nat),m=min c (L-a)->(m=0\/∀g off,sl=some ⟨g,off,none⟩->sl'=some ⟨g,off+a,none⟩)->jg R p n a c w (.returned (.tuple #[.slice sl' m k,.int .i64 0])) w1:=fun sl' m k hm hsl=>by
      unfold jg;rw[HR.a];refine⟨HR.b,HR.c,.inr ⟨by have:=HR.w;omega,sl',k,by simp only[Int.toNat_natCast];rw[hpl,hm],?_⟩⟩;simp only[Int.toNat_natCast];rcases hpart w1 HR.d with h0|⟨g,off,hg,hcl⟩
      ·rw[h0];exact⟨eh _ _,fun h=>absurd rfl h⟩
      ·rcases hsl with h0|hsl
       ·have:(v.cont.drop a).take c=[]:=List.eq_nil_of_length_eq_zero (by rw[hpl];omega);rw[this];exact⟨eh _ _,fun h=>absurd rfl h⟩
       ·rw[hsl g off hg];exact⟨hcl,fun _=>⟨g,off,cap,by rw[<- hg];exact HDM.out,rfl⟩⟩
     have HF:=qqH hfin;clear hfin hpart hpl
     cases sl with
     | none =>
      have hL0:L=0:=by
       have h1:=HR.d;by_cases hz:L=0
       ·exact hz
       ·obtain⟨g,off,hg,-⟩:=h1 (by rw[List.length_map,<- HR.w];omega)
        cases hg
      subst hL0;obtain rfl:a=0:=by omega
      by_cases hgt:0<c
      ·go_wp2_with fail;exact bodyPost_ret (results_tmp2 rfl _ _ _) rfl (by exact HF.out none 0 _ (by omega) (.inl rfl))
      ·obtain rfl:c=0:=by omega
       go_wp2_with fail;exact bodyPost_ret (results_tmp2 rfl _ _ _) rfl (by exact HF.out none 0 _ (by omega) (.inl rfl))
     | some ad =>
      by_cases hL:L=0
      ·subst hL;obtain rfl:a=0:=by omega
       have hcz:(cap=0)\/¬cap=0:=by omega
       by_cases hgt:0<c
       ·rcases hcz with hcz|hcz
        all_goals go_wp2_with fail
        all_goals exact bodyPost_ret (results_tmp2 rfl _ _ _) rfl (by exact HF.out _ 0 _ (by omega) (.inl rfl))
       ·obtain rfl:c=0:=by omega
        rcases hcz with hcz|hcz
        all_goals go_wp2_with fail
        all_goals exact bodyPost_ret (results_tmp2 rfl _ _ _) rfl (by exact HF.out _ 0 _ (by omega) (.inl rfl))
      ·obtain⟨g,off,hg,-⟩:=HR.d (by rw[List.length_map,<- HR.w];omega);simp only[Option.some.injEq]at hg;subst hg;have hsub:IntKind.i64.wrap ((L:Int)-a)=((L-a:Nat):Int):=by rw[IntWalk.i64_in _ (by omega)];omega
       by_cases hgt:L-a<c
       ·have hgt2:((L-a:Nat):Int)<(c:Int):=by omega
        have hadd:IntKind.i64.wrap ((a:Int)+((L-a:Nat):Int))=(L:Int):=by rw[IntWalk.i64_in _ (by omega)];omega
        by_cases hca:cap=a
        ·go_wp2_with fail;exact bodyPost_ret (results_tmp2 rfl _ _ _) rfl (by exact HF.out _ (L-a) _ (by omega) (.inl (by omega)))
        ·have hca2:¬a=cap:=by omega
         go_wp2_with fail;exact bodyPost_ret (results_tmp2 rfl _ _ _) rfl (by exact HF.out (some ⟨g,off+a,none⟩) (L-a) _ (by omega) (.inr (fun g' off' h=>by simp only[Option.some.injEq,Addr.mk.injEq,and_true]at h;obtain⟨rfl,rfl⟩:=h;rfl)))
       ·have hgt2:¬((L-a:Nat):Int)<(c:Int):=by omega
        have hadd:IntKind.i64.wrap ((a:Int)+(c:Int))=((a+c:Nat):Int):=by rw[IntWalk.i64_in _ (by omega)];omega
        have hac:a+c<=cap:=by omega
        by_cases hca:cap=a
        ·go_wp2_with fail;exact bodyPost_ret (results_tmp2 rfl _ _ _) rfl (by exact HF.out _ _ _ (by omega) (.inl (by omega)))
        ·have hca2:¬a=cap:=by omega
         go_wp2_with fail;exact bodyPost_ret (results_tmp2 rfl _ _ _) rfl (by exact HF.out (some ⟨g,off+a,none⟩) _ _ (by omega) (.inr (fun g' off' h=>by simp only[Option.some.injEq,Addr.mk.injEq,and_true]at h;obtain⟨rfl,rfl⟩:=h;rfl)))
end
section
open Go.Shelf
def E8:Go.Shelf.Ren:=⟨fun|6=>133|15=>156|14=>155|28=>172|29=>173|20=>164|21=>165|22=>166|23=>167|24=>168|25=>169|26=>170|27=>171|46=>186|47=>187|48=>188|49=>189|50=>190|57=>195|n=>n,fun|22=>181|24=>262|25=>265|3=>3|39=>37|0=>0|53=>116|55=>82|4=>4|46=>309|45=>308|50=>284|5=>5|9=>9|66=>323|70=>327|76=>331|77=>133|n=>n,fun|n=>n⟩
theorem Js:Go.Proofs.SlLaysF0.n6 Tryz.prog E8:={
 mixed:=by kernel_rfl,
 f6:=⟨Tryz.f133.name,by decide,Tryz.func133.trans (congrArg some (by kernel_rfl))⟩,
 f14:=⟨Tryz.f155.name,by decide,Tryz.func155.trans (congrArg some (by kernel_rfl))⟩,
 f15:=Tryz.func156.trans (congrArg some (by kernel_rfl)),
 f20:=⟨Tryz.f164.name,by decide,Tryz.func164.trans (congrArg some (by kernel_rfl))⟩,
 f21:=⟨Tryz.f165.name,by decide,Tryz.func165.trans (congrArg some (by kernel_rfl))⟩,
 f22:=⟨Tryz.f166.name,by decide,Tryz.func166.trans (congrArg some (by kernel_rfl))⟩,
 f23:=⟨Tryz.f167.name,by decide,Tryz.func167.trans (congrArg some (by kernel_rfl))⟩,
 f24:=⟨Tryz.f168.name,by decide,Tryz.func168.trans (congrArg some (by kernel_rfl))⟩,
 f25:=⟨Tryz.f169.name,by decide,Tryz.func169.trans (congrArg some (by kernel_rfl))⟩,
 f26:=⟨Tryz.f170.name,by decide,Tryz.func170.trans (congrArg some (by kernel_rfl))⟩,
 f27:=⟨Tryz.f171.name,by decide,Tryz.func171.trans (congrArg some (by kernel_rfl))⟩,
 f28:=Tryz.func172.trans (congrArg some (by kernel_rfl)),
 f29:=Tryz.func173.trans (congrArg some (by kernel_rfl)),
 f46:=⟨Tryz.f186.name,by decide,Tryz.func186.trans (congrArg some (by kernel_rfl))⟩,
 f47:=Tryz.func187.trans (congrArg some (by kernel_rfl)),
 f48:=Tryz.func188.trans (congrArg some (by kernel_rfl)),
 f49:=⟨Tryz.f189.name,by decide,Tryz.func189.trans (congrArg some (by kernel_rfl))⟩,
 f50:=⟨Tryz.f190.name,by decide,Tryz.func190.trans (congrArg some (by kernel_rfl))⟩,
 f57:=⟨Tryz.f195.name,by decide,Tryz.func195.trans (congrArg some (by kernel_rfl))⟩,
 t0:=Tryz.underlying0,
 a0:=Tryz.isAgg0,
 z0:=Tryz.sizeOf0,
 v0:=Tryz.zeroValue0,
 t3:=Tryz.underlying3,
 a3:=Tryz.isAgg3,
 z3:=Tryz.sizeOf3,
 v3:=Tryz.zeroValue3,
 t4:=Tryz.underlying4,
 a4:=Tryz.isAgg4,
 z4:=Tryz.sizeOf4,
 v4:=Tryz.zeroValue4,
 t5:=Tryz.underlying5,
 a5:=Tryz.isAgg5,
 z5:=Tryz.sizeOf5,
 v5:=Tryz.zeroValue5,
 t9:=Tryz.underlying9,
 a9:=Tryz.isAgg9,
 z9:=Tryz.sizeOf9,
 v9:=Tryz.zeroValue9,
 t22:=Tryz.underlying181,
 a22:=Tryz.isAgg181,
 z22:=Tryz.sizeOf181,
 v22:=Tryz.zeroValue181,
 t25:=Tryz.underlying265,
 a25:=Tryz.isAgg265,
 z25:=Tryz.sizeOf265,
 v25:=Tryz.zeroValue265,
 t39:=Tryz.underlying37,
 a39:=Tryz.isAgg37,
 z39:=Tryz.sizeOf37,
 v39:=Tryz.zeroValue37,
 t45:=Tryz.underlying308,
 a45:=Tryz.isAgg308,
 z45:=Tryz.sizeOf308,
 v45:=Tryz.zeroValue308,
 t46:=Tryz.underlying309,
 a46:=Tryz.isAgg309,
 z46:=Tryz.sizeOf309,
 v46:=Tryz.zeroValue309,
 t50:=Tryz.underlying284,
 a50:=Tryz.isAgg284,
 z50:=Tryz.sizeOf284,
 v50:=Tryz.zeroValue284,
 t53:=Tryz.underlying116,
 a53:=Tryz.isAgg116,
 z53:=Tryz.sizeOf116,
 v53:=Tryz.zeroValue116,
 t55:=Tryz.underlying82,
 a55:=Tryz.isAgg82,
 z55:=Tryz.sizeOf82,
 v55:=Tryz.zeroValue82,
 t66:=Tryz.underlying323,
 a66:=Tryz.isAgg323,
 z66:=Tryz.sizeOf323,
 v66:=Tryz.zeroValue323,
 t70:=Tryz.underlying327,
 a70:=Tryz.isAgg327,
 z70:=Tryz.sizeOf327,
 v70:=Tryz.zeroValue327,
 t76:=Tryz.underlying331,
 a76:=Tryz.isAgg331,
 z76:=Tryz.sizeOf331,
 v76:=Tryz.zeroValue331,
 t77:=Tryz.underlying133,
 a77:=Tryz.isAgg133,
 z77:=Tryz.sizeOf133,
 v77:=Tryz.zeroValue133 }
end
section
open Go.RowKit Go.Sort
theorem qr(s p:ByteArray)(w:World):Calls Tryz.prog 154 #[.string s,.string p] w fun e w'=>e=.returned (.bool (Lib.hasPrefix s.data.toList p.data.toList))/\w'=w:=by
 rw[<- Lib.hasPrefix_of_take,<- Lib.size_eq,<- Lib.size_eq];go_enter Tryz.func154,Tryz.ntmps154;go_wp2
 ·rename_i h;go_ret;refine⟨?_,rfl⟩;show Ending.returned (Value.bool ((s.extract 0 p.size).toList==p.toList))=_;rw[Lib.extract_toList,Lib.toList_data];simp[h]
 ·rename_i h;go_ret;refine⟨?_,rfl⟩;show Ending.returned (Value.bool false)=_;simp[h]
theorem rq(l p:Bs)(w:World):Calls Tryz.prog 132 #[str l,str p] w fun e w'=>e=.returned (.bool (p.isPrefixOf l))/\w'=w:=by
 have h:=qr ⟨l.toArray⟩ ⟨p.toArray⟩ w;unfold Lib.hasPrefix at h;simp only at h;have HP:=qqH h;clear h;unfold str;go_enter Tryz.func132,Tryz.ntmps132;go_wp2_with fail;refine HP.out.mono ?_;rintro e w' ⟨rfl,rfl⟩;go_wp2_with fail;go_ret;exact⟨rfl,rfl⟩
theorem nD(a b:Bs)(w:World):Calls Tryz.prog 157 #[str a,str b] w fun e w'=>e=.returned (.int .i64 (Lib.compareBytes a b))/\w'=w:=by
 unfold str;go_enter Tryz.func157,Tryz.ntmps157;go_wp2;rw[run_callFunc_extern Tryz.func174 (by kernel_rfl) (by kernel_rfl) (by kernel_rfl) (e:=Extern.BytealgCompare.compare) (by kernel_rfl),Lib.run_compareString];simp only[Result.andThen];rw[Oper.upon_value];go_wp2;go_ret;exact⟨rfl,rfl⟩
theorem uj(a b:Bs)(w:World):Calls Tryz.prog 135 #[str a,str b] w fun e w'=>e=.returned (.int .i64 (Lib.compareBytes a b))/\w'=w:=by
 have HP:=qqH (nD a b w);go_enter Tryz.func135,Tryz.ntmps135;go_wp2_with fail;refine HP.out.mono ?_;rintro e w' ⟨rfl,rfl⟩;go_wp2_with fail;go_ret;exact⟨rfl,rfl⟩
def bO:Bs->Bs->Bool
 | [],[]=>false
 | [],_::_=>true
 | _::_,[]=>false
 | a::ax,b::bs=>if a<b then true else if b<a then false else bO ax bs
theorem Gm:∀a b:Bs,(Lib.compareBytes a b<0)↔bO a b=true
 | [],[]=>by simp[Lib.compareBytes,bO]
 | [],_::_=>by simp[Lib.compareBytes,bO]
 | _::_,[]=>by simp[Lib.compareBytes,bO]
 | a::ax,b::bs=>by
  simp only[Lib.compareBytes,bO]
  split
  ·simp
  ·split
   ·simp
   ·exact Gm ax bs
theorem cd:∀a:Bs,bO a a=false
 | []=>rfl
 | a::ax=>by simp only[bO,cd ax];simp
theorem gI:∀{a b c:Bs},bO a b=true->bO b c=true->bO a c=true
 | [],[],_,h,_=>by simp[bO]at h
 | [],_::_,[],_,h=>by simp[bO]at h
 | [],_::_,_::_,_,_=>rfl
 | _::_,[],_,h,_=>by simp[bO]at h
 | _::_,_::_,[],_,h=>by simp[bO]at h
 | a::ax,b::bs,c::cs,h1,h2=>by
  simp only[bO]at h1 h2 ⊢
  by_cases hab:a<b
  ·by_cases hbc:b<c
   ·rw[if_pos (UInt8.lt_trans hab hbc)]
   ·rw[if_neg hbc]at h2
    by_cases hcb:c<b
    ·rw[if_pos hcb]at h2;cases h2
    ·have:b=c:=UInt8.le_antisymm (UInt8.not_lt.1 hcb) (UInt8.not_lt.1 hbc)
     subst this
     rw[if_pos hab]
  ·rw[if_neg hab]at h1
   by_cases hba:b<a
   ·rw[if_pos hba]at h1;cases h1
   ·rw[if_neg hba]at h1
    have:a=b:=UInt8.le_antisymm (UInt8.not_lt.1 hba) (UInt8.not_lt.1 hab)
    subst this
    by_cases hac:a<c
    ·rw[if_pos hac]
    ·rw[if_neg hac]at h2 ⊢
     by_cases hca:c<a
     ·rw[if_pos hca]at h2;cases h2
     ·rw[if_neg hca]at h2 ⊢
      exact gI h1 h2
theorem jS:∀a b:Bs,bO a b=false->bO b a=false->a=b
 | [],[],_,_=>rfl
 | [],_::_,h,_=>by simp[bO]at h
 | _::_,[],_,h=>by simp[bO]at h
 | a::ax,b::bs,h1,h2=>by
  simp only[bO]at h1 h2
  by_cases hab:a<b
  ·rw[if_pos hab]at h1;cases h1
  ·rw[if_neg hab]at h1 h2
   by_cases hba:b<a
   ·rw[if_pos hba]at h2;cases h2
   ·rw[if_neg hba]at h1 h2
    have:a=b:=UInt8.le_antisymm (UInt8.not_lt.1 hba) (UInt8.not_lt.1 hab)
    subst this
    rw[jS ax bs h1 h2]
structure EntL where
 p:Bs
 latest:Int
 size:Int
 n:Int
 deriving Inhabited
def cq(x:EntL):List Value:=[str x.p,.int .i64 x.latest,.int .i64 x.size,.int .i64 x.n]
def oz(x y:EntL):Int:=Lib.compareBytes x.p y.p
theorem Db(x y:EntL):ltOf oz x y=bO x.p y.p:=by
 unfold ltOf oz;rw[Bool.eq_iff_iff,decide_eq_true_eq];exact Gm _ _
theorem JU:SWO (ltOf oz) where
 irrefl x:=by rw[Db];exact cd _
 trans x y z h1 h2:=by rw[Db]at *;exact gI h1 h2
 ntrans x y z h1 h2:=by
  rw[Db]at *
  cases h:bO x.p z.p with
  | false=>rfl
  | true =>
   cases h3:bO y.p x.p with
   | true=>rw[gI h3 h]at h2;cases h2
   | false=>rw[<- jS _ _ h1 h3,h]at h2;cases h2
theorem uu(x y:EntL)(W:World):Calls Tryz.prog 134 #[.agg (cq x).toArray,.agg (cq y).toArray] W fun e w'=>e=.returned (.int .i64 (oz x y))/\∃q os',w'=grow (W.drewN q) os':=by
 have hcon:=fun W'=>uj x.p y.p W'
 unfold oz;generalize Lib.compareBytes x.p y.p=r at hcon ⊢;unfold cq;go_enter Tryz.func134,Tryz.ntmps134;go_wp2_with (go_at_call 135;refine(hcon _).mono ?_;rintro e w' ⟨rfl,rfl⟩);go_ret;exact⟨rfl,0,_,by rw[alloc_eq_grow,alloc_eq_grow,grow_grow];rfl⟩
theorem IC(blk off size:Nat)(w:World):CmpLays Tryz.prog 134 #[] cq 4 oz blk off size w:=fun _ _ _ _ x y=>uu x y _
end
section
open Go.RowKit Go.Maps
def fM(l:List RVer)(p:Bs):List Int:=(l.filter (fun v=>decide (v.path=p))).map (·.num)
def eV(R:RefL)(p:Bs)(w:World)(e:Ending)(w':World):Prop :=
 match cO R p 0 with
 | .error k=>aX w w'/\e=.returned (.tuple #[.slice none 0 0,.int .i64 k])
 | .ok _=>∃v,e=.returned (.tuple #[v,.int .i64 0])/\iOk v (fM R.vs p)/\Turns [] (bZ v (fM R.vs p)) w w'
theorem jI{R:RefL}{p:Bs}{n k:Int}(hr:cO R p n=.error k):¬k=0:=by
 unfold cO at hr;split at hr
 ·simp at hr;omega
 ·split at hr
  ·split at hr<;>simp at hr;omega
  ·simp at hr;omega
theorem B4{vs:List RVer}{p:Bs}{k:Nat}(h:k<vs.length):fM (vs.take (k+1)) p=fM (vs.take k) p++(if vs[k].path=p then[vs[k].num]else[]):=by
 unfold fM;rw[List.take_succ_eq_append_getElem h,List.filter_append,List.map_append];congr 1;by_cases hp:vs[k].path=p<;>simp[hp]
theorem qu(l:List RVer)(p:Bs):(fM l p).length<=l.length:=by
 unfold fM;rw[List.length_map];exact List.length_filter_le _ _
theorem mM(R:RefL)(P:fc)(p:Bs)(w:World)(h:RefAt R P w):Calls Tryz.prog 106 #[.pointer (some ⟨R.blk,0,none⟩),str p] w (eV R p w):=by
 have HG:=qqH (j0 R P p 0 w h);have hlen:=h.len;have HH:=qqH h;clear h;go_enter Tryz.func106,Tryz.ntmps106;go_wp2_with fail;refine HG.out.mono ?_;intro e w1 hp;unfold jf at hp;obtain⟨hs,hp⟩:=hp
 cases hr:cO R p 0 with
 | error k =>
  rw[hr]at hp;subst hp;have hk:=jI hr;have HR:=Hq2 hr hs;clear hr hs;go_wp2_with fail;refine bodyPost_ret (results_tmp2 rfl _ _ _) rfl (by unfold eV;rw[HR.a];exact⟨HR.z,rfl⟩)
 | ok v =>
  rw[hr]at hp;obtain⟨rfl,hv⟩:=hp;have hbl:=ah (HH.out.same hs).ref.Q5;obtain⟨csl,ccap,hcv,-,-,-⟩:=(HH.out.same hs).cont hv;have HR:=Hq2 hr hs;clear hr hs hv;rw[hcv];go_wp2_with fail;go_loopw [8,9] (fun l i wr=>∃(k:Nat) (J:HF),k<=R.vs.length/\i=.int .i64 k/\iOk l (fM (R.vs.take k) p)/\Turns [] (bZ l (fM (R.vs.take k) p)++J) w wr) (fun _ i _=>R.vs.length-(intOf i).toNat)
  case atStart=>exact⟨0,[],Nat.zero_le _,rfl,lJ,(show Turns [] [] w w1 from Turns.same (Sat.nil w) HR.z)⟩
  case round =>
   obtain⟨k,J,hk,rfl,hio,hT⟩:=hrel;have hA:=HH.out.same hT.news;obtain⟨sl,cap,e1,e2,e3,hb,hcell⟩:=hA.row;have c0:wr.cell? ⟨R.blk,0,none⟩=some (.slice sl R.vs.length cap):=by rw[<- e1];exact aa hb 0 rfl
   have hbl':=ah hb;have HS:=Hq2 hio hT;clear hio hT e1 hb hA;by_cases hlt:k<R.vs.length
   ·obtain⟨g,off,hg,hcc⟩:=hcell (by omega);subst hg;obtain⟨h0,h1,-,-⟩:=hcc k hlt;have hnx:=B4 (p:=p) hlt;obtain⟨pk,hpk⟩:∃pk,pk=R.vs[k].path:=⟨_,rfl⟩;obtain⟨nk,hnk⟩:∃nk,nk=R.vs[k].num:=⟨_,rfl⟩;rw[<- hpk]at h0 hnx;rw[<- hnk]at h1 hnx;have hnl:=qu (R.vs.take k) p;rw[List.length_take]at hnl;obtain⟨ns,hns⟩:∃ns,ns=fM (R.vs.take k) p:=⟨_,rfl⟩;rw[<- hns]at hnx hnl HS;have hnl2:ns.length<=100000:=by omega
    have HX:=qqH hnx;clear hcc hcell hnx hpk hnk hns hnl;by_cases hpp:pk=p
    ·have hp':=hpp.symm;clear hpp;subst hp';have hfin:fM (R.vs.take (k+1)) p=ns++[nk]:=by rw[HX.out,if_pos rfl]
     have HF:=qqH hfin;clear hfin;go_wp2_with ((at_builtin;refine al rfl ?_;refine j8 (.tmp 38) (.tmp 47) rfl _ ns rfl (HS.z.alloc _) HS.a _ 1 1 rfl [nk] rfl (fun _=>⟨_,rfl,fun j u hu=>gQ _ _ _ j u hu⟩) (by simp;omega) ?_;intro av cv w5 hok5 hT5;have H5:=Hq2 hok5 hT5;clear hok5 hT5));go_roundw
     case rel =>
      refine⟨k+1,J,by omega,by go_num,?_,?_⟩
      ·rw[HF.out];have:=H5.a;rw[List.length_append]at this;exact this
      ·rw[HF.out];have:=H5.z;rw[List.length_append]at this;exact this
     case measure=>simp[intOf];omega
    ·have hpq:(pk==p)=false:=by simp[hpp]
     have hfin:fM (R.vs.take (k+1)) p=ns:=by rw[HX.out,if_neg hpp];simp
     have HF:=qqH hfin;clear hfin;go_wp2_with fail;go_roundw
     case rel=>exact⟨k+1,J,by omega,by go_num,by rw[HF.out];exact HS.a,by rw[HF.out];exact HS.z⟩
     case measure=>simp[intOf];omega
   ·obtain rfl:k=R.vs.length:=by omega
    rw[List.take_length]at HS;clear hcell;go_wp2_with fail;refine bodyPost_ret (results_tmp2 rfl _ _ _) rfl (by unfold eV;rw[HR.a];exact⟨u8,rfl,HS.a,HS.z.drop (fun x=>by simp only[an];omega)⟩)
def ie(vs:List RVer)(p:Bs):Nat->Nat
 | 0=>0
 | k+1=>if(vs[k]?).elim false (fun v => !bO p v.path)then k+1 else ie vs p k
def iQ(vs:List RVer)(p:Bs):Nat->Int
 | 0=>1
 | k+1=>if(vs[k]?).elim false (fun v=>decide (v.path=p))then((vs[k]?).elim 0 (·.num))+1 else iQ vs p k
theorem vn{vs:List RVer}{p:Bs}{k:Nat}(h:k<vs.length):ie vs p (k+1)=if bO p vs[k].path then ie vs p k else k+1:=by
 rw[ie,List.getElem?_eq_getElem h];by_cases h2:bO p vs[k].path=true<;>simp[h2]
theorem vP{vs:List RVer}{p:Bs}{k:Nat}(h:k<vs.length):iQ vs p (k+1)=if vs[k].path=p then vs[k].num+1 else iQ vs p k:=by
 rw[iQ,List.getElem?_eq_getElem h];simp only[Option.elim_some,decide_eq_true_eq]
theorem wL(vs:List RVer)(p:Bs):∀k,ie vs p k<=k
 | 0=>Nat.le_refl _
 | k+1=>by
  have:=wL vs p k
  unfold ie
  split<;>omega
def dr(vs:List RVer)(p:Bs)(x:RVer):List RVer:=vs.take (ie vs p vs.length)++[x]++vs.drop (ie vs p vs.length)
def o8(R:RefL)(p c:Bs)(w:World)(e:Ending)(w':World):Prop :=
 (∃k:Int,e=.returned (.tuple #[.int .i64 0,.int .i64 k])/\aX w w'/\((R.closed=true/\k=9)\/(R.closed=false/\aA p=false/\k=1)\/(R.closed=false/\aA p=true/\4000<c.length/\k=2) \/
  (R.closed=false/\aA p=true/\c.length<=4000/\R.quota<fB R.vs+c.length/\k=7))) \/
 (R.closed=false/\aA p=true/\c.length<=4000/\(fB R.vs:Int)+c.length<=R.quota /\
  ∃vv' cv,e=.returned (.tuple #[.int .i64 (iQ R.vs p R.vs.length),.int .i64 0])/\bOk cv c/\RefOk { R with vv:=vv',vs:=dr R.vs p ⟨p,iQ R.vs p R.vs.length,c,cv,0⟩ } /\
   Turns (aI R) (aI { R with vv:=vv',vs:=dr R.vs p ⟨p,iQ R.vs p R.vs.length,c,cv,0⟩ }++aK cv c) w w')
theorem iI:∀a b:Bs,Op.bytesLess a b=bO a b
 | [],[]=>rfl
 | [],_::_=>rfl
 | _::_,[]=>rfl
 | a::ax,b::bs=>by
  simp only[Op.bytesLess,bO,iI ax bs]
  by_cases h1:a<b
  ·simp[h1]
  ·by_cases h2:b<a
   ·have:¬a=b:=fun h=>by subst h;exact h1 h2
    simp[h1,h2,this]
   ·have:a=b:=UInt8.le_antisymm (UInt8.not_lt.1 h2) (UInt8.not_lt.1 h1)
    subst this
    simp
theorem ly{a b:Bs}(h:bO a b=true):bO b a=false:=by
 cases h2:bO b a with
 | false=>rfl
 | true=>have:=gI h h2;rw[cd]at this;cases this
theorem RefAt.one{R:RefL}{P:fc}{w:World}(h:RefAt R P w):∀v∈R.vs,v.cv.oneCell'=true:=fun v hv=>by
 obtain⟨sl,cap,e,-,-,-⟩:=h.cont hv
 rw[e];rfl
theorem vO{w:World}{xs:List Value}{t:TypeId}:ak (w.alloc (.cells xs.toArray t (0,0))) (some ⟨w.heap.size,0,none⟩) xs:=fun _ =>
 ⟨_,0,rfl,fun j hj=>by rw[Nat.zero_add];exact aa (aM _ _) j (by simp[List.getElem?_eq_getElem hj])⟩
theorem wc{w:World}{v:Value}{l:List RVer}(hs:Sat w (cH v l))(h:kK v l):∃sl cap,v=.slice sl l.length cap/\l.length<=cap/\cap<=9223372036854775807/\(∀k,ak w sl (bB (l.take k)))/\(∀k,k<=l.length->ak w (if cap=k then sl else sl.map (·.add (k*4))) (bB (l.drop k))):=by
 obtain⟨sl,cap,e,h1,h2,h3,-⟩:=bV hs h (by decide);refine⟨sl,cap,e,h1,h2,fun k hp=>?_,fun k hk hp=>?_⟩
 ·rw[bu,List.length_take]at hp;obtain⟨g,off,he,hc⟩:=h3 (by rw[bu];omega);refine⟨g,off,he,fun j hj=>?_⟩;rw[bu,List.length_take]at hj;rw[hc j (by rw[bu];omega)];have:bB l=bB (l.take k)++bB (l.drop k):=by rw[<- jd,List.take_append_drop]
  congr 1;rw[List.getElem_of_eq this,List.getElem_append_left]
 ·rw[bu,List.length_drop]at hp;obtain⟨g,off,he,hc⟩:=h3 (by rw[bu];omega);rw[if_neg (by omega),he];refine⟨g,off+k*4,by simp[Addr.add],fun j hj=>?_⟩;rw[bu,List.length_drop]at hj;rw[Nat.add_assoc,hc (k*4+j) (by rw[bu];omega)];have:bB l=bB (l.take k)++bB (l.drop k):=by rw[<- jd,List.take_append_drop]
  congr 1;rw[List.getElem_of_eq this,List.getElem_append_right (by rw[bu,List.length_take];omega)];congr 1;rw[bu,List.length_take];omega
theorem tz(R:RefL)(P:fc)(p c:Bs)(csl:Option Addr)(ccap:Nat)(w:World)(h:RefAt R P w)(hnum:∀v∈R.vs,0<=v.num/\v.num<=1099511627776)(hc:ak w csl (c.map ao))(hcl:c.length<=1000000):
  Calls Tryz.prog 60 #[.pointer (some ⟨R.blk,0,none⟩),str p,.slice csl c.length ccap] w (o8 R p c w):=by
 have HI:=qqH (i9 p w);have hbl:=ah h.ref.Q5;have hlen:=h.len;have HH:=Hq3 h hnum hc;clear h hnum hc;go_enter Tryz.func60,Tryz.ntmps60;go_wp2_with fail;refine HI.out.mono ?_;rintro e w1 ⟨rfl,hs1⟩;have hA1:=HH.a.same hs1;have hb1:=hA1.ref.Q5;have c3:w1.cell? ⟨R.blk,3,none⟩=some (.bool R.closed):=aa hb1 3 rfl;have hbl1:=ah hb1;have H1:=Hq2 hs1 hA1;clear hs1 hA1 hb1
 cases hc:R.closed with
 | true =>
  rw[hc]at c3;have HC:=qqH hc;clear hc;go_wp2_with fail;exact bodyPost_ret (results_tmp2 rfl _ _ _) rfl (.inl ⟨9,rfl,H1.a,.inl ⟨HC.out,rfl⟩⟩)
 | false =>
  rw[hc]at c3;have HC:=qqH hc;clear hc
  cases hp:aA p with
  | false =>
   have HP:=qqH hp;go_wp2_with fail;exact bodyPost_ret (results_tmp2 rfl _ _ _) rfl (.inl ⟨1,rfl,H1.a,.inr (.inl ⟨HC.out,HP.out,rfl⟩)⟩)
  | true =>
   have HP:=qqH hp;by_cases hsz:4000<c.length
   ·go_wp2_with fail;exact bodyPost_ret (results_tmp2 rfl _ _ _) rfl (.inl ⟨2,rfl,H1.a,.inr (.inr (.inl ⟨HC.out,HP.out,hsz,rfl⟩))⟩)
   ·have HU:=qqH (zR R P w1 H1.z);go_wp2_with fail;refine HU.out.mono ?_;rintro e w2 ⟨rfl,hs2⟩;have hA2:=H1.z.same hs2;have hb2:=hA2.ref.Q5;have c2:w2.cell? ⟨R.blk,2,none⟩=some (.int .i64 R.quota):=aa hb2 2 rfl;have hbl2:=ah hb2;have hul:=Ay hA2.clen;obtain⟨us,hus⟩:∃us,us=fB R.vs:=⟨_,rfl⟩;rw[<- hus]at hul ⊢;have hul2:us<=10000000000:=by omega
    have H2:=Hq3 (H1.a.trans hs2) hA2 hus;clear hs2 hA2 hb2 hus hul;by_cases hq:R.quota<(us:Int)+c.length
    ·go_wp2_with fail;exact bodyPost_ret (results_tmp2 rfl _ _ _) rfl (.inl ⟨7,rfl,H2.a,.inr (.inr (.inr ⟨HC.out,HP.out,by omega,by rw[<- H2.y];exact hq,rfl⟩))⟩)
    ·have HQ:=qqH hq;have hq':¬(us:Int)+c.length>R.quota:=by omega
     go_wp2_with fail;go_loopw [10,11,12] (fun n a i wr=>∃k:Nat,k<=R.vs.length/\i=.int .i64 k/\n=.int .i64 (iQ R.vs p k)/\a=.int .i64 (ie R.vs p k)/\aX w wr) (fun _ _ i _=>R.vs.length-(intOf i).toNat)
     case atStart=>exact⟨0,Nat.zero_le _,rfl,rfl,rfl,H2.a⟩
     case round =>
      obtain⟨k,hk,rfl,rfl,rfl,hs⟩:=hrel;have hA:=HH.a.same hs;obtain⟨sl,cap,e1,e2,e3,hb,hcell⟩:=hA.row;have c0:wr.cell? ⟨R.blk,0,none⟩=some (.slice sl R.vs.length cap):=by rw[<- e1];exact aa hb 0 rfl
      have hbl':=ah hb;have HS:=Hq2 hs hA;clear hs hb;by_cases hlt:k<R.vs.length
      ·clear e1;obtain⟨g,off,hg,hcc⟩:=hcell (by omega);subst hg;obtain⟨h0,h1,h2,h3⟩:=hcc k hlt;have hnx:=vn (p:=p) hlt;have hnn:=vP (p:=p) hlt;have hnr:=HH.b _ (List.getElem_mem hlt);obtain⟨pk,hpk⟩:∃pk,pk=R.vs[k].path:=⟨_,rfl⟩;obtain⟨nk,hnk⟩:∃nk,nk=R.vs[k].num:=⟨_,rfl⟩;rw[<- hpk]at h0 hnx hnn;rw[<- hnk]at h1 hnn hnr;have hgl:=World.block_lt_of_cell? wr _ h0;have HX:=Hq2 hnx hnn;clear hcc hcell hA hnx hpk hnk hnn h2 h3;by_cases hp:pk=p
       ·have hp':=hp.symm;clear hp;subst hp';have hbs:Op.bytesLess p p=false:=by rw[iI,cd]
        have hf1:ie R.vs p (k+1)=k+1:=by rw[HX.a,cd];rfl
        have hf2:iQ R.vs p (k+1)=nk+1:=by rw[HX.z,if_pos rfl]
        have HF:=Hq2 hf1 hf2;clear hf1 hf2;go_wp2_with fail;go_roundw
        case rel=>exact⟨k+1,by omega,by go_num,by rw[HF.z],by rw[HF.a];go_num,by first|exact HS.a|exact HS.a.alloc _⟩
        case measure=>simp[intOf];omega
       ·have hpq:(pk==p)=false:=by simp[hp]
        have hf2:iQ R.vs p (k+1)=iQ R.vs p k:=by rw[HX.z,if_neg hp]
        cases hbl:bO pk p with
        | true =>
         have hbs:Op.bytesLess pk p=true:=by rw[iI,hbl]
         have hf1:ie R.vs p (k+1)=k+1:=by rw[HX.a,ly hbl];rfl
         have HF:=Hq2 hf1 hf2;clear hf1 hf2;go_wp2_with fail;go_roundw
         case rel=>exact⟨k+1,by omega,by go_num,by rw[HF.z],by rw[HF.a];go_num,by first|exact HS.a|exact HS.a.alloc _⟩
         case measure=>simp[intOf];omega
        | false =>
         have hbs:Op.bytesLess pk p=false:=by rw[iI,hbl]
         have hf1:ie R.vs p (k+1)=ie R.vs p k:=by
          rw[HX.a]
          cases h2:bO p pk with
          | true=>rfl
          | false=>exact absurd (jS _ _ hbl h2) hp
         have HF:=Hq2 hf1 hf2;clear hf1 hf2;go_wp2_with fail;go_roundw
         case rel=>exact⟨k+1,by omega,by go_num,by rw[HF.z],by rw[HF.a],by first|exact HS.a|exact HS.a.alloc _⟩
         case measure=>simp[intOf];omega
      ·obtain rfl:k=R.vs.length:=by omega
       clear hcell;obtain⟨at_,hat⟩:∃at_,at_=ie R.vs p R.vs.length:=⟨_,rfl⟩;obtain⟨nr,hnr⟩:∃nr,nr=iQ R.vs p R.vs.length:=⟨_,rfl⟩;have hatl:at_<=R.vs.length:=by rw[hat];exact wL _ _ _
       have hone:=HS.z.one;rw[<- hat,<- hnr];have HN:=Hq4 hat hnr hatl hone;clear hat hnr;have hT0:Turns (aI R) (aK (.slice none 0 0) []++aI R) w wr:=Turns.same HH.a.ref HS.a;have HT0:=qqH hT0;have hcw:ak wr csl (c.map ao):=HH.y.keep HS.a (fun _ _ _=>id);have HCW:=qqH hcw;clear hT0 hcw
       have hRF:∀(W:World) (G:HF),Turns (aI R) (G++aI R) w W->W.cell? ⟨R.blk,0,none⟩=some (.slice sl R.vs.length cap)/\R.blk<W.heap.size/\(∀k,ak W sl (bB (R.vs.take k)))/\(∀k,k<=R.vs.length->ak W (if cap=k then sl else sl.map (·.add (k*4))) (bB (R.vs.drop k))):=by
        intro W G hT;have hs:=hT.sat.right;obtain⟨sl',cap',e1',-,-,e4',e5'⟩:=wc (Sat.left (Sat.tail hs)) HS.z.ok.vs;rw[e1]at e1';simp only[Value.slice.injEq,true_and]at e1';obtain⟨rfl,rfl⟩:=e1';exact⟨by rw[<- e1];exact aa hs.Q5 0 rfl,ah hs.Q5,e4',e5'⟩
       have HRF:=qqH hRF;clear hRF e1
       have hno:∀(v:Value) (l:List RVer) (G:HF) (W:World),kK v l->Sat W (cH v l++G)->v.oneCell'=true/\v.cells=#[v]:=fun v l G W hok hs=>by
        obtain⟨h1,h2,-⟩:=ew hs.left hok;exact⟨h1,h2⟩
       have HNO:=qqH hno
       have hfin:∀(av:Option Addr) (cv:Nat) (v9:Value) (W:World),bOk (.slice av c.length cv) c->kK v9 (R.vs.take at_++[⟨p,nr,c,.slice av c.length cv,0⟩]++R.vs.drop at_) ->
         Turns (aI R) ((R.blk,Is (.cells ((bE R).setIfInBounds 0 v9) 60 (0,0)))::(cH v9 (R.vs.take at_++[⟨p,nr,c,.slice av c.length cv,0⟩]++R.vs.drop at_)++(cH R.vv R.vs++(cI R.tv R.ts++aK (.slice av c.length cv) c)))) w W ->
         o8 R p c w (.returned (.tuple #[.int .i64 nr,.int .i64 0])) W:=by
        intro av cv v9 W hb hr hT;refine .inr ⟨HC.out,HP.out,by omega,by rw[<- H2.y];omega,v9,.slice av c.length cv,by rw[<- HN.b],hb,?_,?_⟩
        ·rw[<- HN.b];unfold dr;rw[<- HN.a];exact⟨hr,HS.z.ok.ts⟩
        ·rw[<- HN.b];unfold dr;rw[<- HN.a];refine hT.drop (fun x=>?_);unfold aI;rw[show iA { R with vv:=v9,vs:=R.vs.take at_++[⟨p,nr,c,.slice av c.length cv,0⟩]++R.vs.drop at_ }=.cells ((bE R).setIfInBounds 0 v9) 60 (0,0)from rfl];simp only[aB,an];omega
       have HFIN:=qqH hfin;clear hfin hno;go_upto_region 21 with(fail)
       go_wp2_with (first
        | (at_builtin;refine al rfl ?_;refine iY (.tmp 77) (.tmp 78) rfl (.slice none 0 0) [] rfl HT0.out fA csl c.length ccap rfl c rfl HCW.out (by simp;omega) ?_;intro av cv w5 hok5 hT5 hn5;simp only[List.nil_append]at hok5 hT5 ⊢;obtain⟨d0,d1,d2,d3⟩:=HRF.out _ _ hT5;have H5:=Hq4 hok5 hT5 d2 d3;clear hok5 hT5 hn5 d2 d3)
        | (at_builtin;refine al rfl ?_;refine g9 (.tmp 80) (.tmp 86) rfl (.slice none 0 0) [] rfl (G:=aI R++aK (.slice av c.length cv) c) (H5.b.to (by rw[show cH (.slice none 0 0) []=[]from rfl];exact af)) ⟨rfl,fun _=>⟨rfl,rfl⟩⟩ _ _ _ rfl (R.vs.take at_) (by rw[List.length_take,Nat.min_eq_left HN.c]) (H5.c at_) (fun v hv=>HN.x v (List.mem_of_mem_take hv)) (by rw[List.length_take,Nat.min_eq_left HN.c];simp;omega) ?_;intro v7 w7 hok7 hT7;simp only[List.nil_append]at hok7 hT7;obtain⟨d0,d1,-,-⟩:=HRF.out _ (cH v7 (R.vs.take at_)++aK (.slice av c.length cv) c) (hT7.to af);have H7:=Hq2 hok7 hT7;clear hok7 hT7)
        | (at_builtin;refine al rfl ?_;(refine g9 (.tmp 88) (.tmp 93) rfl v7 (R.vs.take at_) rfl (H7.z.alloc _) H7.a _ 1 1 rfl [⟨p,nr,c,.slice av c.length cv,0⟩] rfl (vO (xs:=lj ⟨p,nr,c,.slice av c.length cv,0⟩)) (fun v hv=>by obtain rfl:=List.mem_singleton.1 hv;rfl) (by rw[List.length_take,Nat.min_eq_left HN.c];simp;omega) ?_;intro v8 w8 hok8 hT8;obtain⟨d0,d1,-,d3⟩:=HRF.out _ (cH v8 (R.vs.take at_++[⟨p,nr,c,.slice av c.length cv,0⟩])++aK (.slice av c.length cv) c) (hT8.to af);have H8:=Hq3 hok8 hT8 d3;clear hok8 hT8 d3))
        | (at_builtin;refine al rfl ?_;(refine g9 (.tmp 95) (.tmp 101) rfl v8 (R.vs.take at_++[⟨p,nr,c,.slice av c.length cv,0⟩]) rfl H8.b H8.a _ _ _ rfl (R.vs.drop at_) (by rw[List.length_drop]) (H8.y at_ HN.c) (fun v hv=>HN.x v (List.mem_of_mem_drop hv)) (by simp;omega) ?_;intro v9 w9 hok9 hT9;obtain⟨d0,d1,-,-⟩:=HRF.out _ (cH v9 (R.vs.take at_++[⟨p,nr,c,.slice av c.length cv,0⟩]++R.vs.drop at_)++aK (.slice av c.length cv) c) (hT9.to af);have H9:=Hq2 hok9 hT9;clear hok9 hT9))
        | (refine al rfl (bi 57 (.tmp 106) (.tmp 104) rfl R.blk 0 (bE R) 60 v9 (H9.z.to (H:=(R.blk,Is (iA R))::(cH v9 (R.vs.take at_++[⟨p,nr,c,.slice av c.length cv,0⟩]++R.vs.drop at_)++(cH R.vv R.vs++(cI R.tv R.ts++aK (.slice av c.length cv) c)))) (by unfold aI;exact af)) rfl rfl (by simp[bE]) (by kernel_rfl) (HNO.out _ _ _ _ H9.a H9.z.sat).1 (HNO.out _ _ _ _ H9.a H9.z.sat).2 ?_);intro w10 hT10;have H10:=qqH hT10;clear hT10;simp only[Act.put]))
       all_goals (refine bodyPost_ret (results_tmp2 rfl _ _ _) rfl ?_;exact HFIN.out _ _ _ _ H5.a H9.a H10.out)
end
section
open Go.RowKit Go.Sort
def dN(v:Value)(l:List EntL):HF:=bN 262 4 v l.length (l.flatMap cq)
def l7(v:Value)(l:List EntL):Prop:=dj 4 v l.length (l.flatMap cq)
theorem gn(l:List EntL):(l.flatMap cq).length=l.length*4:=by
 induction l with
 | nil=>rfl
 | cons a r ih=>rw[List.flatMap_cons,List.length_append,ih];simp[cq];omega
theorem py:∀(es:List EntL) (t:Nat) (_:t<es.length*4),(es.flatMap cq)[t]?=some ((cq es.toArray[t / 4]!)[t%4]!)
 | [],t,h=>by simp at h
 | x::r,t,h=>by
  rw[List.flatMap_cons]
  by_cases h4:t<4
  ·rw[List.getElem?_append_left (by simpa[cq]using h4)]
   have e1:t / 4=0:=by omega
   have e2:t%4=t:=by omega
   rw[e1,e2]
   have:(x::r).toArray[0]! = x := by simp
   rw[this]
   rcases(show t=0\/t=1\/t=2\/t=3 by omega)with rfl|rfl|rfl|rfl<;>rfl
  ·rw[List.getElem?_append_right (by simp[cq];omega)]
   have hl:(cq x).length=4:=rfl
   rw[hl,py r (t-4) (by simp at h;omega)]
   have e1:t / 4=(t-4) / 4+1:=by omega
   have e2:t%4=(t-4)%4:=by omega
   rw[e1,e2]
   have hi:(t-4) / 4<r.length:=by simp at h;omega
   have:(x::r).toArray[(t-4) / 4+1]! = r.toArray[(t-4) / 4]! := by
    rw[getElem!_pos _ _ (by simp;omega),getElem!_pos _ _ (by simpa using hi)];simp
   rw[this]
theorem sI(es:List EntL):flatK cq 4 es.toArray=(es.flatMap cq).toArray:=by
 apply Array.ext_getElem?;intro t;by_cases h:t<es.length*4
 ·have h1:=py es t h;have h2:(es.flatMap cq).toArray[t]?=some ((cq es.toArray[t / 4]!)[t%4]!):=by simpa using h1
  rw[h2];have hs:t<(flatK cq 4 es.toArray).size:=by simpa using h
  rw[Array.getElem?_eq_getElem hs,<- getElem!_pos (flatK cq 4 es.toArray) t hs,get_flatK _ _ _ _ (by simpa using h)]
 ·rw[Array.getElem?_eq_none (by simp;omega),Array.getElem?_eq_none (by rw[List.size_toArray,gn];omega)]
theorem Dc(l:List EntL):∀u∈l.flatMap cq,u.oneCell'=true:=fun u hu=>by
 obtain⟨x,-,hx⟩:=List.mem_flatMap.1 hu
 simp only[cq,List.mem_cons,List.not_mem_nil,or_false]at hx
 rcases hx with rfl|rfl|rfl|rfl<;>rfl
def AW(es es':List EntL):Prop:=es'.Perm es/\∀i j,i<j->∀(hj:j<es'.length) (hi:i<es'.length),bO es'[j].p es'[i].p=false
theorem Cy{F G:HF}{A W:World}{v:Value}{es:List EntL}(h:Turns F (dN v es++G) A W)(hok:l7 v es)(hne:es≠[])(hl:es.length<1000000):
  ∃g cap,v=.slice (some ⟨g,0,none⟩) es.length cap/\Calls Tryz.prog 133 #[.slice (some ⟨g,0,none⟩) es.length cap,.func (.func 134) #[] #[]] W (fun e w'=>e=.returned (.tuple #[])/\∃es',AW es es'/\l7 v es'/\Turns F (dN v es'++G) A w'):=by
 have hown:=aW h.sat.left hok;rcases hown.2 with⟨-,h0⟩|⟨g,cap,cur,rfl,-,hg,h1,h2,h3,h4⟩
 ·exact absurd (List.eq_nil_of_length_eq_zero h0) hne
 ·refine⟨g,cap,rfl,?_⟩;have eg:∀args w,(callFunc 134 args).run Tryz.prog w=.ok (.enter 134 args) w:=enters_of Tryz.func134 (by kernel_rfl) rfl
  have hH:HoldsK cq 4 W g 0 es.toArray:=by
   unfold HoldsK;rw[sI];intro j hj;have hj':j<(es.flatMap cq).length:=by simpa using hj
   refine⟨?_,aZ hg _⟩;rw[Nat.zero_add];refine aa hg j ?_;rw[<- Array.getElem?_toList];have e1:(cur.toList.take (es.length*4))[j]?=cur.toList[j]?:=by rw[List.getElem?_take,if_pos (by rw[gn]at hj';omega)]
   rw[<- e1,h4,List.getElem?_eq_getElem hj'];congr 1;rw[getElem!_pos _ _ (by simpa using hj)];simp
  have hcon:=AnyQ.slices_SortFunc Js 4 Tryz.isAgg262 Tryz.sizeOf262 cq (fun _=>rfl) (fun x v hv=>by simp[cq]at hv;rcases hv with rfl|rfl|rfl|rfl<;>rfl) oz JU 134 #[] g 0 cap es.toArray W eg (IC g 0 es.toArray.size W) hH (ah hg) (by simp;omega);have hsz:es.toArray.size=es.length:=by simp
  rw[hsz]at hcon;change Calls Tryz.prog 133 _ _ _ at hcon;refine hcon.mono ?_;rintro e w' ⟨rfl,d',n,os,hp,hs,rfl⟩;have hd':d'.size=es.length:=by rw[hp.1];simp
  have hperm:d'.toList.Perm es:=by
   have:=hp.2.2;rw[Array.extract_eq_self_of_le (by omega)]at this;rw[Array.extract_eq_self_of_le (by simp)]at this;simpa using this
  refine⟨rfl,d'.toList,⟨hperm,fun i j hij hj hi=>?_⟩,?_,?_⟩
  ·have:=hs i j (Nat.zero_le _) hij (by rw[<- hd'];simpa using hj);rw[Db]at this;rw[getElem!_pos d' j (by simpa using hj),getElem!_pos d' i (by simpa using hi)]at this;simpa using this
  ·exact⟨by rw[gn],fun hn=>by simp[Value.ownBlock]at hn⟩
  ·have hfl:flatK cq 4 d'=(d'.toList.flatMap cq).toArray:=by
    have:=sI d'.toList;simpa using this
   have hdl:d'.toList.length=es.length:=by simpa using hd'
   have hgl:=ah hg
   have hW:(sortWorldK cq 4 W g 0 n d' os).heap[g]?=some (.cells (putCells id 0 (flatK cq 4 d') cur) 262 (0,0)):=by
    unfold sortWorldK;rw[heap_grow_old _ _ (by unfold putRowK;rw[size_putRow];exact hgl)];unfold putRowK putRow mapBlock;show((W.heap.modify g (onCells (putCells id 0 (flatK cq 4 d')))))[g]?=_;rw[Array.getElem?_modify,if_pos rfl,hg];rfl
   have hM:Mods (fun k=>k=g) W (sortWorldK cq 4 W g 0 n d' os):=by
    refine⟨rfl,rfl,rfl,?_,fun k hk hne=>?_⟩
    ·unfold sortWorldK;rw[Go.Sort.size_grow];unfold putRowK;rw[size_putRow];simp
    ·unfold sortWorldK;rw[heap_grow_old _ _ (by unfold putRowK;rw[size_putRow];exact hk)];unfold putRowK putRow mapBlock;show((W.heap.modify g (onCells (putCells id 0 (flatK cq 4 d')))))[k]?=_;rw[Array.getElem?_modify,if_neg (fun e=>hne e.symm)]
   have hpc:(putCells id 0 (flatK cq 4 d') cur).toList.take (es.length*4)=d'.toList.flatMap cq:=by
    apply List.ext_getElem?;intro t;rw[List.getElem?_take];split
    ·rename_i ht;rw[Array.getElem?_toList];unfold putCells;rw[Array.getElem?_mapIdx];have htc:t<cur.size:=by rw[h3];omega
     rw[Array.getElem?_eq_getElem htc,Option.map_some,if_pos ⟨Nat.zero_le _,by rw[size_flatK];omega⟩,Nat.sub_zero];have ht2:t<(d'.toList.flatMap cq).length:=by rw[gn,hdl];exact ht
     rw[List.getElem?_eq_getElem ht2,hfl,getElem!_pos _ _ (by simpa using ht2)];simp
    ·rename_i ht;rw[List.getElem?_eq_none (by rw[gn,hdl];omega)]
   have hrow:dN (.slice (some ⟨g,0,none⟩) es.length cap) es++G=(g,_)::G:=rfl;rw[hrow]at h;have hrow2:dN (.slice (some ⟨g,0,none⟩) es.length cap) d'.toList++G=(g,fun o=>∃cap2 cur2,Value.slice (some ⟨g,0,none⟩) es.length cap=.slice (some ⟨g,0,none⟩) d'.toList.length cap2/\o=.cells cur2 262 (0,0)/\d'.toList.length<=cap2/\cap2<=maxLen/\cur2.size=cap2*4/\cur2.toList.take (d'.toList.length*4)=d'.toList.flatMap cq)::G:=rfl;rw[hrow2];exact h.put hM hW ⟨cap,_,by rw[hdl],rfl,by rw[hdl];exact h1,h2,by unfold putCells;rw[Array.size_mapIdx];exact h3,by rw[hdl];exact hpc⟩
end
section
open Go.RowKit Go.Maps
theorem Turns.pin{F G:HF}{a0 w:World}{g:Nat}{φ:Obj->Prop}(h:Turns F ((g,φ)::G) a0 w):∃o,φ o/\Turns F ((g,Is o)::G) a0 w:=by
 obtain⟨o,ho,hφ⟩:=h.sat.head
 exact⟨o,hφ,h.mods,⟨h.sat.nodup,fun p hp=>by
  rcases List.mem_cons.1 hp with rfl|hp
  ·exact⟨o,ho,rfl⟩
  ·exact h.sat.sat p (List.mem_cons_of_mem _ hp)⟩,h.fresh⟩
theorem Turns.Qm{F G:HF}{a0 w:World}{g:Nat}{φ:Obj->Prop}{o:Obj}(h:Turns F ((g,Is o)::G) a0 w)(ho:φ o):Turns F ((g,φ)::G) a0 w :=
 ⟨h.mods,⟨h.sat.nodup,fun p hp=>by
  rcases List.mem_cons.1 hp with rfl|hp
  ·exact⟨o,h.sat.Q5,ho⟩
  ·exact h.sat.sat p (List.mem_cons_of_mem _ hp)⟩,h.fresh⟩
theorem oU{P:Program}{w a0:World}{o:Oper}{a:Act}{K:Act->World->Prop}{Q:Exit->Act->World->Prop}{F G:HF}(ty:TypeId)(x y:Operand)(ho:o.op=.store ty x y)(e:TypeId)(size n g cap:Nat)(xs:List Value)(hT:Turns F (bN e size (.slice (some ⟨g,0,none⟩) n cap) n xs++G) a0 w)(hok:dj size (.slice (some ⟨g,0,none⟩) n cap) n xs)(i:Nat)(hi:i<n*size)(u:Value)(hx:a.eval x=.pointer (some ⟨g,i,none⟩))(hy:a.eval y=u)(hsz:(P.info? ty).map (·.size)=some 1)(h1:u.oneCell'=true)(hvc:u.cells=#[u])(hk:∀w',dj size (.slice (some ⟨g,0,none⟩) n cap) n (xs.set i u)->Turns F (bN e size (.slice (some ⟨g,0,none⟩) n cap) n (xs.set i u)++G) a0 w'->K (a.put o.dst undef) w'):o.wp P a w K Q:=by
 have hT':Turns F ((g,fun o=>∃cap' cur,(.slice (some ⟨g,0,none⟩) n cap:Value)=.slice (some ⟨g,0,none⟩) n cap'/\o=.cells cur e (0,0)/\n<=cap'/\cap'<=maxLen/\cur.size=cap'*size/\cur.toList.take (n*size)=xs)::G) a0 w:=hT;obtain⟨o',⟨cap',cur,hv,rfl,h3,h4,h5,h6⟩,hp⟩:=hT'.pin;have hcs:n*size<=cur.size:=by rw[h5];exact Nat.mul_le_mul_right _ h3
 refine bi ty x y ho g i cur e u hp hx hy (by omega) hsz h1 hvc (fun w' hT2=>hk w' ⟨by rw[List.length_set];exact hok.1,hok.2⟩ ?_);exact hT2.Qm ⟨cap',_,hv,rfl,h3,h4,by simpa using h5,by rw[Array.toList_setIfInBounds,List.take_set,h6]⟩
def eN(v:Value)(l:List EntL):HF:=bN 266 4 v l.length (l.flatMap cq)
def nG(v:Value)(l:List EntL):Prop:=dj 4 v l.length (l.flatMap cq)
theorem GH:(Tryz.prog.info? 266).map (fun i=>(i.zero,i.size,i.bytes))=some (some (.agg #[str [],.int .i64 0,.int .i64 0,.int .i64 0]),4,40):=by kernel_rfl
theorem rj{o:Oper}{a:Act}{w a0:World}{K:Act->World->Prop}{Q:Exit->Act->World->Prop}{F G:HF}(s x:Operand)(hop:o.op=.call { callee:=.builtin .append,args:=#[s,x],argTypes:=#[184,184] })(v:Value)(l:List EntL)(hs:a.eval s=v)(hT:Turns F (eN v l++G) a0 w)(hok:nG v l)(nb:Nat)(hx:a.eval x=.slice (some ⟨nb,0,none⟩) 1 1)(r:EntL)(hc:w.heap[nb]?=some (.cells (cq r).toArray 266 (0,0)))(hb:l.length<=1000000)(hk:∀v' w',nG v' (l++[r])->Turns F (eN v' (l++[r])++G) a0 w'->K (a.put o.dst v') w'):o.wp Tryz.prog a w K Q:=by
 obtain⟨i0,hi0,hz1,hz2,hz3⟩:=info_parts GH;refine cY s x 184 266 i0 (.agg #[str [],.int .i64 0,.int .i64 0,.int .i64 0]) 4 40 hop Tryz.underlying184 hi0 hz1 hz2 hz3 rfl (by decide) v l.length (l.flatMap cq) hs hT hok (some ⟨nb,0,none⟩) 1 1 hx (cq r) rfl (fun _=>⟨_,rfl,fun j u hu=>?_⟩) (fun u hu=>Dc [r] u (by simpa using hu)) (by unfold maxLen;omega) (by omega) (fun v' w' h1 h2 h3=>?_)
 ·rw[Addr.add_lit];rw[show(0+j)=j by omega];exact aa hc j (by rw[List.getElem?_toArray];exact hu)
 ·have e1:(l++[r]).flatMap cq=l.flatMap cq++cq r:=by simp
  exact hk v' w' (by unfold nG;rw[List.length_append,e1];exact h1) (by unfold eN;rw[List.length_append,e1];exact h2)
def eI(es:List EntL)(p:Bs):List EntL:=if es.getLast?.map (·.p)=some p then es else es++[⟨p,0,0,0⟩]
def mA(es:List EntL)(num size:Int):List EntL:=match es.getLast? with
 | none=>[]
 | some e=>es.dropLast++[⟨e.p,num,size,e.n+1⟩]
def gF(pre:Bs)(es:List EntL)(v:RVer):List EntL:=if pre.isPrefixOf v.path then mA (eI es v.path) v.num v.cont.length else es
def go(pre:Bs)(vs:List RVer):List EntL:=vs.foldl (gF pre) []
theorem sG{pre:Bs}{vs:List RVer}{k:Nat}(h:k<vs.length):go pre (vs.take (k+1))=gF pre (go pre (vs.take k)) vs[k]:=by
 unfold go;rw[List.take_succ_eq_append_getElem h,List.foldl_append];rfl
theorem ko(es:List EntL)(e:EntL)(num size:Int):mA (es++[e]) num size=es++[⟨e.p,num,size,e.n+1⟩]:=by simp[mA]
theorem y7(es:List EntL)(p:Bs):(eI es p).length<=es.length+1:=by unfold eI;split<;>simp
theorem BB(es:List EntL)(n s:Int):(mA es n s).length=es.length:=by
 unfold mA
 cases h:es.getLast? with
 | none=>rw[List.getLast?_eq_none_iff.1 h]
 | some e =>
  have hne:es≠[]:=fun he=>by rw[he]at h;cases h
  have:=List.length_pos_iff.2 hne;simp only[List.length_append,List.length_dropLast,List.length_singleton];omega
theorem vC(pre:Bs):∀(vs:List RVer),(go pre vs).length<=vs.length:=fun vs=>by
 suffices h:∀(vs:List RVer) (es:List EntL),(vs.foldl (gF pre) es).length<=es.length+vs.length from by unfold go;simpa using h vs []
 intro vs
 induction vs with
 | nil=>intro es;simp
 | cons v r ih =>
  intro es
  have h1:=ih (gF pre es v)
  have h2:(gF pre es v).length<=es.length+1:=by
   unfold gF;split
   ·rw[BB];exact y7 _ _
   ·omega
  simp only[List.foldl_cons,List.length_cons];omega
theorem ID{pre:Bs}:∀(vs:List RVer),∀e∈go pre vs,0<=e.n/\e.n<=vs.length:=fun vs=>by
 suffices h:∀(vs:List RVer) (es:List EntL) (b:Nat),(∀e∈es,0<=e.n/\e.n<=b)->∀e∈vs.foldl (gF pre) es,0<=e.n/\e.n<=(b+vs.length:Nat)from by
  have:=h vs [] 0 (fun e he=>by cases he);unfold go;simpa using this
 intro vs;induction vs with
 | nil=>intro es b h e he;have:=h e he;simpa using this
 | cons v r ih =>
  intro es b h e he
  have h2:∀e∈gF pre es v,0<=e.n/\e.n<=(b+1:Nat):=by
   intro e he;unfold gF at he;split at he
   ·have h3:∀e∈eI es v.path,0<=e.n/\e.n<=b:=by
     intro e he;unfold eI at he;split at he
     ·exact h e he
     ·rcases List.mem_append.1 he with he|he
      ·exact h e he
      ·obtain rfl:=List.mem_singleton.1 he;simp
    unfold mA at he
    cases hl:(eI es v.path).getLast? with
    | none=>rw[hl]at he;cases he
    | some x =>
     rw[hl]at he;rcases List.mem_append.1 he with he|he
     ·have:=h3 e ((List.dropLast_sublist _).mem he);omega
     ·obtain rfl:=List.mem_singleton.1 he;have:=h3 x (List.mem_of_getLast? hl);simp only;omega
   ·have:=h e he;omega
  have:=ih _ (b+1) h2 e he;simp only[List.length_cons];omega
theorem y8(pk:Bs)(n:Nat):((ByteArray.mk pk.toArray).extract 0 n).toList=pk.take n:=by
 rw[Lib.toList_data];simp[ByteArray.extract,ByteArray.copySlice]
def vd(R:RefL)(pre:Bs)(w:World)(e:Ending)(w':World):Prop :=
 (R.closed=true/\e=.returned (.tuple #[.slice none 0 0,.int .i64 9])/\aX w w') \/
 (R.closed=false/\∃v,e=.returned (.tuple #[v,.int .i64 0])/\nG v (go pre R.vs)/\Turns [] (eN v (go pre R.vs)) w w')
theorem zK{pre l:Bs}(_:pre.length<=l.length):pre.isPrefixOf l=decide (l.take pre.length=pre):=by
 rw[Bool.eq_iff_iff,decide_eq_true_eq,List.isPrefixOf_iff_prefix,List.prefix_iff_eq_take];exact eq_comm
theorem EP{pre l:Bs}(h:l.length<pre.length):pre.isPrefixOf l=false:=by
 rw[Bool.eq_false_iff];intro h2;have:=(List.isPrefixOf_iff_prefix.1 h2).length_le;omega
theorem pL{w:World}{v:Value}{es:List EntL}(hs:Sat w (eN v es))(h:nG v es):∃sl cap,v=.slice sl es.length cap/\es.length<=cap/\cap<=9223372036854775807/\(es≠[]->∃g,sl=some ⟨g,0,none⟩/\g<w.heap.size/\∀i (hi:i<es.length),w.cell? ⟨g,i*4,none⟩=some (str es[i].p)/\w.cell? ⟨g,i*4+1,none⟩=some (.int .i64 es[i].latest)/\w.cell? ⟨g,i*4+2,none⟩=some (.int .i64 es[i].size)/\w.cell? ⟨g,i*4+3,none⟩=some (.int .i64 es[i].n)):=by
 obtain⟨hl,hc⟩:=aW hs h;rcases hc with⟨rfl,hn⟩|⟨g,cap,cur,rfl,_,hg,h1,h2,h3,h4⟩
 ·have:es=[]:=List.length_eq_zero_iff.1 hn;subst this;exact⟨none,0,rfl,Nat.le_refl _,by omega,fun h=>absurd rfl h⟩
 ·refine⟨_,cap,rfl,h1,by unfold maxLen at h2;omega,fun hne=>⟨g,rfl,ah hg,fun i hi=>?_⟩⟩
  have hcell:∀j,j<4->w.cell? ⟨g,i*4+j,none⟩=(es.flatMap cq)[i*4+j]?:=by
   intro j hj
   have e1:(es.flatMap cq)[i*4+j]?=cur[i*4+j]?:=by
    rw[<- h4,List.getElem?_take,if_pos (by omega),Array.getElem?_toList]
   have e2:i*4+j<cur.size:=by rw[h3];omega
   rw[e1,Array.getElem?_eq_getElem e2];exact aa hg _ (Array.getElem?_eq_getElem e2)
  have hv:∀j,j<4->(es.flatMap cq)[i*4+j]?=some ((cq es[i])[j]!):=by
   intro j hj;rw[py es (i*4+j) (by omega)];rw[show(i*4+j) / 4=i by omega,show(i*4+j)%4=j by omega];simp[hi]
  refine⟨?_,?_,?_,?_⟩
  ·have:=hcell 0 (by omega);rw[hv 0 (by omega)]at this;exact this
  ·have:=hcell 1 (by omega);rw[hv 1 (by omega)]at this;exact this
  ·have:=hcell 2 (by omega);rw[hv 2 (by omega)]at this;exact this
  ·have:=hcell 3 (by omega);rw[hv 3 (by omega)]at this;exact this
theorem Af(es:List EntL)(e:EntL)(j:Nat)(u:Value):((es++[e]).flatMap cq).set (es.length*4+j) u=es.flatMap cq++(cq e).set j u:=by
 rw[List.flatMap_append,List.set_append,if_neg (by rw[gn];omega),gn];simp
theorem iZ{w a0:World}{o:Oper}{a:Act}{K:Act->World->Prop}{Q:Exit->Act->World->Prop}{F G:HF}(ty:TypeId)(x y:Operand)(ho:o.op=.store ty x y)(z g cap:Nat)(es0:List EntL)(e e':EntL)(hz:es0.length=z)(hT:Turns F (eN (.slice (some ⟨g,0,none⟩) (z+1) cap) (es0++[e])++G) a0 w)(hok:nG (.slice (some ⟨g,0,none⟩) (z+1) cap) (es0++[e]))(j:Nat)(hj:j<4)(u:Value)(hx:a.eval x=.pointer (some ⟨g,z*4+j,none⟩))(hy:a.eval y=u)(hsz:(Tryz.prog.info? ty).map (·.size)=some 1)(h1:u.oneCell'=true)(hvc:u.cells=#[u])(he:cq e'=(cq e).set j u)(hk:∀w',nG (.slice (some ⟨g,0,none⟩) (z+1) cap) (es0++[e'])->Turns F (eN (.slice (some ⟨g,0,none⟩) (z+1) cap) (es0++[e'])++G) a0 w'->K (a.put o.dst undef) w'):o.wp Tryz.prog a w K Q:=by
 have e1:((es0++[e]).flatMap cq).set (z*4+j) u=(es0++[e']).flatMap cq:=by rw[<- hz,Af,<- he];simp
 have e2:(es0++[e]).length=z+1:=by simp[hz]
 have e3:(es0++[e']).length=z+1:=by simp[hz]
 unfold eN nG at *
 rw[e2]at hT hok;rw[e3]at hk;refine oU ty x y ho 266 4 (z+1) g cap _ hT hok (z*4+j) (by omega) u hx hy hsz h1 hvc (fun w' k1 k2=>hk w' ?_ ?_)
 ·rw[<- e1];exact k1
 ·rw[<- e1];exact k2
theorem G0{w a0:World}{F G:HF}(z g cap:Nat)(es0:List EntL)(e e':EntL)(hz:es0.length=z)(hT:Turns F (eN (.slice (some ⟨g,0,none⟩) (z+1) cap) (es0++[e])++G) a0 w)(hok:nG (.slice (some ⟨g,0,none⟩) (z+1) cap) (es0++[e]))(j:Nat)(_:j<4)(u:Value)(he:cq e'=(cq e).set j u):
  nG (.slice (some ⟨g,0,none⟩) (z+1) cap) (es0++[e'])/\Turns F (eN (.slice (some ⟨g,0,none⟩) (z+1) cap) (es0++[e'])++G) a0 (w.setCell ⟨g,z*4+j,none⟩ u):=by
 have e1:((es0++[e]).flatMap cq).set (z*4+j) u=(es0++[e']).flatMap cq:=by rw[<- hz,Af,<- he];simp
 have e2:(es0++[e]).length=z+1:=by simp[hz]
 have e3:(es0++[e']).length=z+1:=by simp[hz]
 unfold eN nG at *
 rw[e2]at hT hok;rw[e3,<- e1];refine⟨⟨by rw[List.length_set];exact hok.1,hok.2⟩,?_⟩;have hT':Turns F ((g,fun o=>∃cap' cur,(.slice (some ⟨g,0,none⟩) (z+1) cap:Value)=.slice (some ⟨g,0,none⟩) (z+1) cap'/\o=.cells cur 266 (0,0)/\(z+1)<=cap'/\cap'<=maxLen/\cur.size=cap'*4/\cur.toList.take ((z+1)*4)=(es0++[e]).flatMap cq)::G) a0 w:=hT;obtain⟨o',⟨cap',cur,hv,rfl,h3,h4,h5,h6⟩,hp⟩:=hT'.pin;have hT2:=hp.Qa ((Mods.refl (fun k=>k=g) w).set1 u) (bt hp.sat.Q5 (z*4+j) u);exact hT2.Qm ⟨cap',_,hv,rfl,h3,h4,by simpa using h5,by rw[Array.toList_setIfInBounds,List.take_set,h6]⟩
def vcO(pk:Bs)(nk:Int)(cv hv:Value):Obj:=.cells #[.string ⟨pk.toArray⟩,.int .i64 nk,cv,hv] 193 (0,0)
theorem jy{w W:World}{vb g z cap:Nat}{pk:Bs}{nk:Int}{cv hv:Value}{es0:List EntL}{e:EntL}{J:HF}(hT:Turns [] ((vb,Is (vcO pk nk cv hv))::(eN (.slice (some ⟨g,0,none⟩) (z+1) cap) (es0++[e])++J)) w W)(hok:nG (.slice (some ⟨g,0,none⟩) (z+1) cap) (es0++[e]))(hz:es0.length=z):
  W.cell? ⟨vb,0,none⟩=some (.string ⟨pk.toArray⟩)/\W.cell? ⟨vb,1,none⟩=some (.int .i64 nk)/\W.cell? ⟨vb,2,none⟩=some cv/\vb<W.heap.size/\g<W.heap.size/\W.cell? ⟨g,z*4,none⟩=some (str e.p)/\W.cell? ⟨g,z*4+3,none⟩=some (.int .i64 e.n)/\z+1<=cap/\cap<=9223372036854775807/\W.frozen? ⟨g,z*4+3,none⟩=false:=by
 have hv:=hT.sat.Q5;obtain⟨sl,cap',e1,e2,e3,e4⟩:=pL hT.sat.tail.left hok;simp only[Value.slice.injEq]at e1;obtain⟨rfl,h5,rfl⟩:=e1;obtain⟨g',hg,hgl,hc⟩:=e4 (by simp);simp only[Option.some.injEq,Addr.mk.injEq,and_true]at hg;subst hg;obtain⟨c0,c1,c2,c3⟩:=hc z (by simp;omega);have hze:(es0++[e])[z]'(by simp;omega)=e:=by subst hz;simp
 rw[hze]at c0 c3;obtain⟨o,ho,cap2,cur,-,rfl,-⟩:=Sat.head (show Sat W ((g,fun o=>∃cap' cur,(.slice (some ⟨g,0,none⟩) (z+1) cap:Value)=.slice (some ⟨g,0,none⟩) (es0++[e]).length cap'/\o=.cells cur 266 (0,0)/\(es0++[e]).length<=cap'/\cap'<=maxLen/\cur.size=cap'*4/\cur.toList.take ((es0++[e]).length*4)=(es0++[e]).flatMap cq)::[])from hT.sat.tail.left);exact⟨aa hv 0 rfl,aa hv 1 rfl,aa hv 2 rfl,ah hv,hgl,c0,c3,by rw[h5];exact e2,e3,aZ ho _⟩
theorem zQ(R:RefL)(P:fc)(pre:Bs)(w:World)(h:RefAt R P w):
  Calls Tryz.prog 89 #[.pointer (some ⟨R.blk,0,none⟩),str pre] w (vd R pre w):=by
 have hbl:=ah h.ref.Q5;have hlen:=h.len;have c3:w.cell? ⟨R.blk,3,none⟩=some (.bool R.closed):=aa h.ref.Q5 3 rfl;have HH:=qqH h;clear h;go_enter Tryz.func89,Tryz.ntmps89
 cases hc:R.closed with
 | true =>
  rw[hc]at c3;have HC:=qqH hc;clear hc;go_wp2_with fail;exact bodyPost_ret (results_tmp2 rfl _ _ _) rfl (.inl ⟨HC.out,rfl,Mods.refl _ _⟩)
 | false =>
  rw[hc]at c3;have HC:=qqH hc;clear hc;go_wp2_with fail;go_loopw [6,7] (fun l i wr=>∃(k:Nat) (J:HF),k<=R.vs.length/\i=.int .i64 k/\nG l (go pre (R.vs.take k))/\Turns [] (eN l (go pre (R.vs.take k))++J) w wr) (fun _ i _=>R.vs.length-(intOf i).toNat)
  case atStart=>exact⟨0,[],Nat.zero_le _,rfl,⟨rfl,fun _=>⟨rfl,rfl⟩⟩,Turns.refl (Sat.nil w)⟩
  case round =>
   obtain⟨k,J,hk,rfl,hro,hT⟩:=hrel;have hA:=HH.out.same hT.news;obtain⟨sl,cap,e1,e2,e3,hb,hcell⟩:=hA.row;have c0:wr.cell? ⟨R.blk,0,none⟩=some (.slice sl R.vs.length cap):=by rw[<- e1];exact aa hb 0 rfl
   have hbl':=ah hb;by_cases hlt:k<R.vs.length
   ·obtain⟨g,off,hg,hcc⟩:=hcell (by omega);subst hg;obtain⟨h0,h1,h2,h3⟩:=hcc k hlt;obtain⟨csl,ccap,hcv,-,-,-⟩:=hA.cont (List.getElem_mem hlt);rw[hcv]at h2;have hnx:=sG (pre:=pre) hlt;have hel:=vC pre (R.vs.take k);have hen:=ID (pre:=pre) (R.vs.take k);rw[List.length_take,Nat.min_eq_left hk]at hel hen;obtain⟨es,hes⟩:∃es,es=go pre (R.vs.take k):=⟨_,rfl⟩;rw[<- hes]at hnx hel hen hro hT;obtain⟨rsl,rcap,hrv,hr2,hr3,hrc⟩:=pL hT.sat.left hro;obtain⟨pk,hpk⟩:∃pk,pk=R.vs[k].path:=⟨_,rfl⟩;obtain⟨nk,hnk⟩:∃nk,nk=R.vs[k].num:=⟨_,rfl⟩;obtain⟨cl,hcl⟩:∃cl,cl=R.vs[k].cont.length:=⟨_,rfl⟩;unfold gF at hnx;rw[<- hpk]at h0 hnx;rw[<- hnk]at h1 hnx;rw[<- hcl]at h2 hnx;have hgl:=World.block_lt_of_cell? wr _ h0;subst hrv;have HX:=Hq5 hnx hro hT hen hrc;clear hcc hcell hA hcv hnx hpk hnk hcl hes hro hT hen hb e1;by_cases hsh:pk.length<pre.length
    ·have hfin:go pre (R.vs.take (k+1))=es:=by rw[HX.a,EP hsh];rfl
     have HF:=qqH hfin;clear hfin hrc;go_wp2_with fail;go_roundw
     case rel=>exact⟨k+1,J,by omega,by go_num,by rw[HF.out];exact HX.b,by rw[HF.out];exact HX.c.alloc _⟩
     case measure=>simp[intOf];omega
    ·by_cases hpx:pk.take pre.length=pre
     ·have hpx2:pre.isPrefixOf pk=true:=by rw[zK (by omega)];simp[hpx]
      have hpq:(((ByteArray.mk pk.toArray).extract 0 pre.length).toList==pre)=true:=by rw[y8];simp[hpx]
      obtain⟨cv,hcv⟩:∃cv:Value,cv=.slice csl cl ccap:=⟨_,rfl⟩;obtain⟨hv,hhv⟩:∃hv:Value,hv=.int .i64 R.vs[k].held:=⟨_,rfl⟩;have HV:=Hq2 hcv hhv;go_upto_region 9 with(fail);obtain⟨vb,hvb⟩:∃vb,vb=wr.heap.size:=⟨_,rfl⟩;obtain⟨m,hm⟩:∃m,m=es.length:=⟨_,rfl⟩
      have hT1:Turns [] ((vb,Is (vcO pk nk cv hv))::(eN (.slice rsl m rcap) es++J)) w (wr.alloc (.cells #[.string ⟨pk.toArray⟩,.int .i64 nk,.slice csl cl ccap,.int .i64 R.vs[k].held] 193)):=by
       rw[hvb,hm,hcv,hhv];exact HX.c.Q8 _
      have hro1:nG (.slice rsl m rcap) es:=by rw[hm];exact HX.b
      rw[<- hvb,<- hm];rw[<- hm]at hel hr2;clear h0 h1 h2 h3 c0 hrc hgl hvb hbl' hcv hhv;generalize wr.alloc (.cells #[.string ⟨pk.toArray⟩,.int .i64 nk,.slice csl cl ccap,.int .i64 R.vs[k].held] 193)=w1 at hT1 ⊢;obtain⟨rsl',rcap',e1,-,-,hrc⟩:=pL hT1.sat.tail.left hro1;simp only[Value.slice.injEq]at e1;obtain⟨rfl,-,rfl⟩:=e1;have v0:w1.cell? ⟨vb,0,none⟩=some (.string ⟨pk.toArray⟩):=aa hT1.sat.Q5 0 rfl;have hvl:=ah hT1.sat.Q5;have hnx:go pre (R.vs.take (k+1))=mA (eI es pk) nk cl:=by rw[HX.a,hpx2];rfl
      have hnn:∀e∈es,0<=e.n/\e.n<=k:=HX.d;have hk100:k<=100000:=by omega
      have H1:=Hq5 hT1 hro1 hnx hnn hm;clear hT1 hro1 hnx hnn hpx2 hpx hpq
      have happ:∀(v':Value) (W:World),nG v' (es++[⟨pk,0,0,0⟩])->Turns [] (eN v' (es++[⟨pk,0,0,0⟩])++((vb,Is (vcO pk nk cv hv))::J)) w W->∃g2 cap2,v'=.slice (some ⟨g2,0,none⟩) (m+1) cap2/\Turns [] ((vb,Is (vcO pk nk cv hv))::(eN (.slice (some ⟨g2,0,none⟩) (m+1) cap2) (es++[⟨pk,0,0,0⟩])++J)) w W:=by
       intro v' W h1 h2;obtain⟨sl2,cap2,e1,e2,e3,e4⟩:=pL h2.sat.left h1;obtain⟨g2,hg2,-⟩:=e4 (by simp);have e5:(es++[(⟨pk,0,0,0⟩:EntL)]).length=m+1:=by simp[H1.w]
       rw[e5,hg2]at e1;subst e1;exact⟨g2,cap2,rfl,h2.to af⟩
      have HAPP:=qqH happ;clear happ hm;rcases List.eq_nil_or_concat es with rfl|⟨es0,e,hes⟩
      ·have hm0:m=0:=H1.w;subst hm0;have hfin:go pre (R.vs.take (k+1))=[]++[⟨pk,nk,cl,0+1⟩]:=by rw[H1.c];rfl
       have HF:=qqH hfin;clear hfin hrc;go_upto_region 10 with(fail);go_quiet (fail);have hT2:=H1.a.drewN nq;have v0:(w1.drewN nq).cell? ⟨vb,0,none⟩=some (.string ⟨pk.toArray⟩):=aa hT2.sat.Q5 0 rfl;have hvl:=ah hT2.sat.Q5;generalize w1.drewN nq=w2 at hT2 v0 hvl ⊢;have H2:=qqH hT2;clear hT2;go_upto_region 12 with((at_builtin;refine al rfl ?_;refine rj (.tmp 60) (.tmp 64) rfl _ [] rfl ((H2.out.to (H:=eN (.slice rsl 0 rcap) []++((vb,Is (vcO pk nk cv hv))::J)) af).alloc _) H1.b _ rfl ⟨pk,0,0,0⟩ (aM _ _) (by simp) ?_;intro v2 w3 hok3 hT3;have H3:=Hq2 hok3 (HAPP.out v2 w3 hok3 hT3);clear hok3 hT3));obtain⟨hok3,g3,cap3,rfl,hT3⟩:=H3.out;have HS:=Hq4 hT3 hok3 (show([]:List EntL).length=0 from rfl) (show((0:Int)+1<=9223372036854775807/\(0:Int)<=0) by omega);clear hok3 hT3 v0 H3;go_upto_region 13 with(fail);obtain⟨k0,k1,k2,k3,k4,k5,k6,k7,k8,-⟩:=jy HS.a HS.b HS.c;have hne:=HS.x;have hwn:wrap64 (0+1)=0+1:=by rw[IntWalk.wrap64_in _ (by omega)]
       clear k0 k5 hne
       go_wp2_with (first
        | (refine al rfl (iZ (G:=(vb,Is (vcO pk nk cv hv))::J) 3 (.tmp 74) (.tmp 72) rfl (0) g3 cap3 [] _ ⟨pk,nk,0,0⟩ HS.c (HS.a.to af) HS.b 1 (by omega) (.int .i64 nk) rfl rfl (by kernel_rfl) rfl rfl rfl ?_);intro w13 hok13 hT13;have hT13':=hT13.to (H:=(vb,Is (vcO pk nk cv hv))::(eN (.slice (some ⟨g3,0,none⟩) (0+1) cap3) ([]++[⟨pk,nk,0,0⟩])++J)) af;obtain⟨-,-,m2,m3,m4,-,m6,-,-,-⟩:=jy hT13' hok13 HS.c;rw[HV.a]at m2;have H13:=Hq2 hT13' hok13;clear hok13 hT13 hT13';simp only[Act.put])
        | (refine al rfl (iZ (G:=(vb,Is (vcO pk nk cv hv))::J) 3 (.tmp 82) (.tmp 80) rfl (0) g3 cap3 [] _ ⟨pk,nk,cl,0⟩ HS.c (H13.a.to af) H13.z 2 (by omega) (.int .i64 cl) rfl rfl (by kernel_rfl) rfl rfl rfl ?_);intro w14 hok14 hT14;have hT14':=hT14.to (H:=(vb,Is (vcO pk nk cv hv))::(eN (.slice (some ⟨g3,0,none⟩) (0+1) cap3) ([]++[⟨pk,nk,cl,0⟩])++J)) af;obtain⟨-,-,p2,p3,p4,-,p6,-,-,p7⟩:=jy hT14' hok14 HS.c;have H14:=Hq2 hT14' hok14;clear hok14 hT14 hT14' p2;simp only[Act.put])
        | (refine al rfl (iZ (G:=(vb,Is (vcO pk nk cv hv))::J) 3 (.tmp 91) (.tmp 89) rfl (0) g3 cap3 [] _ ⟨pk,nk,cl,0+1⟩ HS.c (H14.a.to af) H14.z 3 (by omega) (.int .i64 (0+1)) rfl rfl (by kernel_rfl) rfl rfl rfl ?_);intro w15 hok15 hT15;have H15:=Hq2 (hT15.to (H:=eN (.slice (some ⟨g3,0,none⟩) (0+1) cap3) ([]++[⟨pk,nk,cl,0+1⟩])++((vb,Is (vcO pk nk cv hv))::J)) af) hok15;clear hok15 hT15;simp only[Act.put]))
       go_roundw
       case rel=>exact⟨k+1,_,by omega,by go_num,by rw[HF.out];exact H15.z,by rw[HF.out];exact H15.a⟩
       case measure=>simp[intOf];omega
      ·obtain⟨z,hz⟩:∃z,z=es0.length:=⟨_,rfl⟩;rw[List.concat_eq_append]at hes;subst hes;have hmz:m=z+1:=by rw[H1.w,hz];simp
       obtain⟨g2,hg2,hgl2,hc⟩:=hrc (by simp);subst hg2;obtain⟨r0,r1,r2,r3⟩:=hc z (by simp;omega);have hze:(es0++[e])[z]'(by simp;omega)=e:=by subst hz;simp
       rw[hze]at r0 r3;have hne:0<=e.n/\e.n<=k:=H1.d e (by simp);obtain⟨ep,el,es_,en⟩:=e;have HZ:=Hq2 hz.symm hne;clear hc r1 r2 r3 hze hz hne;have hgl:=hgl2;by_cases hep:ep=pk
       ·subst hep;subst hmz
        have hfin:go pre (R.vs.take (k+1))=es0++[⟨ep,nk,cl,en+1⟩]:=by
         rw[H1.c];have:eI (es0++[(⟨ep,el,es_,en⟩:EntL)]) ep=es0++[⟨ep,el,es_,en⟩]:=by unfold eI;rw[if_pos (by simp)]
         rw[this,ko]
        have HF:=qqH hfin;have hw1:wrap64 ((z:Int)+1-1)=(z:Int):=by rw[IntWalk.wrap64_in _ (by omega)];omega
        have hz0:((z:Int)+1==0)=false:=by simp;omega
        clear hfin;go_upto_region 10 with(fail);go_quiet (fail);have hT2:=H1.a.drewN nq;have v0:(w1.drewN nq).cell? ⟨vb,0,none⟩=some (.string ⟨ep.toArray⟩):=aa hT2.sat.Q5 0 rfl;have hvl:=ah hT2.sat.Q5;generalize w1.drewN nq=w2 at hT2 v0 hvl ⊢;have H2:=qqH hT2;clear hT2;have hT2':=H2.out;have HS:=Hq4 hT2' H1.b HZ.a (show(en+1<=9223372036854775807/\(0:Int)<=en) by have h9:0<=en/\en<=(k:Int):=HZ.z;omega);clear hT2' r0 v0 hz0;go_upto_region 13 with(fail);obtain⟨k0,k1,k2,k3,k4,k5,k6,k7,k8,-⟩:=jy HS.a HS.b HS.c;have hne:=HS.x;have hwn:wrap64 (en+1)=en+1:=by rw[IntWalk.wrap64_in _ (by omega)]
        clear k0 k5 hne
        go_wp2_with (first
         | (refine al rfl (iZ (G:=(vb,Is (vcO ep nk cv hv))::J) 3 (.tmp 74) (.tmp 72) rfl (z) g2 rcap es0 _ ⟨ep,nk,es_,en⟩ HS.c (HS.a.to af) HS.b 1 (by omega) (.int .i64 nk) rfl rfl (by kernel_rfl) rfl rfl rfl ?_);intro w13 hok13 hT13;have hT13':=hT13.to (H:=(vb,Is (vcO ep nk cv hv))::(eN (.slice (some ⟨g2,0,none⟩) (z+1) rcap) (es0++[⟨ep,nk,es_,en⟩])++J)) af;obtain⟨-,-,m2,m3,m4,-,m6,-,-,-⟩:=jy hT13' hok13 HS.c;rw[HV.a]at m2;have H13:=Hq2 hT13' hok13;clear hok13 hT13 hT13';simp only[Act.put])
         | (refine al rfl (iZ (G:=(vb,Is (vcO ep nk cv hv))::J) 3 (.tmp 82) (.tmp 80) rfl (z) g2 rcap es0 _ ⟨ep,nk,cl,en⟩ HS.c (H13.a.to af) H13.z 2 (by omega) (.int .i64 cl) rfl rfl (by kernel_rfl) rfl rfl rfl ?_);intro w14 hok14 hT14;have hT14':=hT14.to (H:=(vb,Is (vcO ep nk cv hv))::(eN (.slice (some ⟨g2,0,none⟩) (z+1) rcap) (es0++[⟨ep,nk,cl,en⟩])++J)) af;obtain⟨-,-,p2,p3,p4,-,p6,-,-,p7⟩:=jy hT14' hok14 HS.c;have H14:=Hq2 hT14' hok14;clear hok14 hT14 hT14' p2;simp only[Act.put]))
        go_roundw
        case rel=>have HR:=G0 (G:=(vb,Is (vcO ep nk cv hv))::J) (z) g2 rcap es0 ⟨ep,nk,cl,en⟩ ⟨ep,nk,cl,en+1⟩ HS.c (H14.a.to af) H14.z 3 (by omega) (.int .i64 (en+1)) rfl;exact⟨k+1,_,by omega,by go_num,by rw[HF.out];exact HR.1,by rw[HF.out];exact HR.2⟩
        case measure=>simp[intOf];omega
       ·have hfin:go pre (R.vs.take (k+1))=es0++[⟨ep,el,es_,en⟩]++[⟨pk,nk,cl,0+1⟩]:=by
         rw[H1.c];have:eI (es0++[(⟨ep,el,es_,en⟩:EntL)]) pk=es0++[⟨ep,el,es_,en⟩]++[⟨pk,0,0,0⟩]:=by unfold eI;rw[if_neg (by simp[hep])]
         rw[this,ko]
        have HF:=qqH hfin;subst hmz;have hw0:wrap64 ((z:Int)+1-1)=(z:Int):=by rw[IntWalk.wrap64_in _ (by omega)];omega
        have hz0:((z:Int)+1==0)=false:=by simp;omega
        have hepq:(ep==pk)=false:=by simp[hep]
        have hel2:(es0++[(⟨ep,el,es_,en⟩:EntL)]).length<=1000000:=by simp;have:=HZ.a;omega
        have HE2:=qqH hel2;obtain⟨esx,hesx⟩:∃esx,esx=es0++[(⟨ep,el,es_,en⟩:EntL)]:=⟨_,rfl⟩;rw[<- hesx]at H1 HAPP HF HE2;clear hfin hel2 hesx;go_upto_region 10 with(fail);go_quiet (fail);have hT2:=H1.a.drewN nq;have v0:(w1.drewN nq).cell? ⟨vb,0,none⟩=some (.string ⟨pk.toArray⟩):=aa hT2.sat.Q5 0 rfl;have hvl:=ah hT2.sat.Q5;generalize w1.drewN nq=w2 at hT2 v0 hvl ⊢;have H2:=qqH hT2;clear hT2;obtain⟨m,hm⟩:∃m,m=z+1:=⟨_,rfl⟩;have e1:(z:Int)+1=(m:Int):=by omega
        rw[<- hm]at H1 HAPP H2 hel hr2;rw[<- hm];simp only[e1];have hw1:wrap64 ((m:Int)+1-1)=(m:Int):=by rw[IntWalk.wrap64_in _ (by omega)];omega
        clear e1 hm hw0 hz0 hepq r0;go_upto_region 12 with((at_builtin;refine al rfl ?_;refine rj (.tmp 60) (.tmp 64) rfl _ esx rfl ((H2.out.to (H:=eN (.slice (some ⟨g2,0,none⟩) m rcap) esx++((vb,Is (vcO pk nk cv hv))::J)) af).alloc _) H1.b _ rfl ⟨pk,0,0,0⟩ (aM _ _) (HE2.out) ?_;intro v2 w3 hok3 hT3;have H3:=Hq2 hok3 (HAPP.out v2 w3 hok3 hT3);clear hok3 hT3));obtain⟨hok3,g3,cap3,rfl,hT3⟩:=H3.out;have HS:=Hq4 hT3 hok3 H1.w.symm (show((0:Int)+1<=9223372036854775807/\(0:Int)<=0) by omega);clear hok3 hT3 v0 H3;go_upto_region 13 with(fail);obtain⟨k0,k1,k2,k3,k4,k5,k6,k7,k8,-⟩:=jy HS.a HS.b HS.c;have hne:=HS.x;have hwn:wrap64 (0+1)=0+1:=by rw[IntWalk.wrap64_in _ (by omega)]
        clear k0 k5 hne
        go_wp2_with (first
         | (refine al rfl (iZ (G:=(vb,Is (vcO pk nk cv hv))::J) 3 (.tmp 74) (.tmp 72) rfl (m) g3 cap3 esx _ ⟨pk,nk,0,0⟩ HS.c (HS.a.to af) HS.b 1 (by omega) (.int .i64 nk) rfl rfl (by kernel_rfl) rfl rfl rfl ?_);intro w13 hok13 hT13;have hT13':=hT13.to (H:=(vb,Is (vcO pk nk cv hv))::(eN (.slice (some ⟨g3,0,none⟩) (m+1) cap3) (esx++[⟨pk,nk,0,0⟩])++J)) af;obtain⟨-,-,m2,m3,m4,-,m6,-,-,-⟩:=jy hT13' hok13 HS.c;rw[HV.a]at m2;have H13:=Hq2 hT13' hok13;clear hok13 hT13 hT13';simp only[Act.put])
         | (refine al rfl (iZ (G:=(vb,Is (vcO pk nk cv hv))::J) 3 (.tmp 82) (.tmp 80) rfl (m) g3 cap3 esx _ ⟨pk,nk,cl,0⟩ HS.c (H13.a.to af) H13.z 2 (by omega) (.int .i64 cl) rfl rfl (by kernel_rfl) rfl rfl rfl ?_);intro w14 hok14 hT14;have hT14':=hT14.to (H:=(vb,Is (vcO pk nk cv hv))::(eN (.slice (some ⟨g3,0,none⟩) (m+1) cap3) (esx++[⟨pk,nk,cl,0⟩])++J)) af;obtain⟨-,-,p2,p3,p4,-,p6,-,-,p7⟩:=jy hT14' hok14 HS.c;have H14:=Hq2 hT14' hok14;clear hok14 hT14 hT14' p2;simp only[Act.put]))
        go_roundw
        case rel=>have HR:=G0 (G:=(vb,Is (vcO pk nk cv hv))::J) (m) g3 cap3 esx ⟨pk,nk,cl,0⟩ ⟨pk,nk,cl,0+1⟩ HS.c (H14.a.to af) H14.z 3 (by omega) (.int .i64 1) rfl;exact⟨k+1,_,by omega,by go_num,by rw[HF.out];exact HR.1,by rw[HF.out];exact HR.2⟩
        case measure=>simp[intOf];omega
     ·have hfin:go pre (R.vs.take (k+1))=es:=by rw[HX.a,zK (by omega),decide_eq_false hpx];rfl
      have hpq:(((ByteArray.mk pk.toArray).extract 0 pre.length).toList==pre)=false:=by rw[y8];simp[hpx]
      have HF:=qqH hfin;clear hfin hrc;go_wp2_with fail;go_roundw
      case rel=>exact⟨k+1,J,by omega,by go_num,by rw[HF.out];exact HX.b,by rw[HF.out];exact HX.c.alloc _⟩
      case measure=>simp[intOf];omega
   ·obtain rfl:k=R.vs.length:=by omega
    clear hcell;rw[List.take_length]at hro hT;have HX:=Hq2 hro hT;clear hro hT;go_wp2_with fail;exact bodyPost_ret (results_tmp2 rfl _ _ _) rfl (.inr ⟨HC.out,u6,rfl,HX.a,HX.z.drop (fun x=>by simp only[an];omega)⟩)
def dA(K:List (Bs×Nat×Nat))(q:Nat×Nat):Bs:=((K.find? (fun e=>decide (e.2=q))).map (·.1)).getD []
def dG(S:AS)(V:VerL):Bs:=V.chs.flatMap (dA S.K)
theorem Kf{S:AS}(h:ArOk S){c c':Bs}{q:Nat×Nat}(h1:(c,q)∈S.K)(h2:(c',q)∈S.K):c=c' :=
 mp ((h.kat _ h1).2.Qe h.dat) ((h.kat _ h2).2.Qe h.dat) ((h.kat _ h1).1.symm.trans (h.kat _ h2).1)
theorem C5{S:AS}(h:ArOk S){c:Bs}{q:Nat×Nat}(hq:(c,q)∈S.K):dA S.K q=c:=by
 unfold dA
 cases hf:S.K.find? (fun e=>decide (e.2=q))with
 | none=>rw[List.find?_eq_none]at hf;exact absurd (by simp) (hf _ hq)
 | some e =>
  have h1:=List.mem_of_find?_eq_some hf;have h2:e.2=q:=by simpa using List.find?_some hf
  have h3:(e.1,q)∈S.K:=by rw[<- h2];exact h1
  simpa using Kf h h3 hq
theorem pX{S:AS}{l:Bs}{n:Int}{V:VerL}(hf:ik (ai S.ps l) n=some V):∃p∈S.ps,p.key=l/\V∈p.g:=by
 have key:∀(l:List VerL),ik l n=some V->V∈l:=by
  intro l;induction l with
  | nil=>intro h;simp[ik]at h
  | cons v r ih =>
   intro h;unfold ik at h;split at h
   ·simp only[Option.some.injEq]at h;subst h;simp
   ·exact List.mem_cons_of_mem _ (ih h)
 have hm:=key _ hf;unfold ai gOf at hm
 cases hg:S.ps.find? (fun p=>decide (p.key=l))with
 | none=>rw[hg]at hm;simp at hm
 | some p=>rw[hg]at hm;exact⟨p,List.mem_of_find?_eq_some hg,by simpa using List.find?_some hg,hm⟩
theorem Gl{S:AS}(h:ArOk S){p:bl}(hp:p∈S.ps){V:VerL}(hV:V∈p.g){q:Nat×Nat}(hq:q∈V.chs):(dA S.K q,q)∈S.K:=by
 obtain⟨e,he,rfl⟩:=(h.vers p hp V hV).1 q hq;have:=C5 h (c:=e.1) (q:=e.2) he;rw[this];exact he
theorem kV{S:AS}(h:ArOk S){p:bl}(hp:p∈S.ps){V:VerL}(hV:V∈p.g):(dG S V).length=V.size:=by
 rw[(h.vers p hp V hV).2]
 have key:∀l:List (Nat×Nat),(∀q∈l,(dA S.K q,q)∈S.K)->(l.flatMap (dA S.K)).length=(l.map (·.2)).sum:=by
  intro l;induction l with
  | nil=>intro _;rfl
  | cons q r ih =>
   intro hq;rw[List.flatMap_cons,List.length_append,ih (fun x hx=>hq x (by simp[hx])),List.map_cons,List.sum_cons,(h.kat _ (hq q (by simp))).1]
 exact key _ (fun q hq=>Gl h hp hV hq)
def i5(S:AS)(l:Bs)(n:Int)(k:Int):Prop :=
 (S.X.closed=true/\k=9)\/(S.X.closed=false/\aA l=false/\k=1)\/(S.X.closed=false/\aA l=true/\ik (ai S.ps l) n=none/\k=3)
def iB(S:AS)(l:Bs)(n:Int)(V:VerL):Prop:=S.X.closed=false/\aA l=true/\ik (ai S.ps l) n=some V
theorem iK{S:AS}{l:Bs}{n:Int}{w w':World}{e:Ending}(h:xZ S.X S.ps l n w e w'):
  aX w w'/\((∃k,i5 S l n k/\e=.returned (.tuple #[.pointer none,cC k]))\/(∃V,iB S l n V/\e=.returned (.tuple #[dz V,.nilIface]))):=by
 obtain⟨he,hs⟩:=h;refine⟨hs,?_⟩
 cases hc:S.X.closed with
 | true=>rw[hc,if_pos rfl]at he;exact .inl ⟨9,.inl ⟨hc,rfl⟩,he⟩
 | false =>
  rw[hc,if_neg (by simp)]at he
  cases hp:aA l with
  | false=>rw[hp,if_neg (by simp)]at he;exact .inl ⟨1,.inr (.inl ⟨hc,hp,rfl⟩),he⟩
  | true =>
   rw[hp,if_pos rfl]at he
   cases hf:ik (ai S.ps l) n with
   | none=>rw[hf]at he;exact .inl ⟨3,.inr (.inr ⟨hc,hp,hf,rfl⟩),he⟩
   | some V=>rw[hf]at he;exact .inr ⟨V,⟨hc,hp,hf⟩,he⟩
def Hv(S:AS)(l:Bs)(n:Int)(w:World)(e:Ending)(w':World):Prop :=
 (∃k,i5 S l n k/\e=.returned (.tuple #[.slice none 0 0,cC k])/\Turns (arF S) (arF S) w w') \/
 (∃V v sp,iB S l n V/\e=.returned (.tuple #[v,.nilIface])/\bOk v (dG S V)/\AreaOk { S.A with spare:=sp }/\Turns (arF S) (aK v (dG S V)++arF { S with A:={ S.A with spare:=sp } }) w w')
theorem ww{S:AS}(hok:ArOk S){p:bl}(hp:p∈S.ps){V:VerL}(hV:V∈p.g){sl:Option Addr}{n cap:Nat}(hcv:V.cv=.slice sl n cap){W:World}(hs:Sat W (aU S.X.pm S.ps S.pc)):W.heap[V.blk]?=some (dy V)/\ak W sl (cV V.chs):=by
 have hps:Sat W (er p.val p.g):=Sat.flat (f:=fun p:bl=>er p.val p.g) hs.tail hp;have hvf:Sat W (bT V):=Sat.flat (f:=bT) hps.right hV;obtain⟨sl2,cap2,h1,_,_,h4⟩:=gW hvf.tail ((hok.paths.rows p hp).2 V hV);rw[hcv]at h1;simp only[Value.slice.injEq]at h1;obtain⟨rfl,_,_⟩:=h1;exact⟨hvf.Q5,h4⟩
def Jy(S:AS)(V:VerL)(w:World)(out i:Value)(W:World):Prop :=
 ∃(j:Nat) (sp:List (Nat×Nat×Nat)) (J:HF),j<=V.chs.length/\i=.int .i64 j/\bOk out ((V.chs.take j).flatMap (dA S.K))/\AreaOk { S.A with spare:=sp }/\Turns (arF S) (aK out ((V.chs.take j).flatMap (dA S.K))++(arF { S with A:={ S.A with spare:=sp } }++J)) w W
theorem DK(S:AS)(l:Bs)(n:Int)(b:Nat)(w:World)(h:Sat w (arF S))(hok:ArOk S)(hB:ArB S b)(hb:b<=90000)(_:l.length<=9223372036854775807):
  Calls Tryz.prog 27 #[.pointer (some ⟨S.a,0,none⟩),str l,.int .i64 n] w (Hv S l n w):=by
 have HF:=qqH (iJ S.a S.X S.ps S.pc l n w h.Q5 (h.tail.right.right.left) hok.paths);have HH:=Hq4 h hok hB hb;clear h hok hB hb;go_enter Tryz.func27,Tryz.ntmps27;go_wp2_with fail;refine HF.out.mono ?_;intro e w1 hp;obtain⟨hs,⟨k,hk,rfl⟩|⟨V,hV,rfl⟩⟩:=iK hp
 ·have HK:=Hq2 hk hs;clear hp hs hk;unfold cC;go_wp2_with fail;refine bodyPost_ret (results_tmp2 rfl _ _ _) rfl (.inl ⟨k,HK.a,rfl,(Turns.same HH.a HK.z)⟩)
 ·obtain⟨p,hpm,hpk,hVp⟩:=pX hV.2.2;have hT1:Turns (arF S) (arF S) w w1:=Turns.same HH.a hs;have hps:Sat w1 (er p.val p.g):=Sat.flat (f:=fun p:bl=>er p.val p.g) (hT1.sat.tail.right.right.left).tail hpm;have hvf:Sat w1 (bT V):=Sat.flat (f:=bT) hps.right hVp;have hpo:bQ V.cv V.chs:=(HH.b.paths.rows p hpm).2 V hVp;obtain⟨sl,cap,hcv,e2,e3,hcell⟩:=gW hvf.tail hpo;have v2:w1.cell? ⟨V.blk,2,none⟩=some (.slice sl V.chs.length cap):=by rw[<- hcv];exact aa hvf.Q5 2 rfl
  have hvl:=ah hvf.Q5
  have hcl:V.chs.length<=90000:=by
   have h1:=((HH.c.vers p hpm).2.2 V hVp).2.1;have:=HH.x;omega
  have HV:=Hq7 hV hpm hVp hT1 hcell hpo hcv;clear hp hs hV hpm hpk hVp hT1 hps hvf hpo hcv hcell;unfold dz;go_wp2_with fail;go_loopw [10,30] (fun out i wr=>Jy S V w out i wr) (fun _ i _=>V.chs.length-(intOf i).toNat)
  case atStart=>exact⟨0,S.A.spare,[],Nat.zero_le _,rfl,fA,HH.b.area,by rw[List.append_nil];exact HV.d⟩
  case round =>
   obtain⟨j,sp,J,hj,rfl,hbo,hAo,hT⟩:=hrel;have HR:=Hq3 hbo hAo hT;clear hbo hAo hT;by_cases hlt:j<V.chs.length
   ·obtain⟨hver,hcells⟩:=ww HH.b HV.b HV.c HV.u (W:=wr) (HR.y.sat.sub (fun x=>by simp only[arF,aB,an]<;>omega));obtain⟨g,off,hg,hcell⟩:=hcells (by rw[fO];omega);subst hg;obtain⟨hc1,hc2⟩:=pJ hcell hlt;obtain⟨q,hq⟩:∃q,q=V.chs[j]:=⟨_,rfl⟩;rw[<- hq]at hc1 hc2;have hbK:=Gl HH.b HV.b HV.c (q:=q) (by rw[hq];exact List.getElem_mem hlt);obtain⟨bo,hbo⟩:∃bo,bo=dA S.K q:=⟨_,rfl⟩;rw[<- hbo]at hbK;have hq2:q.2=bo.length:=(HH.b.kat _ hbK).1;have hbody:=(HH.b.kat _ hbK).2.Qe HH.b.dat
    have htk:(V.chs.take (j+1)).flatMap (dA S.K)=(V.chs.take j).flatMap (dA S.K)++bo:=by
     rw[List.take_succ_eq_append_getElem hlt,List.flatMap_append,hbo,hq];simp
    have hlen:((V.chs.take j).flatMap (dA S.K)).length+bo.length<=137438953472:=by
     have h1:((V.chs.take (j+1)).flatMap (dA S.K)).length<=(dG S V).length:=by
      unfold dG;conv=>rhs;rw[<- List.take_append_drop (j+1) V.chs,List.flatMap_append,List.length_append]
      omega
     rw[kV HH.b HV.b HV.c,htk,List.length_append]at h1;have h2:=((HH.c.vers p HV.b).2.2 V HV.c).2.2.1;have:=HH.x;omega
    obtain⟨B8,hB8⟩:∃B8,B8=wr.heap.size:=⟨_,rfl⟩;obtain⟨bs,hbs⟩:∃bs,bs=(V.chs.take j).flatMap (dA S.K):=⟨_,rfl⟩;rw[<- hbs]at htk hlen HR
    have hT8:Turns (arF S) (ay S.X.ab S.X.d { S.A with spare:=sp }++((B8,Is (aJ q))::(aK u10 bs++((S.a,Is (aO S.X))::(aE S.X.d S.L++(aU S.X.pm S.ps S.pc++(dm S.X.tm S.ts S.tc++(bm S.X.cm S.cs S.cc++J)))))))) w (wr.alloc (aJ q)):=by
     rw[hB8];exact(HR.y.Q8 (aJ q)).to (by unfold arF;exact af)
    have HLd:=qqH (oJ S.a S.X S.X.ab S.X.d rfl { S.A with spare:=sp } S.L q.1 bo _ (wr.alloc (aJ q)) hT8.sat (fun x=>by simp only[aB,an];omega) HH.b.dev HR.b HH.b.fits HH.b.nmax hbody);rw[<- hq2]at HLd;have HQ:=Hq6 hbK hq2 htk hlen hT8 hB8;clear hver hcells hcell hq hbK hbo hq2 hbody htk hlen hT8 hB8 hbs;go_wp2_with fail;refine HLd.out.mono ?_;rintro e w4 ⟨av,cv,sp2,rfl,hok4,hAo4,hT4⟩;have hT5:=HQ.e.trans hT4;obtain⟨av',cv',hev,-,-,hav,-⟩:=aV (dX hT4.sat.left hok4);simp only[Value.slice.injEq,true_and]at hev;obtain⟨rfl,rfl⟩:=hev;rw[<- HQ.v];have hT6:Turns (arF S) (aK u10 bs++(arF { S with A:={ S.A with spare:=sp2 } }++((B8,Is (aJ q))::(aK (.slice av bo.length cv) bo++J)))) w w4:=hT5.to (by unfold arF;exact af);have H4:=Hq3 hAo4 hT6 hav;clear hok4 hAo4 hT4 hT5 hav hT6;go_wp2_with ((refine al rfl (iY (.tmp 43) (.tmp 44) rfl u10 bs rfl H4.b HR.a av bo.length cv rfl bo rfl H4.y HQ.d ?_);intro av2 cv2 w6 hok6 hT6 _));go_roundw
    case rel =>
     refine⟨j+1,sp2,(B8,Is (aJ q))::(aK (.slice av bo.length cv) bo++J),by omega,by go_num,?_,H4.a,?_⟩
     ·rw[HQ.c];rw[List.length_append]at hok6;exact hok6
     ·rw[HQ.c];rw[List.length_append]at hT6;exact hT6
    case measure=>simp[intOf];omega
   ·obtain rfl:j=V.chs.length:=by omega
    rw[List.take_length]at HR;go_wp2_with fail;refine bodyPost_ret (results_tmp2 rfl _ _ _) rfl (.inr ⟨V,u10,sp,HV.a,rfl,HR.a,HR.b,?_⟩);exact HR.y.drop (fun x=>by unfold dG;simp only[an];omega)
end
section
open Go.RowKit
section
def mG(ops:Array Oper)(a0:Act)(k:Nat):Value:=((ops.toList[k]?).bind (·.dst)).elim undef (fun d=>a0.tmps.getD d undef)
def wk(P:Program)(Q:Exit->Act->World->Prop)(ops:Array Oper)(a0:Act)(φ:Nat->Value->Prop)(J:(Nat->Option Value)->World->Prop)(noisy:List Nat)(i:Nat)(o:Oper):Prop :=
 ∀(x:Nat->Value) (s:Nat->Option Value) (w:World),kG φ x s noisy o.after.toList->(∀k v,s k=some v->x k=v)->s i=none->(∀k,noisy.contains k=true->s k=none->x k=mG ops a0 k)->J s w ->
  if Region.wanted o (yielded ops (aw x 0 ops.toList a0).tmps)then
   ∀K:Act->World->Prop,(∀v w',φ i v->J (if noisy.contains i then fy s i v else s) w'->K ((aw x 0 ops.toList a0).put o.dst v) w')->o.wp P (aw x 0 ops.toList a0) w K Q
  else φ i undef/\J (if noisy.contains i then fy s i undef else s) w
def j5(P:Program)(Q:Exit->Act->World->Prop)(ops:Array Oper)(a0:Act)(φ:Nat->Value->Prop)(J:(Nat->Option Value)->World->Prop)(noisy:List Nat):Nat->List Oper->Prop
 | _,[]=>True
 | i,o::r=>wk P Q ops a0 φ J noisy i o/\j5 P Q ops a0 φ J noisy (i+1) r
theorem uP{P:Program}{Q:Exit->Act->World->Prop}{ops:Array Oper}{a0:Act}{φ:Nat->Value->Prop}{J:(Nat->Option Value)->World->Prop}{noisy:List Nat}:
  ∀(l:List Oper) (i:Nat),j5 P Q ops a0 φ J noisy i l->∀(j:Nat) (o:Oper),l[j]?=some o->wk P Q ops a0 φ J noisy (i+j) o:=by
 intro l;induction l with
 | nil=>intro i _ j o h;simp at h
 | cons o' r ih =>
  intro i h j o hj
  cases j with
  | zero=>simp only[List.getElem?_cons_zero,Option.some.injEq]at hj;subst hj;exact h.1
  | succ j=>have:=ih _ h.2 j o (by simpa using hj);rwa [Nat.add_right_comm,Nat.add_assoc]at this
theorem AB{P:Program}{Q:Exit->Act->World->Prop}{ops:Array Oper}{a0:Act}(φ:Nat->Value->Prop)(J:(Nat->Option Value)->World->Prop)(noisy:List Nat)(hok:dB a0.tmps.size 0 ops.toList []=true)(hsteps:j5 P Q ops a0 φ J noisy 0 ops.toList)(hend:∀x w,fF φ x 0 ops.size->J (fun k=>if k<ops.size/\noisy.contains k=true then some (x k)else none) w->Q .normal (aw x 0 ops.toList a0) w):
  ∀(fuel:Nat) (listed:Array Bool) (x:Nat->Value) (w:World),listed.size=ops.size->cX listed=fuel->(∀k,listed.getD k false=true->φ k (x k))->(∀k,listed.getD k false=false->x k=mG ops a0 k)->J (a8 noisy listed x) w ->
   wpAny P .any ops Q fuel listed (aw x 0 ops.toList a0) w:=by
 have hn:=(lA ops.toList 0 [] hok).1
 have fin:∀(listed:Array Bool) (x:Nat->Value) (w:World),listed.size=ops.size->cX listed=0->(∀k,listed.getD k false=true->φ k (x k))->J (a8 noisy listed x) w->Q .normal (aw x 0 ops.toList a0) w:=by
  intro listed x w hs hu hφ hJ
  have hall:∀k,listed.getD k false=true↔k<ops.size:=fun k=>by
   rcases Nat.lt_or_ge k listed.size with h'|h'
   ·have:=ft hu h';simp only[Array.getD_eq_getD_getElem?,Array.getElem?_eq_getElem h',Option.getD_some]at this ⊢;exact⟨fun _=>by omega,fun _=>this⟩
   ·simp only[Array.getD_eq_getD_getElem?,Array.getElem?_eq_none h',Option.getD_none];exact⟨fun h=>Bool.noConfusion h,fun h=>by omega⟩
  refine hend x w (qc _ _ (fun k _ h2=>hφ k ((hall k).2 (by omega)))) ?_
  have e:a8 noisy listed x=fun k=>if k<ops.size/\noisy.contains k=true then some (x k)else none:=by
   funext k;unfold a8;simp only[hall k]
  rw[<- e];exact hJ
 intro fuel;induction fuel with
 | zero =>
  intro listed x w hs hu hφ hin hJ;refine⟨?_,fin listed x w hs hu hφ hJ⟩;apply Classical.byContradiction;intro hne;obtain⟨i,hi⟩:=List.exists_mem_of_ne_nil _ hne;obtain⟨h1,h2,_⟩:=jJ hi;have:=ft hu (i:=i) (by omega);rw[this]at h2;cases h2
 | succ fuel ih =>
  intro listed x w hs hu hφ hin hJ;refine⟨fun hnil=>?_,fun i hi=>?_⟩
  ·obtain⟨i,hi,hl⟩:=lT (listed:=listed) (by omega);exact absurd hnil (tC hok hs (by omega) hl)
  ·obtain⟨h1,h2,o,ho,hdeps⟩:=jJ hi;have hlt:i<listed.size:=by omega
   have hf:listed.getD i false=false:=by
    simp only[Array.getD_eq_getD_getElem?,Array.getElem?_eq_getElem hlt,Option.getD_some]at h2 ⊢;exact h2
   have hol:ops.toList[i]?=some o:=by simpa using ho
   have hst:=uP ops.toList 0 hsteps i o hol;rw[Nat.zero_add]at hst
   have hst:=hst x (a8 noisy listed x) w (qn _ (fun e he hb=>⟨hφ _ (hdeps e he hb),fun hc=>by unfold a8;rw[if_pos ⟨hdeps e he hb,hc⟩]⟩)) (fun k v hk=>by unfold a8 at hk;split at hk<;>simp_all) (by unfold a8;rw[if_neg (by simp[hf])]) (fun k hk hs2=>hin k (by
    unfold a8 at hs2
    cases hl:listed.getD k false with
    | false=>rfl
    | true=>rw[if_pos ⟨hl,hk⟩]at hs2;cases hs2)) hJ
   have hsz':(listed.setIfInBounds i true).size=ops.size:=by simpa using hs
   have hu':cX (listed.setIfInBounds i true)=fuel:=by have:=lU h2;omega
   have next:∀v w',φ i v->J (if noisy.contains i then fy (a8 noisy listed x) i v else a8 noisy listed x) w'->wpAny P .any ops Q fuel (listed.setIfInBounds i true) ((aw x 0 ops.toList a0).put o.dst v) w':=by
    intro v w' hv hJ';rw[sH i v ops.toList 0 a0 o hn (Nat.zero_le _) (by simpa using hol)]
    have hgd:∀k,(listed.setIfInBounds i true).getD k false=if k=i then true else listed.getD k false:=fun k=>by
     simp only[Array.getD_eq_getD_getElem?,Array.getElem?_setIfInBounds];by_cases hk:k=i
     ·subst hk;simp[hlt]
     ·rw[if_neg (Ne.symm hk),if_neg hk]
    refine ih _ _ w' hsz' hu' (fun k hk=>?_) (fun k hk=>?_) ?_
    ·rw[hgd k]at hk;by_cases hki:k=i
     ·subst hki;rw[if_pos rfl];exact hv
     ·rw[if_neg hki]at hk ⊢;exact hφ k hk
    ·rw[hgd k]at hk;by_cases hki:k=i
     ·rw[if_pos hki]at hk;cases hk
     ·rw[if_neg hki]at hk ⊢;exact hin k hk
    ·have e:a8 noisy (listed.setIfInBounds i true) (fun j=>if j=i then v else x j)=(if noisy.contains i then fy (a8 noisy listed x) i v else a8 noisy listed x):=by
      funext k;unfold a8;rw[hgd k];by_cases hki:k=i
      ·subst hki
       cases hc:noisy.contains k with
       | true=>simp only[and_self,fy,↓reduceIte]
       | false=>simp only[Bool.false_eq_true,and_false,↓reduceIte,hc]
      ·simp only[if_neg hki]
       cases hc:noisy.contains i with
       | true=>simp only[fy,if_neg hki,↓reduceIte]
       | false=>simp only[Bool.false_eq_true,↓reduceIte]
     rw[e];exact hJ'
   unfold wpOp;rw[ho];simp only;split
   ·rename_i hw;rw[if_pos hw]at hst;exact .inl (hst _ next)
   ·rename_i hw;rw[if_neg hw]at hst;exact next undef w hst.1 hst.2
theorem qe{P:Program}{Q:Exit->Act->World->Prop}{ops:Array Oper}{a0:Act}{w:World}(φ:Nat->Value->Prop)(J:(Nat->Option Value)->World->Prop)(noisy:List Nat)(hok:dB a0.tmps.size 0 ops.toList []=true)(h0:J (fun _=>none) w.drew)(hsteps:j5 P Q ops a0 φ J noisy 0 ops.toList)(hend:∀x w,fF φ x 0 ops.size->J (fun k=>if k<ops.size/\noisy.contains k=true then some (x k)else none) w->Q .normal (aw x 0 ops.toList a0) w):
  wpAny P .any ops Q ops.size (Array.replicate ops.size false) a0 w.drew:=by
 have hx:∃x:Nat->Value,(∀k,x k=mG ops a0 k)/\aw x 0 ops.toList a0=a0:=by
  have key:∀(l:List Oper) (k:Nat) (x:Nat->Value),(∀j o d,l[j]?=some o->o.dst=some d->d<a0.tmps.size->x (k+j)=a0.tmps.getD d undef)->aw x k l a0=a0:=by
   intro l;induction l with
   | nil=>intro k x _;rfl
   | cons o r ih =>
    intro k x h;simp only[aw]
    have e:a0.put o.dst (x k)=a0:=by
     cases hd:o.dst with
     | none=>rfl
     | some d =>
      simp only[Act.put];by_cases hlt:d<a0.tmps.size
      ·have:=h 0 o d (by simp) hd hlt;rw[Nat.add_zero]at this;rw[this];obtain⟨t,df⟩:=a0;simp only[Act.mk.injEq,and_true];have hlt':d<t.size:=hlt;apply Array.ext_getElem?;intro j;rw[Array.getElem?_setIfInBounds];by_cases hj:d=j
       ·subst hj;simp[hlt']
       ·rw[if_neg hj]
      ·obtain⟨t,df⟩:=a0;simp only[Act.mk.injEq,and_true];have hle:t.size<=d:=Nat.le_of_not_lt hlt;exact Array.setIfInBounds_eq_of_size_le hle
    rw[e];exact ih (k+1) x (fun j o' d hj hd hl=>by have:=h (j+1) o' d (by simpa using hj) hd hl;rwa [show k+(j+1)=k+1+j by omega]at this)
  refine⟨fun j=>mG ops a0 j,fun _=>rfl,key ops.toList 0 _ (fun j o d hj hd _=>?_)⟩;unfold mG;simp[hj,hd]<;>simp_all
 obtain⟨x,hin,hx⟩:=hx
 have h:=AB (P:=P) (Q:=Q) φ J noisy hok hsteps hend ops.size (Array.replicate ops.size false) x w.drew (by simp) (j7 _) (fun k hk=>by
   simp only[Array.getD_eq_getD_getElem?,Array.getElem?_replicate]at hk;split at hk<;>simp at hk) (fun k _=>hin k) (by
   have e:a8 noisy (Array.replicate ops.size false) x=fun _=>none:=by
    funext k;unfold a8;rw[if_neg];simp only[Array.getD_eq_getD_getElem?,Array.getElem?_replicate];split<;>simp
   rw[e];exact h0)
 rw[hx]at h;exact h
variable {P:Program} {Q:Exit->Act->World->Prop} {ops:Array Oper} {a0:Act} {A:(Nat->Value)->Act} {φ:Nat->Value->Prop} {J:(Nat->Option Value)->World->Prop} {noisy:List Nat}
def nj(P:Program)(Q:Exit->Act->World->Prop)(ops:Array Oper)(a0:Act)(A:(Nat->Value)->Act)(φ:Nat->Value->Prop)(J:(Nat->Option Value)->World->Prop)(noisy:List Nat)(i:Nat)(o:Oper):Prop :=
 ∀(x:Nat->Value) (s:Nat->Option Value) (w:World),kG φ x s noisy o.after.toList->(∀k v,s k=some v->x k=v)->s i=none->(∀k,noisy.contains k=true->s k=none->x k=mG ops a0 k)->J s w ->
  if Region.wanted o (yielded ops (A x).tmps)then
   ∀K:Act->World->Prop,(∀v w',φ i v->J (if noisy.contains i then fy s i v else s) w'->K ((A x).put o.dst v) w')->o.wp P (A x) w K Q
  else φ i undef/\J (if noisy.contains i then fy s i undef else s) w
def ox(P:Program)(Q:Exit->Act->World->Prop)(ops:Array Oper)(a0:Act)(A:(Nat->Value)->Act)(φ:Nat->Value->Prop)(J:(Nat->Option Value)->World->Prop)(noisy:List Nat):Nat->List Oper->Prop
 | _,[]=>True
 | i,o::r=>nj P Q ops a0 A φ J noisy i o/\ox P Q ops a0 A φ J noisy (i+1) r
theorem kX(hA:∀x,aw x 0 ops.toList a0=A x):∀(l:List Oper) (i:Nat),ox P Q ops a0 A φ J noisy i l->j5 P Q ops a0 φ J noisy i l
 | [],_,_=>trivial
 | o::r,i,h=>by
  refine⟨fun x=>?_,kX hA r (i+1) h.2⟩
  rw[hA x]
  exact h.1 x
theorem rF{id:Nat}{w:World}(A:(Nat->Value)->Act)(hA:∀x,aw x 0 ops.toList a0=A x)(hm:P.follows .mixedOrders=true)(φ:Nat->Value->Prop)(J:(Nat->Option Value)->World->Prop)(noisy:List Nat)(hok:dB a0.tmps.size 0 ops.toList []=true)(h0:J (fun _=>none) w.drew)(hsteps:ox P Q ops a0 A φ J noisy 0 ops.toList)(hend:∀x w,fF φ x 0 ops.size->J (fun k=>if k<ops.size/\noisy.contains k=true then some (x k)else none) w->Q .normal (A x) w):
  (Code.region id ops true).wp P Q a0 w :=
 wp_region_any hm (qe φ J noisy hok h0 (kX hA _ _ hsteps) (fun x w h1 h2=>by rw[hA x];exact hend x w h1 h2))
theorem cZ{i:Nat}{o:Oper}(hi:noisy.contains i=false)(hg:o.guard=none)(h:∀(x:Nat->Value) (s:Nat->Option Value) (w:World),kn φ x o.after.toList->(∀k,noisy.contains k=true->s k=none->x k=mG ops a0 k)->J s w->∀K:Act->World->Prop,(∀v,φ i v->K ((A x).put o.dst v) w)->o.wp P (A x) w K Q):nj P Q ops a0 A φ J noisy i o:=by
 intro x s w hd _ _ hin hJ;rw[if_pos (by simp[Region.wanted,hg])];intro K hK;exact h x s w (gl _ hd).1 hin hJ K (fun v hv=>hK v w hv (by rw[hi];exact hJ))
theorem wY{i:Nat}{o:Oper}(hi:noisy.contains i=true)(hg:o.guard=none)(h:∀(x:Nat->Value) (s:Nat->Option Value) (w:World),kn φ x o.after.toList->(∀k,noisy.contains k=true->s k=none->x k=mG ops a0 k)->s i=none->J s w->∀K:Act->World->Prop,(∀v w',φ i v->J (fy s i v) w'->K ((A x).put o.dst v) w')->o.wp P (A x) w K Q):nj P Q ops a0 A φ J noisy i o:=by
 intro x s w hd _ hsi hin hJ;rw[if_pos (by simp[Region.wanted,hg])];intro K hK;exact h x s w (gl _ hd).1 hin hsi hJ K (fun v w' hv hj=>hK v w' hv (by rw[hi];exact hj))
theorem mx{i:Nat}{o:Oper}(hi:noisy.contains i=true)(hg:o.guard=none)(h:∀(x:Nat->Value) (s:Nat->Option Value) (w:World),kn φ x o.after.toList->(∀e∈o.after.toList,Region.binds .any e=true->noisy.contains e.on=true->s e.on=some (x e.on))->s i=none->J s w->∀K:Act->World->Prop,(∀v w',φ i v->J (fy s i v) w'->K ((A x).put o.dst v) w')->o.wp P (A x) w K Q):nj P Q ops a0 A φ J noisy i o:=by
 intro x s w hd _ hsi _ hJ;rw[if_pos (by simp[Region.wanted,hg])];intro K hK;exact h x s w (gl _ hd).1 (gl _ hd).2 hsi hJ K (fun v w' hv hj=>hK v w' hv (by rw[hi];exact hj))
end
end
section
open Go.RowKit Go.Maps
theorem IK:(Tryz.prog.info? 262).map (fun i=>(i.zero,i.size,i.bytes))=some (some (.agg #[str [],.int .i64 0,.int .i64 0,.int .i64 0]),4,40):=by kernel_rfl
theorem xQ{o:Oper}{a:Act}{w a0:World}{K:Act->World->Prop}{Q:Exit->Act->World->Prop}{F G:HF}(s x:Operand)(hop:o.op=.call { callee:=.builtin .append,args:=#[s,x],argTypes:=#[181,181] })(v:Value)(l:List EntL)(hs:a.eval s=v)(hT:Turns F (dN v l++G) a0 w)(hok:l7 v l)(nb:Nat)(hx:a.eval x=.slice (some ⟨nb,0,none⟩) 1 1)(r:EntL)(hc:w.heap[nb]?=some (.cells (cq r).toArray 262 (0,0)))(hb:l.length<=1000000)(hk:∀v' w',l7 v' (l++[r])->Turns F (dN v' (l++[r])++G) a0 w'->K (a.put o.dst v') w'):o.wp Tryz.prog a w K Q:=by
 obtain⟨i0,hi0,hz1,hz2,hz3⟩:=info_parts IK;refine cY s x 181 262 i0 (.agg #[str [],.int .i64 0,.int .i64 0,.int .i64 0]) 4 40 hop Tryz.underlying181 hi0 hz1 hz2 hz3 rfl (by decide) v l.length (l.flatMap cq) hs hT hok (some ⟨nb,0,none⟩) 1 1 hx (cq r) rfl (fun _=>⟨_,rfl,fun j u hu=>?_⟩) (fun u hu=>Dc [r] u (by simpa using hu)) (by unfold maxLen;omega) (by omega) (fun v' w' h1 h2 h3=>?_)
 ·rw[Addr.add_lit,Nat.zero_add];exact aa hc j (by simpa using hu)
 ·exact hk v' w' (by unfold l7;rw[List.length_append,List.flatMap_append];simpa using h1) (by unfold dN;rw[List.length_append,List.flatMap_append];simpa using h2)
def Bz(nb:Nat)(key:Bs)(U:VerL)(n:Nat):Nat×(Obj->Prop):=(nb,Is (.cells (cq ⟨key,U.num,U.size,n⟩).toArray 262 (0,0)))
structure L9 (F1 Z:HF) (A:World) (es:List EntL) (xv:Value) (key:Bs) (U:VerL) (n:Nat) (s:Nat->Option Value) (W:World):Prop where
 o14:s 14≠none->s 0≠none/\s 13≠none
 o15:s 15≠none->s 14≠none
 a:s 13=none->Turns F1 (dN xv es++((U.blk,Is (dy U))::Z)) A W
 b:∀v,s 13=some v->s 14=none->∃nb:Nat,v=.slice (some ⟨nb,0,none⟩) 1 1/\Turns F1 (Bz nb key U n::(dN xv es++((U.blk,Is (dy U))::Z))) A W
 c:∀v,s 14=some v->∃nb:Nat,l7 v (es++[⟨key,U.num,U.size,n⟩])/\Turns F1 (Bz nb key U n::(dN v (es++[⟨key,U.num,U.size,n⟩])++((U.blk,Is (dy U))::Z))) A W
 d:∀v,s 15=some v->s 14=some v
theorem L9.ver{F1 Z:HF}{A:World}{es:List EntL}{xv:Value}{key:Bs}{U:VerL}{n:Nat}{s:Nat->Option Value}{W:World}(h:L9 F1 Z A es xv key U n s W):W.heap[U.blk]?=some (dy U):=by
 cases h13:s 13 with
 | none=>exact(h.a h13).sat.Q7 (by simp)
 | some v =>
  cases h14:s 14 with
  | none=>obtain⟨nb,-,h1⟩:=h.b v h13 h14;exact h1.sat.Q7 (by simp)
  | some v'=>obtain⟨nb,-,h1⟩:=h.c v' h14;exact h1.sat.Q7 (by simp)
theorem Ko(F1 Z:HF)(A:World)(es:List EntL)(xv:Value)(key:Bs)(sl:Option Addr)(n cap:Nat)(U:VerL){Q:Exit->Act->World->Prop}{w:World}{u0 u1 u2 u3 u4 u5 aS aT ab ad ag aj ar av ax a0 a1 a2 a3 a4 a5 a6 a7 a9 bY bg bj bk bo bs bv bx b0 b1 b2 b3 b4 b6 b7 b9 ca cb cc ch ci cj cl cm cp:Value}{ds:List Deferred}(hT:Turns F1 (dN xv es++((U.blk,Is (dy U))::Z)) A w)(hok:l7 xv es)(hl:es.length<=1000000)(hk:∀(y6 cs ct cu cv cx c0 c1 c2 c3 c4 c5 c6 c7 dO dT:Value) (nb:Nat) (w':World),l7 y6 (es++[⟨key,U.num,U.size,n⟩])->Turns F1 (Bz nb key U n::(dN y6 (es++[⟨key,U.num,U.size,n⟩])++((U.blk,Is (dy U))::Z))) A w'->Q .normal { tmps:=#[u0,u1,u2,u3,u4,u5,y6,str key,.slice sl n cap,.pointer (some ⟨U.blk,0,none⟩),aS,aT,ab,ad,ag,aj,ar,av,ax,a0,a1,a2,a3,a4,a5,a6,a7,a9,bY,bg,bj,bk,bo,bs,bv,cs,ct,cu,cv,cx,c0,c1,c2,c3,c4,c5,c6,c7,dO,dT,cl,cm,cp],defers:=ds } w'):
  (iq 9 Tryz.f88).wp Tryz.prog Q { tmps:=#[u0,u1,u2,u3,u4,u5,xv,str key,.slice sl n cap,.pointer (some ⟨U.blk,0,none⟩),aS,aT,ab,ad,ag,aj,ar,av,ax,a0,a1,a2,a3,a4,a5,a6,a7,a9,bY,bg,bj,bk,bo,bs,bv,bx,b0,b1,b2,b3,b4,b6,b7,b9,ca,cb,cc,ch,ci,cj,cl,cm,cp],defers:=ds } w:=by
 have HM:=qqH (show Tryz.prog.follows .mixedOrders=true by kernel_rfl);conv=>arg 2;whnf
 refine rF (A:=?A) (hA:=?hA) HM.out (iT [fun v=>v=xv,fun v=>v=str key,fun v=>v=.pointer (some ⟨U.blk,0,none⟩),fun v=>v=.pointer (some ⟨U.blk,0,none⟩),fun v=>v=.pointer (some ⟨U.blk,0,none⟩),fun v=>v=.int .i64 U.num,fun v=>v=.pointer (some ⟨U.blk,0,none⟩),fun v=>v=.pointer (some ⟨U.blk,0,none⟩),fun v=>v=.pointer (some ⟨U.blk,1,none⟩),fun v=>v=.int .i64 U.size,fun v=>v=.slice sl n cap,fun v=>v=.int .i64 n,fun v=>v=.agg #[str key,.int .i64 U.num,.int .i64 U.size,.int .i64 n],fun _=>True,fun _=>True,fun _=>True]) (L9 F1 Z A es xv key U n) [0,13,14,15] (by kernel_rfl) ?h0 ?hs ?he
 case hA=>intro x;simp only[aw,Act.put,List.setIfInBounds_toArray,List.set_cons_zero,List.set_cons_succ,Nat.reduceAdd];rfl
 case h0=>exact⟨fun h=>absurd rfl h,fun h=>absurd rfl h,fun _=>hT.drew,(fun v h=>by cases h),(fun v h=>by cases h),(fun v h=>by cases h)⟩
 case hs =>
  refine⟨wY (by decide) rfl (fun x s wq hd hin hsi hJ K hK=>?_),cZ (by decide) rfl (fun x s wq hd hin hJ K hK=>?_),cZ (by decide) rfl (fun x s wq hd hin hJ K hK=>?_),cZ (by decide) rfl (fun x s wq hd hin hJ K hK=>?_),cZ (by decide) rfl (fun x s wq hd hin hJ K hK=>?_),cZ (by decide) rfl (fun x s wq hd hin hJ K hK=>?_),cZ (by decide) rfl (fun x s wq hd hin hJ K hK=>?_),cZ (by decide) rfl (fun x s wq hd hin hJ K hK=>?_),cZ (by decide) rfl (fun x s wq hd hin hJ K hK=>?_),cZ (by decide) rfl (fun x s wq hd hin hJ K hK=>?_),cZ (by decide) rfl (fun x s wq hd hin hJ K hK=>?_),cZ (by decide) rfl (fun x s wq hd hin hJ K hK=>?_),cZ (by decide) rfl (fun x s wq hd hin hJ K hK=>?_),mx (by decide) rfl (fun x s wq hd hsx hsi hJ K hK=>?_),mx (by decide) rfl (fun x s wq hd hsx hsi hJ K hK=>?_),mx (by decide) rfl (fun x s wq hd hsx hsi hJ K hK=>?_),trivial⟩
  ·have h14n:s 14=none:=by
    cases h:s 14 with
    | none=>rfl
    | some v=>exact absurd hsi (hJ.o14 (by rw[h];simp)).1
   have h15n:s 15=none:=by
    cases h:s 15 with
    | none=>rfl
    | some v=>exact absurd h14n (hJ.o15 (by rw[h];simp))
   have h15:x 15=xv:=hin 15 (by decide) h15n;refine am (v:=xv) (w':=wq) (by rw[h15];kernel_rfl) (hK _ _ rfl ⟨fun h=>?_,fun h=>?_,fun h=>?_,fun v h h2=>?_,fun v h=>?_,fun v h=>?_⟩)
   ·rw[bz (by decide)]at h;exact absurd h14n h
   ·rw[bz (by decide)]at h;exact absurd h15n h
   ·rw[bz (by decide)]at h;exact hJ.a h
   ·rw[bz (by decide)]at h h2;exact hJ.b v h h2
   ·rw[bz (by decide),h14n]at h;cases h
   ·rw[bz (by decide),h15n]at h;cases h
  ·exact am (by kernel_rfl) (hK _ rfl)
  ·exact am (by kernel_rfl) (hK _ rfl)
  ·have h2:x 2=.pointer (some ⟨U.blk,0,none⟩):=ae hd 2 (by kernel_rfl);exact am (by rw[h2];kernel_rfl) (hK _ rfl)
  ·have h3:x 3=.pointer (some ⟨U.blk,0,none⟩):=ae hd 3 (by kernel_rfl);exact am (by rw[h3];kernel_rfl) (hK _ rfl)
  ·have h4:x 4=.pointer (some ⟨U.blk,0,none⟩):=ae hd 4 (by kernel_rfl);exact bD Tryz.underlying3 rfl rfl (by rw[h4];rfl) (aa hJ.ver 0 rfl) (hK _ rfl)
  ·exact am (by kernel_rfl) (hK _ rfl)
  ·have h6:x 6=.pointer (some ⟨U.blk,0,none⟩):=ae hd 6 (by kernel_rfl);exact am (by rw[h6];kernel_rfl) (hK _ rfl)
  ·have h7:x 7=.pointer (some ⟨U.blk,0,none⟩):=ae hd 7 (by kernel_rfl);exact am (by rw[h7];kernel_rfl) (hK _ rfl)
  ·have h8:x 8=.pointer (some ⟨U.blk,1,none⟩):=ae hd 8 (by kernel_rfl);exact bD Tryz.underlying3 rfl rfl (by rw[h8];rfl) (aa hJ.ver 1 rfl) (hK _ rfl)
  ·exact am (by kernel_rfl) (hK _ rfl)
  ·have h10:x 10=.slice sl n cap:=ae hd 10 (by kernel_rfl);exact am (by rw[h10];kernel_rfl) (hK _ rfl)
  ·have h1:x 1=str key:=ae hd 1 (by kernel_rfl);have h5:x 5=.int .i64 U.num:=ae hd 5 (by kernel_rfl);have h9:x 9=.int .i64 U.size:=ae hd 9 (by kernel_rfl);have h11:x 11=.int .i64 n:=ae hd 11 (by kernel_rfl);exact am (by rw[h1,h5,h9,h11];kernel_rfl) (hK _ rfl)
  ·have h12:x 12=.agg #[str key,.int .i64 U.num,.int .i64 U.size,.int .i64 n]:=ae hd 12 (by kernel_rfl)
   have h14n:s 14=none:=by
    cases h:s 14 with
    | none=>rfl
    | some v=>exact absurd hsi (hJ.o14 (by rw[h];simp)).2
   have h15n:s 15=none:=by
    cases h:s 15 with
    | none=>rfl
    | some v=>exact absurd h14n (hJ.o15 (by rw[h];simp))
   refine am (v:=.slice (some ⟨wq.heap.size,0,none⟩) 1 1) (w':=wq.alloc (.cells (cq ⟨key,U.num,U.size,n⟩).toArray 262)) (by rw[h12];kernel_rfl) (hK _ _ trivial ⟨fun h=>?_,fun h=>?_,fun h=>?_,fun v h h2=>?_,fun v h=>?_,fun v h=>?_⟩)
   ·rw[bz (by decide)]at h;exact absurd h14n h
   ·rw[bz (by decide)]at h;exact absurd h15n h
   ·rw[ix]at h;cases h
   ·rw[ix]at h;obtain rfl:=Option.some.inj h;exact⟨_,rfl,(hJ.a hsi).Q8 _⟩
   ·rw[bz (by decide),h14n]at h;cases h
   ·rw[bz (by decide),h15n]at h;cases h
  ·have h0:x 0=xv:=ae hd 0 (by kernel_rfl);have h13s:=jD hsx 13 (by kernel_rfl) (by decide);have h0s:=jD hsx 0 (by kernel_rfl) (by decide)
   have h15n:s 15=none:=by
    cases h:s 15 with
    | none=>rfl
    | some v=>exact absurd hsi (hJ.o15 (by rw[h];simp))
   obtain⟨nb,e13,hT3⟩:=hJ.b _ h13s hsi;refine xQ (.tmp 35) (.tmp 48) rfl xv es (by rw[h0];rfl) (hT3.to (H:=dN xv es++(Bz nb key U n::((U.blk,Is (dy U))::Z))) af) hok nb (by rw[e13];rfl) ⟨key,U.num,U.size,n⟩ hT3.sat.Q5 hl (fun v1 w1 k1 k2=>hK _ _ trivial ⟨fun h=>?_,fun h=>?_,fun h=>?_,fun v h h2=>?_,fun v h=>?_,fun v h=>?_⟩)
   ·rw[bz (by decide),bz (by decide),h13s,h0s];simp
   ·rw[bz (by decide)]at h;exact absurd h15n h
   ·rw[bz (by decide),h13s]at h;cases h
   ·rw[ix]at h2;cases h2
   ·rw[ix]at h;obtain rfl:=Option.some.inj h;exact⟨nb,k1,k2.to af⟩
   ·rw[bz (by decide),h15n]at h;cases h
  ·have h14s:=jD hsx 14 (by kernel_rfl) (by decide);have h13n:s 13≠none:=(hJ.o14 (by rw[h14s];simp)).2;have h0n:s 0≠none:=(hJ.o14 (by rw[h14s];simp)).1;refine am (v:=x 14) (w':=wq) (by kernel_rfl) (hK _ _ trivial ⟨fun h=>?_,fun h=>?_,fun h=>?_,fun v h h2=>?_,fun v h=>?_,fun v h=>?_⟩)
   ·rw[bz (by decide),bz (by decide)];exact⟨h0n,h13n⟩
   ·rw[bz (by decide),h14s];simp
   ·rw[bz (by decide)]at h;exact absurd h h13n
   ·rw[bz (by decide),h14s]at h2;cases h2
   ·rw[bz (by decide)]at h;exact hJ.c v h
   ·rw[ix]at h;rw[bz (by decide),h14s];exact h
 case he =>
  intro x w3 hφ hS;have h15:(fun k=>if k<16/\([0,13,14,15]:List Nat).contains k=true then some (x k)else none) 15=some (x 15):=by simp
  have h14:=hS.d _ h15;obtain⟨nb,k1,k2⟩:=hS.c _ h14;exact hk (x 15) (x 0) (x 1) (x 2) (x 3) (x 4) (x 5) (x 6) (x 7) (x 8) (x 9) (x 10) (x 11) (x 12) (x 13) (x 14) nb w3 k1 k2
def zA(l:List VerL):VerL:=(l.getLast?).getD ⟨0,0,0,.slice none 0 0,[],0⟩
def pEnt(p:bl):EntL:=⟨p.key,(zA p.g).num,(zA p.g).size,p.g.length⟩
def eT(pre:Bs)(l:List bl):List EntL:=(l.filter (fun p=>pre.isPrefixOf p.key)).map pEnt
def FF(S:AS)(pre:Bs)(w:World)(e:Ending)(w':World):Prop :=
 (S.X.closed=true/\e=.returned (.tuple #[.slice none 0 0,cC 9])/\Turns (arF S) (arF S) w w') \/
 (S.X.closed=false/\∃v es,e=.returned (.tuple #[v,.nilIface])/\AW (eT pre S.ps) es/\l7 v es/\Turns (arF S) (dN v es++arF S) w w')
def wG(S:AS)(pre:Bs)(w:World)(r:Nat)(v:Value)(W:World):Prop :=
 ∃done todo J,(done++todo).Perm S.ps/\l7 v (eT pre done)/\Turns (arF S) (dN v (eT pre done)++((r,Is (dR S.X.pm S.pc (done.map aN)))::(arF S++J))) w W
def sW(r n:Nat)(w:World):Nat:=match w.heap[r]? with
 | some (.mapIter _ _ d _)=>n-d.size
 | _=>0
theorem AI(S:AS)(pre:Bs)(b:Nat)(w:World)(h:Sat w (arF S))(hok:ArOk S)(hB:ArB S b)(hb:b<=90000):
  Calls Tryz.prog 88 #[.pointer (some ⟨S.a,0,none⟩),str pre] w (FF S pre w):=by
 have ha:=h.Q5;have hal:=ah ha
 cases hc:S.X.closed with
 | true =>
  have a10:w.cell? ⟨S.a,10,none⟩=some (.bool true):=by rw[<- hc];exact aa ha 10 rfl
  have HC:=Hq2 hc h;clear h hok hB hb ha hc;go_enter Tryz.func88,Tryz.ntmps88;go_wp2_with fail;exact bodyPost_ret (results_tmp2 rfl _ _ _) rfl (.inl ⟨HC.a,rfl,Turns.refl HC.z⟩)
 | false =>
  have a10:w.cell? ⟨S.a,10,none⟩=some (.bool false):=by rw[<- hc];exact aa ha 10 rfl
  have a0:w.cell? ⟨S.a,0,none⟩=some (.map (some S.X.pm)):=aa ha 0 rfl;have hpm:=h.Q7 (b:=S.X.pm) (o:=aR str (S.ps.map aN) S.pc) (by simp[arF,aU]);obtain⟨r,hr⟩:∃r,r=w.heap.size:=⟨_,rfl⟩
  have hrel0:wG S pre w r (.slice none 0 0) (w.alloc (dR S.X.pm S.pc ([]:List (Ent Bs)))):=by
   refine⟨[],S.ps,[],List.Perm.refl _,⟨rfl,fun _=>⟨rfl,rfl⟩⟩,?_⟩;rw[hr,List.append_nil];exact(Turns.refl h).Q8 _
  have HH:=Hq8 h hok hB hb hc hpm hr hrel0;clear h hok hB hb ha hc hpm hr hrel0;go_enter Tryz.func88,Tryz.ntmps88;go_wp2_with ((refine al rfl (DE (.tmp 19) rfl Tryz.underlying119 HH.f rfl ?_);rw[<- HH.g]));go_frame;go_loopw [6] (fun v wr=>wG S pre w r v wr) (fun _ wr=>sW r S.ps.length wr)
  case atStart=>exact HH.t
  case round =>
   obtain⟨done,todo,J,hperm,hio,hT⟩:=hrel;have hT2:=hT.to (H:=(r,Is (dR S.X.pm S.pc (done.map aN)))::(dN u6 (eT pre done)++(arF S++J))) af;have hri:=hT2.sat.Q5;have hrm:=hT2.sat.Q7 (b:=S.X.pm) (o:=aR str (S.ps.map aN) S.pc) (by simp[arF,aU]);have hpermE:(done.map aN++todo.map aN).Perm (S.ps.map aN):=by rw[<- List.map_append];exact hperm.map _
   have hdl:done.length+todo.length=S.ps.length:=by rw[<- hperm.length_eq,List.length_append]
   have hpl:S.ps.length<=90000:=Nat.le_trans HH.c.np HH.d;rcases wi (P:=Tryz.prog) (ty:=0) hri hrm HH.b.paths.map hpermE with⟨ht,hnx⟩|⟨e,rest,w4,ht,hw4,hnx⟩
   ·have hte:todo=[]:=by simpa using ht
    have hdp:done.Perm S.ps:=by rw[hte,List.append_nil]at hperm;exact hperm
    have hee:(eT pre done).Perm (eT pre S.ps):=by unfold eT;exact(hdp.filter _).map _
    have hel:(eT pre done).length<=90000:=by
     have h1:(eT pre done).length<=done.length:=by unfold eT;rw[List.length_map];exact List.length_filter_le _ _
     omega
    obtain⟨es,hes⟩:∃es,es=eT pre done:=⟨_,rfl⟩;rw[<- hes]at hio hT hee hel;have HD:=Hq4 hio hT hee hel;clear hio hT hT2 hri hrm hpermE hdl hpl ht hte hdp hee hel hperm hes;by_cases hne:es=[]
    ·subst hne
     have hsn:∃p cap,u6=.slice p 0 cap:=by
      obtain⟨-,-,p,cap,e1,-,-⟩:=ew HD.b.sat.left HD.a;exact⟨p,cap,e1⟩
     obtain⟨p,cap,e1⟩:=hsn;have hsort:=AnyF.slices_SortFunc_none Js p cap (.func (.func 134) #[] #[]) wr;change Calls Tryz.prog 133 _ _ _ at hsort;have HS:=Hq2 hsort e1;have HDD:=HD.out;rw[e1]at HDD;have HD2:=qqH HDD;subst e1;clear hsort HDD HD;go_wp2_with fail;refine HS.a.mono ?_;rintro e w5 ⟨rfl,rfl⟩;go_wp2_with fail;exact bodyPost_ret (results_tmp2 rfl _ _ _) rfl (.inr ⟨HH.e,_,[],rfl,⟨HD2.c,fun i j hij hj=>by simp at hj⟩,HD2.a,by exact HD2.b.drop (fun x=>by simp only[aB,an];omega)⟩)
    ·obtain⟨g,cap,e1,hsort⟩:=Cy HD.b HD.a hne (by have:=HD.x;omega);have HS:=qqH hsort;clear hsort;have HDD:=HD.out;rw[e1]at HDD HS;have HD2:=qqH HDD;subst e1;clear HDD HD hne;go_wp2_with fail;refine HS.out.mono ?_;rintro e w5 ⟨rfl,es',hso,hok',hT5⟩;have H5:=Hq3 hso hok' hT5;clear hso hok' hT5;go_wp2_with fail;exact bodyPost_ret (results_tmp2 rfl _ _ _) rfl (.inr ⟨HH.e,_,es',rfl,⟨H5.a.1.trans HD2.c,H5.a.2⟩,H5.b,by exact H5.y.drop (fun x=>by simp only[aB,an];omega)⟩)
   ·obtain⟨w5,hw5⟩:∃w5,w5=Go.ChangeMaps.setBlock w4 r (dR S.X.pm S.pc (done.map aN++[e])):=⟨_,rfl⟩;rw[<- hw5]at hnx
    obtain⟨p,hp,rfl⟩:∃p∈todo,aN p=e:=by
     have h1:e∈todo.map aN:=ht.mem_iff.2 (by simp);obtain⟨p,hp,he⟩:=List.mem_map.1 h1;exact⟨p,hp,he⟩
    obtain⟨s,t,rfl⟩:=List.append_of_mem hp;have hdone:done.map aN++[aN p]=(done++[p]).map aN:=by simp
    rw[hdone]at hw5
    have hT5:Turns (arF S) ((r,Is (dR S.X.pm S.pc ((done++[p]).map aN)))::(dN u6 (eT pre done)++(arF S++J))) w w5:=by
     rw[hw5];rcases hw4 with rfl|rfl
     ·exact hT2.Qa (cQ _ _ _) (dU hri)
     ·exact(hT2.drew).Qa (cQ _ _ _) (dU (by exact hri))
    have hpm:p∈S.ps:=hperm.mem_iff.1 (List.mem_append_right _ hp);have hri5:=hT5.sat.Q5;rw[<- hdone]at hri5;have hrm5:=hT5.sat.Q7 (b:=S.X.pm) (o:=aR str (S.ps.map aN) S.pc) (by simp[arF,aU]);have hen:=tL (P:=Tryz.prog) hri5 hrm5 HH.b.paths.map (List.mem_map.2 ⟨p,hpm,rfl⟩)
    have hperm2:((done++[p])++(s++t)).Perm S.ps:=by
     rw[List.append_assoc];show(done++(p::(s++t))).Perm S.ps;exact(((List.perm_middle (l₁:=s)).symm.append_left done).trans hperm)
    have hps:Sat w5 (er p.val p.g):=Sat.flat (f:=fun p:bl=>er p.val p.g) ((hT5.sat.sub (G:=aU S.X.pm S.ps S.pc) (fun x=>by simp only[arF,aB,an]<;>omega)).tail) hpm;have hpo:=HH.b.paths.rows p hpm;have hne:=HH.b.some p hpm;obtain⟨sl,cap,e1,e2,e3,hcells,-⟩:=bV hps.left hpo.1 (by decide);have hgl:0<p.g.length:=List.length_pos_iff.2 hne;have hgb:p.g.length<=90000:=Nat.le_trans (HH.c.vers p hpm).2.1 HH.d;obtain⟨gp,offp,hsl,hcp⟩:=hcells (by rw[List.length_map];exact hgl);subst hsl;obtain⟨U,hU⟩:∃U,U=p.g[p.g.length-1]'(by omega):=⟨_,rfl⟩;have hUl:zA p.g=U:=by unfold zA;rw[List.getLast?_eq_getElem?,List.getElem?_eq_getElem (by omega),hU];rfl
    have hc1:w5.cell? ⟨gp,offp+(p.g.length-1),none⟩=some (.pointer (some ⟨U.blk,0,none⟩)):=by
     have:=hcp (p.g.length-1) (by rw[List.length_map];omega);rw[List.getElem_map,<- hU]at this;exact this
    have hUm:U∈p.g:=by rw[hU];exact List.getElem_mem _
    have hub:Sat w5 (bT U):=Sat.flat (f:=bT) hps.right hUm;have hc2:w5.cell? ⟨U.blk,0,none⟩=some (.int .i64 U.num):=aa hub.Q5 0 rfl;have hc3:w5.cell? ⟨U.blk,1,none⟩=some (.int .i64 U.size):=aa hub.Q5 1 rfl;have hul:=ah hub.Q5;obtain⟨n,hn⟩:∃n,n=p.g.length:=⟨_,rfl⟩;rw[<- hn]at e1 hgl hgb hc1;have hent:pEnt p=⟨p.key,U.num,U.size,n⟩:=by unfold pEnt;rw[hUl,hn]
    have hel:(eT pre done).length<=90000:=by
     have h1:(eT pre done).length<=done.length:=by unfold eT;rw[List.length_map];exact List.length_filter_le _ _
     omega
    obtain⟨pk,hpk⟩:∃pk,pk=p.key:=⟨_,rfl⟩;have hke:(aN p).key=pk:=hpk.symm;have hve:(aN p).val=.slice (some ⟨gp,offp,none⟩) n cap:=e1;rw[hke,hve]at hnx hen;obtain⟨es,hes⟩:∃es,es=eT pre done:=⟨_,rfl⟩;rw[<- hes]at hio hT5 hel;have hsub:IntKind.i64.wrap ((n:Int)-1)=((n-1:Nat):Int):=by rw[IntWalk.i64_in _ (by omega)];omega
    have hlt:((n-1:Nat):Int)<n:=by omega
    have hm1:sW r S.ps.length wr=S.ps.length-done.length:=by unfold sW;rw[hri];simp[dR]
    have hdl2:done.length<S.ps.length:=by simp at hdl;omega
    have HD:=qqH (And.intro hperm2 (And.intro hio (And.intro hT5 (And.intro hent (And.intro hes (And.intro hpk (And.intro hm1 (And.intro hdl2 (And.intro hpm hUm)))))))));clear hperm hperm2 hio hT hT2 hri hrm hpermE hpl hw5 hw4 hT5 hri5 hrm5 hps hpo hne hcells hcp hU hUl hUm hub hn hent hpk hke hve hes e1 hdone hp hpm ht hm1 hdl hdl2
    have hrelN:∀(v':Value) (w':World) (K:HF),l7 v' (eT pre (done++[p]))->Turns (arF S) (dN v' (eT pre (done++[p]))++((r,Is (dR S.X.pm S.pc ((done++[p]).map aN)))::(arF S++K))) w w'->wG S pre w r v' w'/\sW r S.ps.length w'<sW r S.ps.length wr:=fun v' w' K h1 h2=>by
     refine⟨⟨done++[p],s++t,K,HD.a,h1,h2⟩,?_⟩;have hr2:=h2.sat.Q7 (b:=r) (o:=dR S.X.pm S.pc ((done++[p]).map aN)) (by simp);have:sW r S.ps.length w'=S.ps.length-(done.length+1):=by unfold sW;rw[hr2];simp[dR]
     rw[this,HD.g];have:=HD.h;omega
    have HN:=qqH hrelN;have HM:=qqH (show Tryz.prog.follows .mixedOrders=true by kernel_rfl);clear hrelN;go_wp2_with fail;refine(rq pk pre w5).mono ?_;rintro e w6 ⟨rfl,rfl⟩
    cases hpre:pre.isPrefixOf pk with
    | false =>
     have hadd:eT pre (done++[p])=es:=by
      rw[HD.e];unfold eT;rw[List.filter_append,List.filter_cons,<- HD.f,hpre];simp
     have HA:=qqH hadd;clear hadd;go_wp2_with fail;have hfin:=HN.out u6 w6 J (by rw[HA.out];exact HD.b) (by rw[HA.out];exact HD.c.to af);go_roundw
     case rel=>exact hfin.1
     case measure=>exact hfin.2
    | true =>
     have hadd:eT pre (done++[p])=es++[⟨pk,U.num,U.size,n⟩]:=by
      rw[HD.e];unfold eT;rw[List.filter_append,List.filter_cons,<- HD.f,hpre];simp only[if_true,List.filter_nil,List.map_append,List.map_cons,List.map_nil,HD.d,HD.f]
     have HA:=qqH hadd;clear hadd;go_upto_region 9 with(fail)
     have hverb:(U.blk,Is (dy U))∈arF S:=by
      obtain⟨hpS,hUm⟩:=HD.out.2.2.2.2.2.2.2.2;refine List.mem_cons_of_mem _ (List.mem_append_right _ (List.mem_append_right _ (List.mem_append_left _ (List.mem_cons_of_mem _ ?_))));exact List.mem_flatMap.2 ⟨p,hpS,List.mem_append_right _ (List.mem_flatMap.2 ⟨U,hUm,by simp[bT]⟩)⟩
     obtain⟨R,hR⟩:=oS (G:=[(U.blk,Is (dy U))]) (F:=arF S) (fun x=>by
      obtain⟨s',t',h⟩:=List.append_of_mem hverb;rw[h];simp only[an,aB,gC];omega)
     have hTl:Turns (arF S) (dN u6 es++((U.blk,Is (dy U))::(R++((r,Is (dR S.X.pm S.pc ((done++[p]).map aN)))::J)))) w w6:=HD.c.to (by
      refine((((hR.append_right J).append_left _).cons _)).trans ?_;exact af)
     have HR:=Hq2 hR hTl;clear hverb hR hTl;refine Ko (arF S) (R++((r,Is (dR S.X.pm S.pc ((done++[p]).map aN)))::J)) w es u6 pk (some ⟨gp,offp,none⟩) n cap U HR.z HD.b (by omega) ?_;intro v7 _ _ _ _ _ _ _ _ _ _ _ _ _ _ _ nb w7 hok7 hT7
     have hfin:=HN.out v7 w7 (Bz nb pk U n::J) (by rw[HA.out];exact hok7) (by
      rw[HA.out];refine hT7.to ?_;have h1:(dN v7 (es++[⟨pk,U.num,U.size,n⟩])++((r,Is (dR S.X.pm S.pc ((done++[p]).map aN)))::(([(U.blk,Is (dy U))]++R)++(Bz nb pk U n::J)))).Perm (dN v7 (es++[⟨pk,U.num,U.size,n⟩])++((r,Is (dR S.X.pm S.pc ((done++[p]).map aN)))::(arF S++(Bz nb pk U n::J)))):=(((HR.a.symm.append_right _).cons _).append_left _);refine List.Perm.trans ?_ h1;exact af)
     have HF:=qqH hfin;clear hfin hok7 hT7;go_wp2_with fail;go_roundw
     case rel=>exact HF.a
     case measure=>exact HF.z
end
section
open Go.RowKit Go.Maps Go.Shelf
attribute [local go_sem] Oper.semAt_some
theorem Cn(S:AS)(hok:ArOk S)(D:Bs)(d off n lb:Nat)(B3 B6 B7 B9 B11 B12 B13 Bm Bv num i:Nat)(R0 F:HF)(A:World)(hD:eK A d off D)(hdF:d∉dom F)(hi:i<(aF D).length)(hDl:D.length<=4000)(hKl:S.K.length<=500000)(hJ:FL S D B9 B11 B12 B13 Bm Bv num ((B3,Is (c9 S.a))::R0) i F)(hF:Sat A F)(a0:Nat)(l:Bs){dv:Value}{u4 u5 u8 aS aT ad ag aj ar av ax a1 a2 a4 a5 a6 a7 a9 bY bg bj bk bo bs bv bx b0 b1 b2 b3 b4 b6 b7 b9 ca cb ch ci cj cl cp ct cu cv cx c0 c1 c2 c3 c4 c5 c6 c7 dO dT df dn dp ds d0 d1 d2 d3 d4 d5 d6 d7 eA eC eQ eR eU eW eX ea eb ec eg el em en ep es ev e0 e4 e5 e6 e7 e8 e9 fl fn fr fs fz f0 f1 f2 f3 f4 f5 f6 f7 f8 f9 gD gb gg gp gs gu gx g0 g1 g2 g3 g4 g5 g6 g7 hA hB hC hE hH hI hK hL hM hN hO hP hQ hS hT hU hV hW hX hZ ha hb hd hf hh hj hl hn ho hq ht hu hv hw hy hz h9 iF iN iS id ih ii i0:Value}:
  IX.wpIn (Fence.wide.inRound lb) n Tryz.prog (Jq (FL S D B9 B11 B12 B13 Bm Bv num ((B3,Is (c9 S.a))::R0)) i F A) { tmps:=#[.pointer (some ⟨a0,0,none⟩),str l,dv,.pointer (some ⟨B3,0,none⟩),u4,u5,.pointer (some ⟨B6,0,none⟩),.pointer (some ⟨B7,0,none⟩),u8,.pointer (some ⟨B9,0,none⟩),aS,.pointer (some ⟨B11,0,none⟩),.pointer (some ⟨B12,0,none⟩),.pointer (some ⟨B13,0,none⟩),fJ d off D i,aT,ad,ag,aj,ar,av,ax,a1,a2,a4,a5,a6,a7,a9,bY,bg,bj,bk,bo,bs,bv,bx,b0,b1,b2,b3,b4,b6,b7,b9,ca,cb,ch,ci,cj,cl,cp,ct,cu,cv,cx,c0,c1,c2,c3,c4,c5,c6,c7,dO,dT,df,dn,dp,ds,d0,d1,d2,d3,d4,d5,d6,d7,eA,eC,eQ,eR,eU,eW,eX,fJ d off D i,ea,eb,ec,eg,el,em,en,ep,es,ev,e0,e4,e5,e6,e7,e8,e9,fl,fn,fr,fs,fz,f0,f1,f2,f3,f4,f5,f6,f7,f8,f9,gD,gb,gg,gp,gs,gu,gx,g0,g1,g2,g3,g4,g5,g6,g7,hA,hB,hC,hE,hH,hI,hK,hL,hM,hN,hO,hP,hQ,hS,hT,hU,hV,hW,hX,hZ,ha,hb,hd,hf,hh,hj,hl,hn,ho,hq,ht,hu,hv,hw,hy,hz,h9,iF,iN,iS,id,ih,ii,i0],defers:=[] } A:=by
 obtain⟨sp,acc,fv,rv,chs,recs,hacc,hAo,hrb,hro,hpo,hcl,hin,hFe⟩:=hJ;obtain⟨c,hc⟩:∃c,c=ol D i:=⟨_,rfl⟩;have hcl2:=sr hi;rw[<- hc]at hcl2;have hcc:=wR hD hi;rw[<- hc]at hcc;obtain⟨o2,ho2⟩:∃o2,o2=off+((aF D).take i).sum:=⟨_,rfl⟩;have harg:fJ d off D i=.slice (some ⟨d,o2,none⟩) c.length c.length:=by unfold fJ;rw[<- hcl2,<- ho2]
 rw[<- ho2]at hcc;rw[harg];have a3:A.cell? ⟨B3,0,none⟩=some (.pointer (some ⟨S.a,0,none⟩)):=aa (hF.Q7 (b:=B3) (o:=c9 S.a) (by rw[hFe];simp)) 0 rfl
 have hs:Sat A (ay S.X.ab S.X.d { S.A with spare:=sp }++((B13,Is (cr ((S.data.length+bh acc:Nat):Int)))::(B12,Is (d9 Bm))::(Bm,Is (aR str (bA S.data.length 0 acc) acc.length))::(B11,Is (cf rv)) ::
   (fa rv recs++((B9,Is (cg Bv))::(bT ⟨Bv,num,D.length,fv,chs,0⟩++(((B3,Is (c9 S.a))::R0)++((S.a,Is (aO S.X))::(aE S.X.d S.L++(aU S.X.pm S.ps S.pc++(dm S.X.tm S.ts S.tc++bm S.X.cm S.cs S.cc)))))))))):=by
  refine hF.perm ?_;rw[hFe];unfold arF;exact af
 obtain⟨R,hR⟩:∃R,R=((B13,Is (cr ((S.data.length+bh acc:Nat):Int)))::(B12,Is (d9 Bm))::(Bm,Is (aR str (bA S.data.length 0 acc) acc.length))::(B11,Is (cf rv)) ::
   (fa rv recs++((B9,Is (cg Bv))::(bT ⟨Bv,num,D.length,fv,chs,0⟩++(((B3,Is (c9 S.a))::R0)++((S.a,Is (aO S.X))::(aE S.X.d S.L++(aU S.X.pm S.ps S.pc++(dm S.X.tm S.ts S.tc++bm S.X.cm S.cs S.cc))))))))):=⟨_,rfl⟩
 rw[<- hR]at hs;have hdR:d∉dom (ay S.X.ab S.X.d { S.A with spare:=sp }++R):=fun h=>hdF (((mw (show(ay S.X.ab S.X.d { S.A with spare:=sp }++R).Perm F by rw[hFe,hR];unfold arF;exact af)).mem_iff).1 h)
 have HKn:=qqH (zx S.a S.X S.X.ab S.X.d rfl { S.A with spare:=sp } S.L S.cs S.cc c (some ⟨d,o2,none⟩) c.length R A hs (fun x=>by rw[hR];simp only[aB,an];omega) hok.dev hAo hok.fits hok.nmax hok.chunks hcc
  (fun x hx=>by obtain rfl:=Option.some.inj hx;exact hdR) (by have:=gL D;have:=mU (aF D) i hi;rw[hcl2];simp only[List.getD_eq_getElem?_getD,List.getElem?_eq_getElem hi,Option.getD_some];omega)
  (by have:=Ch hok (be (cJ 1 c) 4);omega) (zJ hok))
 have HH:=qqH (And.intro hok (And.intro hD (And.intro hdF (And.intro hF (And.intro hacc (And.intro hAo (And.intro hrb (And.intro hro (And.intro hpo (And.intro hcl (And.intro hin (And.intro hFe (And.intro hc (And.intro hcl2 (And.intro hcc (And.intro ho2 (And.intro hs (And.intro hR hdR))))))))))))))))));clear hok hD hdF hF hacc hAo hrb hro hpo hcl hin hFe hc hcl2 hcc ho2 harg hs hR hdR;conv=>arg 4;whnf
 gi_wp2_with fail;refine⟨trivial,fun h=>by simp[Fence.wide]at h,(yJ HKn.out).mono ?_⟩;rintro e w4 ⟨⟨sp2,hAo2,hT2⟩,hres⟩
 obtain⟨q,okb,rfl,hq1,hq2⟩:∃(q:Nat×Nat) (okb:Bool),e=.returned (.tuple #[.agg #[.int .i64 q.1,.int .i64 q.2],.bool okb,.nilIface])/\(okb=true->(c,q)∈S.K)/\(okb=false->c∉S.K.map (·.1)):=by
  rcases hres with⟨p,hp,hc,rfl⟩|⟨hno,rfl⟩
  ·exact⟨p,true,rfl,fun _=>JW HH.a hp hc,fun h=>by cases h⟩
  ·refine⟨(0,0),false,rfl,(fun h=>by cases h),fun _ hm=>?_⟩;obtain⟨e,he,h1⟩:=List.mem_map.1 hm;obtain⟨p1,p2⟩:=JX HH.a (b:=c) (q:=e.2) (by rw[<- h1];exact he);exact hno _ p1 p2
 clear hres;obtain⟨F1,hF1⟩:∃F1,F1=ay S.X.ab S.X.d { S.A with spare:=sp }++R:=⟨_,rfl⟩;obtain⟨Y,hY⟩:∃Y,Y=ay S.X.ab S.X.d { S.A with spare:=sp2 }++(R0++((S.a,Is (aO S.X))::(aE S.X.d S.L++(aU S.X.pm S.ps S.pc++(dm S.X.tm S.ts S.tc++bm S.X.cm S.cs S.cc))))):=⟨_,rfl⟩;obtain⟨VV,hVV⟩:∃VV:VerL,VV=⟨Bv,num,D.length,fv,chs,0⟩:=⟨_,rfl⟩;obtain⟨fE,hfE⟩:∃fE,fE=bA S.data.length 0 acc:=⟨_,rfl⟩;obtain⟨nE,hnE⟩:∃nE,nE=acc.length:=⟨_,rfl⟩;obtain⟨e13,he13⟩:∃e13:Nat,e13=S.data.length+bh acc:=⟨_,rfl⟩
 have hT4:Turns F1 ((B13,Is (cr e13))::(B12,Is (d9 Bm))::(Bm,Is (aR str fE nE))::(B11,Is (cf rv))::(B9,Is (cg Bv))::(Bv,Is (dy VV))::(B3,Is (c9 S.a))::(fa rv recs++(aQ fv chs++Y))) A w4:=by
  rw[hF1];refine hT2.to ?_;rw[HH.out.2.2.2.2.2.2.2.2.2.2.2.2.2.2.2.2.2.1,hY,hVV,hfE,hnE,he13];unfold bT;exact af
 have hdF1:d∉dom F1:=by rw[hF1];exact HH.out.2.2.2.2.2.2.2.2.2.2.2.2.2.2.2.2.2.2
 have hm0:MapOk OkS fE nE:=by
  rw[hfE,hnE];refine vG (by rw[HH.e];exact i8 _ _ _ List.nodup_nil) (by rw[HH.e];exact JH hDl) _
 obtain⟨f,th,hg1,hg2,hg3,hg4⟩:∃(f:Nat×Nat) (th:Bool),(dW fE c).getD (.agg #[.int .i64 0,.int .i64 0])=.agg #[.int .i64 f.1,.int .i64 f.2]/\jk fE c=th/\(th=true->(c,f)∈cz S.data.length acc/\c∈acc)/\(th=false->c∉acc):=by
  rw[hfE,lF];by_cases hm:c∈acc
  ·obtain⟨f,h1,h2⟩:=BG (at_:=S.data.length) (b:=0) hm;exact⟨f,true,by rw[h2];rfl,decide_eq_true hm,fun _=>⟨h1,hm⟩,fun h=>by cases h⟩
  ·refine⟨(0,0),false,?_,decide_eq_false hm,(fun h=>by cases h),fun _=>hm⟩;have:=lF acc S.data.length 0 c;rw[decide_eq_false hm,gt]at this
   cases hg:dW (bA S.data.length 0 acc) c with
   | none=>rfl
   | some v=>rw[hg]at this;cases this
 have hl4:∀k,k∈dom ((B13,Is (cr e13))::(B12,Is (d9 Bm))::(Bm,Is (aR str fE nE))::(B11,Is (cf rv))::(B9,Is (cg Bv))::(Bv,Is (dy VV))::(B3,Is (c9 S.a))::(fa rv recs++(aQ fv chs++Y)))->k<w4.heap.size:=fun k hk=>hT4.sat.lt hk
 have l9:=hl4 B9 (by simp);have l11:=hl4 B11 (by simp);have l12:=hl4 B12 (by simp);have l13:=hl4 B13 (by simp);have lv:=hl4 Bv (by simp);have b12:w4.cell? ⟨B12,0,none⟩=some (.map (some Bm)):=aa (hT4.sat.Q7 (b:=B12) (o:=d9 Bm) (by simp)) 0 rfl;have b13:w4.cell? ⟨B13,0,none⟩=some (.int .i64 e13):=aa (hT4.sat.Q7 (b:=B13) (o:=cr e13) (by simp)) 0 rfl;have hT5:Turns F1 ((w4.heap.size,Is (aJ q))::((B13,Is (cr e13))::(B12,Is (d9 Bm))::(Bm,Is (aR str fE nE))::(B11,Is (cf rv))::(B9,Is (cg Bv))::(Bv,Is (dy VV))::(B3,Is (c9 S.a))::(fa rv recs++(aQ fv chs++Y)))) A (w4.alloc (.cells #[.int .i64 q.1,.int .i64 q.2] 161)):=hT4.Q8 (aJ q);have hbm5:=hT5.sat.Q7 (b:=Bm) (o:=aR str fE nE) (by simp);have hcv:=jE c.length (HH.out.2.2.2.2.2.2.2.2.2.2.2.2.2.2.1.Qc hT5 (fun x hx=>by obtain rfl:=Option.some.inj hx;exact hdF1));have hzp:(zeroValue 161).run Tryz.prog (w4.alloc (.cells #[.int .i64 q.1,.int .i64 q.2] 161))=.ok (.agg #[.int .i64 0,.int .i64 0]) (w4.alloc (.cells #[.int .i64 q.1,.int .i64 q.2] 161)):=by kernel_rfl
 have hT6:∀x:Nat×Nat,Turns F1 ((w4.heap.size+1,Is (aJ f))::(w4.heap.size,Is (aJ x))::((B13,Is (cr e13))::(B12,Is (d9 Bm))::(Bm,Is (aR str fE nE))::(B11,Is (cf rv))::(B9,Is (cg Bv))::(Bv,Is (dy VV))::(B3,Is (c9 S.a))::(fa rv recs++(aQ fv chs++Y)))) A ((w4.alloc (.cells #[.int .i64 x.1,.int .i64 x.2] 161)).alloc (.cells #[.int .i64 f.1,.int .i64 f.2] 161)):=fun x=>by
  have:=(hT4.Q8 (aJ x)).Q8 (aJ f);rw[World.size_alloc]at this;exact this
 have hcm:c∈aH D:=by
  have:=fk hi;rw[<- HH.out.2.2.2.2.2.2.2.2.2.2.2.2.1]at this;exact List.mem_of_mem_take (i:=i+1) (by rw[this];simp)
 have hOkc:OkS c:=by have:=ei hcm;unfold OkS;omega
 have hcv2:=jE c.length (HH.out.2.2.2.2.2.2.2.2.2.2.2.2.2.2.1.Qc (hT6 (e13,c.length)) (fun x hx=>by obtain rfl:=Option.some.inj hx;exact hdF1));have hFp:F1.Perm F:=by rw[hF1,HH.out.2.2.2.2.2.2.2.2.2.2.2.1,HH.out.2.2.2.2.2.2.2.2.2.2.2.2.2.2.2.2.2.1];unfold arF;exact af
 have hlt:((aH D).take i).length=chs.length:=by
  rw[List.length_take,ce,HH.out.2.2.2.2.2.2.2.2.2.1];omega
 have hcl:chs.length<=4000:=by
  rw[HH.out.2.2.2.2.2.2.2.2.2.1];have:=dh D;omega
 have hal2:acc.length<=4000:=by
  rw[HH.e];have h1:=kq (S.K.map (·.1)) ((aH D).take i) [];rw[List.length_take,ce]at h1;have:=dh D;simp at h1;omega
 have hrl:(recs.map (·.val)).length=acc.length:=by
  have:=congrArg List.length HH.g;simpa using this
 have hdl:=HH.a.dat.2;have hnn:=HH.a.nmax;have hfit:=HH.a.fits
 have he13b:e13<=1099511627776:=by
  rw[he13]
  have h2:=pz acc 4000 (fun x hx=>by
   rw[HH.e]at hx;rcases ji _ _ _ x hx with h|⟨h,_⟩
   ·simp at h
   ·have:=ei (List.mem_of_mem_take h);omega)
  have h3:acc.length*(4000+9)<=4000*(4000+9):=Nat.mul_le_mul_right _ hal2;omega
 have HB:=Hq8 hT6 hdF1 hm0 hg1 hg2 hbm5 hzp hOkc;have HE:=qqH (And.intro hF1 (And.intro hY (And.intro hVV (And.intro hfE (And.intro hnE (And.intro he13 (And.intro hAo2 (And.intro hq1 (And.intro hq2 (And.intro hg3 hg4))))))))));have HF2:=Hq7 hFp hlt hcl hal2 hrl he13b hcm;clear hF1 hY hVV hfE hnE he13 hAo2 hq1 hq2 hg3 hg4 hT4 hT5 hT6 hdF1 hm0 hg1 hg2 hT2 hbm5 hzp hl4 hOkc hFp hlt hcl hal2 hrl he13b hcm hdl hnn hfit
 have FIN:∀(w6:World) (q6:Nat×Nat) (acc':List Bs) (rv' y:Value) (recs':List RecL) (Z:HF),acc'=co (S.K.map (·.1)) [] ((aH D).take (i+1))->(∀e∈cz S.data.length acc,e∈cz S.data.length acc')->(c,q6)∈S.K++cz S.data.length acc'->recs'.map (·.bytes)=acc'.map (frame 1)->Jr rv' recs' ->
   bQ y (chs++[q6])->Turns F1 ((Bv,Is (.cells ((fW VV).setIfInBounds 2 y) 152 (0,0)))::(w4.heap.size,Is (aJ q6))::(B9,Is (cg Bv))::(aQ y (chs++[q6])++Z)) A w6 ->
   (∀x,cnt x ((B13,Is (cr ((S.data.length+bh acc':Nat):Int)))::(B12,Is (d9 Bm))::(Bm,Is (aR str (bA S.data.length 0 acc') acc'.length))::(B11,Is (cf rv'))::(B3,Is (c9 S.a))::(fa rv' recs'++Y))<=cnt x Z) ->
   ∃F',FL S D B9 B11 B12 B13 Bm Bv num ((B3,Is (c9 S.a))::R0) (i+1) F'/\Turns F F' A w6:=by
  intro w6 q6 acc' rv' y recs' Z h1 h2 h3 h4 h5 h6 h7 h8;refine⟨_,⟨sp2,acc',y,rv',chs++[q6],recs',h1,HE.g,h4,h5,h6,by rw[List.length_append,HH.out.2.2.2.2.2.2.2.2.2.1];rfl,?_,rfl⟩,?_⟩
  ·rw[fk hi,<- HH.out.2.2.2.2.2.2.2.2.2.2.2.2.1]
   exact J7 HF2.b HH.out.2.2.2.2.2.2.2.2.2.2.1 (fun e he=>by
    rcases List.mem_append.1 he with h|h
    ·exact List.mem_append_left _ h
    ·exact List.mem_append_right _ (h2 e h)) h3
  ·refine(h7.drop (fun x=>?_)).perm HF2.a (List.Perm.refl _);have:=h8 x;rw[HE.b]at this;have e:dy ⟨Bv,num,D.length,y,chs++[q6],0⟩=.cells ((fW VV).setIfInBounds 2 y) 152 (0,0):=by rw[HE.c];rfl
   unfold bT arF;rw[e];simp only[aB,an]at this ⊢;omega
 have HFIN:=qqH FIN;clear FIN
 gi_wp2_with (first
  | (refine mX rfl rfl (j9 eB (.tmp 97) (.tmp 99) rfl Tryz.underlying154 HB.f HB.c HB.g c rfl rfl HB.t ?_);rw[HB.d,HB.e])
  | (refine mX rfl rfl (pY eB (.tmp 115) (.tmp 117) (.tmp 118) rfl Tryz.underlying154 Bm fE nE ((HB.a (e13,c.length)).to (H:=(Bm,Is (aR str fE nE))::((w4.heap.size+1,Is (aJ f))::(w4.heap.size,Is (aJ (e13,c.length)))::(B13,Is (cr e13))::(B12,Is (d9 Bm))::(B11,Is (cf rv))::(B9,Is (cg Bv))::(Bv,Is (dy VV))::(B3,Is (c9 S.a))::(fa rv recs++(aQ fv chs++Y)))) af) HB.c c (gz (e13,c.length)) rfl rfl rfl HB.t ?_);intro w6 hT7;simp only[Act.put]))
 ·rename_i h1 h2;refine Dt F1 ((w4.heap.size+1,Is (aJ f))::(B13,Is (cr e13))::(B12,Is (d9 Bm))::(Bm,Is (aR str fE nE))::(B11,Is (cf rv))::(B3,Is (c9 S.a))::(fa rv recs++Y)) A w4.heap.size B9 Bv VV f fv chs ((HB.a f).to af) HH.out.2.2.2.2.2.2.2.2.1 (by rw[HE.c]) (by have:=HF2.c;omega) (fun⟨_,_,h⟩=>h) ?_;intro _ _ _ _ _ _ _ _ _ _ w7 hpo7 hT7;refine HFIN.out w7 f acc rv _ recs _ ?_ (fun _ h=>h) (List.mem_append_right _ (HE.out.2.2.2.2.2.2.2.2.2.1 h1).1) HH.g HH.h hpo7 hT7 (fun x=>by rw[<- HE.d,<- HE.e,<- HE.f];simp only[aB,an];omega);rw[fk hi,im,<- HH.out.2.2.2.2.2.2.2.2.2.2.2.2.1,<- HH.e,if_pos (.inr (HE.out.2.2.2.2.2.2.2.2.2.1 h1).2)]
 ·rename_i h1 h2;refine Dt F1 ((w4.heap.size+1,Is (aJ f))::(B13,Is (cr e13))::(B12,Is (d9 Bm))::(Bm,Is (aR str fE nE))::(B11,Is (cf rv))::(B3,Is (c9 S.a))::(fa rv recs++Y)) A w4.heap.size B9 Bv VV q fv chs ((HB.a q).to af) HH.out.2.2.2.2.2.2.2.2.1 (by rw[HE.c]) (by have:=HF2.c;omega) (fun⟨_,_,h⟩=>h) ?_;intro _ _ _ _ _ _ _ _ _ _ w7 hpo7 hT7;refine HFIN.out w7 q acc rv _ recs _ ?_ (fun _ h=>h) (List.mem_append_left _ (HE.h (by simpa using h2))) HH.g HH.h hpo7 hT7 (fun x=>by rw[<- HE.d,<- HE.e,<- HE.f];simp only[aB,an];omega);rw[fk hi,im,<- HH.out.2.2.2.2.2.2.2.2.2.2.2.2.1,<- HH.e,if_pos (.inl (List.mem_map.2 ⟨_,HE.h (by simpa using h2),rfl⟩))]
 ·rename_i h1 K1 k1 h2 K2 k2;have hn1:=HE.out.2.2.2.2.2.2.2.2.2.2 (by simpa using h1);have hn2:=HE.out.2.2.2.2.2.2.2.2.1 (by simpa using h2);have hput:=BH (at_:=S.data.length) hn1;refine Kt F1 ((w4.heap.size+1,Is (aJ f))::(w4.heap.size,Is (aJ (e13,c.length)))::(B13,Is (cr e13))::(B12,Is (d9 Bm))::(Bm,Is (aR str (gA fE nE c (gz (e13,c.length))) (cD fE nE c)))::(B9,Is (cg Bv))::(Bv,Is (dy VV))::(B3,Is (c9 S.a))::((recs.flatMap fun r=>aK r.val r.bytes)++(aQ fv chs++Y))) A B11 rv (recs.map (·.val)) c (some ⟨d,o2,none⟩) c.length (hT7.to (by unfold fa;exact af)) HH.h.1 (by have:=HF2.e;have:=HF2.d;omega) (fun W G hG=>HH.out.2.2.2.2.2.2.2.2.2.2.2.2.2.2.1.Qc hG (fun x hx=>by obtain rfl:=Option.some.inj hx;exact HB.b)) (by have:=ei HF2.u;omega) (fun⟨_,_,h⟩=>h) ?_;intro _ _ fv2 _ rv2 w8 hb8 hr8 hT8;have HR8:=Hq6 hb8 hr8 hT8 hn1 hn2 hput;clear hb8 hr8 hT8 hT7 hn1 hn2 hput;gi_wp2_with fail;refine Ku F1 ((w4.heap.size+1,Is (aJ f))::(w4.heap.size,Is (aJ (e13,c.length)))::(B12,Is (d9 Bm))::(Bm,Is (aR str (gA fE nE c (gz (e13,c.length))) (cD fE nE c)))::(B11,Is (cf rv2))::(B9,Is (cg Bv))::(Bv,Is (dy VV))::(B3,Is (c9 S.a))::(bN 38 1 rv2 (recs.map (·.val)++[fv2]).length (recs.map (·.val)++[fv2])++(aK fv2 (frame 1 c)++((recs.flatMap fun r=>aK r.val r.bytes)++(aQ fv chs++Y))))) A B13 e13 c (some ⟨d,o2,none⟩) c.length (HR8.c.to af) (by have:=ei HF2.u;omega) (by have:=HF2.f;omega) (fun⟨_,_,h⟩=>h) ?_;intro _ _ _ _ _ w9 hT9;have HR9:=qqH hT9;clear hT9;gi_wp2_with fail;refine Dt F1 ((w4.heap.size+1,Is (aJ f))::(B13,Is (cr (e13+(c.length+9))))::(B12,Is (d9 Bm))::(Bm,Is (aR str (gA fE nE c (gz (e13,c.length))) (cD fE nE c)))::(B11,Is (cf rv2))::(B3,Is (c9 S.a))::(bN 38 1 rv2 (recs.map (·.val)++[fv2]).length (recs.map (·.val)++[fv2])++(aK fv2 (frame 1 c)++((recs.flatMap fun r=>aK r.val r.bytes)++Y)))) A w4.heap.size B9 Bv VV (e13,c.length) fv chs (HR9.out.to af) HH.out.2.2.2.2.2.2.2.2.1 (by rw[HE.c]) (by have:=HF2.c;omega) (fun⟨_,_,h⟩=>h) ?_;intro _ _ _ _ _ _ _ _ _ _ w7 hpo7 hT7;refine HFIN.out w7 (e13,c.length) (acc++[c]) rv2 _ (recs++[⟨fv2,frame 1 c⟩]) _ ?_ (fun e h=>by rw[re];exact List.mem_append_left _ h) ?_ ?_ ?_ hpo7 hT7 (fun x=>?_)
  ·rw[fk hi,im,<- HH.out.2.2.2.2.2.2.2.2.2.2.2.2.1,<- HH.e,if_neg (fun h=>h.elim HR8.e HR8.d)]
  ·rw[re,HE.f];exact List.mem_append_right _ (List.mem_append_right _ (by simp))
  ·rw[List.map_append,List.map_append,HH.g];rfl
  ·refine⟨by rw[List.map_append];exact HR8.b,fun r hr=>?_⟩;rcases List.mem_append.1 hr with h|h
   ·exact HH.h.2 r h
   ·simp only[List.mem_singleton]at h;subst h;exact HR8.a
  ·have e1:=HR8.f;have e2:=HR8.u;rw[<- HE.f,<- HE.d,<- HE.e]at e1;rw[<- HE.d,<- HE.e]at e2;have e3:((S.data.length+bh (acc++[c]):Nat):Int)=(e13:Int)+(c.length+9):=by rw[sJ,HE.f];omega
   rw[e1,e2,e3];unfold fa;simp only[List.map_append,List.flatMap_append,List.flatMap_cons,List.flatMap_nil,List.append_nil,List.map_cons,List.map_nil,aB,an];omega
 ·rename_i h1 h2;refine Dt F1 ((w4.heap.size+1,Is (aJ f))::(B13,Is (cr e13))::(B12,Is (d9 Bm))::(Bm,Is (aR str fE nE))::(B11,Is (cf rv))::(B3,Is (c9 S.a))::(fa rv recs++Y)) A w4.heap.size B9 Bv VV q fv chs ((HB.a q).to af) HH.out.2.2.2.2.2.2.2.2.1 (by rw[HE.c]) (by have:=HF2.c;omega) (fun⟨_,_,h⟩=>h) ?_;intro _ _ _ _ _ _ _ _ _ _ w7 hpo7 hT7;refine HFIN.out w7 q acc rv _ recs _ ?_ (fun _ h=>h) (List.mem_append_left _ (HE.h (by simpa using h2))) HH.g HH.h hpo7 hT7 (fun x=>by rw[<- HE.d,<- HE.e,<- HE.f];simp only[aB,an];omega);rw[fk hi,im,<- HH.out.2.2.2.2.2.2.2.2.2.2.2.2.1,<- HH.e,if_pos (.inl (List.mem_map.2 ⟨_,HE.h (by simpa using h2),rfl⟩))]
attribute [local go_sem] Oper.semAt_some
def DJ(a:Option Addr)(len cap:Nat)(w:World)(e:Ending)(w':World):Prop :=
 e=.returned (.func (.func 123) #[] #[.pointer (some ⟨w.heap.size,0,none⟩)])/\w'=w.alloc (.cells #[.slice a len cap] 38)
theorem xY(a:Option Addr)(len cap:Nat)(w:World):Calls Tryz.prog 76 #[.slice a len cap] w (DJ a len cap w):=by
 go_enter Tryz.func76,Tryz.ntmps76;go_wp2;go_ret;exact⟨rfl,rfl⟩
theorem Turns.putNew{F G:HF}{a w:World}{r:Nat}(h:Turns F G a w)(hr:a.heap.size<=r)(hn:r∉dom G)(o:Obj):Turns F G a (w.putObj r o) :=
 ⟨h.mods.putObj (.inr hr) o,h.sat.frame ((Mods.refl (fun k=>k=r) w).putObj (.inl rfl) o) (fun _ hb e=>hn (e ▸ hb)),h.fresh⟩
def xc(id:Nat):Code->Option Code
 | .seq (.region i ops d) b=>if i=id then some (.seq (.region i ops d) b)else xc id b
 | .seq _ b=>xc id b
 | _=>none
noncomputable def ES:Code:=(Tryz.f25.body.bind (xc 14)).getD .skip
def CX(S:AS)(l D:Bs)(w:World)(e:Ending)(w':World)(b num:Nat):Prop :=
 ((∃sp chs,e=.returned (.tuple #[.int .i64 0,cC 8])/\AreaOk { S.A with spare:=sp }/\Turns (arF S) (arF { S with A:={ S.A with spare:=sp } }) w w' /\
    128*S.A.count<S.data.length+(dY (bJ S D)).length+(frame 2 (eF l num D.length (bC chs))).length/\chs.length=(aH D).length) \/
   (∃S' V,e=.returned (.tuple #[.int .i64 num,.nilIface])/\PutStep S S' l D V/\ArOk S'/\AM S D b S'/\Turns (arF S) (arF S') w w'))
theorem zL(S:AS)(l D:Bs)(sl:Option Addr)(cap b:Nat)(hok:ArOk S)(hB:ArB S b)(hb:b<=90000)(hl:aA l=true)(hll:l.length<=20)(hDl:D.length<=4000)(hcap:D.length<=cap)(B3 B6 B7 B9 B11 Bv num:Nat)(hnum:num=eJ (ai S.ps l)+1)(w0 w:World)(hT:Turns (arF S) ((B11,Is (cf (.slice none 0 0)))::(Bv,Is (dy ⟨Bv,num,D.length,.slice none 0 0,[],0⟩))::(B9,Is (cg Bv))::(B7,Is (eS .nilIface))::(B6,Is (cr 0))::(B3,Is (c9 S.a))::arF S) w0 w)(hD:ak w0 sl (D.map ao))(hsl:∀x,sl=some x->x.block∉dom (arF S))(R:Ending->World->Prop)(hR:∀e w',CX S l D w0 e w' b num->R e w'){u4 u5 u8 aS aT ad ag aj ar av ax a0 a2 a3 a4 a5 a6 a9 bY bg bj bk bo bs bv b0 b1 b2 b4 b6 b7 b9 ca cb cc ch ci cj cl cm cp cs ct cu cv cx c0 c1 c2 c3 c4 c5 c6 c7 dO dT df dn dp ds dv d0 d1 d2 d3 d4 d5 d6 d7 eA eC eQ eR eU eW eX ea eb ec eg el em en ep es e0 e1 e2 e3 e4 e5 e6 e7 e8 e9 fE fl fn fr fs fv fz f0 f1 f2 f3 f4 f5 f6 f7 f8 f9 gD gb gg gp gs gu gx g1 g2 g3 g4 g5 g6 g7 hA hC hE hG hH hI hL hM hN hO hP hQ hS hU hV hX hY hZ ha hf hg hh hk hm hn ho hq hs ht hu hv hw hx hy hz h5 h8 h9 iF iN iS id ih:Value}{K:Act->World->Prop}(hK:∀a w,ES.wp Tryz.prog (bodyPostM Fence.wide 3 Tryz.prog Tryz.f25 R) a w->K a w):
  (iq 13 Tryz.f25).wp Tryz.prog (Exit.then K (bodyPostM Fence.wide 3 Tryz.prog Tryz.f25 R)) { tmps:=#[.pointer (some ⟨S.a,0,none⟩),str l,.slice sl D.length cap,.pointer (some ⟨B3,0,none⟩),u4,u5,.pointer (some ⟨B6,0,none⟩),.pointer (some ⟨B7,0,none⟩),u8,.pointer (some ⟨B9,0,none⟩),aS,.pointer (some ⟨B11,0,none⟩),aT,ad,ag,aj,ar,av,ax,a0,a2,a3,a4,a5,a6,a9,bY,bg,bj,bk,bo,bs,bv,b0,b1,b2,b4,b6,b7,b9,ca,cb,cc,ch,ci,cj,cl,cm,cp,cs,ct,cu,cv,cx,c0,c1,c2,c3,c4,c5,c6,c7,dO,dT,df,dn,dp,ds,dv,d0,d1,d2,d3,d4,d5,d6,d7,eA,eC,eQ,eR,eU,eW,eX,ea,eb,ec,eg,el,em,en,ep,es,e0,e1,e2,e3,e4,e5,e6,e7,e8,e9,fE,fl,fn,fr,fs,fv,fz,f0,f1,f2,f3,f4,f5,f6,f7,f8,f9,gD,gb,gg,gp,gs,gu,gx,g1,g2,g3,g4,g5,g6,g7,hA,hC,hE,hG,hH,hI,hL,hM,hN,hO,hP,hQ,hS,hU,hV,hX,hY,hZ,ha,hf,hg,hh,hk,hm,hn,ho,hq,hs,ht,hu,hv,hw,hx,hy,hz,h5,h8,h9,iF,iN,iS,id,ih],defers:=[] } w:=by
 have HH:=Hq9 hok hB hb hT hD hsl hnum hcap hR;clear hok hB hb hT hD hsl hnum hcap hR;conv=>arg 2;whnf
 go_wp2_with ((refine al rfl (t7 154 rfl HH.d ?_);intro Bm w1 hT1;have a7:w1.cell? ⟨S.a,7,none⟩=some (.pointer (some ⟨S.X.ab,0,none⟩)):=aa (hT1.sat.Q7 (b:=S.a) (o:=aO S.X) (by simp[arF])) 7 rfl;have ab3:w1.cell? ⟨S.X.ab,3,none⟩=some (.int .i64 S.A.end_):=aa (hT1.sat.Q7 (b:=S.X.ab) (o:=.cells (aG S.X.d S.A) 157 (0,0)) (by simp[arF,ay])) 3 (nh _ _);have b3:w1.cell? ⟨B3,0,none⟩=some (.pointer (some ⟨S.a,0,none⟩)):=aa (hT1.sat.Q7 (b:=B3) (o:=c9 S.a) (by simp)) 0 rfl;have hal:S.a<w1.heap.size:=hT1.sat.lt (by simp[arF]);have habl:S.X.ab<w1.heap.size:=hT1.sat.lt (by simp[arF,ay]);have hb3l:B3<w1.heap.size:=hT1.sat.lt (by simp);have HT1:=qqH hT1;clear hT1));conv=>arg 2;whnf
 go_wp2_with fail;refine(xY _ _ _ _).mono ?_;rintro e w2 ⟨rfl,rfl⟩;go_wp2_with fail;obtain⟨B12,hB12⟩:∃B12,B12=w1.heap.size:=⟨_,rfl⟩;obtain⟨B13,hB13⟩:∃B13,B13=w1.heap.size+1:=⟨_,rfl⟩;obtain⟨bx,hbx⟩:∃bx,bx=w1.heap.size+1+1:=⟨_,rfl⟩
 have hT2:Turns (arF S) ((B13,Is (cr ((S.data.length+bh []:Nat):Int)))::(B12,Is (d9 Bm))::(Bm,Is (aR str (bA S.data.length 0 []) 0))::(B11,Is (cf (.slice none 0 0)))::(fa (.slice none 0 0) []++((B9,Is (cg Bv))::(bT ⟨Bv,num,D.length,.slice none 0 0,[],0⟩++(((B3,Is (c9 S.a))::[(B6,Is (cr 0)),(B7,Is (eS .nilIface))])++arF S))))) w0 ((w1.alloc (.cells #[.map (some Bm)] 154)).alloc (.cells #[.int .i64 S.A.end_] 3)):=by
  have h:=(HT1.out.Q8 (d9 Bm)).Q8 (cr S.A.end_);rw[World.size_alloc,<- hB13,<- hB12]at h;refine h.to ?_;unfold fa bT aQ;simp only[bN,Value.ownBlock,List.flatMap_nil,List.map_nil,List.nil_append,bh,List.sum_nil,Nat.add_zero,bA,aR];rw[<- HH.a.end_];exact af
 have hbxx:=aM ((w1.alloc (.cells #[.map (some Bm)] 154)).alloc (.cells #[.int .i64 S.A.end_] 3)) (.cells #[.slice sl D.length cap] 38);have hT3:=hT2.alloc (.cells #[.slice sl D.length cap] 38);simp only[World.size_alloc]at hbxx;have hnb:bx∉dom ((B13,Is (cr ((S.data.length+bh []:Nat):Int)))::(B12,Is (d9 Bm))::(Bm,Is (aR str (bA S.data.length 0 []) 0))::(B11,Is (cf (.slice none 0 0)))::(fa (.slice none 0 0) []++((B9,Is (cg Bv))::(bT ⟨Bv,num,D.length,.slice none 0 0,[],0⟩++(((B3,Is (c9 S.a))::[(B6,Is (cr 0)),(B7,Is (eS .nilIface))])++arF S))))):=fun h=>by have:=hT2.sat.lt h;simp only[World.size_alloc]at this;omega
 rw[<- hbx]at hbxx;have hsz:(((w1.alloc (.cells #[.map (some Bm)] 154)).alloc (.cells #[.int .i64 S.A.end_] 3)).alloc (.cells #[.slice sl D.length cap] 38)).heap.size=bx+1:=by simp only[World.size_alloc];omega
 rw[<- hbx,<- hB13,<- hB12];generalize ((w1.alloc (.cells #[.map (some Bm)] 154)).alloc (.cells #[.int .i64 S.A.end_] 3)).alloc (.cells #[.slice sl D.length cap] 38)=W2 at hbxx hT3 hsz ⊢;clear a7 ab3 b3 hal habl hb3l hT2 hB12 hB13 hbx;obtain⟨F0,hF0⟩:∃F0,F0=(B13,Is (cr ((S.data.length+bh []:Nat):Int)))::(B12,Is (d9 Bm))::(Bm,Is (aR str (bA S.data.length 0 []) 0))::(B11,Is (cf (.slice none 0 0)))::(fa (.slice none 0 0) []++((B9,Is (cg Bv))::(bT ⟨Bv,num,D.length,.slice none 0 0,[],0⟩++(((B3,Is (c9 S.a))::[(B6,Is (cr 0)),(B7,Is (eS .nilIface))])++arF S)))):=⟨_,rfl⟩;rw[<- hF0]at hT3 hnb;have hDW:ak W2 sl (D.map ao):=HH.e.Qc hT3 HH.f
 obtain⟨d,off,hda,hdb,hdF,hdw⟩:∃d off,(0<D.length->sl=some ⟨d,off,none⟩)/\eK W2 d off D/\d∉dom F0/\(d≠W2.heap.size/\d≠W2.heap.size+1):=by
  by_cases hd:D=[]
  ·subst hd;exact⟨W2.heap.size+2,0,fun h=>by simp at h,fun j hj=>by simp at hj,fun h=>by have:=hT3.sat.lt h;omega,by omega⟩
  ·have hp:0<D.length:=List.length_pos_iff.2 hd;obtain⟨g,off,rfl,hc⟩:=hDW (by simpa using hp);obtain⟨g0,off0,he0,hc0⟩:=HH.e (by simpa using hp);simp only[Option.some.injEq,Addr.mk.injEq,and_true]at he0;obtain⟨rfl,rfl⟩:=he0;have hlt0:g<w0.heap.size:=World.block_lt_of_cell? w0 _ (hc0 0 (by simpa using hp));have hlt:g<W2.heap.size:=Nat.lt_of_lt_of_le hlt0 hT3.mods.size;refine⟨g,off,fun _=>rfl,fun j hj=>by rw[hc j (by simpa using hj)];simp[ao],fun h=>?_,by omega⟩;rcases hT3.fresh g h with h'|h'
   ·exact HH.f _ rfl h'
   ·omega
 have HL:=Hq6 hF0 hT3 hnb hdb hdF hsz;refine(wpIn_wide (n:=3)).1 ?_;refine CN (n:=1) bx d off cap sl D rfl hda HH.h (by omega) hbxx HL.d hdw (FL S D B9 B11 B12 B13 Bm Bv num ((B3,Is (c9 S.a))::[(B6,Is (cr 0)),(B7,Is (eS .nilIface))])) F0 ?h0 HL.b.sat HL.c HL.e ?a1 ?assign ?body ?done
 case assign =>
  intro l i W K hK;gi_wp2;exact hK
 case h0 =>
  refine⟨S.A.spare,[],.slice none 0 0,.slice none 0 0,[],[],rfl,HH.a.area,rfl,⟨⟨rfl,fun _=>⟨rfl,rfl⟩⟩,fun r hr=>by simp at hr⟩,⟨rfl,fun _=>⟨rfl,rfl⟩⟩,rfl,fun e he=>by simp at he,?_⟩;rw[HL.a];rfl
 case body =>
  intro l2 i F A hi hJ hF hdA hdF2 hle;exact Cn S HH.a D d off 1 l2 B3 B6 B7 B9 B11 B12 B13 Bm Bv num i _ F A hdA hdF2 hi hDl (by have:=HH.b.K;have:=HH.c;omega) hJ hF S.a l
 case done =>
  intro Dd F B hDd hJ hT4 hDF hDB;rename_i hK;have hT5:=HL.b.trans hT4;have HG:=Hq5 hJ hT4 hDF hDB hT5;refine hK _ _ ?_;refine Co S HH.a b HH.b HH.c l D hl hll hDl B3 B6 B7 B9 B11 B12 B13 Bm Bv num HH.g F B hJ hT4.sat ?_;intro tmps w' n ev h6 h7 hres
  have fin:∀(G J:HF) (v:Int) (u:Value),Turns F ((B6,Is (cr v))::(B7,Is (eS u))::(G++J)) B w'->(∀W,Turns (arF S) G w0 W->CX S l D w0 (.returned (.tuple #[.int .i64 v,u])) W b num) ->
    bodyPostM Fence.wide 3 Tryz.prog Tryz.f25 R .ret { tmps:=tmps,defers:=[{ target:=.collected Dd,args:=#[] }] } w':=by
   intro G J v u hTt hPF;have hDlt:Dd<B.heap.size:=ah HG.d
   have hDn:Dd∉dom ((B6,Is (cr v))::(B7,Is (eS u))::(G++J)):=fun h=>by
    rcases hTt.fresh _ h with h'|h'
    ·exact HG.c h'
    ·omega
   have hDw:w'.heap[Dd]?=some (.deferred (some [])):=hTt.mods.at HG.d HG.c;have hT6:=(HG.w.trans hTt).putNew (Nat.le_trans HL.b.mods.size hDd) hDn (.deferred none);refine⟨by simp,.inl ⟨_,_,rfl,run_takeDeferred hDw,?_⟩⟩;exact⟨_,mQ rfl tmps _ B6 B7 (.int .i64 v) u Tryz.underlying3 rfl Tryz.underlying45 rfl h6 h7 (aa (hT6.sat.Q5) 0 rfl) (aa (hT6.sat.tail.Q5) 0 rfl),HH.out.2.2.2.2.2.2.2.2 _ _ (hPF _ (hT6.drop bw))⟩
  rcases hres with⟨sp,chs,J,rfl,rfl,h1,h2,h3,h4⟩|⟨S',V,J,rfl,rfl,h1,h2,h3,h4⟩
  ·exact fin _ J 0 (cC 8) h2 (fun W hW=>.inl ⟨sp,chs,rfl,h1,hW,h3,h4⟩)
  ·exact fin _ J num .nilIface h4 (fun W hW=>.inr ⟨S',V,rfl,h1,h2,h3,hW⟩)
end
section
open Go.RowKit Go.Maps
end
end Go.Proofs.YtdhobpbngkainaaGreatDoor
