/- Ours. A part of the proof, made small by a program. -/
import Derived.Test.YtdhobpbngkainaaGreatDoorKq07
set_option maxRecDepth 100000
set_option maxHeartbeats 4000000
namespace Go.Proofs.YtdhobpbngkainaaGreatDoor
section
open Go.RowKit Go.Maps
def wC(ev:Value)(n:Int):Prop:=(ev=.nilIface/\n=0)\/ev=cC n
theorem wC.is{ev:Value}{n:Int}(h:wC ev n)(w:World):Jk w ev n:=h.imp id .inl
def Scr(F G:HF)(a:World)(va:Option Addr)(n:Nat)(J:HF):Prop:=∀(W:World) (k:Nat),Turns F (J++G) a W->k<n->∃g x,va=some ⟨g,0,none⟩/\W.cell? ⟨g,k,none⟩=some (.int .u8 x)/\W.frozen? ⟨g,k,none⟩=false/\g<W.heap.size/\∀y,Turns F (J++G) a (W.setCell ⟨g,k,none⟩ (.int .u8 y))
theorem Io{F G:HF}{a w:World}{va:Option Addr}{vc:Nat}{D:Bs}(h:Turns F (aK (.slice va D.length vc) D++G) a w)(hok:bOk (.slice va D.length vc) D):∃J,Turns F (J++G) a w/\Scr F G a va D.length J:=by
 by_cases hD:D=[]
 ·exact⟨_,h,fun W k _ hk=>by rw[hD]at hk;cases hk⟩
 ·obtain⟨g,cap,hg,hT⟩:=Im h hok hD;simp only[Value.slice.injEq,true_and]at hg;obtain⟨rfl,rfl⟩:=hg;refine⟨[(g,Fr D.length)],hT,fun W k hW hk=>?_⟩;obtain⟨x,h1,h2,h3⟩:=Gc hW hk;exact⟨g,x,rfl,h1,h2,h3,Ip hW k⟩
def BAg(X:WS)(RR:World->Ending->World->Prop)(W':World)(e:Ending)(w'':World):Prop :=
 ∃D v sp ev k,e=.returned (.tuple #[v,ev])/\wC ev k/\(k=0\/v=.slice none 0 0)/\D.length<=4000/\bOk v D/\AreaOk { X.S.A with spare:=sp }/\Turns (arF X.S) (aK v D++arF (kL X.S sp)) W' w'' /\
  ∀u e u',RR u e u'->aX u u'/\∃cv,e=.returned (.tuple #[cv,.int .i64 k])/\jQ X.P cv D
theorem mN(w0 W:World)(X:WS)(o:OpL)(h:WsOk w0 W X)(hl:X.R.vs.length<=100000)(hE:bq w0)(hk:o.kind=2\/o.kind=3)(RR:World->Ending->World->Prop)(hours:(o.kind=2->∀W',Sat W' (arF X.S)->Calls Tryz.prog 27 #[.pointer (some ⟨X.S.a,0,none⟩),str o.s,.int .i64 o.a] W' (BAg X RR W'))/\(o.kind=3->∀W',Sat W' (arF X.S)->Calls Tryz.prog 103 #[.pointer (some ⟨X.S.a,0,none⟩),str o.s,.int .i64 o.a,.int .i64 o.b,.int .i64 o.c] W' (BAg X RR W')))(href:(o.kind=2->∀W',RefAt X.R X.P W'->Calls Tryz.prog 102 #[.pointer (some ⟨X.R.blk,0,none⟩),str o.s,.int .i64 o.a] W' (RR W'))/\(o.kind=3->∀W',RefAt X.R X.P W'->Calls Tryz.prog 104 #[.pointer (some ⟨X.R.blk,0,none⟩),str o.s,.int .i64 o.a,.int .i64 o.b,.int .i64 o.c] W' (RR W'))):
  Calls Tryz.prog 57 #[.pointer (some ⟨X.U.blk,0,none⟩),opA o] W (jN w0 X):=by
 have HM:=qqH (show Tryz.prog.follows .mixedOrders=true by kernel_rfl);obtain⟨ok,oa,ob_,oc,os,ot,odv,od⟩:=o;dsimp only at hk hours href;obtain⟨ob,hob⟩:∃ob,ob=W.heap.size:=⟨_,rfl⟩;obtain⟨W1,hW1⟩:∃W1,W1=W.alloc (.cells #[.int .i64 ok,.int .i64 oa,.int .i64 ob_,.int .i64 oc,str os,str ot,odv] 65):=⟨_,rfl⟩;obtain⟨Oc,hOc⟩:∃Oc:Nat×(Obj->Prop),Oc=(ob,Is (oO ⟨ok,oa,ob_,oc,os,ot,odv,od⟩)):=⟨_,rfl⟩;obtain⟨J,hJ⟩:∃J:HF,J=Oc::(X.U.blk,Is (aC X.U))::(aI X.R++br X):=⟨_,rfl⟩
 have hT1:Turns [] (arF X.S++J) w0 W1:=by
  rw[hW1,hJ,hOc,hob];have:=h.turns.Q8 (.cells #[.int .i64 ok,.int .i64 oa,.int .i64 ob_,.int .i64 oc,str os,str ot,odv] 65);unfold wsF at this;exact this.to (H:=arF X.S++((W.heap.size,Is (.cells #[.int .i64 ok,.int .i64 oa,.int .i64 ob_,.int .i64 oc,str os,str ot,odv] 65))::(X.U.blk,Is (aC X.U))::(aI X.R++br X))) af
 have hcells:∀(W:World) (G:HF),Turns [] (G++J) w0 W ->
   W.cell? ⟨X.U.blk,1,none⟩=some (.pointer (some ⟨X.S.a,0,none⟩))/\W.cell? ⟨X.U.blk,2,none⟩=some (.pointer (some ⟨X.R.blk,0,none⟩))/\W.cell? ⟨ob,4,none⟩=some (str os)/\W.cell? ⟨ob,1,none⟩=some (.int .i64 oa)/\W.cell? ⟨ob,2,none⟩=some (.int .i64 ob_)/\W.cell? ⟨ob,3,none⟩=some (.int .i64 oc)/\RefAt X.R X.P W/\bq W:=by
  intro W G hT;rw[hJ,hOc]at hT;have hu:W.heap[X.U.blk]?=some (aC X.U):=hT.sat.Q7 (by simp);have ho:W.heap[ob]?=some (oO ⟨ok,oa,ob_,oc,os,ot,odv,od⟩):=hT.sat.Q7 (by simp);refine⟨?_,?_,aa ho 4 rfl,aa ho 1 rfl,aa ho 2 rfl,aa ho 3 rfl,h.refAt' hl hT.sat.right.tail.tail,hE.keep hT.mods (fun h=>by simp at h)⟩
  ·have:=aa hu 1 (v:=qA X.U.a) rfl;rw[h.a]at this;exact this
  ·have:=aa hu 2 (v:=.pointer (some ⟨X.U.r,0,none⟩)) rfl;rw[h.r]at this;exact this
 obtain⟨u1,-,o4,o1,o2,o3,-⟩:=hcells W1 _ hT1;have HH:=Hq3 h hours href;have HCE:=Hq4 hcells hW1 hob hJ;have HT1:=qqH hT1;clear h hl hE hours href hT1 hcells hW1 hob hJ hOc;unfold opA opV;rcases hk with rfl|rfl
 case' inl =>
  go_enter Tryz.func57,Tryz.ntmps57;go_upto_region 9 with(fail);rw[<- HCE.b,<- HCE.c];refine bb 8 HM.out (by kernel_rfl) rfl ?_;simp only[List.take_succ_cons,List.take_zero];repeat still_step
  refine wpStill_nil ?_;refine bd (by kernel_rfl) (HH.b.1 rfl W1.drew HT1.out.drew.sat.left) ?_;rintro e W3 ⟨D,v,sp,ev,k,rfl,hev,hkv,hD,hbo,hA,hG,hag⟩;refine⟨_,rfl,?_⟩;simp only[Act.put,List.setIfInBounds_toArray,List.set_cons_zero,List.set_cons_succ,List.drop_succ_cons,List.drop_zero];repeat still_step
  refine wpStill_nil ?_;have hT3:=HT1.out.drew.step (List.Perm.refl _) hG;obtain⟨-,u2,o4,o1,o2,o3,-⟩:=HCE.a W3 _ hT3;have HT3:=Hq7 hT3 hev hkv hD hbo hA hag;clear hG hT3 hev hkv hD hbo hA hag;go_upto_region 10 with(fail);refine bb 8 HM.out (by kernel_rfl) rfl ?_;simp only[List.take_succ_cons,List.take_zero];repeat still_step
  refine wpStill_nil ?_;refine bd (by kernel_rfl) (HH.c rfl W3.drew (HCE.a W3.drew _ HT3.a.drew).2.2.2.2.2.2.1) ?_;intro e W4 hr;obtain⟨hs,cv,rfl,hwa⟩:=HT3.u _ _ _ hr;refine⟨_,rfl,?_⟩;simp only[Act.put,List.setIfInBounds_toArray,List.set_cons_zero,List.set_cons_succ,List.drop_succ_cons,List.drop_zero];repeat still_step
  refine wpStill_nil ?_
 case' inr =>
  go_enter Tryz.func57,Tryz.ntmps57;go_upto_region 11 with(fail);rw[<- HCE.b,<- HCE.c];refine bb 12 HM.out (by kernel_rfl) rfl ?_;simp only[List.take_succ_cons,List.take_zero];repeat still_step
  refine wpStill_nil ?_;refine bd (by kernel_rfl) (HH.b.2 rfl W1.drew HT1.out.drew.sat.left) ?_;rintro e W3 ⟨D,v,sp,ev,k,rfl,hev,hkv,hD,hbo,hA,hG,hag⟩;refine⟨_,rfl,?_⟩;simp only[Act.put,List.setIfInBounds_toArray,List.set_cons_zero,List.set_cons_succ,List.drop_succ_cons,List.drop_zero];repeat still_step
  refine wpStill_nil ?_;have hT3:=HT1.out.drew.step (List.Perm.refl _) hG;obtain⟨-,u2,o4,o1,o2,o3,-⟩:=HCE.a W3 _ hT3;have HT3:=Hq7 hT3 hev hkv hD hbo hA hag;clear hG hT3 hev hkv hD hbo hA hag;go_upto_region 12 with(fail);refine bb 12 HM.out (by kernel_rfl) rfl ?_;simp only[List.take_succ_cons,List.take_zero];repeat still_step
  refine wpStill_nil ?_;refine bd (by kernel_rfl) (HH.x rfl W3.drew (HCE.a W3.drew _ HT3.a.drew).2.2.2.2.2.2.1) ?_;intro e W4 hr;obtain⟨hs,cv,rfl,hwa⟩:=HT3.u _ _ _ hr;refine⟨_,rfl,?_⟩;simp only[Act.put,List.setIfInBounds_toArray,List.set_cons_zero,List.set_cons_succ,List.drop_succ_cons,List.drop_zero];repeat still_step
  refine wpStill_nil ?_
 all_goals
  have hT4:=HT3.a.drew.Q9 hs;obtain⟨-,-,-,-,-,-,-,hE4⟩:=HCE.a W4 _ hT4;have HTe:=qqH (cR ev k W4 hE4 (HT3.b.is W4));have HT4:=Hq2 hT4 hwa;clear hr hs hwa hT4 hE4 u2 o4 o1 o2 o3;go_wp2_with fail;refine HTe.out.mono ?_;rintro e W5 ⟨rfl,hs5⟩;have hT5:=HT4.a.Q9 hs5;obtain⟨va,vc,hbv,-,hvcap,hvc,-⟩:=aV (dX hT5.sat.left.left HT3.e);rw[HCE.x]at hT5;obtain⟨csl,ccap,hcv,hcc⟩:=HT4.z.at (hT5.sat.right.tail.tail.right.left) HH.a.pok;subst hbv;subst hcv;have hDl:=HT3.d;have HSC:=qqH (oQ va csl vc ccap D D W5 hvc hcc (by omega) (by omega));have HT5:=qqH hT5;clear hs5 hT5 hvc hcc;go_wp2_with fail;refine HSC.out.mono ?_;rintro e W6 ⟨rfl,hs6⟩;rw[decide_eq_true trivial]
  have hT6:Turns [] ((X.U.blk,Is (aC X.U))::(aK (.slice va D.length vc) D++(arF (kL X.S sp)++(aI X.R++(br X++[Oc]))))) w0 W6 :=
   (HT5.out.Q9 hs6.same).to af
  obtain⟨Z,hZ⟩:∃Z,Z=aK (.slice va D.length vc) D++(arF (kL X.S sp)++(aI X.R++(br X++[Oc]))):=⟨_,rfl⟩;rw[<- hZ]at hT6;have HT6:=Hq2 hT6 hZ
  have hkk:k=0\/((k==0)=false/\∀W,(binOp .eql 38 (.slice va D.length vc) (.slice none 0 0)).run Tryz.prog W=.ok (.bool true) W):=by
   rcases HT3.c with h0|h0
   ·exact .inl h0
   ·by_cases hk0:k=0
    ·exact .inl hk0
    ·exact .inr ⟨by simp[hk0],fun W=>by rw[h0];kernel_rfl⟩
  have HK:=qqH hkk;clear hT6 hs6 hZ hkk;by_cases hpar:D.length%2=0
  ·have hev1:((D.length:Int).tmod 2==0)=true:=by rw[Int.tmod_eq_emod_of_nonneg (by omega)];simp;omega
   have hev2:((D.length:Int)%2==0)=true:=by simp;omega
   go_wp2_with (first
    | (refine al rfl (bi 38 (.tmp 100) (.tmp 98) rfl X.U.blk 3 (bn X.U) 63 (.slice va D.length vc) HT6.a rfl rfl (by simp[bn]) (by kernel_rfl) rfl rfl ?_);intro w15 hT15;have HT15:=qqH (show Turns [] ((X.U.blk,Is (aC { X.U with out:=.slice va D.length vc }))::Z) w0 w15 from hT15);clear hT15;simp only[Act.put])
    | (refine al rfl (bi 38 (.tmp 104) (.tmp 102) rfl X.U.blk 4 (bn { X.U with out:=.slice va D.length vc }) 63 (.slice csl D.length ccap) HT15.out rfl rfl (by simp[bn]) (by kernel_rfl) rfl rfl ?_);intro w16 hT16;have HT16:=qqH (show Turns [] ((X.U.blk,Is (aC { X.U with out:=.slice va D.length vc,want:=.slice csl D.length ccap }))::Z) w0 w16 from hT16);clear hT16;simp only[Act.put])
    | (refine al rfl (bi 38 (.tmp 111) (.const (.slice none 0 0)) rfl X.U.blk 3 (bn { X.U with out:=.slice va D.length vc,want:=.slice csl D.length ccap }) 63 (.slice none 0 0) HT16.out rfl rfl (by simp[bn]) (by kernel_rfl) rfl rfl ?_);intro w18 hT18;have HT18:=qqH (show Turns [] ((X.U.blk,Is (aC { X.U with out:=.slice none 0 0,want:=.slice csl D.length ccap }))::Z) w0 w18 from hT18);clear hT18;simp only[Act.put])
    | (refine al rfl (bi 38 (.tmp 114) (.const (.slice none 0 0)) rfl X.U.blk 4 (bn { X.U with out:=.slice none 0 0,want:=.slice csl D.length ccap }) 63 (.slice none 0 0) HT18.out rfl rfl (by simp[bn]) (by kernel_rfl) rfl rfl ?_);intro w19 hT19;have HT19:=qqH (show Turns [] ((X.U.blk,Is (aC { X.U with out:=.slice none 0 0,want:=.slice none 0 0 }))::Z) w0 w19 from hT19);clear hT19;simp only[Act.put]))
   have h19:=HT19.out;rw[HT6.z]at h19;obtain⟨B,hB,hscr⟩:=Io (h19.to (H:=aK (.slice va D.length vc) D++((X.U.blk,Is (aC { X.U with out:=.slice none 0 0,want:=.slice none 0 0 }))::(arF (kL X.S sp)++(aI X.R++(br X++[Oc]))))) af) HT3.e;obtain⟨Y,hY⟩:∃Y:HF,Y=(X.U.blk,Is (aC { X.U with out:=.slice none 0 0,want:=.slice none 0 0 }))::(arF (kL X.S sp)++(aI X.R++(br X++[Oc]))):=⟨_,rfl⟩;rw[<- hY]at hB hscr;have HB:=Hq3 hB hscr hY;clear h19 hB hscr hY;go_loopw [11] (fun i W'=>∃j:Nat,j<=D.length/\i=.int .i64 j/\Turns [] (B++Y) w0 W') (fun i _=>D.length-(intOf i).toNat)
   case atStart=>exact⟨0,Nat.zero_le _,rfl,HB.a⟩
   case round =>
    obtain⟨j,hj,rfl,hTk⟩:=hrel;by_cases hlt:j<D.length
    ·obtain⟨g,x,rfl,hx,hfz,hgl,hset⟩:=HB.b _ _ hTk hlt;have HS:=qqH hset;clear hTk hset;go_wp2_with fail;go_roundw
     case rel=>exact⟨j+1,by omega,by go_num,HS.out _⟩
     case measure=>simp[intOf];omega
    ·obtain rfl:j=D.length:=by omega
     have HTk:=qqH hTk;clear hTk;rcases HK.out with rfl|⟨hk0,heq⟩
     all_goals
      go_wp2_with (go_at_call 41;refine(fp _ _).mono ?_;rintro e w' ⟨rfl,rfl⟩);refine bodyPost_ret (results_tmp rfl _ _ _) rfl ⟨sp,.slice none 0 0,.slice none 0 0,[],by simp,HH.a.outTo HT3.f fA (pZ _) (by simp) ?_⟩;refine HTk.out.drop (fun x=>?_);rw[HB.y];unfold wsF EN br;rw[kT];simp only[aB,an,gC]<;>omega
  ·have hev1:((D.length:Int).tmod 2==0)=false:=by rw[Int.tmod_eq_emod_of_nonneg (by omega)];simp;omega
   have hev2:((D.length:Int)%2==0)=false:=by simp;omega
   rcases HK.out with rfl|⟨hk0,heq⟩
   all_goals
    go_wp2_with (first
     | (refine al rfl (bi 38 (.tmp 100) (.tmp 98) rfl X.U.blk 3 (bn X.U) 63 (.slice va D.length vc) HT6.a rfl rfl (by simp[bn]) (by kernel_rfl) rfl rfl ?_);intro w15 hT15;have HT15:=qqH (show Turns [] ((X.U.blk,Is (aC { X.U with out:=.slice va D.length vc }))::Z) w0 w15 from hT15);clear hT15;simp only[Act.put])
     | (refine al rfl (bi 38 (.tmp 104) (.tmp 102) rfl X.U.blk 4 (bn { X.U with out:=.slice va D.length vc }) 63 (.slice csl D.length ccap) HT15.out rfl rfl (by simp[bn]) (by kernel_rfl) rfl rfl ?_);intro w16 hT16;have HT16:=qqH (show Turns [] ((X.U.blk,Is (aC { X.U with out:=.slice va D.length vc,want:=.slice csl D.length ccap }))::Z) w0 w16 from hT16);clear hT16;simp only[Act.put])
     | (go_at_call 41;refine(fp _ _).mono ?_;rintro e w' ⟨rfl,rfl⟩))
    refine bodyPost_ret (results_tmp rfl _ _ _) rfl ⟨sp,.slice va D.length vc,.slice csl D.length ccap,D,by simp,HH.a.outTo HT3.f HT3.e HT4.z (by omega) ?_⟩;have h16:=HT16.out;rw[HT6.z]at h16;refine h16.drop (fun x=>?_);unfold wsF EN br;simp only[aB,an,gC]<;>omega
theorem pM(w0 W:World)(X:WS)(o:OpL)(h:WsOk w0 W X)(hl:X.R.vs.length<=100000)(hE:bq w0)(hk:o.kind=4)(RR:World->Ending->World->Prop)(hours:∀W',Sat W' (arF X.S)->Calls Tryz.prog 105 #[.pointer (some ⟨X.S.a,0,none⟩),str o.s] W' (fun e w''=>∃ns v ev k,e=.returned (.tuple #[v,ev])/\wC ev k/\(k=0\/v=.slice none 0 0)/\ns.length<=100000/\iOk v ns/\Turns (arF X.S) (bZ v ns++arF X.S) W' w'' /\
   ∀u e u',RR u e u'->∃cv,e=.returned (.tuple #[cv,.int .i64 k])/\iOk cv ns/\Turns [] (bZ cv ns) u u'))(href:∀W',RefAt X.R X.P W'->Calls Tryz.prog 106 #[.pointer (some ⟨X.R.blk,0,none⟩),str o.s] W' (RR W')):
  Calls Tryz.prog 57 #[.pointer (some ⟨X.U.blk,0,none⟩),opA o] W (jN w0 X):=by
 have HM:=qqH (show Tryz.prog.follows .mixedOrders=true by kernel_rfl);obtain⟨ok,oa,ob_,oc,os,ot,odv,od⟩:=o;dsimp only at hk hours href;obtain⟨ob,hob⟩:∃ob,ob=W.heap.size:=⟨_,rfl⟩;obtain⟨W1,hW1⟩:∃W1,W1=W.alloc (.cells #[.int .i64 ok,.int .i64 oa,.int .i64 ob_,.int .i64 oc,str os,str ot,odv] 65):=⟨_,rfl⟩;obtain⟨Oc,hOc⟩:∃Oc:Nat×(Obj->Prop),Oc=(ob,Is (oO ⟨ok,oa,ob_,oc,os,ot,odv,od⟩)):=⟨_,rfl⟩;obtain⟨J,hJ⟩:∃J:HF,J=Oc::(X.U.blk,Is (aC X.U))::(aI X.R++br X):=⟨_,rfl⟩
 have hT1:Turns [] (arF X.S++J) w0 W1:=by
  rw[hW1,hJ,hOc,hob];have:=h.turns.Q8 (.cells #[.int .i64 ok,.int .i64 oa,.int .i64 ob_,.int .i64 oc,str os,str ot,odv] 65);unfold wsF at this;exact this.to (H:=arF X.S++((W.heap.size,Is (.cells #[.int .i64 ok,.int .i64 oa,.int .i64 ob_,.int .i64 oc,str os,str ot,odv] 65))::(X.U.blk,Is (aC X.U))::(aI X.R++br X))) af
 have hcells:∀(W:World) (G:HF),Turns [] (G++J) w0 W ->
   W.cell? ⟨X.U.blk,1,none⟩=some (.pointer (some ⟨X.S.a,0,none⟩))/\W.cell? ⟨X.U.blk,2,none⟩=some (.pointer (some ⟨X.R.blk,0,none⟩))/\W.cell? ⟨ob,4,none⟩=some (str os)/\W.cell? ⟨ob,1,none⟩=some (.int .i64 oa)/\W.cell? ⟨ob,2,none⟩=some (.int .i64 ob_)/\W.cell? ⟨ob,3,none⟩=some (.int .i64 oc)/\RefAt X.R X.P W/\bq W:=by
  intro W G hT;rw[hJ,hOc]at hT;have hu:W.heap[X.U.blk]?=some (aC X.U):=hT.sat.Q7 (by simp);have ho:W.heap[ob]?=some (oO ⟨ok,oa,ob_,oc,os,ot,odv,od⟩):=hT.sat.Q7 (by simp);refine⟨?_,?_,aa ho 4 rfl,aa ho 1 rfl,aa ho 2 rfl,aa ho 3 rfl,h.refAt' hl hT.sat.right.tail.tail,hE.keep hT.mods (fun h=>by simp at h)⟩
  ·have:=aa hu 1 (v:=qA X.U.a) rfl;rw[h.a]at this;exact this
  ·have:=aa hu 2 (v:=.pointer (some ⟨X.U.r,0,none⟩)) rfl;rw[h.r]at this;exact this
 obtain⟨u1,-,o4,o1,o2,o3,-⟩:=hcells W1 _ hT1;have HH:=Hq3 h hours href;have HCE:=Hq4 hcells hW1 hob hJ;have HT1:=qqH hT1;clear h hl hE hours href hT1 hcells hW1 hob hJ hOc;unfold opA opV;subst hk;go_enter Tryz.func57,Tryz.ntmps57;go_upto_region 26 with(fail);rw[<- HCE.b,<- HCE.c];refine bb 6 HM.out (by kernel_rfl) rfl ?_;simp only[List.take_succ_cons,List.take_zero];repeat still_step
 refine wpStill_nil ?_;refine bd (by kernel_rfl) (HH.b W1.drew HT1.out.drew.sat.left) ?_;rintro e W3 ⟨ns,v,ev,k,rfl,hev,hkv,hnl,hbo,hG,hag⟩;refine⟨_,rfl,?_⟩;simp only[Act.put,List.setIfInBounds_toArray,List.set_cons_zero,List.set_cons_succ,List.drop_succ_cons,List.drop_zero];repeat still_step
 refine wpStill_nil ?_;have hT3:Turns [] ((bZ v ns++arF X.S)++J) w0 W3:=HT1.out.drew.step (List.Perm.refl _) hG;obtain⟨-,u2,o4,o1,o2,o3,-⟩:=HCE.a W3 _ hT3;have HT3:=Hq6 hT3 hev hkv hnl hbo hag;clear hG hT3 hev hkv hnl hbo hag;go_upto_region 27 with(fail);refine bb 6 HM.out (by kernel_rfl) rfl ?_;simp only[List.take_succ_cons,List.take_zero];repeat still_step
 refine wpStill_nil ?_;refine bd (by kernel_rfl) (HH.y W3.drew (HCE.a W3.drew _ HT3.a.drew).2.2.2.2.2.2.1) ?_;intro e W4 hr;obtain⟨cv,rfl,hmo,hGm⟩:=HT3.v _ _ _ hr;refine⟨_,rfl,?_⟩;simp only[Act.put,List.setIfInBounds_toArray,List.set_cons_zero,List.set_cons_succ,List.drop_succ_cons,List.drop_zero];repeat still_step
 refine wpStill_nil ?_
 have hT4:Turns [] ((bZ cv ns++(bZ v ns++arF X.S))++J) w0 W4:=by
  have:=HT3.a.drew.Qb hGm;rwa [<- List.append_assoc]at this
 obtain⟨-,-,-,-,-,-,-,hE4⟩:=HCE.a W4 _ hT4;have HTe:=qqH (cR ev k W4 hE4 (HT3.b.is W4));have HT4:=Hq2 hT4 hmo;clear hr hGm hmo hT4 hE4 u2 o4 o1 o2 o3;go_wp2_with fail;refine HTe.out.mono ?_;rintro e W5 ⟨rfl,hs5⟩;have hT5:=HT4.a.Q9 hs5;obtain⟨ca,cc,hcv,-,-,hcc,-⟩:=bV (hT5.sat.left.left) HT4.z (by decide);obtain⟨la,lc,hlv,-,-,hlc,-⟩:=bV (hT5.sat.left.right.left) HT3.e (by decide);have hnl:=HT3.d;have HSC:=qqH (pP la ca lc cc ns ns W5 hlc hcc (by omega) (by omega))
 have hkk:k=0\/((k==0)=false/\∀W,(binOp .eql 171 v (.slice none 0 0)).run Tryz.prog W=.ok (.bool true) W):=by
  rcases HT3.c with h0|h0
  ·exact .inl h0
  ·by_cases hk0:k=0
   ·exact .inl hk0
   ·exact .inr ⟨by simp[hk0],fun W=>by rw[h0];kernel_rfl⟩
 have HT5:=qqH hT5;subst hcv;subst hlv;have HK:=qqH hkk;clear hs5 hT5 hcc hlc hkk;go_wp2_with fail;refine HSC.out.mono ?_;rintro e W6 ⟨rfl,hs6⟩;rw[decide_eq_true trivial];have HT6:=qqH (HT5.out.Q9 hs6.same);clear hs6;rcases HK.out with rfl|⟨hk0,heq⟩
 all_goals
  go_wp2_with (go_at_call 41;refine(fp _ _).mono ?_;rintro e w' ⟨rfl,rfl⟩);refine bodyPost_ret (results_tmp rfl _ _ _) rfl ⟨X.S.A.spare,X.U.out,X.U.want,X.O,by simp,(HH.a.back ?_:WsOk w0 _ X)⟩;refine HT6.out.drop (fun x=>?_);rw[HCE.x];unfold wsF;simp only[aB,an]<;>omega
theorem uE(w0 W:World)(X:WS)(o:OpL)(h:WsOk w0 W X)(hl:X.R.vs.length<=100000)(hE:bq w0)(hk:o.kind=5)(RR:World->Ending->World->Prop)(hours:∀W',Sat W' (arF X.S)->Calls Tryz.prog 88 #[.pointer (some ⟨X.S.a,0,none⟩),str o.s] W' (fun e w''=>∃ns v ev k,e=.returned (.tuple #[v,ev])/\wC ev k/\(k=0\/v=.slice none 0 0)/\ns.length<=100000/\l7 v ns/\Turns (arF X.S) (dN v ns++arF X.S) W' w'' /\
   ∀u e u',RR u e u'->∃cv,e=.returned (.tuple #[cv,.int .i64 k])/\nG cv ns/\Turns [] (eN cv ns) u u'))(href:∀W',RefAt X.R X.P W'->Calls Tryz.prog 89 #[.pointer (some ⟨X.R.blk,0,none⟩),str o.s] W' (RR W')):
  Calls Tryz.prog 57 #[.pointer (some ⟨X.U.blk,0,none⟩),opA o] W (jN w0 X):=by
 have HM:=qqH (show Tryz.prog.follows .mixedOrders=true by kernel_rfl);obtain⟨ok,oa,ob_,oc,os,ot,odv,od⟩:=o;dsimp only at hk hours href;obtain⟨ob,hob⟩:∃ob,ob=W.heap.size:=⟨_,rfl⟩;obtain⟨W1,hW1⟩:∃W1,W1=W.alloc (.cells #[.int .i64 ok,.int .i64 oa,.int .i64 ob_,.int .i64 oc,str os,str ot,odv] 65):=⟨_,rfl⟩;obtain⟨Oc,hOc⟩:∃Oc:Nat×(Obj->Prop),Oc=(ob,Is (oO ⟨ok,oa,ob_,oc,os,ot,odv,od⟩)):=⟨_,rfl⟩;obtain⟨J,hJ⟩:∃J:HF,J=Oc::(X.U.blk,Is (aC X.U))::(aI X.R++br X):=⟨_,rfl⟩
 have hT1:Turns [] (arF X.S++J) w0 W1:=by
  rw[hW1,hJ,hOc,hob];have:=h.turns.Q8 (.cells #[.int .i64 ok,.int .i64 oa,.int .i64 ob_,.int .i64 oc,str os,str ot,odv] 65);unfold wsF at this;exact this.to (H:=arF X.S++((W.heap.size,Is (.cells #[.int .i64 ok,.int .i64 oa,.int .i64 ob_,.int .i64 oc,str os,str ot,odv] 65))::(X.U.blk,Is (aC X.U))::(aI X.R++br X))) af
 have hcells:∀(W:World) (G:HF),Turns [] (G++J) w0 W ->
   W.cell? ⟨X.U.blk,1,none⟩=some (.pointer (some ⟨X.S.a,0,none⟩))/\W.cell? ⟨X.U.blk,2,none⟩=some (.pointer (some ⟨X.R.blk,0,none⟩))/\W.cell? ⟨ob,4,none⟩=some (str os)/\W.cell? ⟨ob,1,none⟩=some (.int .i64 oa)/\W.cell? ⟨ob,2,none⟩=some (.int .i64 ob_)/\W.cell? ⟨ob,3,none⟩=some (.int .i64 oc)/\RefAt X.R X.P W/\bq W:=by
  intro W G hT;rw[hJ,hOc]at hT;have hu:W.heap[X.U.blk]?=some (aC X.U):=hT.sat.Q7 (by simp);have ho:W.heap[ob]?=some (oO ⟨ok,oa,ob_,oc,os,ot,odv,od⟩):=hT.sat.Q7 (by simp);refine⟨?_,?_,aa ho 4 rfl,aa ho 1 rfl,aa ho 2 rfl,aa ho 3 rfl,h.refAt' hl hT.sat.right.tail.tail,hE.keep hT.mods (fun h=>by simp at h)⟩
  ·have:=aa hu 1 (v:=qA X.U.a) rfl;rw[h.a]at this;exact this
  ·have:=aa hu 2 (v:=.pointer (some ⟨X.U.r,0,none⟩)) rfl;rw[h.r]at this;exact this
 obtain⟨u1,-,o4,o1,o2,o3,-⟩:=hcells W1 _ hT1;have HH:=Hq3 h hours href;have HCE:=Hq4 hcells hW1 hob hJ;have HT1:=qqH hT1;clear h hl hE hours href hT1 hcells hW1 hob hJ hOc;unfold opA opV;subst hk;go_enter Tryz.func57,Tryz.ntmps57;go_upto_region 32 with(fail);rw[<- HCE.b,<- HCE.c];refine bb 6 HM.out (by kernel_rfl) rfl ?_;simp only[List.take_succ_cons,List.take_zero];repeat still_step
 refine wpStill_nil ?_;refine bd (by kernel_rfl) (HH.b W1.drew HT1.out.drew.sat.left) ?_;rintro e W3 ⟨ns,v,ev,k,rfl,hev,hkv,hnl,hbo,hG,hag⟩;refine⟨_,rfl,?_⟩;simp only[Act.put,List.setIfInBounds_toArray,List.set_cons_zero,List.set_cons_succ,List.drop_succ_cons,List.drop_zero];repeat still_step
 refine wpStill_nil ?_;have hT3:Turns [] ((dN v ns++arF X.S)++J) w0 W3:=HT1.out.drew.step (List.Perm.refl _) hG;obtain⟨-,u2,o4,o1,o2,o3,-⟩:=HCE.a W3 _ hT3;have HT3:=Hq6 hT3 hev hkv hnl hbo hag;clear hG hT3 hev hkv hnl hbo hag;go_upto_region 33 with(fail);refine bb 6 HM.out (by kernel_rfl) rfl ?_;simp only[List.take_succ_cons,List.take_zero];repeat still_step
 refine wpStill_nil ?_;refine bd (by kernel_rfl) (HH.y W3.drew (HCE.a W3.drew _ HT3.a.drew).2.2.2.2.2.2.1) ?_;intro e W4 hr;obtain⟨cv,rfl,hmo,hGm⟩:=HT3.v _ _ _ hr;refine⟨_,rfl,?_⟩;simp only[Act.put,List.setIfInBounds_toArray,List.set_cons_zero,List.set_cons_succ,List.drop_succ_cons,List.drop_zero];repeat still_step
 refine wpStill_nil ?_
 have hT4:Turns [] ((eN cv ns++(dN v ns++arF X.S))++J) w0 W4:=by
  have:=HT3.a.drew.Qb hGm;rwa [<- List.append_assoc]at this
 obtain⟨-,-,-,-,-,-,-,hE4⟩:=HCE.a W4 _ hT4;have HTe:=qqH (cR ev k W4 hE4 (HT3.b.is W4));have HT4:=Hq2 hT4 hmo;clear hr hGm hmo hT4 hE4 u2 o4 o1 o2 o3;go_wp2_with fail;refine HTe.out.mono ?_;rintro e W5 ⟨rfl,hs5⟩;have hT5:=HT4.a.Q9 hs5;obtain⟨ca,cc,hcv,-,-,hcc,-⟩:=bV (hT5.sat.left.left) HT4.z (by decide);obtain⟨la,lc,hlv,-,-,hlc,-⟩:=bV (hT5.sat.left.right.left) HT3.e (by decide);have hnl:=HT3.d;have HSC:=qqH (pO ns ns la ca lc cc W5 hlc hcc (by omega) (by omega))
 have hkk:k=0\/((k==0)=false/\∀W,(binOp .eql 181 v (.slice none 0 0)).run Tryz.prog W=.ok (.bool true) W):=by
  rcases HT3.c with h0|h0
  ·exact .inl h0
  ·by_cases hk0:k=0
   ·exact .inl hk0
   ·exact .inr ⟨by simp[hk0],fun W=>by rw[h0];kernel_rfl⟩
 have HT5:=qqH hT5;subst hcv;subst hlv;have HK:=qqH hkk;clear hs5 hT5 hcc hlc hkk;go_wp2_with fail;refine HSC.out.mono ?_;rintro e W6 ⟨b6,rfl,hb6,hs6⟩;obtain rfl:=hb6 rfl;have HT6:=qqH (HT5.out.Q9 hs6);clear hs6;rcases HK.out with rfl|⟨hk0,heq⟩
 all_goals
  go_wp2_with (go_at_call 41;refine(fp _ _).mono ?_;rintro e w' ⟨rfl,rfl⟩);refine bodyPost_ret (results_tmp rfl _ _ _) rfl ⟨X.S.A.spare,X.U.out,X.U.want,X.O,by simp,(HH.a.back ?_:WsOk w0 _ X)⟩;refine HT6.out.drop (fun x=>?_);rw[HCE.x];unfold wsF;simp only[aB,an]<;>omega
theorem uD(w0 W:World)(X:WS)(o:OpL)(b:Nat)(h:WsOk w0 W X)(hB:ArB X.S b)(hb:b<=90000)(hl:X.R.vs.length<=100000)(hE:bq w0)(ho:OpOk w0 o)(hk:o.kind=2):
  Calls Tryz.prog 57 #[.pointer (some ⟨X.U.blk,0,none⟩),opA o] W (jN w0 X):=by
 refine mN w0 W X o h hl hE (.inl hk) (jf X.R o.s o.a) ⟨fun _ W' hs=>?_,fun h3=>by omega⟩ ⟨fun _ W' hr=>j0 X.R X.P o.s o.a W' hr,fun h3=>by omega⟩;refine(DK X.S o.s o.a b W' hs h.ar hB hb (by have:=ho.s;omega)).mono ?_;rintro e w' (⟨k,hf,rfl,hT⟩|⟨V,v,sp,hf,rfl,hbo,hA,hT⟩)
 ·refine⟨[],_,X.S.A.spare,_,k,rfl,.inr rfl,.inr rfl,by simp,fA,h.ar.area,by rw[kT];exact hT,fun u e u' hq=>?_⟩;obtain⟨hs,hm⟩:=hq;rw[h.link.err hf]at hm;exact⟨hs,_,hm,pZ _⟩
 ·obtain⟨rv,hrv,htr,hrm,-⟩:=h.link.found hf;have hDr:rv.cont=dG X.S V:=congrArg (fun t:kD=>t.2.1) htr;have hDl:(dG X.S V).length<=4000:=by rw[<- hDr];exact(h.link.each rv hrm).2.2
  refine⟨_,_,sp,_,0,rfl,.inl ⟨rfl,rfl⟩,.inl rfl,hDl,hbo,hA,hT,fun u e u' hq=>?_⟩;obtain⟨hs,hm⟩:=hq;rw[hrv]at hm;refine⟨hs,_,hm.1,?_⟩;rw[<- hDr];exact Fo h.pool h.pok (h.inp rv hrm)
theorem xA(w0 W:World)(X:WS)(o:OpL)(b:Nat)(h:WsOk w0 W X)(hB:ArB X.S b)(hb:b<=90000)(hl:X.R.vs.length<=100000)(hE:bq w0)(ho:OpOk w0 o)(hk:o.kind=3):
  Calls Tryz.prog 57 #[.pointer (some ⟨X.U.blk,0,none⟩),opA o] W (jN w0 X):=by
 have hc9:o.c<=9223372036854775807:=ho.c.2;refine mN w0 W X o h hl hE (.inr hk) (jg X.R o.s o.a o.b o.c) ⟨fun h2=>by omega,fun _ W' hs=>?_⟩ ⟨fun h2=>by omega,fun _ W' hr=>uB X.R X.P o.s o.a o.b o.c W' hr hc9⟩;refine(wI X.S o.s o.a o.b o.c b W' hs h.ar hB hb (by have:=ho.s;omega) hc9).mono ?_;rintro e w' (⟨k,hf,rfl,hT⟩|⟨V,hf,hr,rfl,hT⟩|⟨V,v,sp,hf,hr,rfl,hbo,hA,hT⟩)
 ·refine⟨[],_,X.S.A.spare,_,k,rfl,.inr rfl,.inr rfl,by simp,fA,h.ar.area,by rw[kT];exact hT,fun u e u' hq=>?_⟩;obtain⟨hs,hm⟩:=hq;rw[h.link.err hf]at hm;exact⟨hs,_,hm,pZ _⟩
 all_goals
  obtain⟨rv,hrv,htr,hrm,-⟩:=h.link.found hf;have hDr:rv.cont=dG X.S V:=congrArg (fun t:kD=>t.2.1) htr;obtain⟨p,hp1,-,hp2⟩:=pX hf.2.2;have hlen:rv.cont.length=V.size:=by rw[hDr];exact kV h.ar hp1 hp2
  have hDl:rv.cont.length<=4000:=(h.link.each rv hrm).2.2
 ·refine⟨[],_,X.S.A.spare,_,4,rfl,.inr rfl,.inr rfl,by simp,fA,h.ar.area,by rw[kT];exact hT,fun u e u' hq=>?_⟩;obtain⟨hs,hm⟩:=hq;rw[hrv]at hm;obtain⟨-,hm⟩:=hm;rw[hlen]at hm;rcases hm with⟨-,hm⟩|⟨hm,-⟩
  ·exact⟨hs,_,hm,pZ _⟩
  ·exact absurd hr hm
 ·refine⟨((dG X.S V).drop o.b.toNat).take o.c.toNat,v,sp,_,0,rfl,.inl ⟨rfl,rfl⟩,.inl rfl,?_,hbo,hA,hT,fun u e u' hq=>?_⟩
  ·rw[List.length_take,List.length_drop,<- hDr];omega
  ·obtain⟨hs,hm⟩:=hq;rw[hrv]at hm;obtain⟨-,hm⟩:=hm;rw[hlen,hDr]at hm;rcases hm with⟨hm,-⟩|⟨-,sl,cap,hm,-,hx⟩
   ·exact absurd hm hr
   ·refine⟨hs,_,hm,sl,cap,rfl,?_⟩;by_cases hne:((dG X.S V).drop o.b.toNat).take o.c.toNat=[]
    ·exact .inl hne
    ·obtain⟨g,off,cap',e1,e2⟩:=hx hne;refine .inr ⟨(rv.cv,rv.cont),h.inp rv hrm,g,off,cap',o.b.toNat,by simp only;rw[hlen];exact e1,e2,?_⟩;simp only[hDr];rw[List.length_take];rcases Nat.le_total o.c.toNat ((dG X.S V).drop o.b.toNat).length with hc|hc
     ·rw[Nat.min_eq_left hc]
     ·rw[Nat.min_eq_right hc,List.take_of_length_le hc,List.take_length]
theorem uF(w0 W:World)(X:WS)(o:OpL)(b:Nat)(h:WsOk w0 W X)(hB:ArB X.S b)(hb:b<=90000)(hl:X.R.vs.length<=100000)(hE:bq w0)(hk:o.kind=4):
  Calls Tryz.prog 57 #[.pointer (some ⟨X.U.blk,0,none⟩),opA o] W (jN w0 X):=by
 refine pM w0 W X o h hl hE hk (eV X.R o.s) (fun W' hs=>?_) (fun W' hr=>mM X.R X.P o.s W' hr);refine(rZ X.S o.s b W' hs h.ar hB hb).mono ?_;rintro e w' (⟨k,hf,rfl,hT⟩|⟨V,v,hf,rfl,hbo,hT⟩)
 ·refine⟨[],_,_,k,rfl,.inr rfl,.inr rfl,by simp,lJ,hT,fun u e u' hm=>?_⟩;unfold eV at hm;rw[h.link.err hf]at hm;exact⟨_,hm.2,lJ,(Sat.nil u |> fun hs=>Turns.same hs hm.1)⟩
 ·obtain⟨rv,hrv,-⟩:=h.link.found hf
  have hnr:fM X.R.vs o.s=ez (ai X.S.ps o.s):=by
   have:=congrArg (List.map (fun t:kD=>t.1)) (h.link.vers o.s);rw[List.map_map,List.map_map]at this;exact this.symm
  refine⟨_,v,_,0,rfl,.inl ⟨rfl,rfl⟩,.inl rfl,by rw[<- hnr];have:=qu X.R.vs o.s;omega,hbo,hT,fun u e u' hm=>?_⟩;unfold eV at hm;rw[hrv]at hm;rw[<- hnr];exact hm
theorem tA(w0 W:World)(X:WS)(o:OpL)(b:Nat)(h:WsOk w0 W X)(hB:ArB X.S b)(hb:b<=90000)(hl:X.R.vs.length<=100000)(hE:bq w0)(hk:o.kind=5):
  Calls Tryz.prog 57 #[.pointer (some ⟨X.U.blk,0,none⟩),opA o] W (jN w0 X):=by
 refine uE w0 W X o h hl hE hk (vd X.R o.s) (fun W' hs=>?_) (fun W' hr=>zQ X.R X.P o.s W' hr);refine(AI X.S o.s b W' hs h.ar hB hb).mono ?_;rintro e w' (⟨hc,rfl,hT⟩|⟨hc,v,es,rfl,hso,heo,hT⟩)
 ·refine⟨[],_,_,9,rfl,.inr rfl,.inr rfl,by simp,⟨rfl,fun _=>⟨rfl,rfl⟩⟩,hT,fun u e u' hm=>?_⟩;rcases hm with⟨_,he,hs⟩|⟨h1,-⟩
  ·exact⟨_,he,⟨rfl,fun _=>⟨rfl,rfl⟩⟩,Turns.same (Sat.nil u) hs⟩
  ·rw[h.link.closed,hc]at h1;cases h1
 ·obtain rfl:=h.link.list h.ar o.s hso;refine⟨_,v,_,0,rfl,.inl ⟨rfl,rfl⟩,.inl rfl,by have:=vC o.s X.R.vs;omega,heo,hT,fun u e u' hm=>?_⟩;rcases hm with⟨h1,-⟩|⟨-,hm⟩
  ·rw[h.link.closed,hc]at h1;cases h1
  ·exact hm
def jr(L L':DevL):Prop:=DevOk L'/\L'.n=L.n/\L'.now=L.now/\L'.safe=L.now/\L'.chs=[]
def FZ(S:AS)(w:World)(e:Ending)(w':World):Prop :=
 (S.X.closed=true/\e=.returned (cC 9)/\Turns (arF S) (arF S) w w') \/
 (S.X.closed=false/\e=.returned .nilIface/\∃L',jr S.L L'/\Turns (arF S) (arF { S with L:=L' }) w w')
theorem yt(X:ArchL)(h:X.broken=.nilIface):(bf X).setIfInBounds 11 .nilIface=bf X:=by
 unfold bf;rw[h];rfl
theorem rY(S:AS)(b:Nat)(w:World)(h:Sat w (arF S))(hok:ArOk S)(hB:ArB S b)(hb:b<=90000):
  Calls Tryz.prog 47 #[.pointer (some ⟨S.a,0,none⟩)] w (FZ S w):=by
 have ha:=h.Q5;have hal:=ah ha;have HH:=Hq2 h hok;have hch:S.L.chs.length<=1099511627776:=by have:=hB.chs;omega
 cases hc:S.X.closed with
 | true =>
  have a10:w.cell? ⟨S.a,10,none⟩=some (.bool true):=by rw[<- hc];exact aa ha 10 rfl
  have HC:=qqH hc;clear h hok hB hb ha hc hch;go_enter Tryz.func47,Tryz.ntmps47;go_wp2_with fail;exact bodyPost_ret (results_tmp rfl _ _ _) rfl (.inl ⟨HC.out,rfl,Turns.refl HH.a⟩)
 | false =>
  have a10:w.cell? ⟨S.a,10,none⟩=some (.bool false):=by rw[<- hc];exact aa ha 10 rfl
  have a6:w.cell? ⟨S.a,6,none⟩=some (.pointer (some ⟨S.X.d,0,none⟩)):=aa ha 6 rfl;have a11:w.cell? ⟨S.a,11,none⟩=some .nilIface:=by rw[<- hok.sound];exact aa ha 11 rfl
  have HF:=qqH (kb S.X.d S.L w (h.sub (fun x=>by simp only[arF,aB,an]<;>omega)) hok.dev hch);have HC:=qqH hc;clear h hok hB hb ha hc hch;go_enter Tryz.func47,Tryz.ntmps47;go_wp2_with fail;refine HF.out.mono ?_;rintro e w1 ⟨rfl,L',hT,hL⟩;have hT1:Turns (arF S) (arF { S with L:=L' }) w w1:=((Turns.refl HH.a).step (R:=(S.a,Is (aO S.X))::(ay S.X.ab S.X.d S.A++(aU S.X.pm S.ps S.pc++(dm S.X.tm S.ts S.tc++bm S.X.cm S.cs S.cc)))) (by unfold arF;exact af) hT).to (by unfold arF;exact af);have HT:=Hq2 hL hT1;clear hT hL hT1;go_wp2_with ((refine al rfl (bi 45 (.tmp 20) (.tmp 18) rfl S.a 11 (bf S.X) 128 .nilIface HT.z rfl rfl (by simp[bf]) (by kernel_rfl) rfl rfl ?_);rw[yt S.X HH.z.sound];intro w2 hT2;have b11:w2.cell? ⟨S.a,11,none⟩=some .nilIface:=(by rw[<- HH.z.sound];exact aa hT2.sat.Q5 11 rfl);have HT2:=qqH hT2;clear hT2;simp only[Act.put]));exact bodyPost_ret (results_tmp rfl _ _ _) rfl (.inr ⟨HC.out,rfl,L',HT.a,HT2.out⟩)
def DH(S:AS)(w:World)(e:Ending)(w':World):Prop :=
 (S.X.closed=true/\e=.returned (cC 9)/\Turns (arF S) (arF S) w w') \/
 (S.X.closed=false/\e=.returned .nilIface/\∃L',jr S.L L'/\Turns (arF S) (arF { S with L:=L',X:={ S.X with closed:=true } }) w w')
theorem qK(S:AS)(b:Nat)(w:World)(h:Sat w (arF S))(hok:ArOk S)(hB:ArB S b)(hb:b<=90000):
  Calls Tryz.prog 44 #[.pointer (some ⟨S.a,0,none⟩)] w (DH S w):=by
 have HS:=qqH (rY S b w h hok hB hb);have HH:=Hq2 h hok;clear h hok hB hb;go_enter Tryz.func44,Tryz.ntmps44;go_wp2_with fail;refine HS.out.mono ?_;rintro e w1 (⟨hc,rfl,hT⟩|⟨hc,rfl,L',hL,hT⟩)
 ·have HT:=Hq2 hc hT;have hal:=ah hT.sat.Q5;clear hc hT;unfold cC;go_wp2_with ((refine al rfl (bi 4 (.tmp 8) (.const (.bool true)) rfl S.a 10 (bf S.X) 128 (.bool true) HT.z rfl rfl (by simp[bf]) (by kernel_rfl) rfl rfl ?_);intro w2 hT2;have HT2:=qqH hT2;clear hT2;simp only[Act.put]));refine bodyPost_ret (results_tmp rfl _ _ _) rfl (.inl ⟨HT.a,rfl,?_⟩);have h2:=HT2.out;have e1:(bf S.X).setIfInBounds 10 (.bool true)=bf S.X:=by rw[<- HT.a];rfl
  rw[e1]at h2;exact h2
 ·have HT:=Hq3 hc hL hT;have hal:=ah hT.sat.Q5;clear hc hT hL;go_wp2_with ((refine al rfl (bi 4 (.tmp 8) (.const (.bool true)) rfl S.a 10 (bf S.X) 128 (.bool true) HT.y rfl rfl (by simp[bf]) (by kernel_rfl) rfl rfl ?_);intro w2 hT2;have HT2:=qqH hT2;clear hT2;simp only[Act.put]));exact bodyPost_ret (results_tmp rfl _ _ _) rfl (.inr ⟨HT.a,rfl,L',HT.b,HT2.out⟩)
theorem oy(ub:Nat)(U:WorldL)(R:RefL)(ev:Value)(w:World)(hu:w.heap[ub]?=some (aC U))(hr:U.r=R.blk)(hR:w.heap[R.blk]?=some (iA R))(hE:bq w)(hev:(R.closed=false/\ev=.nilIface)\/(R.closed=true/\ev=cC 9)):
  Calls Tryz.prog 70 #[.pointer (some ⟨ub,0,none⟩),ev] w (fun e w'=>e=.returned (.bool true)/\aX w w'):=by
 have HH:=Hq4 hu hr hR hE;rcases hev with⟨hc,rfl⟩|⟨hc,rfl⟩
 ·have HC:=qqH hc;have HT:=qqH (cR .nilIface 0 w hE (.inl ⟨rfl,rfl⟩));clear hu hr hR hE hc;go_enter Tryz.func70,Tryz.ntmps70;go_wp2_with fail;refine HT.out.mono ?_;rintro e w1 ⟨rfl,hs1⟩
  have u2:w1.cell? ⟨ub,2,none⟩=some (.pointer (some ⟨R.blk,0,none⟩)):=by
   have:=aa (hs1.at HH.a id) 2 (v:=.pointer (some ⟨U.r,0,none⟩)) rfl;rw[HH.b]at this;exact this
  have r3:w1.cell? ⟨R.blk,3,none⟩=some (.bool false):=by
   have:=aa (hs1.at HH.c id) 3 (v:=.bool R.closed) rfl;rw[HC.out]at this;exact this
  have HS:=qqH hs1;clear hs1;go_wp2_with fail;exact bodyPost_ret (results_tmp rfl _ _ _) rfl ⟨rfl,HS.out⟩
 ·have HC:=qqH hc;have HT:=qqH (cR (cC 9) 9 w hE (.inr (.inl rfl)));clear hu hr hR hE hc;go_enter Tryz.func70,Tryz.ntmps70;go_wp2_with fail;refine HT.out.mono ?_;rintro e w1 ⟨rfl,hs1⟩
  have u2:w1.cell? ⟨ub,2,none⟩=some (.pointer (some ⟨R.blk,0,none⟩)):=by
   have:=aa (hs1.at HH.a id) 2 (v:=.pointer (some ⟨U.r,0,none⟩)) rfl;rw[HH.b]at this;exact this
  have r3:w1.cell? ⟨R.blk,3,none⟩=some (.bool true):=by
   have:=aa (hs1.at HH.c id) 3 (v:=.bool R.closed) rfl;rw[HC.out]at this;exact this
  have HS:=qqH hs1;clear hs1;go_wp2_with fail;exact bodyPost_ret (results_tmp rfl _ _ _) rfl ⟨rfl,HS.out⟩
theorem fV(w0 W:World)(X:WS)(o:OpL)(h:WsOk w0 W X)(hk:o.kind=2\/o.kind=3\/o.kind=4\/o.kind=5\/o.kind=13)(hR:∀W',WsOk w0 W' X->Calls Tryz.prog 57 #[.pointer (some ⟨X.U.blk,0,none⟩),opA o] W' (jN w0 X)):
  Calls Tryz.prog 23 #[.pointer (some ⟨X.U.blk,0,none⟩),opA o] W (jN w0 X):=by
 have HH:=Hq2 h hR;obtain⟨ok,oa,ob_,oc,os,ot,odv,od⟩:=o;simp only at hk;clear h hR;unfold opA opV at *
 have hal:WsOk w0 (W.alloc (.cells #[.int .i64 ok,.int .i64 oa,.int .i64 ob_,.int .i64 oc,str os,str ot,odv] 65)) X:=HH.a.back (HH.a.turns.alloc _);have HA:=qqH (HH.z _ hal);clear hal;rcases hk with rfl|rfl|rfl|rfl|rfl
 all_goals
  go_enter Tryz.func23,Tryz.ntmps23;go_wp2_with fail;refine HA.out.mono ?_;rintro e w1 ⟨sp,ov,wv,D,rfl,hw⟩;have HW:=qqH hw;clear hw;go_wp2_with fail;exact bodyPost_ret (results_tmp rfl _ _ _) rfl ⟨sp,ov,wv,D,rfl,HW.out⟩
def iL(S:AS)(L':DevL):AS:={ S with L:=L' }
def om(S:AS):AS:={ S with X:={ S.X with closed:=true } }
theorem ArOk.flush{S:AS}{L':DevL}(h:ArOk S)(hf:jr S.L L'):ArOk (iL S L') where
 dev:=hf.1
 n16:=by show 16<=L'.n;rw[hf.2.1];exact h.n16
 nmax:=by show L'.n<=_;rw[hf.2.1];exact h.nmax
 area:=h.area
 first:=by show S.A.first=_;rw[h.first];show _=2+S.X.ep%2*aD L'.n;rw[hf.2.1]
 count:=by show S.A.count=aD L'.n;rw[hf.2.1];exact h.count
 end_:=h.end_
 tail:=h.tail
 dat:=by show gf L'.now S.A.first S.A.count S.data;rw[hf.2.2.1];exact h.dat
 paths:=h.paths
 tags:=h.tags
 chunks:=h.chunks
 kin:=h.kin
 kat:=h.kat
 vers:=h.vers
 some:=h.some
 sound:=h.sound
 ep:=h.ep
theorem ArOk.close{S:AS}(h:ArOk S):ArOk (om S) where
 dev:=h.dev
 n16:=h.n16
 nmax:=h.nmax
 area:=h.area
 first:=h.first
 count:=h.count
 end_:=h.end_
 tail:=h.tail
 dat:=h.dat
 paths:=h.paths
 tags:=h.tags
 chunks:=h.chunks
 kin:=h.kin
 kat:=h.kat
 vers:=h.vers
 some:=h.some
 sound:=h.sound
 ep:=h.ep
theorem ArB.flush{S:AS}{L':DevL}{b:Nat}(h:ArB S b)(hf:jr S.L L'):ArB (iL S L') b where
 K:=h.K
 np:=h.np
 nt:=h.nt
 vers:=h.vers
 tags:=h.tags
 used:=h.used
 sc:=h.sc
 sb:=h.sb
 quota:=h.quota
 chs:=by show L'.chs.length<=_;rw[hf.2.2.2.2];simp
theorem ArB.close{S:AS}{b:Nat}(h:ArB S b):ArB (om S) b where
 K:=h.K
 np:=h.np
 nt:=h.nt
 vers:=h.vers
 tags:=h.tags
 used:=h.used
 sc:=h.sc
 sb:=h.sb
 quota:=h.quota
 chs:=h.chs
theorem Link.flush{S:AS}{R:RefL}(L:Link S R)(L':DevL):Link (iL S L') R where
 closed:=L.closed
 quota:=L.quota
 used:=L.used
 vers:=L.vers
 sorted:=L.sorted
 asc:=L.asc
 each:=L.each
 tags:=L.tags
 tsort:=L.tsort
 teach:=L.teach
 held:=L.held
theorem Link.close{S:AS}{R:RefL}(L:Link S R):Link (om S) { R with closed:=true } where
 closed:=rfl
 quota:=L.quota
 used:=L.used
 vers:=L.vers
 sorted:=L.sorted
 asc:=L.asc
 each:=L.each
 tags:=L.tags
 tsort:=L.tsort
 teach:=L.teach
 held:=L.held
def Ig(w0:World)(X:WS)(e:Ending)(W':World):Prop :=
 e=.returned (.bool true)/\(WsOk w0 W' X\/∃L',jr X.S.L L'/\WsOk w0 W' { X with S:=iL X.S L' })
theorem WsOk.flush{w0 W W':World}{X:WS}(h:WsOk w0 W X){L':DevL}(hf:jr X.S.L L')(hT:Turns [] (wsF { X with S:=iL X.S L' }) w0 W'):WsOk w0 W' { X with S:=iL X.S L' } where
 turns:=hT
 a:=h.a
 r:=h.r
 d:=h.d
 ar:=h.ar.flush hf
 ref:=h.ref
 pok:=h.pok
 inp:=h.inp
 out:=h.out
 want:=h.want
 most:=h.most
 ms:=h.ms
 link:=h.link.flush L'
 olen:=h.olen
theorem tW(w0 W:World)(X:WS)(o:OpL)(b:Nat)(h:WsOk w0 W X)(hB:ArB X.S b)(hb:b<=90000)(hE:bq w0)(hk:o.kind=6):
  Calls Tryz.prog 23 #[.pointer (some ⟨X.U.blk,0,none⟩),opA o] W (Ig w0 X):=by
 obtain⟨ok,oa,ob_,oc,os,ot,odv,od⟩:=o;simp only at hk;subst hk;have HH:=Hq4 h hB hb hE;clear h hB hb hE;unfold opA opV;go_enter Tryz.func23,Tryz.ntmps23;go_upto_region 38 with(fail);have hT1:=HH.a.turns.alloc (.cells #[.int .i64 6,.int .i64 oa,.int .i64 ob_,.int .i64 oc,str os,str ot,odv] 65);generalize W.alloc (.cells #[.int .i64 6,.int .i64 oa,.int .i64 ob_,.int .i64 oc,str os,str ot,odv] 65)=W1 at hT1 ⊢
 have u1:W1.cell? ⟨X.U.blk,1,none⟩=some (.pointer (some ⟨X.S.a,0,none⟩)):=by
  have:=aa hT1.sat.Q5 1 (v:=qA X.U.a) rfl;rw[HH.a.a]at this;exact this
 have HT1:=qqH hT1;clear hT1;go_wp2_with fail;refine(rY X.S b W1 HT1.out.sat.tail.left HH.a.ar HH.b HH.c).mono ?_;intro e W2 hp
 have key:∃(S':AS) (ev:Value),e=.returned ev/\((X.R.closed=false/\ev=.nilIface)\/(X.R.closed=true/\ev=cC 9))/\Turns (arF X.S) (arF S') W1 W2/\(S'=X.S\/∃L',jr X.S.L L'/\S'=iL X.S L'):=by
  rcases hp with⟨hc,rfl,hG⟩|⟨hc,rfl,L',hf,hG⟩
  ·exact⟨X.S,_,rfl,.inr ⟨by rw[HH.a.link.closed];exact hc,rfl⟩,hG,.inl rfl⟩
  ·exact⟨iL X.S L',_,rfl,.inl ⟨by rw[HH.a.link.closed];exact hc,rfl⟩,hG,.inr ⟨L',hf,rfl⟩⟩
 obtain⟨S',ev,rfl,hev,hG,hS⟩:=key
 have hT2:Turns [] ((X.U.blk,Is (aC X.U))::(arF S'++(aI X.R++br X))) w0 W2:=by
  have:=HT1.out;unfold wsF at this;exact((this.to (H:=arF X.S++((X.U.blk,Is (aC X.U))::(aI X.R++br X))) af).step (List.Perm.refl _) hG).to af
 have HEn:=qqH (oy X.U.blk X.U X.R ev W2 hT2.sat.Q5 HH.a.r (hT2.sat.Q7 (by unfold aI;simp)) (HH.x.keep hT2.mods (fun h=>by simp at h)) hev);have HT2:=Hq2 hT2 hS;clear hp hev hG hS hT2;go_wp2_with fail;refine HEn.out.mono ?_;rintro e W3 ⟨rfl,hs3⟩;have HT3:=qqH (HT2.a.Q9 hs3);clear hs3;go_wp2_with fail;refine bodyPost_ret (results_tmp rfl _ _ _) rfl ⟨rfl,?_⟩;rcases HT2.z with hS|⟨L',hf,hS⟩
 ·have h3:=HT3.out;rw[hS]at h3;exact .inl (HH.a.back h3)
 ·have h3:=HT3.out;rw[hS]at h3;exact .inr ⟨L',hf,HH.a.flush hf h3⟩
end
section
open Go.RowKit
theorem xE{P:Program}(w:World)(dT sT ty elem:TypeId)(k g n dCap:Nat)(s:Nat)(sCap:Nat)(cur cs:List Value)(t u:TypeId)(hu:P.underlying dT=some (.slice elem))(hs:(P.info? elem).map (·.size)=some k)(hg:w.heap[g]?=some (.cells cur.toArray t (0,0)))(hsr:w.heap[s]?=some (.cells cs.toArray u (0,0)))(hn:cs.length=n*k)(hc:cur.length=n*k)(h1:∀v∈cs,v.oneCell'=true):
  (Builtin.copy_ #[dT,sT] ty #[.slice (some ⟨g,0,none⟩) n dCap,.slice (some ⟨s,0,none⟩) n sCap]).run P w=.ok (goInt n) (w.setCells g 0 cs):=by
 have hl:=run_loadCells_list (P:=P) w ⟨s,0,none⟩ cs (fun j v hj=>by
  rw[Addr.add_lit,Nat.zero_add];exact aa hsr j (by simpa using hj))
 have hth:=dL hg 0 cs.length (by simp;omega);have hst:=run_storeCells_cells (P:=P) g 0 cs 0 w (fun j hj=>by have:=(hth j hj).1;simpa using this) (fun j hj=>by have:=(hth j hj).2;simpa using this) h1
 cases hq:P.info? elem with
 | none=>simp[hq]at hs
 | some i =>
  have hi:i.size=k:=by simpa[hq]using hs
  rw[hn]at hl;simp[Builtin.copy_,run_underlying hu,Builtin.lenOf,Builtin.firstCells,sizeOf,typeInfo,hq,hi,hl,hst]
theorem wx{P:Program}{w a0:World}{o:Oper}{a:Act}{K:Act->World->Prop}{Q:Exit->Act->World->Prop}{F G:HF}(d s:Operand)(dT sT:TypeId)(ho:o.op=.call { callee:=.builtin .copy,args:=#[d,s],argTypes:=#[dT,sT] })(elem:TypeId)(hu:P.underlying dT=some (.slice elem))(k:Nat)(hsz:(P.info? elem).map (·.size)=some k)(g n dCap sb sCap:Nat)(cur cs:List Value)(t u:TypeId)(hd:a.eval d=.slice (some ⟨g,0,none⟩) n dCap)(hs:a.eval s=.slice (some ⟨sb,0,none⟩) n sCap)(hT:Turns F ((g,Is (.cells cur.toArray t (0,0)))::G) a0 w)(hsr:w.heap[sb]?=some (.cells cs.toArray u (0,0)))(hn:cs.length=n*k)(hc:cur.length=n*k)(h1:∀v∈cs,v.oneCell'=true)(h:∀w',Turns F ((g,Is (.cells cs.toArray t (0,0)))::G) a0 w'->K (a.put o.dst (goInt n)) w'):Oper.wp P o a w K Q:=by
 have hrun:=xE (P:=P) w dT sT o.type elem k g n dCap sb sCap cur cs t u hu hsz hT.sat.Q5 hsr hn hc h1;have hq:=du (C:=cur.toArray) hT.sat.Q5 cs (by simp;omega);unfold Oper.wp;simp[execOp,ho,resolve,invoke,builtin,hd,hs,hrun,Result.andThen];exact h _ (hT.Qa hq.2 hq.1)
theorem JS(F1 Z:HF)(A:World)(c d _ nb b n:Nat)(CC CA:Array Value)(X now:Bs){Q:Exit->Act->World->Prop}{w:World}{u1 u2 u4 u5 u6 u7 u8 u9 aS aT ab ad ag aj ar av ax a0 a1 a2 a3 a4 a5 a6 a7 a9 bY:Value}{ds:List Deferred}(hT:Turns F1 ((b,Is (.cells (az X) 43 (0,0)))::(c,Is (.cells CC 105 (0,0)))::(d,Is (.cells CA 105 (0,0)))::(nb,Is (.cells (az now) 43 (0,0)))::Z) A w)(hcc:CC[0]?=some (.slice (some ⟨b,0,none⟩) n n))(hca:CA[1]?=some (.slice (some ⟨nb,0,none⟩) n n))(hX:X.length=128*n)(hnw:now.length=128*n)(hk:∀(bg bj bk bo bs bv bx b0 b1:Value) (w':World),Turns F1 ((b,Is (.cells (az now) 43 (0,0)))::(c,Is (.cells CC 105 (0,0)))::(d,Is (.cells CA 105 (0,0)))::(nb,Is (.cells (az now) 43 (0,0)))::Z) A w'->Q .normal { tmps:=#[.pointer (some ⟨d,0,none⟩),u1,u2,.pointer (some ⟨c,0,none⟩),u4,u5,u6,u7,u8,u9,bg,bj,bk,bo,bs,bv,bx,b0,b1,a0,a1,a2,a3,a4,a5,a6,a7,a9,bY],defers:=ds } w'):
  (iq 2 Tryz.f15).wp Tryz.prog Q { tmps:=#[.pointer (some ⟨d,0,none⟩),u1,u2,.pointer (some ⟨c,0,none⟩),u4,u5,u6,u7,u8,u9,aS,aT,ab,ad,ag,aj,ar,av,ax,a0,a1,a2,a3,a4,a5,a6,a7,a9,bY],defers:=ds } w:=by
 have HM:=qqH (show Tryz.prog.follows .mixedOrders=true by kernel_rfl);conv=>arg 2;whnf
 refine bK (A:=?A) (hA:=?hA) HM.out (iT [fun v=>v=.pointer (some ⟨c,0,none⟩),fun v=>v=.pointer (some ⟨c,0,none⟩),fun v=>v=.pointer (some ⟨c,0,none⟩),fun v=>v=.slice (some ⟨b,0,none⟩) n n,fun v=>v=.pointer (some ⟨d,0,none⟩),fun v=>v=.pointer (some ⟨d,0,none⟩),fun v=>v=.pointer (some ⟨d,1,none⟩),fun v=>v=.slice (some ⟨nb,0,none⟩) n n,fun _=>True])
  (fun vs1 W=>match vs1 with
  | []=>Turns F1 ((b,Is (.cells (az X) 43 (0,0)))::(c,Is (.cells CC 105 (0,0)))::(d,Is (.cells CA 105 (0,0)))::(nb,Is (.cells (az now) 43 (0,0)))::Z) A W
  | [_]=>Turns F1 ((b,Is (.cells (az now) 43 (0,0)))::(c,Is (.cells CC 105 (0,0)))::(d,Is (.cells CA 105 (0,0)))::(nb,Is (.cells (az now) 43 (0,0)))::Z) A W
  | _=>False)
  (fun W=>W.heap[c]?=some (.cells CC 105 (0,0))/\W.heap[d]?=some (.cells CA 105 (0,0))) [8] ?hC (by kernel_rfl) (by kernel_rfl) (by decide) (by decide) ?h0 ?hs ?he
 case hA=>intro x;simp only[aw,Act.put,List.setIfInBounds_toArray,List.set_cons_zero,List.set_cons_succ,Nat.reduceAdd];rfl
 case hs =>
  refine⟨ac rfl rfl (fun x wq hd hC K hK hKw=>?_),ac rfl rfl (fun x wq hd hC K hK hKw=>?_),ac rfl rfl (fun x wq hd hC K hK hKw=>?_),ac rfl rfl (fun x wq hd hC K hK hKw=>?_),ac rfl rfl (fun x wq hd hC K hK hKw=>?_),ac rfl rfl (fun x wq hd hC K hK hKw=>?_),ac rfl rfl (fun x wq hd hC K hK hKw=>?_),ac rfl rfl (fun x wq hd hC K hK hKw=>?_),au 0 rfl rfl (fun x wq hd hS K hK=>?_),trivial⟩
  ·exact am (by kernel_rfl) (hK _ rfl)
  ·have h0:x 0=.pointer (some ⟨c,0,none⟩):=ae hd 0 (by kernel_rfl);exact am (by rw[h0];kernel_rfl) (hK _ rfl)
  ·have h1:x 1=.pointer (some ⟨c,0,none⟩):=ae hd 1 (by kernel_rfl);exact am (by rw[h1];kernel_rfl) (hK _ rfl)
  ·have h2:x 2=.pointer (some ⟨c,0,none⟩):=ae hd 2 (by kernel_rfl);exact bD Tryz.underlying102 rfl rfl (by rw[h2];rfl) (aa hC.1 0 hcc) (hK _ rfl)
  ·exact am (by kernel_rfl) (hK _ rfl)
  ·have h4:x 4=.pointer (some ⟨d,0,none⟩):=ae hd 4 (by kernel_rfl);exact am (by rw[h4];kernel_rfl) (hK _ rfl)
  ·have h5:x 5=.pointer (some ⟨d,0,none⟩):=ae hd 5 (by kernel_rfl);exact am (by rw[h5];kernel_rfl) (hK _ rfl)
  ·have h6:x 6=.pointer (some ⟨d,1,none⟩):=ae hd 6 (by kernel_rfl);exact bD Tryz.underlying102 rfl rfl (by rw[h6];rfl) (aa hC.2 1 hca) (hK _ rfl)
  ·have h3:x 3=.slice (some ⟨b,0,none⟩) n n:=ae hd 3 (by kernel_rfl);have h7:x 7=.slice (some ⟨nb,0,none⟩) n n:=ae hd 7 (by kernel_rfl);exact wx (.tmp 13) (.tmp 17) 102 102 rfl 43 Tryz.underlying102 128 rM b n n nb n (X.map ao) (now.map ao) 43 43 (by rw[h3];rfl) (by rw[h7];rfl) hS (hS.sat.Q7 (o:=.cells (az now) 43 (0,0)) (by simp)) (by rw[List.length_map];omega) (by rw[List.length_map];omega) (ej _) (fun w1 k1=>hK _ _ trivial k1)
 case hC =>
  intro vs1 W hS;match vs1,hS with
  | [],hT=>exact⟨hT.sat.Q7 (by simp),hT.sat.Q7 (by simp)⟩
  | [_],hT=>exact⟨hT.sat.Q7 (by simp),hT.sat.Q7 (by simp)⟩
 case h0 =>
  exact(show Turns F1 ((b,Is (.cells (az X) 43 (0,0)))::(c,Is (.cells CC 105 (0,0)))::(d,Is (.cells CA 105 (0,0)))::(nb,Is (.cells (az now) 43 (0,0)))::Z) A w from hT).drew
 case he =>
  intro x w3 hφ hS;exact hk (x 0) (x 1) (x 2) (x 3) (x 4) (x 5) (x 6) (x 7) (x 8) w3 hS
theorem JT(F1 Z:HF)(A:World)(c d _ nb b n:Nat)(CC CA:Array Value)(X now:Bs){Q:Exit->Act->World->Prop}{w:World}{u1 u2 u4 u5 u6 u7 u8 u9 aS aT ab ad ag aj ar av ax a0 a1 a2 a3 a4 a5 a6 a7 a9 bY:Value}{ds:List Deferred}(hT:Turns F1 ((b,Is (.cells (az X) 43 (0,0)))::(c,Is (.cells CC 105 (0,0)))::(d,Is (.cells CA 105 (0,0)))::(nb,Is (.cells (az now) 43 (0,0)))::Z) A w)(hcc:CC[1]?=some (.slice (some ⟨b,0,none⟩) n n))(hca:CA[1]?=some (.slice (some ⟨nb,0,none⟩) n n))(hX:X.length=128*n)(hnw:now.length=128*n)(hk:∀(bg bj bk bo bs bv bx b0 b1:Value) (w':World),Turns F1 ((b,Is (.cells (az now) 43 (0,0)))::(c,Is (.cells CC 105 (0,0)))::(d,Is (.cells CA 105 (0,0)))::(nb,Is (.cells (az now) 43 (0,0)))::Z) A w'->Q .normal { tmps:=#[.pointer (some ⟨d,0,none⟩),u1,u2,.pointer (some ⟨c,0,none⟩),u4,u5,u6,u7,u8,u9,aS,aT,ab,ad,ag,aj,ar,av,ax,bg,bj,bk,bo,bs,bv,bx,b0,b1,bY],defers:=ds } w'):
  (iq 3 Tryz.f15).wp Tryz.prog Q { tmps:=#[.pointer (some ⟨d,0,none⟩),u1,u2,.pointer (some ⟨c,0,none⟩),u4,u5,u6,u7,u8,u9,aS,aT,ab,ad,ag,aj,ar,av,ax,a0,a1,a2,a3,a4,a5,a6,a7,a9,bY],defers:=ds } w:=by
 have HM:=qqH (show Tryz.prog.follows .mixedOrders=true by kernel_rfl);conv=>arg 2;whnf
 refine bK (A:=?A) (hA:=?hA) HM.out (iT [fun v=>v=.pointer (some ⟨c,0,none⟩),fun v=>v=.pointer (some ⟨c,0,none⟩),fun v=>v=.pointer (some ⟨c,1,none⟩),fun v=>v=.slice (some ⟨b,0,none⟩) n n,fun v=>v=.pointer (some ⟨d,0,none⟩),fun v=>v=.pointer (some ⟨d,0,none⟩),fun v=>v=.pointer (some ⟨d,1,none⟩),fun v=>v=.slice (some ⟨nb,0,none⟩) n n,fun _=>True])
  (fun vs1 W=>match vs1 with
  | []=>Turns F1 ((b,Is (.cells (az X) 43 (0,0)))::(c,Is (.cells CC 105 (0,0)))::(d,Is (.cells CA 105 (0,0)))::(nb,Is (.cells (az now) 43 (0,0)))::Z) A W
  | [_]=>Turns F1 ((b,Is (.cells (az now) 43 (0,0)))::(c,Is (.cells CC 105 (0,0)))::(d,Is (.cells CA 105 (0,0)))::(nb,Is (.cells (az now) 43 (0,0)))::Z) A W
  | _=>False)
  (fun W=>W.heap[c]?=some (.cells CC 105 (0,0))/\W.heap[d]?=some (.cells CA 105 (0,0))) [8] ?hC (by kernel_rfl) (by kernel_rfl) (by decide) (by decide) ?h0 ?hs ?he
 case hA=>intro x;simp only[aw,Act.put,List.setIfInBounds_toArray,List.set_cons_zero,List.set_cons_succ,Nat.reduceAdd];rfl
 case hs =>
  refine⟨ac rfl rfl (fun x wq hd hC K hK hKw=>?_),ac rfl rfl (fun x wq hd hC K hK hKw=>?_),ac rfl rfl (fun x wq hd hC K hK hKw=>?_),ac rfl rfl (fun x wq hd hC K hK hKw=>?_),ac rfl rfl (fun x wq hd hC K hK hKw=>?_),ac rfl rfl (fun x wq hd hC K hK hKw=>?_),ac rfl rfl (fun x wq hd hC K hK hKw=>?_),ac rfl rfl (fun x wq hd hC K hK hKw=>?_),au 0 rfl rfl (fun x wq hd hS K hK=>?_),trivial⟩
  ·exact am (by kernel_rfl) (hK _ rfl)
  ·have h0:x 0=.pointer (some ⟨c,0,none⟩):=ae hd 0 (by kernel_rfl);exact am (by rw[h0];kernel_rfl) (hK _ rfl)
  ·have h1:x 1=.pointer (some ⟨c,0,none⟩):=ae hd 1 (by kernel_rfl);exact am (by rw[h1];kernel_rfl) (hK _ rfl)
  ·have h2:x 2=.pointer (some ⟨c,1,none⟩):=ae hd 2 (by kernel_rfl);exact bD Tryz.underlying102 rfl rfl (by rw[h2];rfl) (aa hC.1 1 hcc) (hK _ rfl)
  ·exact am (by kernel_rfl) (hK _ rfl)
  ·have h4:x 4=.pointer (some ⟨d,0,none⟩):=ae hd 4 (by kernel_rfl);exact am (by rw[h4];kernel_rfl) (hK _ rfl)
  ·have h5:x 5=.pointer (some ⟨d,0,none⟩):=ae hd 5 (by kernel_rfl);exact am (by rw[h5];kernel_rfl) (hK _ rfl)
  ·have h6:x 6=.pointer (some ⟨d,1,none⟩):=ae hd 6 (by kernel_rfl);exact bD Tryz.underlying102 rfl rfl (by rw[h6];rfl) (aa hC.2 1 hca) (hK _ rfl)
  ·have h3:x 3=.slice (some ⟨b,0,none⟩) n n:=ae hd 3 (by kernel_rfl);have h7:x 7=.slice (some ⟨nb,0,none⟩) n n:=ae hd 7 (by kernel_rfl);exact wx (.tmp 22) (.tmp 26) 102 102 rfl 43 Tryz.underlying102 128 rM b n n nb n (X.map ao) (now.map ao) 43 43 (by rw[h3];rfl) (by rw[h7];rfl) hS (hS.sat.Q7 (o:=.cells (az now) 43 (0,0)) (by simp)) (by rw[List.length_map];omega) (by rw[List.length_map];omega) (ej _) (fun w1 k1=>hK _ _ trivial k1)
 case hC =>
  intro vs1 W hS;match vs1,hS with
  | [],hT=>exact⟨hT.sat.Q7 (by simp),hT.sat.Q7 (by simp)⟩
  | [_],hT=>exact⟨hT.sat.Q7 (by simp),hT.sat.Q7 (by simp)⟩
 case h0 =>
  exact(show Turns F1 ((b,Is (.cells (az X) 43 (0,0)))::(c,Is (.cells CC 105 (0,0)))::(d,Is (.cells CA 105 (0,0)))::(nb,Is (.cells (az now) 43 (0,0)))::Z) A w from hT).drew
 case he =>
  intro x w3 hφ hS;exact hk (x 0) (x 1) (x 2) (x 3) (x 4) (x 5) (x 6) (x 7) (x 8) w3 hS
def xW(d:Nat)(L:DevL)(w:World)(e:Ending)(w':World):Prop :=
 ∃d' L',e=.returned (.pointer (some ⟨d',0,none⟩))/\Turns (aE d L) (aE d' L'++aE d L) w w'/\DevOk L'/\L'.n=L.n/\L'.now=L.now/\L'.safe=L.now/\L'.chs=[]
theorem uk(d:Nat)(L:DevL)(w:World)(h:Sat w (aE d L))(hL:DevOk L):
  Calls Tryz.prog 15 #[.pointer (some ⟨d,0,none⟩)] w (xW d L w):=by
 have hd:=h.Q5;have c0:=aa hd 0 rfl;have hdl:=ah hd;have HN:=qqH (lX L.n hL.hn w);have HH:=Hq2 h hL;clear h hL hd;go_enter Tryz.func15,Tryz.ntmps15;go_wp2_with fail;refine HN.out.mono ?_;rintro e w1 ⟨c,M,rfl,hT,hM,hMn,hnow,hch⟩;have hd1:=hT.sat.Q5;have hT1:=(Turns.refl HH.a).Qb hT;have hMs:M.safe.length=128*L.n:=by rw[hM.safeL,hMn]
 have hMw:M.now.length=128*L.n:=by rw[hM.nowL,hMn]
 have H1:=Hq6 hT1 hM hMn hch hMs hMw;clear hT hM hMn hnow hch hd1 hT1 hMs hMw;go_wp2_with fail;obtain⟨Z2,hZ2⟩:∃Z2:HF,Z2=(M.nb,Is (.cells (az M.now) 43 (0,0)))::(bN 110 129 M.chv M.chs.length (cn M.chs)++((L.sb,Is (.cells (az L.safe) 43 (0,0)))::bN 110 129 L.chv L.chs.length (cn L.chs))):=⟨_,rfl⟩;refine JS (aE d L) Z2 w c d L.sb L.nb M.sb L.n #[.slice (some ⟨M.sb,0,none⟩) L.n L.n,.slice (some ⟨M.nb,0,none⟩) L.n L.n,M.chv,.int .i64 (-1)] #[.slice (some ⟨L.sb,0,none⟩) L.n L.n,.slice (some ⟨L.nb,0,none⟩) L.n L.n,L.chv,.int .i64 (-1)] M.safe L.now ?_ rfl rfl H1.e HH.z.nowL ?_
 ·refine H1.a.to ?_;rw[hZ2];unfold aE;rw[H1.c];exact af
 intro _ _ _ _ _ _ _ _ _ w2 hT2;have HT2:=qqH hT2;clear hT2;go_wp2_with fail;refine JT (aE d L) ((M.sb,Is (.cells (az L.now) 43 (0,0)))::(bN 110 129 M.chv M.chs.length (cn M.chs)++((L.sb,Is (.cells (az L.safe) 43 (0,0)))::bN 110 129 L.chv L.chs.length (cn L.chs)))) w c d L.sb L.nb M.nb L.n #[.slice (some ⟨M.sb,0,none⟩) L.n L.n,.slice (some ⟨M.nb,0,none⟩) L.n L.n,M.chv,.int .i64 (-1)] #[.slice (some ⟨L.sb,0,none⟩) L.n L.n,.slice (some ⟨L.nb,0,none⟩) L.n L.n,L.chv,.int .i64 (-1)] M.now L.now ?_ rfl rfl H1.v HH.z.nowL ?_
 ·refine HT2.out.to ?_;rw[hZ2];exact af
 intro _ _ _ _ _ _ _ _ _ w3 hT3;have HT3:=qqH hT3;clear hT3;go_wp2_with fail;have hM:=H1.b;have hrow:=hM.row;rw[H1.d]at hrow;refine bodyPost_ret (results_tmp rfl _ _ _) rfl ⟨c,{ M with n:=L.n,safe:=L.now,now:=L.now,chs:=[] },rfl,?_,⟨HH.z.hn,HH.z.nowL,HH.z.nowL,hrow,(fun _ hc=>by cases hc),rfl⟩,rfl,rfl,rfl,rfl⟩;have hT4:=HT3.out;rw[H1.d]at hT4;refine hT4.to ?_;unfold aE;exact af
end
section
open Go.RowKit Go.Maps
def nZ(L L':DevL):Prop:=DevOk L'/\L'.n=L.n/\L'.now=L.now/\L'.safe=L.now/\L'.chs=[]
def Ca(R:RefL)(q:Int)(b':Nat)(vv' tv':Value):RefL:={ R with blk:=b',vv:=vv',tv:=tv',quota:=dk q,closed:=false }
def xo(X:WS)(q:Int)(d':Nat)(S':AS)(b':Nat)(vv' tv':Value):WS:={ X with U:={ X.U with d:=d',a:=some S'.a,r:=b' },S:=S',R:=Ca X.R q b' vv' tv' }
theorem KG{X:WS}{w0 W:World}(h:WsOk w0 W X):∀v∈X.R.vs,v.cv.oneCell'=true:=fun v hv=>by
 obtain⟨sl,cap,e,-⟩:=jZ h.pok h.pool (h.inp v hv)
 rw[e];rfl
def i4(S S1:AS):Prop:=(S.X.closed=true/\S1=S)\/(S.X.closed=false/\∃L',jr S.L L'/\S1=om (iL S L'))
theorem i4.facts{S S1:AS}(h:i4 S S1):S1.L.now=S.L.now/\S1.L.n=S.L.n/\S1.a=S.a/\S1.X.d=S.X.d/\S1.X.closed=true:=by
 rcases h with⟨h1,rfl⟩|⟨_,L',hf,rfl⟩
 ·exact⟨rfl,rfl,rfl,rfl,h1⟩
 ·exact⟨hf.2.2.1,hf.2.1,rfl,rfl,rfl⟩
theorem i4.ok{S S1:AS}(h:i4 S S1)(hok:ArOk S):ArOk S1:=by
 rcases h with⟨_,rfl⟩|⟨_,L',hf,rfl⟩
 ·exact hok
 ·exact(hok.flush hf).close
theorem i4.link{S S1:AS}(h:i4 S S1){R:RefL}(L:Link S R):Link S1 { R with closed:=true }:=by
 rcases h with⟨h1,rfl⟩|⟨_,L',hf,rfl⟩
 ·have:({ R with closed:=true }:RefL)=R:=by
   have:=L.closed;rw[h1]at this
   cases R
   simp only at this;subst this;rfl
  rw[this];exact L
 ·exact(L.flush L').close
def DI(w0:World)(X:WS)(e:Ending)(W':World):Prop :=
 e=.returned (.bool true)/\∃S1,i4 X.S S1/\WsOk w0 W' { X with S:=S1,R:={ X.R with closed:=true } }
def Ib(w0:World)(X:WS)(q:Int)(Φ:Nat->DevL->AS->Prop)(e:Ending)(W':World):Prop :=
 e=.returned (.bool true)/\∃d' L' S' b' vv' tv',nZ X.S.L L'/\Φ d' L' S'/\WsOk w0 W' (xo X q d' S' b' vv' tv')
theorem rz(w0 W:World)(X:WS)(o:OpL)(b:Nat)(h:WsOk w0 W X)(hB:ArB X.S b)(hb:b<=90000)(hE:bq w0)(hk:o.kind=7):
  Calls Tryz.prog 23 #[.pointer (some ⟨X.U.blk,0,none⟩),opA o] W (DI w0 X):=by
 obtain⟨ok,oa,ob_,oc,os,ot,odv,od⟩:=o;simp only at hk;subst hk;have HH:=Hq4 h hB hb hE;clear h hB hb hE;unfold opA opV;go_enter Tryz.func23,Tryz.ntmps23;go_upto_region 49 with(fail);obtain⟨ob,hob⟩:∃ob,ob=W.heap.size:=⟨_,rfl⟩
 have hT1:Turns [] ((ob,Is (oO ⟨7,oa,ob_,oc,os,ot,odv,od⟩))::wsF X) w0 (W.alloc (.cells #[.int .i64 7,.int .i64 oa,.int .i64 ob_,.int .i64 oc,str os,str ot,odv] 65)):=by
  rw[hob];exact HH.a.turns.Q8 _
 rw[<- hob];generalize W.alloc (.cells #[.int .i64 7,.int .i64 oa,.int .i64 ob_,.int .i64 oc,str os,str ot,odv] 65)=W1 at hT1 ⊢
 have u1:W1.cell? ⟨X.U.blk,1,none⟩=some (.pointer (some ⟨X.S.a,0,none⟩)):=by
  have:=aa hT1.sat.tail.Q5 1 (v:=qA X.U.a) rfl;rw[HH.a.a]at this;exact this
 have HT1:=qqH hT1;clear hT1 hob;go_wp2_with fail;refine(qK X.S b W1 HT1.out.sat.tail.tail.left HH.a.ar HH.b HH.c).mono ?_;intro e W2 hp
 have key:∃(S1:AS) (ev:Value),e=.returned ev/\((X.R.closed=false/\ev=.nilIface)\/(X.R.closed=true/\ev=cC 9))/\Turns (arF X.S) (arF S1) W1 W2/\i4 X.S S1:=by
  rcases hp with⟨hc,rfl,hG⟩|⟨hc,rfl,L',hf,hG⟩
  ·exact⟨X.S,_,rfl,.inr ⟨by rw[HH.a.link.closed];exact hc,rfl⟩,hG,.inl ⟨hc,rfl⟩⟩
  ·exact⟨om (iL X.S L'),_,rfl,.inl ⟨by rw[HH.a.link.closed];exact hc,rfl⟩,hG,.inr ⟨hc,L',hf,rfl⟩⟩
 obtain⟨S1,ev,rfl,hev,hG,hS⟩:=key
 have hT2:Turns [] ((X.R.blk,Is (iA X.R))::((ob,Is (oO ⟨7,oa,ob_,oc,os,ot,odv,od⟩))::(X.U.blk,Is (aC X.U))::(arF S1++(cH X.R.vv X.R.vs++(cI X.R.tv X.R.ts++br X))))) w0 W2:=by
  have:=HT1.out;unfold wsF at this;exact((this.to (H:=arF X.S++((ob,Is (oO ⟨7,oa,ob_,oc,os,ot,odv,od⟩))::(X.U.blk,Is (aC X.U))::(aI X.R++br X))) af).step (List.Perm.refl _) hG).to (by unfold aI;exact af)
 have HEn:=qqH (oy X.U.blk X.U X.R ev W2 (hT2.sat.Q7 (by simp)) HH.a.r hT2.sat.Q5 (HH.x.keep hT2.mods (fun h=>by simp at h)) hev);have HT2:=Hq2 hT2 hS;clear hp hev hG hS hT2 u1;go_wp2_with fail;refine HEn.out.mono ?_;rintro e W3 ⟨rfl,hs3⟩;have hT3:=HT2.a.Q9 hs3
 have u2:W3.cell? ⟨X.U.blk,2,none⟩=some (.pointer (some ⟨X.R.blk,0,none⟩)):=by
  have:=aa (hT3.sat.Q7 (b:=X.U.blk) (o:=aC X.U) (by simp)) 2 (v:=.pointer (some ⟨X.U.r,0,none⟩)) rfl;rw[HH.a.r]at this;exact this
 have HT3:=qqH hT3;clear hs3 hT3;go_wp2_with (refine al rfl (bi 4 (.tmp 270) (.const (.bool true)) rfl X.R.blk 3 (bE X.R) 60 (.bool true) HT3.out rfl rfl (by simp[bE]) (by kernel_rfl) rfl rfl ?_);intro W4 hT4;have o0:W4.cell? ⟨ob,0,none⟩=some (.int .i64 7):=aa (hT4.sat.Q7 (b:=ob) (o:=oO ⟨7,oa,ob_,oc,os,ot,odv,od⟩) (by simp)) 0 rfl;have HT4:=qqH (show Turns [] ((X.R.blk,Is (iA { X.R with closed:=true }))::((ob,Is (oO ⟨7,oa,ob_,oc,os,ot,odv,od⟩))::(X.U.blk,Is (aC X.U))::(arF S1++(cH X.R.vv X.R.vs++(cI X.R.tv X.R.ts++br X))))) w0 W4 from hT4);clear hT4;simp only[Act.put]);refine bodyPost_ret (results_tmp rfl _ _ _) rfl ⟨rfl,S1,HT2.z,?_⟩;have hf:=HT2.z.facts;refine⟨HT4.out.drop (fun x=>?_),?_,HH.a.r,?_,HT2.z.ok HH.a.ar,⟨HH.a.ref.vs,HH.a.ref.ts⟩,HH.a.pok,HH.a.inp,HH.a.out,HH.a.want,HH.a.most,HH.a.ms,HT2.z.link HH.a.link,HH.a.olen⟩
 ·unfold wsF aI br;simp only[aB,an]<;>omega
 ·show X.U.a=some S1.a;rw[hf.2.2.1];exact HH.a.a
 ·show X.U.d=S1.X.d;rw[hf.2.2.2.1];exact HH.a.d
theorem tU(Φ:Nat->DevL->AS->Prop)(w0 W:World)(X:WS)(o:OpL)(b:Nat)(h:WsOk w0 W X)(hB:ArB X.S b)(hb:b<=90000)(hl:X.R.vs.length<=100000/\X.R.ts.length<=100000)(hE:bq w0)(hk:o.kind=8)(hO:∀d' L' W',nZ X.S.L L'->Sat W' (aE d' L')->Calls Tryz.prog 22 #[.pointer (some ⟨d',0,none⟩),.int .i64 o.a] W' (fun e W''=>∃S,e=.returned (.tuple #[.pointer (some ⟨S.a,0,none⟩),.nilIface])/\Φ d' L' S/\Turns (aE d' L') (arF S) W' W''))(hΦ:∀d' L' S' b' vv' tv',nZ X.S.L L'->Φ d' L' S'->ArOk S'/\S'.X.d=d'/\Link S' (Ca X.R o.a b' vv' tv')):
  Calls Tryz.prog 23 #[.pointer (some ⟨X.U.blk,0,none⟩),opA o] W (Ib w0 X o.a Φ):=by
 obtain⟨ok,oa,ob_,oc,os,ot,odv,od⟩:=o;simp only at hk;subst hk;have HH:=Hq4 h hB hb hE;have HO:=Hq3 hO hΦ hl;clear h hB hb hE hO hΦ hl;unfold opA opV;go_enter Tryz.func23,Tryz.ntmps23;go_upto_region 49 with(fail);obtain⟨ob,hob⟩:∃ob,ob=W.heap.size:=⟨_,rfl⟩
 have hT1:Turns [] ((ob,Is (oO ⟨8,oa,ob_,oc,os,ot,odv,od⟩))::wsF X) w0 (W.alloc (.cells #[.int .i64 8,.int .i64 oa,.int .i64 ob_,.int .i64 oc,str os,str ot,odv] 65)):=by
  rw[hob];exact HH.a.turns.Q8 _
 rw[<- hob];generalize W.alloc (.cells #[.int .i64 8,.int .i64 oa,.int .i64 ob_,.int .i64 oc,str os,str ot,odv] 65)=W1 at hT1 ⊢
 have u1:W1.cell? ⟨X.U.blk,1,none⟩=some (.pointer (some ⟨X.S.a,0,none⟩)):=by
  have:=aa hT1.sat.tail.Q5 1 (v:=qA X.U.a) rfl;rw[HH.a.a]at this;exact this
 have HT1:=qqH hT1;clear hT1 hob;go_wp2_with fail;refine(qK X.S b W1 HT1.out.sat.tail.tail.left HH.a.ar HH.b HH.c).mono ?_;intro e W2 hp
 have key:∃(S1:AS) (ev:Value),e=.returned ev/\((X.R.closed=false/\ev=.nilIface)\/(X.R.closed=true/\ev=cC 9))/\Turns (arF X.S) (arF S1) W1 W2/\i4 X.S S1:=by
  rcases hp with⟨hc,rfl,hG⟩|⟨hc,rfl,L',hf,hG⟩
  ·exact⟨X.S,_,rfl,.inr ⟨by rw[HH.a.link.closed];exact hc,rfl⟩,hG,.inl ⟨hc,rfl⟩⟩
  ·exact⟨om (iL X.S L'),_,rfl,.inl ⟨by rw[HH.a.link.closed];exact hc,rfl⟩,hG,.inr ⟨hc,L',hf,rfl⟩⟩
 obtain⟨S1,ev,rfl,hev,hG,hS⟩:=key
 have hT2:Turns [] ((X.R.blk,Is (iA X.R))::((ob,Is (oO ⟨8,oa,ob_,oc,os,ot,odv,od⟩))::(X.U.blk,Is (aC X.U))::(arF S1++(cH X.R.vv X.R.vs++(cI X.R.tv X.R.ts++br X))))) w0 W2:=by
  have:=HT1.out;unfold wsF at this;exact((this.to (H:=arF X.S++((ob,Is (oO ⟨8,oa,ob_,oc,os,ot,odv,od⟩))::(X.U.blk,Is (aC X.U))::(aI X.R++br X))) af).step (List.Perm.refl _) hG).to (by unfold aI;exact af)
 have HEn:=qqH (oy X.U.blk X.U X.R ev W2 (hT2.sat.Q7 (by simp)) HH.a.r hT2.sat.Q5 (HH.x.keep hT2.mods (fun h=>by simp at h)) hev);have HT2:=Hq2 hT2 hS;clear hp hev hG hS hT2 u1;go_wp2_with fail;refine HEn.out.mono ?_;rintro e W3 ⟨rfl,hs3⟩;have hT3:=HT2.a.Q9 hs3
 have u2:W3.cell? ⟨X.U.blk,2,none⟩=some (.pointer (some ⟨X.R.blk,0,none⟩)):=by
  have:=aa (hT3.sat.Q7 (b:=X.U.blk) (o:=aC X.U) (by simp)) 2 (v:=.pointer (some ⟨X.U.r,0,none⟩)) rfl;rw[HH.a.r]at this;exact this
 have HT3:=qqH hT3;clear hs3 hT3;go_wp2_with (refine al rfl (bi 4 (.tmp 270) (.const (.bool true)) rfl X.R.blk 3 (bE X.R) 60 (.bool true) HT3.out rfl rfl (by simp[bE]) (by kernel_rfl) rfl rfl ?_);intro W4 hT4;have o0:W4.cell? ⟨ob,0,none⟩=some (.int .i64 8):=aa (hT4.sat.Q7 (b:=ob) (o:=oO ⟨8,oa,ob_,oc,os,ot,odv,od⟩) (by simp)) 0 rfl;have u0:W4.cell? ⟨X.U.blk,0,none⟩=some (.pointer (some ⟨X.U.d,0,none⟩)):=aa (hT4.sat.Q7 (b:=X.U.blk) (o:=aC X.U) (by simp)) 0 rfl;have HT4:=qqH (show Turns [] ((X.R.blk,Is (iA { X.R with closed:=true }))::((ob,Is (oO ⟨8,oa,ob_,oc,os,ot,odv,od⟩))::(X.U.blk,Is (aC X.U))::(arF S1++(cH X.R.vv X.R.vs++(cI X.R.tv X.R.ts++br X))))) w0 W4 from hT4);clear hT4;simp only[Act.put]);have hf:=HT2.z.facts;have hud:X.U.d=S1.X.d:=by rw[hf.2.2.2.1];exact HH.a.d
 have hsub:Turns [] (aE S1.X.d S1.L++((S1.a,Is (aO S1.X))::(ay S1.X.ab S1.X.d S1.A++((aU S1.X.pm S1.ps S1.pc++(dm S1.X.tm S1.ts S1.tc++bm S1.X.cm S1.cs S1.cc))++((X.R.blk,Is (iA { X.R with closed:=true }))::((ob,Is (oO ⟨8,oa,ob_,oc,os,ot,odv,od⟩))::(X.U.blk,Is (aC X.U))::(cH X.R.vv X.R.vs++(cI X.R.tv X.R.ts++br X)))))))) w0 W4:=by
  have:=HT4.out;unfold arF at this;exact this.to af
 rw[hud];refine(uk S1.X.d S1.L W4 hsub.sat.left (HT2.z.ok HH.a.ar).dev).mono ?_;rintro e W5 ⟨d',L',rfl,hG,hL1,hL2,hL3,hL4,hL5⟩
 have hT5:Turns [] ((X.U.blk,Is (aC X.U))::(aI { X.R with closed:=true }++(aE d' L'++((ob,Is (oO ⟨8,oa,ob_,oc,os,ot,odv,od⟩))::br X)))) w0 W5:=by
  have:=hsub.step (List.Perm.refl _) hG;refine this.drop (fun x=>?_);unfold aI;simp only[aB,an]<;>omega
 have hcp:nZ X.S.L L':=⟨hL1,by rw[hL2,hf.2.1],by rw[hL3,hf.1],by rw[hL4,hf.1],hL5⟩;have HT5:=Hq2 hT5 hcp;clear hG hL1 hL2 hL3 hL4 hL5 hT5 hcp hsub hf hud;go_wp2_with (refine al rfl (bi 31 (.tmp 286) (.tmp 284) rfl X.U.blk 0 (bn X.U) 63 (.pointer (some ⟨d',0,none⟩)) HT5.a rfl rfl (by simp[bn]) (by kernel_rfl) rfl rfl ?_);intro W6 hT6;have o1:W6.cell? ⟨ob,1,none⟩=some (.int .i64 oa):=aa (hT6.sat.Q7 (b:=ob) (o:=oO ⟨8,oa,ob_,oc,os,ot,odv,od⟩) (by simp)) 1 rfl;have HT6:=qqH (show Turns [] ((X.U.blk,Is (aC { X.U with d:=d' }))::(aI { X.R with closed:=true }++(aE d' L'++((ob,Is (oO ⟨8,oa,ob_,oc,os,ot,odv,od⟩))::br X)))) w0 W6 from hT6);clear hT6;simp only[Act.put]);have hb0:0<w0.heap.size:=World.block_lt_of_cell? w0 _ (lE HH.x);have h6:Turns [] (((X.U.blk,Is (aC { X.U with d:=d' }))::(aI { X.R with closed:=true }++aE d' L'))++((ob,Is (oO ⟨8,oa,ob_,oc,os,ot,odv,od⟩))::br X)) w0 W6:=HT6.out.to af;refine(rk (Φ d' L') { X.U with d:=d' } { X.R with closed:=true } L' oa W6 HH.a.r h6.sat.left ⟨HH.a.ref.vs,HH.a.ref.ts⟩ (KG HH.a) ⟨by have:=HO.c;show X.R.vs.length<=_;omega,by have:=HO.x;show X.R.ts.length<=_;omega⟩ (HH.x.keep h6.mods (fun h=>by simp at h)) (fun h0=>by have:=h6.Qo (b:=0) (by rw[cT];exact List.mem_append_left _ h0);omega) (fun W' hW'=>HO.a d' L' W' HT5.z hW')).mono ?_;rintro e W7 ⟨S',b',vv',tv',rfl,hΦ,hok,hT7⟩;have hfin:=HO.b d' L' S' b' vv' tv' HT5.z hΦ;have hT8:=h6.step (List.Perm.refl _) hT7;have HF:=Hq4 hfin hT8 hΦ hok;clear hfin hT8 hΦ hok hT7 h6;go_wp2_with fail;refine bodyPost_ret (results_tmp rfl _ _ _) rfl ⟨rfl,d',L',S',b',vv',tv',HT5.z,HF.c,?_⟩;refine⟨HF.b.drop (fun x=>?_),rfl,rfl,HF.a.2.1.symm,HF.a.1,HF.x,HH.a.pok,HH.a.inp,HH.a.out,HH.a.want,HH.a.most,HH.a.ms,HF.a.2.2,HH.a.olen⟩;unfold wsF;rw[show br (xo X oa d' S' b' vv' tv')=br X from rfl];unfold xo Ca;simp only[aB,an]<;>omega
structure Told (S:AS) (rs:kB) (H:List HV):Prop where
 ok:AQ rs
 data:S.data=dd rs
 run:nH 0 ⟨[],[],[]⟩ rs=some ⟨S.K,H,S.ts.map ia⟩
 hist:∀l,(ai S.ps l).map bS=(H.filter (fun h=>decide (h.p=l))).map dg
 ep:S.X.ep=1
 sec1:ba S.L.now 1=dD 1 0
 sec0:ba S.L.now 0=aq 128
 used:S.X.used=((H.map (·.size)).sum:Nat)
theorem fg(l:Bs)(k:Nat):ba l k=aP l k 1:=by unfold ba aP;rfl
theorem Told.flush{S:AS}{rs:kB}{H:List HV}(h:Told S rs H){L':DevL}(hf:L'.now=S.L.now):Told (iL S L') rs H :=
 ⟨h.ok,h.data,h.run,h.hist,h.ep,by show ba L'.now 1=_;rw[hf];exact h.sec1,by show ba L'.now 0=_;rw[hf];exact h.sec0,h.used⟩
theorem Told.close{S:AS}{rs:kB}{H:List HV}(h:Told S rs H):Told (om S) rs H:=⟨h.ok,h.data,h.run,h.hist,h.ep,h.sec1,h.sec0,h.used⟩
theorem Told.spare{S:AS}{rs:kB}{H:List HV}(h:Told S rs H)(sp:List (Nat×Nat×Nat)):Told (kL S sp) rs H:=⟨h.ok,h.data,h.run,h.hist,h.ep,h.sec1,h.sec0,h.used⟩
def yh(S S':AS):Prop:=(∀l,(ai S'.ps l).map bS=(ai S.ps l).map bS)/\S'.K=S.K/\S'.ts.map ia=S.ts.map ia
theorem Jf{l l':List VerL}(h:l'.map bS=l.map bS):∀V'∈l',∃V∈l,bS V=bS V':=fun V' hV'=>by
 have:bS V'∈l.map bS:=by rw[<- h];exact List.mem_map.2 ⟨V',hV',rfl⟩
 obtain⟨V,hV,e⟩:=List.mem_map.1 this
 exact⟨V,hV,e⟩
theorem wo{S S':AS}(hK:S'.K=S.K):∀{l l':List VerL},l'.map bS=l.map bS->l'.map (ed S')=l.map (ed S)
 | [],[],_=>rfl
 | [],_::_,h=>by cases h
 | _::_,[],h=>by cases h
 | V::l,V'::l',h=>by
  simp only[List.map_cons,List.cons.injEq]at h ⊢
  refine⟨?_,wo hK h.2⟩
  have h1:=h.1
  unfold bS at h1
  simp only[Prod.mk.injEq]at h1
  unfold ed dG
  rw[hK,h1.1,h1.2.2.1,h1.2.2.2]
theorem OpenIs.eX{d:Nat}{L:DevL}{q:Int}{e:Nat}{D:Bs}{S:AS}(h:OpenIs d L q e D S):S.X.d=d/\S.X.ep=e/\S.X.quota=dk q/\S.X.closed=false/\S.X.broken=.nilIface:=by
 obtain⟨us,sc,sb,hX⟩:=h.X;refine⟨?_,?_,?_,?_,?_⟩<;>(rw[hX];rfl)
theorem Told.open{S:AS}{rs:kB}{H:List HV}(h:Told S rs H)(hok:ArOk S){d':Nat}{L':DevL}{q:Int}{S':AS}(hn:L'.n=S.L.n)(hnow:L'.now=S.L.now)(ho:OpenIs d' L' q 1 (aP L'.now (2+1%2*aD L'.n) (aD L'.n)) S'):
  ∃sz szc,CtOk (S.data++aq (128*S.A.count-S.data.length)) S'.X S'.ps S'.pc S'.cs S'.cc S'.ts S'.tc sz szc S.data.length ⟨S.K,H,S.ts.map ia⟩/\S'.K=S.K/\S'.data=S.data:=by
 have hD:aP L'.now (2+1%2*aD L'.n) (aD L'.n)=dd rs++aq (128*S.A.count-S.data.length):=by
  have h1:=hok.dat.1;have h2:S.A.first=2+1%2*aD L'.n:=by rw[hok.first,h.ep,hn]
  have h3:S.A.count=aD L'.n:=by rw[hok.count,hn]
  rw[hnow,<- h2,<- h3,h1,h.data]
 obtain⟨at_,s,sz,szc,hct,href,hdat,hK⟩:=ho.ct;rw[hD]at hct href hdat;obtain⟨rfl,rfl⟩:=E4 h.ok hct.reach href h.run;refine⟨sz,szc,by rw[h.data]at hct ⊢;exact hct,hK.symm,?_⟩;rw[hdat,List.take_left,h.data]
theorem EX{S S':AS}(hok:ArOk S){d':Nat}{L':DevL}{q:Int}{D0 D:Bs}(hn:L'.n=S.L.n)(ho:OpenIs d' L' q 1 D0 S'){sz:List (Ent Int)}{szc:Nat}{H:List HV}{rest:Bs}(hD:D=S.data++rest)(hct:CtOk D S'.X S'.ps S'.pc S'.cs S'.cc S'.ts S'.tc sz szc S.data.length ⟨S.K,H,S.ts.map ia⟩)(hK:S'.K=S.K)(hdat:S'.data=S.data):ArOk S':=by
 obtain⟨-,e2,-,-,e5⟩:=ho.eX
 have hversH:∀p∈S'.ps,∀V∈p.g,∃h∈H,dg h=bS V:=fun p hp V hV=>by
  have h1:=hct.hist p.key;rw[iX hct.paths hp]at h1;have h2:bS V∈p.g.map bS:=List.mem_map.2 ⟨V,hV,rfl⟩;rw[h1]at h2;obtain⟨h,hh,e⟩:=List.mem_map.1 h2;exact⟨h,(List.mem_filter.1 hh).1,e⟩
 refine⟨ho.dev.1,by rw[ho.dev.2.1,hn];exact hok.n16,by rw[ho.dev.2.1,hn];exact hok.nmax,⟨by rw[ho.A.2.2.2.1];exact oT _,by rw[ho.A.2.2.2.2];simp,by rw[ho.A.2.2.2.2];intro s hs;cases hs⟩,by rw[ho.A.1,e2,ho.dev.2.1],by rw[ho.A.2.1,ho.dev.2.1],ho.A.2.2.1,ho.A.2.2.2.1,ho.dat,hct.paths,hct.tags,hct.chunks,?_,?_,?_,hct.nem,e5,by rw[e2];decide⟩
 ·intro k;rw[hK];exact hct.kin k
 ·intro e he;rw[hK]at he;obtain⟨h1,-,h3⟩:=hct.kat e he;refine⟨h1,?_⟩;rw[hD,List.take_left]at h3;rw[hdat];exact h3
 ·intro p hp V hV;obtain⟨h,hh,e⟩:=hversH p hp V hV;obtain⟨h1,h2⟩:=hct.chsK h hh;unfold dg bS at e;simp only[Prod.mk.injEq]at e;rw[hK,<- e.2.1,<- e.2.2.1];exact⟨h1,h2⟩
theorem z7{S S':AS}{R R2:RefL}(L:Link S R)(hv:yh S S')(hu:S'.X.used=S.X.used)(hvs:R2.vs=R.vs)(hrt:R2.ts=R.ts)(hq:R2.quota=S'.X.quota)(hc:R2.closed=S'.X.closed):Link S' R2 where
 closed:=hc
 quota:=hq
 used:=by rw[hu,hvs];exact L.used
 vers:=fun p=>by rw[hvs,wo hv.2.1 (hv.1 p)];exact L.vers p
 sorted:=by rw[hvs];exact L.sorted
 asc:=fun p=>by rw[hvs];exact L.asc p
 each:=by rw[hvs];exact L.each
 tags:=by rw[hrt];have:=L.tags;rw[show S.ts.map qH=S'.ts.map qH from hv.2.2.symm]at this;exact this
 tsort:=by rw[hrt];exact L.tsort
 teach:=by rw[hrt,hvs];exact L.teach
 held:=by rw[hrt,hvs];exact L.held
theorem IQ{S S':AS}(hok':ArOk S')(hv:yh S S'):S'.ps.length<=S.ps.length:=by
 have h1:(S'.ps.map (·.key)) ⊆ (S.ps.map (·.key)):=fun k hk=>by
  obtain⟨p,hp,rfl⟩:=List.mem_map.1 hk;have h2:=hv.1 p.key;rw[iX hok'.paths hp]at h2
  have hne:ai S.ps p.key≠[]:=fun e=>by
   rw[e]at h2;exact hok'.some p hp (List.map_eq_nil_iff.1 h2)
  obtain⟨q,hq,hk,-⟩:=di hne;exact List.mem_map.2 ⟨q,hq,hk⟩
 have h3:=(oI hok'.paths).length_le_of_subset h1;simpa using h3
theorem G4{S S':AS}{b:Nat}(hB:ArB S b)(_:ArOk S)(hok':ArOk S')(hv:yh S S')(hu:S'.X.used=S.X.used)(hsc:S'.X.sc=S'.K.length)(hsb:S'.X.sb=((S'.K.map (·.1.length)).sum:Nat))(hsb2:(S.K.map (·.1.length)).sum<=65536*b)(hq:S'.X.quota.natAbs<=9223372036854775807)(hch:S'.L.chs=[])(hkl:∀p∈S'.ps,p.key.length<=255):ArB S' b where
 K:=by rw[hv.2.1];exact hB.K
 np:=Nat.le_trans (IQ hok' hv) hB.np
 nt:=by have:=congrArg List.length hv.2.2;rw[List.length_map,List.length_map]at this;rw[this];exact hB.nt
 vers:=fun p hp=>by
  have h2:=hv.1 p.key
  rw[iX hok'.paths hp]at h2
  have hne:ai S.ps p.key≠[]:=fun e=>by
   rw[e]at h2
   exact hok'.some p hp (List.map_eq_nil_iff.1 h2)
  obtain⟨q,hq,hk,hg⟩:=di hne
  have h3:=hB.vers q hq
  rw[<- hg]at h2
  refine⟨hkl p hp,?_,fun V hV=>?_⟩
  ·have:=congrArg List.length h2
   rw[List.length_map,List.length_map]at this
   rw[this];exact h3.2.1
  ·obtain⟨V0,hV0,e⟩:=Jf h2 V hV
   have h4:=h3.2.2 V0 hV0
   unfold bS at e
   simp only[Prod.mk.injEq]at e
   rw[<- e.1,<- e.2.1,<- e.2.2.1,<- e.2.2.2]
   exact h4
 tags:=fun p hp=>by
  have h1:ia p∈S'.ts.map ia:=List.mem_map.2 ⟨p,hp,rfl⟩
  rw[hv.2.2]at h1
  obtain⟨p0,hp0,e⟩:=List.mem_map.1 h1
  have h2:=hB.tags p0 hp0
  unfold ia at e
  simp only[Prod.mk.injEq]at e
  rw[<- e.1,<- e.2.1,<- e.2.2];exact h2
 used:=by rw[hu];exact hB.used
 sc:=by rw[hsc,hv.2.1];have:=hB.K;omega
 sb:=by rw[hsb,hv.2.1];omega
 quota:=hq
 chs:=by rw[hch];simp
theorem tM:∀(l:List Bs) (a:Nat) (s:PSt),nH a s (l.map (fun c=>(1,c)))=some { s with K:=s.K++cz a l }
 | [],a,s=>by simp[nH,cz]
 | c::l,a,s=>by
  simp only[List.map_cons,nH,gY,if_true,Option.bind_some,cz]
  rw[tM l]
  simp only[Option.some.injEq,PSt.mk.injEq,and_true,List.append_assoc,List.cons_append,List.nil_append]
  rw[Nat.add_assoc]
theorem yU(l:List Bs):dd (l.map (fun c=>((1:UInt8),c)))=dY l:=by
 unfold dd dY;rw[List.map_map];rfl
theorem zp{D b c:Bs}{a:Nat}(h1:ex D a b)(h2:ex D a c):b=c:=by
 have e1:cG (D.drop a)=some (1,b,b.length+9):=mK h1.2 (by rw[List.take_take,Nat.min_self]);have e2:cG (D.drop a)=some (1,c,c.length+9):=mK h2.2 (by rw[List.take_take,Nat.min_self]);rw[e1]at e2;simp only[Option.some.injEq,Prod.mk.injEq,true_and]at e2;exact e2.1
theorem Ja{S:AS}(hok:ArOk S){c:Bs}{q:Nat×Nat}(he:(c,q)∈S.K):lk S.K (q.1:Int)=some q.2:=by
 unfold lk
 cases hf:S.K.find? (fun e=>decide ((e.2.1:Int)=q.1))with
 | none=>exact absurd (List.find?_eq_none.1 hf _ he) (by simp)
 | some x =>
  have hx:=List.mem_of_find?_eq_some hf;have hx2:=List.find?_some hf;simp only[decide_eq_true_eq]at hx2;have h1:=hok.kat x hx;have h2:=hok.kat _ he;have hpos:x.2.1=q.1:=by omega
  rw[hpos]at h1;have:=zp h1.2 h2.2;simp only[Option.map_some,Option.some.injEq];rw[h1.1,h2.1,this]
theorem yN{S:AS}(hok:ArOk S):∀{chs:List (Nat×Nat)},(∀q∈chs,∃e∈S.K,e.2=q)->dF (lk S.K) (bC chs)=some chs
 | [],_=>rfl
 | q::r,h=>by
  obtain⟨e,he,rfl⟩:=h q (by simp)
  have h1:=Ja hok (c:=e.1) (q:=e.2) he
  have h2:=yN hok (chs:=r) (fun x hx=>h x (by simp[hx]))
  unfold bC at h2 ⊢
  simp only[List.map_cons,dF,h1,h2,Int.toNat_natCast]
theorem te:∀{l:List Nat} {n:Nat},n∈l->n<=l.sum
 | a::r,n,h=>by
  rw[List.sum_cons]
  rcases List.mem_cons.1 h with rfl|h
  ·omega
  ·have:=te h;omega
theorem Told.put{S S':AS}{rs:kB}{H:List HV}(h:Told S rs H)(hok:ArOk S)(hok':ArOk S'){l D:Bs}{V:VerL}(hp:PutStep S S' l D V)(hl:l.length<=20)(hD:D.length<=4000)(hnum:V.num<4294967296)(hdl:S'.data.length<4294967296):
  Told S' (rs++(bJ S D).map (fun c=>(1,c))++[(2,eF l V.num V.size (bC V.chs))]) (H++[⟨l,V.num,V.size,V.chs,0⟩]):=by
 have hfl:∀c∈bJ S D,c.length<65536:=fun c hc=>by
  have h1:=iO S D;have h2:c.length<=((bJ S D).map List.length).sum:=te (List.mem_map.2 ⟨c,hc,rfl⟩);omega
 have hVm:V∈ai S'.ps l:=by rw[hp.vers,if_pos rfl];simp
 obtain⟨p,hpm,-,hpg⟩:=di (List.ne_nil_of_mem hVm);have hV:=hok'.vers p hpm V (hpg ▸ hVm)
 have hdat:S'.data=dd (rs++(bJ S D).map (fun c=>(1,c))++[(2,eF l V.num V.size (bC V.chs))]):=by
  rw[hp.data,ey,ey,yU,h.data];simp[dd]
 have hvl:(eF l V.num V.size (bC V.chs)).length<65536:=by
  have h1:=iM l V.num V.size V.chs;rw[bL]at h1;have h2:=s0 D;have h3:=hp.nchs;have h4:(aH D).length=(aF D).length:=by unfold aH;rw[cF]
  omega
 refine⟨fun r hr=>?_,hdat,?_,fun m=>?_,by rw[hp.ep];exact h.ep,?_,?_,?_⟩
 ·rcases List.mem_append.1 hr with hr|hr
  ·rcases List.mem_append.1 hr with hr|hr
   ·exact h.ok r hr
   ·obtain⟨c,hc,rfl⟩:=List.mem_map.1 hr;exact⟨show(1:UInt8)≠0 by decide,hfl c hc⟩
  ·obtain rfl:=List.mem_singleton.1 hr;exact⟨show(2:UInt8)≠0 by decide,hvl⟩
 ·have hr:=EW (p:=l) (num:=V.num) (size:=V.size) (ats:=bC V.chs) (by omega) hnum (by rw[hp.size];omega) (fun n hn=>by
   obtain⟨q,hq,rfl⟩:=List.mem_map.1 hn;obtain⟨e,he,rfl⟩:=hV.1 q hq;have:=(hok'.kat e he).2.1;omega)
  rw[gX,gX,h.run,Option.bind_some,tM,Option.bind_some];have hKe:S.K++cz (0+(dd rs).length) (bJ S D)=S'.K:=by rw[hp.K,Nat.zero_add,<- h.data]
  simp only[nH,gY];rw[if_neg (by decide),hr];dsimp only;rw[hKe,yN hok' hV.1];dsimp only;rw[if_pos hV.2.symm,hp.ts];rfl
 ·rw[hp.vers,List.filter_append,List.map_append];by_cases hm:m=l
  ·subst hm;rw[if_pos rfl,List.map_append,h.hist];congr 1;simp[bS,dg,hp.held]
  ·rw[if_neg hm,h.hist];have:¬l=m:=fun e=>hm e.symm
   simp[this]
 ·rw[fg,hp.other 1 1 (.inl (by rw[hok.first];omega)),<- fg];exact h.sec1
 ·rw[fg,hp.other 0 1 (.inl (by rw[hok.first];omega)),<- fg];exact h.sec0
 ·rw[hp.used,h.used,List.map_append,List.sum_append];simp[hp.size]
theorem CF{n:Nat}{q:Int}{d:Nat}{S:AS}(h:o9 n q d S):Told S [] []:=by
 obtain⟨-,-,-,-,h5,-,-,h8,h9,h10,h11,-,-,h14,-,h16,h17⟩:=h;exact⟨(fun r hr=>by cases hr),by rw[h11];rfl,by rw[h10,h9];rfl,fun l=>by rw[h8];rfl,h14,h16,h17,by rw[h5];rfl⟩
theorem BV{n:Nat}{q:Int}{d:Nat}{S:AS}(h:o9 n q d S){R:RefL}(hv:R.vs=[])(ht:R.ts=[])(hq:R.quota=dk q)(hc:R.closed=false):Link S R:=by
 obtain⟨-,-,h3,h4,h5,-,-,h8,h9,-⟩:=h;refine⟨by rw[hc,h3],by rw[hq,h4],by rw[h5,hv];rfl,fun p=>by rw[h8,hv];rfl,by rw[hv];exact List.Pairwise.nil,fun p=>by rw[hv];exact List.Pairwise.nil,(by rw[hv];intro v hv;cases hv),by rw[h9,ht];exact List.Perm.refl _,by rw[ht];exact List.Pairwise.nil,(by rw[ht];intro v hv;cases hv),(by rw[hv];intro v hv;cases hv)⟩
def mP(S:AS)(L':DevL)(r:Bs):AS:={ S with A:={ S.A with end_:=(S.data++r).length,tail:=cE (S.data++r) },L:=L',data:=S.data++r }
structure RecIs (S:AS) (L':DevL) (r:Bs):Prop where
 dev:DevOk L'
 n:L'.n=S.L.n
 dat:gf L'.now S.A.first S.A.count (S.data++r)
 oth:∀f2 c2,(f2+c2<=S.A.first\/S.A.first+S.A.count<=f2)->aP L'.now f2 c2=aP S.L.now f2 c2
 chs:L'.chs.length<=S.L.chs.length+r.length
theorem xC{S:AS}{L':DevL}{r:Bs}(hok:ArOk S)(h:RecIs S L' r):ArOk (mP S L' r) where
 dev:=h.dev
 n16:=by show 16<=L'.n;rw[h.n];exact hok.n16
 nmax:=by show L'.n<=_;rw[h.n];exact hok.nmax
 area:=⟨oT _,hok.area.few,hok.area.caps⟩
 first:=by show S.A.first=2+S.X.ep%2*aD L'.n;rw[h.n];exact hok.first
 count:=by show S.A.count=aD L'.n;rw[h.n];exact hok.count
 end_:=rfl
 tail:=rfl
 dat:=h.dat
 paths:=hok.paths
 tags:=hok.tags
 chunks:=hok.chunks
 kin:=hok.kin
 kat:=fun e he=>⟨(hok.kat e he).1,(hok.kat e he).2.more⟩
 vers:=hok.vers
 some:=hok.some
 sound:=hok.sound
 ep:=hok.ep
def mf(sb:Nat)(rv:Value)(r:Bs):HF:=(sb,Is (.cells #[rv] 38 (0,0)))::aK rv r
def xV(S:AS)(J:HF)(r:Bs)(w:World)(e:Ending)(w':World):Prop :=
 (128*S.A.count<S.data.length+r.length/\e=.returned (cC 8)/\aX w w') \/
 (S.data.length+r.length<=128*S.A.count/\e=.returned .nilIface/\∃L',RecIs S L' r/\Turns (arF S++J) (arF (mP S L' r)++J) w w')
theorem kE(S:AS)(hok:ArOk S)(b:Nat)(hB:ArB S b)(hb:b<=90000)(rv:Value)(r:Bs)(sb:Nat)(w:World)(h:Sat w (arF S++mf sb rv r))(hr:bOk rv r)(hrl:r.length<=70000):
  Calls Tryz.prog 82 #[.pointer (some ⟨S.a,0,none⟩),.slice (some ⟨sb,0,none⟩) 1 1] w (xV S (mf sb rv r) r w):=by
 have hsbo:=h.Q7 (b:=sb) (o:=.cells #[rv] 38 (0,0)) (by simp[mf]);have hT0:=(Turns.refl h).to (H:=((S.a,Is (aO S.X))::(ay S.X.ab S.X.d S.A++aE S.X.d S.L))++((aU S.X.pm S.ps S.pc++(dm S.X.tm S.ts S.tc++bm S.X.cm S.cs S.cc))++mf sb rv r)) (by unfold arF;exact af);have hsum:fx [r]=r.length:=by simp[fx]
 have hout:∀x,x∈dom (mf sb rv r)->x∉dom (ay S.X.ab S.X.d S.A++aE S.X.d S.L):=fun x hx hd =>
  hT0.sat.Qh (b:=x) (by rw[gm];exact List.mem_cons_of_mem _ hd) (by rw[cT];exact List.mem_append_right _ hx)
 have hsub:Sat w (aK rv r):=h.sub (fun x=>by unfold mf;simp only[an,aB];omega)
 refine(pp S.a S.X S.X.ab S.X.d rfl S.A S.L S.data [r] [rv] (some ⟨sb,0,none⟩) 1 w hT0.sat.left hok.sound hok.dev hok.fits hok.nmax hok.end_ hok.tail hok.dat rfl (by simp) (by rw[hsum];omega) (by have:=hB.chs;rw[hsum];omega)
  (fun _=>⟨sb,0,rfl,fun j hj=>by
   obtain rfl:j=0:=by simp at hj;omega
   exact aa hsbo 0 rfl⟩) (fun x hx=>?_) (fun k h1 h2=>?_)).mono ?_
 ·simp only[Option.some.injEq]at hx;subst hx;exact hout sb (by simp[mf])
 ·obtain rfl:k=0:=by simp at h1;omega
  obtain⟨ka,kc,ke,-,kcap,kcells,kown⟩:=aV (dX hsub hr);refine⟨ka,kc,ke,kcap,Ds (dX hsub hr) ke,kcells,fun x hx=>?_⟩;have hin:x.block∈dom (aK rv r):=(ga _ _ _ _ _ _).2 (kown x hx);exact⟨hout x.block (by unfold mf;rw[gm];exact List.mem_cons_of_mem _ hin),hsub.lt hin⟩
 ·rintro e w' (⟨h1,rfl,hs⟩|⟨h1,rfl,L',hT,g1,g2,g3,g4,g5⟩)
  ·rw[hsum]at h1;exact .inl ⟨h1,rfl,hs⟩
  ·rw[hsum]at h1;have hf:[r].flatten=r:=by simp
   rw[hf]at hT g3 g5;refine .inr ⟨h1,rfl,L',⟨g1,g2,g3,g4,g5⟩,?_⟩;have h5:=hT0.step (F:=ay S.X.ab S.X.d S.A++aE S.X.d S.L) (R:=(S.a,Is (aO S.X))::((aU S.X.pm S.ps S.pc++(dm S.X.tm S.ts S.tc++bm S.X.cm S.cs S.cc))++mf sb rv r)) af hT;refine h5.to ?_;unfold arF mP;exact af
def jp(S:AS)(p:Bs)(ns:List Int)(v':Value)(L':DevL):AS :=
 { mP S L' (frame 3 (dI p ns))with X:=iV S.X (S.X.used-(bP ns (ai S.ps p):Nat)),ps:=ge S.ps S.pc p v' ns }
theorem GA{S:AS}{p:Bs}{ns:List Int}{v':Value}{L':DevL}(hok:ArOk S)(h:RecIs S L' (frame 3 (dI p ns)))(hl:OkS p)(hv:et v' (dK ns (ai S.ps p)))(hne:ai S.ps p≠[]):ArOk (jp S p ns v' L'):=by
 have hr:=xC hok h;obtain⟨q,hq,hqk,hqg⟩:=jz hne;refine { hr with paths:=yZ hok.paths hl hv hne,some:=vA hok.some,vers:=fun x hx V hV=>?_ };have hx2:x∈ge S.ps S.pc p v' ns:=hx;unfold ge at hx2;split at hx2
 ·exact hok.vers x (List.mem_filter.1 hx2).1 V hV
 ·rcases fh hx2 with⟨h1,_⟩|⟨_,_,h3⟩
  ·exact hok.vers x h1 V hV
  ·rw[h3]at hV;exact hok.vers q hq V (hqg ▸ (List.mem_filter.1 hV).1)
def jP(S:AS)(p:Bs)(ns:List Int)(J:HF)(w:World)(e:Ending)(w':World):Prop :=
 (128*S.A.count<S.data.length+(frame 3 (dI p ns)).length/\e=.returned (cC 8)/\Turns (arF S++J) (arF S++J) w w') \/
 (S.data.length+(frame 3 (dI p ns)).length<=128*S.A.count/\e=.returned .nilIface/\∃v' L',RecIs S L' (frame 3 (dI p ns))/\et v' (dK ns (ai S.ps p))/\Turns (arF S++J) (arF (jp S p ns v' L')++J) w w')
theorem Hh{S:AS}{b:Nat}(_:ArOk S)(hB:ArB S b)(hb:b<=90000)(p:Bs):qO S.X.used (ai S.ps p):=by
 have hu:=hB.used;by_cases hne:ai S.ps p=[]
 ·rw[hne];exact⟨by omega,by omega,by simp,by simp⟩
 ·obtain⟨q,hq,hqk,hqg⟩:=jz hne;have h1:=hB.vers q hq
  have h2:((ai S.ps p).map (·.size)).sum<=65536*b*(ai S.ps p).length:=by
   rw[hqg]
   have:∀l:List VerL,(∀V∈l,V.size<=65536*b)->(l.map (·.size)).sum<=65536*b*l.length:=fun l=>by
    induction l with
    | nil=>intro _;simp
    | cons V r ih =>
     intro h;have h1:=h V (by simp);have h2:=ih (fun x hx=>h x (by simp[hx]));simp only[List.map_cons,List.sum_cons,List.length_cons,Nat.mul_add,Nat.mul_one];omega
   exact this _ (fun V hV=>(h1.2.2 V hV).2.2.1)
  have h3:(ai S.ps p).length<=b:=by rw[hqg];exact h1.2.1
  have h4:65536*b*(ai S.ps p).length<=65536*90000*90000:=Nat.mul_le_mul (Nat.mul_le_mul (Nat.le_refl _) hb) (by omega);exact⟨by omega,by omega,by omega,by omega⟩
theorem pN(S:AS)(hok:ArOk S)(b:Nat)(hB:ArB S b)(hb:b<=90000)(p:Bs)(v:Value)(ns:List Int)(w:World)(h:Sat w (arF S++bZ v ns))(hio:iOk v ns)(hp:p.length<=255)(hn:∀n∈ns,I64 n)(hnl:ns.length<=15000)(hne:ai S.ps p≠[]):
  Calls Tryz.prog 110 #[.pointer (some ⟨S.a,0,none⟩),str p,v] w (jP S p ns (bZ v ns) w):=by
 obtain⟨sl,cap,hv,-,-,hcs,-⟩:=aV (aW h.right hio);have hrl:(frame 3 (dI p ns)).length<=70000:=by simp only[bL,dI,List.length_append,bF,cy];omega
 have HW:=qqH (fun W (hW:aX w W)=>rG 3 p sl cap ns W (hcs.keep hW (fun _ _ _=>id)) hp hn (by omega));obtain⟨rec,hrec⟩:∃rec,rec=frame 3 (dI p ns):=⟨_,rfl⟩;rw[<- hrec]at HW hrl;have hal:S.a<w.heap.size:=ah (h.Q7 (b:=S.a) (o:=aO S.X) (by simp[arF]));have HH:=Hq8 h hio hok hB hne hrec hp hrl;clear h hio hok hB hne hrec hcs hp hn hrl;subst hv;go_enter Tryz.func110,Tryz.ntmps110;go_wp2_with fail;refine(HW.out _ (Mods.refl _ _)).mono ?_;rintro e w1 ⟨rv,rfl,hbo,hT1⟩;obtain⟨ra,rc,hrv,-⟩:=aV (dX hT1.sat hbo);subst hrv;have hT2:=((Turns.refl HH.a).Qb hT1).Q8 (.cells #[.slice ra rec.length rc] 38);have hT3:=hT2.to (H:=(arF S++mf w1.heap.size (.slice ra rec.length rc) rec)++bZ (.slice sl ns.length cap) ns) (by unfold mf;exact af);have HC:=qqH (kE S HH.c b HH.d hb (.slice ra rec.length rc) rec w1.heap.size _ hT3.sat.left hbo HH.t);have hal2:=ah (hT3.sat.Q7 (b:=S.a) (o:=aO S.X) (by simp[arF]));have H3:=qqH hT3;clear hT1 hT2 hT3 hbo;go_wp2_with fail;refine HC.out.mono ?_;rintro e w2 (⟨hful,rfl,hs⟩|⟨hfit,rfl,L',hR,hT4⟩)
 ·have H4:=Hq2 hful (H3.out.Q9 hs);clear hful hs;go_wp2_with fail;refine bodyPost_ret (results_tmp rfl _ _ _) rfl (.inl ⟨by rw[<- HH.f];exact H4.a,rfl,?_⟩);exact H4.z.drop (fun x=>by simp only[an];omega)
 ·have hT5:=H3.out.step (List.Perm.refl _) hT4;have hT6:=hT5.to (H:=((S.a,Is (aO S.X))::(aU S.X.pm S.ps S.pc++bZ (.slice sl ns.length cap) ns))++((ay S.X.ab S.X.d (mP S L' rec).A++(aE S.X.d L'++(dm S.X.tm S.ts S.tc++bm S.X.cm S.cs S.cc)))++mf w1.heap.size (.slice ra rec.length rc) rec)) (by unfold arF mP;exact af);have HD:=qqH (sD S.a S.X S.ps S.pc p (.slice sl ns.length cap) ns w2 hT6.sat.left HH.b HH.c.paths (by unfold OkS;have:=HH.g;omega) HH.e (Hh HH.c HH.d hb p) (by omega));have hal3:S.a<w2.heap.size:=ah hT6.sat.Q5;have H6:=Hq3 hT6 hfit hR;clear hT4 hT5 hT6 hfit hR;go_wp2_with fail;refine HD.out.mono ?_;rintro e w3 ⟨v',rfl,hv',hT7⟩;have H7:=Hq2 hv' (H6.a.step (List.Perm.refl _) hT7);clear hv' hT7;go_wp2_with fail;refine bodyPost_ret (results_tmp rfl _ _ _) rfl (.inr ⟨by rw[<- HH.f];exact H6.b,rfl,v',L',by rw[<- HH.f];exact H6.y,H7.a,?_⟩);refine H7.z.drop (fun x=>?_);unfold jp arF mP iV;rw[<- HH.f];simp only[aB,an];omega
theorem pH(k:UInt8)(m p:Bs)(n:Int)(w:World):Calls Tryz.prog 113 #[.int .u8 k.toNat,xw m p n] w (fun e w'=>e=.returned (.agg #[.int .u8 k.toNat,str p,str m,.int .i64 n])/\aX w w'):=by
 unfold xw;go_enter Tryz.func113,Tryz.ntmps113;go_upto_region 1 with(fail);generalize hW:(w.alloc _).alloc _=W;have hs:aX w W:=by rw[<- hW];exact((Mods.refl _ w).alloc _).alloc _
 have hbo:W.heap[w.heap.size]?=some (.cells #[str m,str p,.int .i64 n] 230 (0,0)):=by rw[<- hW];exact((Mods.refl (fun _=>False) _).alloc _).at (aM w _) id
 have hro:W.heap[w.heap.size+1]?=some (.cells #[.int .u8 0,.string ⟨#[]⟩,.string ⟨#[]⟩,.int .i64 0] 233 (0,0)):=by
  rw[<- hW];have:=aM (w.alloc (.cells #[str m,str p,.int .i64 n] 230)) (.cells #[.int .u8 0,.string ⟨#[]⟩,.string ⟨#[]⟩,.int .i64 0] 233);rwa [World.size_alloc]at this
 have b0:W.cell? ⟨w.heap.size,0,none⟩=some (str m):=aa hbo 0 rfl;have b1:W.cell? ⟨w.heap.size,1,none⟩=some (str p):=aa hbo 1 rfl;have b2:W.cell? ⟨w.heap.size,2,none⟩=some (.int .i64 n):=aa hbo 2 rfl;obtain⟨q1,q2⟩:=du hro [.int .u8 k.toNat,str p,str m,.int .i64 n] (by simp);have HX:=Hq3 (dL (C:=#[.int .u8 0,.string ⟨#[]⟩,.string ⟨#[]⟩,.int .i64 0]) hro 0 4 (by simp)) q1 (hs.trans' q2 (fun i hi=>.inr (by omega)));clear hW hs hbo hro q1 q2;go_wp2_with ((refine wpList_store_mid rfl 233 (.tmp 4) (.tmp 13) rfl (w.heap.size+1) 0 #[.int .u8 k.toNat,str p,str m,.int .i64 n] rfl rfl HX.a (by kernel_rfl) (by simp[Value.oneCell']) ?_));refine bodyPost_ret (results_cell_row rfl _ _ (w.heap.size+1) 233 _ (0,0) _ rfl HX.b Tryz.underlying233 rfl (by kernel_rfl)) rfl ?_;exact⟨rfl,HX.y⟩
def Jh:Value:=.agg #[.string ⟨#[]⟩,.string ⟨#[]⟩,.int .i64 0]
theorem m8(w:World):(zeroValue 230).run Tryz.prog w=.ok Jh w:=by kernel_rfl
def xM(S:AS)(m p:Bs)(n:Nat)(L':DevL):AS:={ mP S L' (frame 4 (fN p m n))with ps:=dZ S.ps p n 1,ts:=eO S.ts S.tc m (qI m (p,(n:Int))) (p,(n:Int)),tc:=cD (S.ts.map aN) S.tc m }
def mV(S:AS)(m p:Bs)(n:Int)(L':DevL):AS:={ mP S L' (frame 5 (fN p m n))with ps:=dZ S.ps p n (-1),ts:=bI S.ts m }
theorem Di{S S':AS}(h:ArOk S'){p:Bs}{n d:Int}{ts:List ib}{tc:Nat}(ht:TagsOk ts tc)(hS:S={ S' with ps:=dZ S'.ps p n d,ts:=ts,tc:=tc }):ArOk S:=by
 subst hS;refine { h with paths:=zn h.paths p n d,tags:=ht,some:=vL h.some,vers:=fun q hq V hV=>?_ };obtain⟨q0,hq0,rfl⟩:=List.mem_map.1 (show q∈dZ S'.ps p n d from hq);split at hV
 ·obtain⟨V0,hV0,rfl⟩:=List.mem_map.1 hV;have:=h.vers q0 hq0 V0 hV0;obtain⟨-,-,e3,-,e5⟩:=jG n d V0;rw[e3,e5];exact this
 ·exact h.vers q0 hq0 V hV
theorem Au{ts:List ib}{tc:Nat}(h:TagsOk ts tc){m:Bs}(hm:OkS m)(g:Bs×Int):TagsOk (eO ts tc m (qI m g) g) (cD (ts.map aN) tc m):=by
 refine⟨by rw[iv];exact h.map.put hm _,fun q hq=>?_⟩;rcases fh hq with⟨h1,_⟩|⟨h1,h2,h3⟩
 ·exact h.val q h1
 ·rw[h1,h2,h3]
theorem Ar{ts:List ib}{tc:Nat}(h:TagsOk ts tc)(m:Bs):TagsOk (bI ts m) tc :=
 ⟨by rw[mt];exact h.map.del m,fun q hq=>h.val q (List.mem_filter.1 hq).1⟩
theorem Jb{S:AS}{m p:Bs}{n:Nat}{L':DevL}(hok:ArOk S)(h:RecIs S L' (frame 4 (fN p m n)))(hm:OkS m):ArOk (xM S m p n L') :=
 Di (S':=mP S L' (frame 4 (fN p m n))) (xC hok h) (Au hok.tags hm (p,(n:Int))) rfl
theorem Fi{S:AS}{m p:Bs}{n:Int}{L':DevL}(hok:ArOk S)(h:RecIs S L' (frame 5 (fN p m n))):ArOk (mV S m p n L') :=
 Di (S':=mP S L' (frame 5 (fN p m n))) (xC hok h) (Ar hok.tags m) rfl
def F3(S:AS)(m p:Bs)(n k:Int):Prop :=
 (S.X.closed=true/\k=9)\/(S.X.closed=false/\(aA m&&aA p)=false/\k=1)\/(aA m=true/\aA p=true/\S.X.closed=false/\i5 S p n k)\/(∃V,aA m=true/\iB S p n V/\((gv S.ts m=true/\k=6)\/(gv S.ts m=false/\128*S.A.count<S.data.length+(frame 4 (fN p m V.num)).length/\k=8)))
def Ih(S:AS)(m p:Bs)(n:Int)(w:World)(e:Ending)(w':World):Prop :=
 (∃k,F3 S m p n k/\e=.returned (cC k)/\Turns (arF S) (arF S) w w') \/
 (∃V L',aA m=true/\iB S p n V/\gv S.ts m=false/\S.data.length+(frame 4 (fN p m V.num)).length<=128*S.A.count/\e=.returned .nilIface/\RecIs S L' (frame 4 (fN p m V.num))/\Turns (arF S) (arF (xM S m p V.num L')) w w')
theorem Dh{S:AS}{b:Nat}(hB:ArB S b)(hb:b<=90000)(p:Bs):∀V∈ai S.ps p,V.held.natAbs<=1099511627776:=fun V hV=>by
 obtain⟨q,hq,-,hqg⟩:=jz (List.ne_nil_of_mem hV)
 have:=((hB.vers q hq).2.2 V (hqg ▸ hV)).2.2.2
 omega
theorem DX(S:AS)(m l:Bs)(n:Int)(b:Nat)(w:World)(h:Sat w (arF S))(hok:ArOk S)(hB:ArB S b)(hb:b<=90000):
  Calls Tryz.prog 66 #[.pointer (some ⟨S.a,0,none⟩),str m,str l,.int .i64 n] w (Ih S m l n w):=by
 have HBg:=qqH (fun W (hW:aX w W) (h0:W.cell? ⟨w.heap.size,0,none⟩=some (str m)) (h1:W.cell? ⟨w.heap.size,1,none⟩=some (str l))=>kh S.a S.X (some ⟨w.heap.size,0,none⟩) 2 [m,l] W (hW.at h.Q5 id) (fun _=>⟨_,_,rfl,fun j hj=>by
  rcases(show j=0\/j=1 by simp at hj;omega)with rfl|rfl
  ·exact h0
  ·exact h1⟩) (by simp))
 have HF:=qqH (fun W (hW:aX w W)=>iJ S.a S.X S.ps S.pc l n W (h.same hW).Q5 ((h.same hW).tail.right.right.left) hok.paths);have hal:=ah h.Q5;have HH:=Hq4 h hok hB hb;clear h hok hB hb;go_enter Tryz.func66,Tryz.ntmps66;go_wp2_with fail;have hal0:=aM w (.cells #[str m,str l] 9);refine(HBg.out _ ((Mods.refl _ w).alloc _) (aa hal0 0 rfl) (aa hal0 1 rfl)).mono ?_;rintro e w1 ⟨rfl,hs1⟩;have hs2:aX w w1:=((Mods.refl _ w).alloc _).trans hs1;obtain⟨cl,hcl⟩:∃cl,cl=S.X.closed:=⟨_,rfl⟩;obtain⟨pb,hpb⟩:∃pb,pb=(aA m&&aA l):=⟨_,rfl⟩;have e1:([m,l].all aA)=pb:=by simp[hpb]
 rw[e1,<- hcl];have HD:=Hq3 hcl hpb hs2;clear hcl hpb hs2 hs1 e1 hal0
 cases cl with
 | true =>
  simp only[if_true];unfold cC;go_wp2_with fail;refine bodyPost_ret (results_tmp rfl _ _ _) rfl (.inl ⟨9,.inl ⟨HD.a.symm,rfl⟩,rfl,Turns.same HH.a HD.y⟩)
 | false =>
  cases pb with
  | false =>
   simp only[Bool.false_eq_true,if_false];unfold cC;go_wp2_with fail;refine bodyPost_ret (results_tmp rfl _ _ _) rfl (.inl ⟨1,.inr (.inl ⟨HD.a.symm,HD.b.symm,rfl⟩),rfl,Turns.same HH.a HD.y⟩)
  | true =>
   simp only[Bool.false_eq_true,if_false,if_true];have hpaths:aA m=true/\aA l=true:=by have:=HD.b.symm;simpa using this
   have HP:=qqH hpaths;clear hpaths;go_wp2_with fail;refine(HF.out _ HD.y).mono ?_;intro e w2 hp;obtain⟨hs,⟨k,hk,rfl⟩|⟨V,hV,rfl⟩⟩:=iK hp
   ·have HK:=Hq2 hk (HD.y.trans hs);clear hp hs hk;unfold cC;go_wp2_with fail;refine bodyPost_ret (results_tmp rfl _ _ _) rfl (.inl ⟨k,.inr (.inr (.inl ⟨HP.a,HP.z,HD.a.symm,HK.a⟩)),rfl,(Turns.same HH.a HK.z)⟩)
   ·have hT1:Turns (arF S) (arF S) w w2:=Turns.same HH.a (HD.y.trans hs);obtain⟨p,hpm,hpk,hVp⟩:=pX hV.2.2;have hps:Sat w2 (er p.val p.g):=Sat.flat (f:=fun p:bl=>er p.val p.g) (hT1.sat.tail.right.right.left).tail hpm;have hvo:=(Sat.flat (f:=bT) hps.right hVp:Sat w2 (bT V)).Q5;have v0:w2.cell? ⟨V.blk,0,none⟩=some (.int .i64 V.num):=aa hvo 0 rfl;have hvl:=ah hvo;have hnum:=(((HH.c.vers p hpm).2.2 V hVp).1);have hne:ai S.ps l≠[]:=fun e=>by have:=hV.2.2;rw[e]at this;cases this
    have a1:w2.cell? ⟨S.a,1,none⟩=some (.map (some S.X.tm)):=aa hT1.sat.Q5 1 rfl;have hal2:=ah hT1.sat.Q5;have htm:=hT1.sat.Q7 (b:=S.X.tm) (o:=aR str (S.ts.map aN) S.tc) (by simp[arF,dm]);have hOm:OkS m:=by have:=bM HP.a;unfold OkS;omega
    obtain⟨hb,hhb⟩:∃hb,hb=jk (S.ts.map aN) m:=⟨_,rfl⟩
    obtain⟨x0,x1,x2,hz⟩:∃x0 x1:Bs,∃x2:Int,(dW (S.ts.map aN) m).getD Jh=.agg #[str x0,str x1,.int .i64 x2]:=by
     cases hg:dW (S.ts.map aN) m with
     | none=>exact⟨[],[],0,rfl⟩
     | some u =>
      obtain⟨e,he,hek,hev⟩:=kY hg;obtain⟨q,hq,rfl⟩:=List.mem_map.1 he;have h3:=HH.b.tags.val q hq;refine⟨q.key,q.g.1,q.g.2,?_⟩;have:u=q.val:=hev.symm;rw[this,h3];rfl
    have HV:=Hq7 hV hT1 htm hOm hhb hz hne;clear hp hs hV hT1 hps hvo hpm hpk hVp hne htm hOm hhb hz;unfold dz;have hhg:gv S.ts m=hb:=by rw[HV.e,pE]
    have HG:=qqH hhg;clear hhg
    cases hb with
    | true =>
     go_wp2_with (at_lookup;refine al rfl (j9 eB (.tmp 39) (.tmp 40) rfl Tryz.underlying120 HV.c HH.b.tags.map (m8 _) m rfl rfl HV.d ?_);rw[HV.f,<- HV.e]);refine bodyPost_ret (results_tmp rfl _ _ _) rfl (.inl ⟨6,.inr (.inr (.inr ⟨V,HP.a,HV.a,.inl ⟨HG.out,rfl⟩⟩)),rfl,HV.b.alloc _⟩)
    | false =>
     go_upto_region 11 with(at_lookup;refine al rfl (j9 eB (.tmp 39) (.tmp 40) rfl Tryz.underlying120 HV.c HH.b.tags.map (m8 _) m rfl rfl HV.d ?_);rw[HV.f,<- HV.e]);generalize hW:(w2.alloc _).alloc _=W
     have hT2:Turns (arF S) ((w2.heap.size+1,Is (.cells #[str m,str l,.int .i64 V.num] 230 (0,0)))::arF S) w W:=by
      rw[<- hW];have:=(HV.b.alloc (.cells #[str x0,str x1,.int .i64 x2] 230)).Q8 (.cells #[str m,str l,.int .i64 V.num] 230);rwa [World.size_alloc]at this
     have hbo:=hT2.sat.Q5;have d0:W.cell? ⟨w2.heap.size+1,0,none⟩=some (str m):=aa hbo 0 rfl;have d1:W.cell? ⟨w2.heap.size+1,1,none⟩=some (str l):=aa hbo 1 rfl;have d2:W.cell? ⟨w2.heap.size+1,2,none⟩=some (.int .i64 V.num):=aa hbo 2 rfl;obtain⟨pb,hpb⟩:∃pb,pb=w2.heap.size+1:=⟨_,rfl⟩;rw[<- hpb]at hT2 d0 d1 d2 ⊢;have H2:=qqH hT2;clear hW hT2 hbo hpb;go_wp2_with fail;refine(pH 4 m l V.num _).mono ?_;rintro e w3 ⟨rfl,hs3⟩;obtain⟨rec,hrec⟩:∃rec,rec=frame 4 (fN l m V.num):=⟨_,rfl⟩
     have hrl:rec.length<=70000:=by
      have:=bM HP.a;have:=bM HP.z;rw[hrec];simp only[bL,fN,List.length_append,bF,bW];omega
     have hWr:=mZ 4 l m V.num w3 (by have:=bM HP.z;omega) (by have:=bM HP.a;omega) (by unfold I64;have:=HH.x;omega);rw[<- hrec]at hWr;have HW:=qqH hWr;have H3:=Hq3 (H2.out.Q9 hs3) hrec hrl;clear hs3 hrec hrl hWr d0 d1 d2;go_wp2_with fail;refine HW.out.mono ?_;rintro e w4 ⟨rv,rfl,hbo,hT4⟩;obtain⟨ra,rc,hrv,-⟩:=aV (dX hT4.sat hbo);subst hrv;have hT5:=((H3.a.Qb hT4).Q8 (.cells #[.slice ra rec.length rc] 38)).to (H:=(arF S++mf w4.heap.size (.slice ra rec.length rc) rec)++[(pb,Is (.cells #[str m,str l,.int .i64 V.num] 230 (0,0)))]) (by unfold mf;exact af);have HC:=qqH (kE S HH.b b HH.c HH.x (.slice ra rec.length rc) rec w4.heap.size _ hT5.sat.left hbo H3.y);have hal4:=ah (hT5.sat.Q7 (b:=S.a) (o:=aO S.X) (by simp[arF]));have H5:=qqH hT5;clear hT4 hT5 hbo;go_wp2_with fail;refine HC.out.mono ?_;rintro e w5 (⟨hful,rfl,hs⟩|⟨hfit,rfl,L',hR,hT6⟩)
     ·have H6:=Hq2 hful (H5.out.Q9 hs);clear hful hs;unfold cC;go_wp2_with fail;refine bodyPost_ret (results_tmp rfl _ _ _) rfl (.inl ⟨8,.inr (.inr (.inr ⟨V,HP.a,HV.a,.inr ⟨HG.out,by rw[<- H3.b];exact H6.a,rfl⟩⟩)),rfl,?_⟩);exact H6.z.drop (fun x=>by simp only[an];omega)
     ·have hT7:=H5.out.step (List.Perm.refl _) hT6;have hT8:=hT7.to (H:=eM S.a S.X S.ps S.pc S.ts S.tc++((ay S.X.ab S.X.d (mP S L' rec).A++(aE S.X.d L'++bm S.X.cm S.cs S.cc))++(mf w4.heap.size (.slice ra rec.length rc) rec++[(pb,Is (.cells #[str m,str l,.int .i64 V.num] 230 (0,0)))]))) (by unfold arF mP eM;exact af);have hbo8:=hT8.sat.Q7 (b:=pb) (o:=.cells #[str m,str l,.int .i64 V.num] 230 (0,0)) (by simp);have d0:w5.cell? ⟨pb,0,none⟩=some (str m):=aa hbo8 0 rfl;have d1:w5.cell? ⟨pb,1,none⟩=some (str l):=aa hbo8 1 rfl;have d2:w5.cell? ⟨pb,2,none⟩=some (.int .i64 V.num):=aa hbo8 2 rfl;have hal5:S.a<w5.heap.size:=ah (hT8.sat.Q7 (b:=S.a) (o:=aO S.X) (by simp[eM]));have H8:=Hq3 hT8 hfit hR;clear hT6 hT7 hT8 hbo8 hfit hR;have HM:=qqH (show Tryz.prog.follows .mixedOrders=true by kernel_rfl);go_wp2_with fail;refine wp_region_still_tail 4 HM.out (by kernel_rfl) ?_;simp only[List.take_succ_cons,List.take_zero,List.drop_succ_cons,List.drop_zero];repeat still_step
      refine wpStill_nil ?_;change wpList _ _ _ _ _ w5.drew;have hT9:=H8.a.drew;have HPn:=qqH (vW S.a S.X S.ps S.pc S.ts S.tc m l V.num w5.drew ⟨hT9.sat.left,HH.b.paths,HH.b.tags,HV.d,by unfold OkS;have:=bM HP.z;omega,by have:=xP HH.c l;have:=HH.x;omega,Dh HH.c HH.x l⟩);have H9:=qqH hT9;clear hT9 d0 d1 d2;go_wp2_with fail;refine HPn.out.mono ?_;rintro e w6 ⟨rfl,hT10⟩;have H10:=qqH (H9.out.step (List.Perm.refl _) hT10);clear hT10;go_wp2_with fail;refine bodyPost_ret (results_tmp rfl _ _ _) rfl (.inr ⟨V,L',HP.a,HV.a,HG.out,by rw[<- H3.b];exact H8.b,rfl,by rw[<- H3.b];exact H8.y,?_⟩);refine H10.out.drop (fun x=>?_);unfold xM arF mP eM;rw[<- H3.b];simp only[aB,an];omega
theorem Told.more{S S':AS}{rs:kB}{H H':List HV}(h:Told S rs H)(hok:ArOk S){L':DevL}{k:UInt8}{body:Bs}(hr:RecIs S L' (frame k body))(hk:k≠0)(hb:body.length<65536)(hd:S'.data=S.data++frame k body)(hL:S'.L=L')(hX:S'.X.ep=S.X.ep)(hrun:gY (dd rs).length ⟨S.K,H,S.ts.map ia⟩ k body=some ⟨S'.K,H',S'.ts.map ia⟩)(hh:∀l,(ai S'.ps l).map bS=(H'.filter (fun h=>decide (h.p=l))).map dg)(hu:S'.X.used=((H'.map (·.size)).sum:Nat)):Told S' (rs++[(k,body)]) H' where
 ok:=fun r hr=>by
  rcases List.mem_append.1 hr with hr|hr
  ·exact h.ok r hr
  ·obtain rfl:=List.mem_singleton.1 hr
   exact⟨hk,hb⟩
 data:=by rw[hd,ey,h.data];simp[dd]
 run:=by
  rw[gX,h.run,Option.bind_some,Nat.zero_add]
  simp only[nH,hrun,Option.bind_some]
 hist:=hh
 ep:=by rw[hX];exact h.ep
 sec1:=by rw[hL,fg,hr.oth 1 1 (.inl (by rw[hok.first];omega)),<- fg];exact h.sec1
 sec0:=by rw[hL,fg,hr.oth 0 1 (.inl (by rw[hok.first];omega)),<- fg];exact h.sec0
 used:=hu
theorem EC(ns:List Int)(vs:List VerL):(dK ns vs).map bS=(vs.map bS).filter (fun t => !ns.contains (t.1:Int)):=by
 rw[List.filter_map];rfl
theorem GB(ns:List Int)(vs:List VerL):bP ns vs=(((vs.map bS).filter (fun t=>ns.contains (t.1:Int))).map (·.2.1)).sum:=by
 unfold bP;rw[List.filter_map,List.map_map];rfl
theorem Ej(H:List HV)(p:Bs)(ns:List Int):(H.map (·.size)).sum=((jV H p ns).map (·.size)).sum+(((((H.filter (fun h=>decide (h.p=p))).map dg).filter (fun t=>ns.contains (t.1:Int))).map (·.2.1)).sum):=by
 have h1:(H.map (·.size)).sum=(((H.filter (fun h=>decide (h.p=p)&&ns.contains (h.num:Int)))++(H.filter (fun h => !(decide (h.p=p)&&ns.contains (h.num:Int))))).map (·.size)).sum:=((List.filter_append_perm _ H).symm.map _).sum_nat;rw[List.map_append,List.sum_append]at h1
 have h2:(((H.filter (fun h=>decide (h.p=p))).map dg).filter (fun t=>ns.contains (t.1:Int))).map (·.2.1)=(H.filter (fun h=>decide (h.p=p)&&ns.contains (h.num:Int))).map (·.size):=by
  rw[List.filter_map,List.map_map,List.filter_filter]
  have:H.filter (fun h=>((fun t:Nat×Nat×List (Nat×Nat)×Int=>ns.contains (t.1:Int)) ∘ dg) h&&decide (h.p=p))=H.filter (fun h=>decide (h.p=p)&&ns.contains (h.num:Int)):=List.filter_congr fun h _=>by
   show(ns.contains (h.num:Int)&&_)=_;rw[Bool.and_comm]
  rw[this];rfl
 rw[h2];unfold jV;omega
theorem Told.gone{S:AS}{rs:kB}{H:List HV}(h:Told S rs H)(hok:ArOk S){p:Bs}{ns:List Int}{v':Value}{L':DevL}(hr:RecIs S L' (frame 3 (dI p ns)))(hp:p.length<=20)(hn:∀n∈ns,0<=n/\n<4294967296)(hnl:ns.length<=15000)(hne:ai S.ps p≠[]):
  Told (jp S p ns v' L') (rs++[(3,dI p ns)]) (jV H p ns):=by
 have hany:H.any (fun h=>decide (h.p=p))=true:=by
  rw[List.any_eq_true];have h1:=congrArg List.length (h.hist p);rw[List.length_map,List.length_map]at h1
  have h2:H.filter (fun h=>decide (h.p=p))≠[]:=fun e=>by
   rw[e]at h1;exact hne (List.length_eq_zero_iff.1 h1)
  obtain⟨x,hx⟩:=List.exists_mem_of_ne_nil _ h2;exact⟨x,List.mem_filter.1 hx⟩
 have hs:=Ej H p ns;rw[<- h.hist,<- GB]at hs;refine h.more hok hr (by decide) (by unfold dI;rw[List.length_append,bF,cy];omega) rfl rfl rfl ?_ (fun l=>?_) ?_
 ·unfold gY;rw[if_neg (by decide),Ct (by omega) hn];dsimp only;rw[if_pos hany];rfl
 ·show(ai (ge S.ps S.pc p v' ns) l).map bS=_;rw[ow];unfold jV;rw[List.filter_filter];by_cases hl:l=p
  ·subst hl;rw[if_pos rfl,EC,h.hist,List.filter_map,List.filter_filter];congr 1;refine List.filter_congr fun x _=>?_
   by_cases hx:x.p=l
   ·simp only[Function.comp_apply,dg,hx,decide_true,Bool.true_and,Bool.and_true]
   ·simp only[hx,decide_false,Bool.false_and,Bool.and_false]
  ·rw[if_neg hl,h.hist];congr 1;refine List.filter_congr fun x _=>?_
   by_cases hx:x.p=l
   ·have:¬x.p=p:=fun e=>hl (hx.symm.trans e)
    simp[hx,hl]
   ·simp[hx]
 ·show S.X.used-(bP ns (ai S.ps p):Nat)=_;rw[h.used];omega
theorem vK(H:List HV)(p:Bs)(n d:Int):((gT H p n d).map (·.size)).sum=(H.map (·.size)).sum:=by
 unfold gT;rw[List.map_map];congr 1;refine List.map_congr_left fun x _=>?_
 simp only[Function.comp_apply];split<;>rfl
def tb2(n d:Int)(t:Nat×Nat×List (Nat×Nat)×Int):Nat×Nat×List (Nat×Nat)×Int:=if(t.1:Int)=n then(t.1,t.2.1,t.2.2.1,t.2.2.2+d)else t
theorem sS{S:AS}{H:List HV}(h:∀l,(ai S.ps l).map bS=(H.filter (fun h=>decide (h.p=l))).map dg)(p:Bs)(n d:Int)(l:Bs):(ai (dZ S.ps p n d) l).map bS=((gT H p n d).filter (fun h=>decide (h.p=l))).map dg:=by
 have e0:(gT H p n d).filter (fun h=>decide (h.p=l))=(H.filter (fun h=>decide (h.p=l))).map (fun h=>if h.p=p/\(h.num:Int)=n then { h with held:=h.held+d } else h):=by
  unfold gT;rw[List.filter_map];congr 1;refine List.filter_congr fun x _=>?_
  simp only[Function.comp_apply];split<;>rfl
 rw[lI,e0,List.map_map];by_cases hl:l=p
 ·subst hl;rw[if_pos rfl,List.map_map];have h1:=congrArg (List.map (tb2 n d)) (h l);rw[List.map_map,List.map_map]at h1;refine Eq.trans (List.map_congr_left fun V _=>?_) (h1.trans (List.map_congr_left fun x hx=>?_))
  ·show bS (dJ n d V)=tb2 n d (bS V);unfold tb2 dJ;by_cases hV:(V.num:Int)=n
   ·rw[if_pos hV,if_pos (show((bS V).1:Int)=n from hV)];rfl
   ·rw[if_neg hV,if_neg (show ¬((bS V).1:Int)=n from hV)]
  ·have hx2:x.p=l:=by simpa using(List.mem_filter.1 hx).2
   show tb2 n d (dg x)=dg (if x.p=l/\(x.num:Int)=n then { x with held:=x.held+d } else x);unfold tb2;by_cases hV:(x.num:Int)=n
   ·rw[if_pos (show((dg x).1:Int)=n from hV),if_pos ⟨hx2,hV⟩];rfl
   ·rw[if_neg (show ¬((dg x).1:Int)=n from hV),if_neg (fun e=>hV e.2)]
 ·rw[if_neg hl,h l];refine List.map_congr_left fun x hx=>?_
  have hx2:x.p=l:=by simpa using(List.mem_filter.1 hx).2
  simp only[Function.comp_apply];rw[if_neg (fun e=>hl (hx2.symm.trans e.1))]
theorem GW(ts:List ib)(c:Nat)(m:Bs)(v:Value)(g:Bs×Int):(eO ts c m v g).map ia=uz (ts.map ia) (m,g.1,g.2):=by
 have e:(ts.map ia).any (fun t=>decide (t.1=m))=gv ts m:=by unfold gv;rw[List.any_map];rfl
 unfold eO uz;rw[e];split
 ·rw[List.map_map,List.map_map];refine List.map_congr_left fun x _=>?_
  simp only[Function.comp_apply];by_cases hx:x.key=m
  ·rw[if_pos hx,if_pos (show(ia x).1=m from hx)];simp[ia,hx]
  ·rw[if_neg hx,if_neg (show ¬(ia x).1=m from hx)]
 ·simp[ia]
theorem tq{p m:Bs}(hp:p.length<=20)(hm:m.length<=20)(n:Int):(fN p m n).length<=60:=by
 unfold fN;simp only[List.length_append,bF,bW];omega
theorem Told.tag{S:AS}{rs:kB}{H:List HV}(h:Told S rs H)(hok:ArOk S){m p:Bs}{n:Nat}{L':DevL}(hr:RecIs S L' (frame 4 (fN p m n)))(hp:p.length<=20)(hm:m.length<=20)(hn:n<4294967296):
  Told (xM S m p n L') (rs++[(4,fN p m n)]) (gT H p n 1):=by
 refine h.more hok hr (by decide) (by have:=tq hp hm n;omega) rfl rfl rfl ?_ (fun l=>sS h.hist p n 1 l) ?_
 ·unfold gY;rw[if_neg (by decide),vY (.inl rfl) (by omega) (by omega) hn];dsimp only;rw[if_pos rfl];show _=some (PSt.mk S.K _ ((eO S.ts S.tc m (qI m (p,(n:Int))) (p,(n:Int))).map ia));rw[GW]
 ·show S.X.used=_;rw[h.used,vK]
theorem Told.Qp{S:AS}{rs:kB}{H:List HV}(h:Told S rs H)(hok:ArOk S){m p:Bs}{n:Nat}{L':DevL}(hr:RecIs S L' (frame 5 (fN p m n)))(hp:p.length<=20)(hm:m.length<=20)(hn:n<4294967296):
  Told (mV S m p n L') (rs++[(5,fN p m n)]) (gT H p n (-1)):=by
 refine h.more hok hr (by decide) (by have:=tq hp hm n;omega) rfl rfl rfl ?_ (fun l=>sS h.hist p n (-1) l) ?_
 ·unfold gY;rw[if_neg (by decide),vY (.inr rfl) (by omega) (by omega) hn];dsimp only;rw[if_neg (by decide)];show _=some (PSt.mk S.K _ ((bI S.ts m).map ia));unfold Ei bI;rw[List.filter_map];rfl
 ·show S.X.used=_;rw[h.used,vK]
def oq(vs:List RVer)(k:Nat):List RVer:=vs.take k++vs.drop (k+1)
def EU(R:RefL)(k:Nat)(v':Value):RefL:={ R with vv:=v',vs:=oq R.vs k }
theorem z6{R:RefL}{P:fc}{w W:World}(h:RefAt R P w){G:HF}(hT:Turns (aI R) (G++aI R) w W){sl:Option Addr}{cap:Nat}(e1:R.vv=.slice sl R.vs.length cap):
  W.cell? ⟨R.blk,0,none⟩=some (.slice sl R.vs.length cap)/\R.blk<W.heap.size/\(∀k,ak W sl (bB (R.vs.take k)))/\(∀k,k<=R.vs.length->ak W (if cap=k then sl else sl.map (·.add (k*4))) (bB (R.vs.drop k))):=by
 have hs:=hT.sat.right;obtain⟨sl',cap',e1',-,-,e4',e5'⟩:=wc (Sat.left (Sat.tail hs)) h.ok.vs;rw[e1]at e1';simp only[Value.slice.injEq,true_and]at e1';obtain⟨rfl,rfl⟩:=e1';exact⟨by rw[<- e1];exact aa hs.Q5 0 rfl,ah hs.Q5,e4',e5'⟩
def FN(R:RefL)(k:Nat)(w:World)(e:Ending)(w':World):Prop :=
 ∃v',e=.returned (.tuple #[])/\kK v' (oq R.vs k)/\Turns (aI R) (aI (EU R k v')) w w'
theorem uC(R:RefL)(P:fc)(k:Nat)(w:World)(h:RefAt R P w)(hk:k<R.vs.length):
  Calls Tryz.prog 112 #[.pointer (some ⟨R.blk,0,none⟩),.int .i64 k] w (FN R k w):=by
 obtain⟨sl,cap,e1,e2,e3,hb,-⟩:=h.row;have c0:w.cell? ⟨R.blk,0,none⟩=some (.slice sl R.vs.length cap):=by rw[<- e1];exact aa hb 0 rfl
 have hbl:=ah hb;have hlen:=h.len;have hone:=h.one;have hT0:Turns (aI R) ([]++aI R) w w:=Turns.refl h.ref;obtain⟨-,-,d2,-⟩:=z6 h hT0 e1;obtain⟨k1,hk1⟩:∃k1,k1=k+1:=⟨_,rfl⟩;have hk1z:(k:Int)+1=(k1:Int):=by omega
 have hk1l:k1<=R.vs.length:=by omega
 have hkl:k<=R.vs.length:=by omega
 have hk1c:k1<=cap:=by omega
 have HRF:=qqH (fun(W:World) (G:HF) (hT:Turns (aI R) (G++aI R) w W)=>z6 h hT e1);have HH:=Hq5 h hT0 d2 hone hk1;clear h hT0 d2 hone hk1 e1 hb;go_enter Tryz.func112,Tryz.ntmps112
 go_wp2_with (first
  | (at_builtin;refine al rfl ?_;refine g9 (.tmp 5) (.tmp 11) rfl (.slice none 0 0) [] rfl (G:=aI R) (show Turns (aI R) (cH (.slice none 0 0) []++aI R) w w from HH.b) ⟨rfl,fun _=>⟨rfl,rfl⟩⟩ _ _ _ rfl (R.vs.take k) (by rw[List.length_take,Nat.min_eq_left hkl]) (HH.c k) (fun v hv=>HH.d v (List.mem_of_mem_take hv)) (by rw[List.length_take,Nat.min_eq_left hkl];simp;omega) ?_;intro v7 w7 hok7 hT7;simp only[List.nil_append]at hok7 hT7;obtain⟨d0,d1,-,d3⟩:=HRF.out _ _ hT7;have H7:=Hq3 hok7 hT7 d3;clear hok7 hT7 d3)
  | (at_builtin;refine al rfl ?_;refine g9 (.tmp 13) (.tmp 20) rfl v7 (R.vs.take k) rfl H7.b H7.a _ _ _ rfl (R.vs.drop k1) (by rw[List.length_drop]) (H7.y k1 hk1l) (fun v hv=>HH.d v (List.mem_of_mem_drop hv)) (by simp;omega) ?_;intro v9 w9 hok9 hT9;obtain⟨d0,d1,-,-⟩:=HRF.out _ _ hT9;have hv9:=ew hT9.sat.left hok9;have H9:=Hq3 hok9 hT9 hv9;clear hok9 hT9 hv9)
  | (refine al rfl (bi 57 (.tmp 25) (.tmp 23) rfl R.blk 0 (bE R) 60 v9 (H9.b.to (H:=(R.blk,Is (iA R))::(cH v9 (R.vs.take k++R.vs.drop k1)++(cH R.vv R.vs++cI R.tv R.ts))) (by unfold aI;exact af)) rfl rfl (by simp[bE]) (by kernel_rfl) H9.c H9.d ?_);intro w10 hT10;have H10:=qqH hT10;clear hT10;simp only[Act.put]))
 all_goals
  refine bodyPost_end (results_none rfl _ _ _) rfl ?_;have hk1:=HH.w;refine⟨v9,rfl,?_,?_⟩
  ·unfold oq;rw[<- hk1];exact H9.a
  ·refine H10.out.drop (fun x=>?_);unfold aI EU oq;rw[<- hk1,show iA { R with vv:=v9,vs:=R.vs.take k++R.vs.drop k1 }=.cells ((bE R).setIfInBounds 0 v9) 60 (0,0)from rfl];simp only[aB,an];omega
theorem lM{R:RefL}{p:Bs}{n:Int}{v:RVer}(h:nV R p n=some v):∃k:Nat,bR R.vs p n R.vs.length=k/\∃hk:k<R.vs.length,R.vs[k]=v:=by
 unfold nV at h;split at h
 ·rename_i h0;obtain⟨k,hk⟩:∃k:Nat,bR R.vs p n R.vs.length=k:=⟨_,(Int.toNat_of_nonneg h0).symm⟩;rw[hk,Int.toNat_natCast]at h;obtain⟨hlt,he⟩:=List.getElem?_eq_some_iff.1 h;exact⟨k,hk,hlt,he⟩
 ·cases h
theorem fP{R:RefL}{p:Bs}{n:Int}{v:RVer}(h:cO R p n=.ok v):R.closed=false/\aA p=true/\nV R p n=some v:=by
 unfold cO at h;split at h
 ·cases h
 ·rename_i hc;split at h
  ·rename_i hp;split at h
   ·rename_i v' hv;simp only[Except.ok.injEq]at h;subst h;exact⟨by simpa using hc,hp,hv⟩
   ·cases h
  ·cases h
def FO(R:RefL)(p:Bs)(n:Int)(w:World)(e:Ending)(w':World):Prop :=
 (∃k,cO R p n=.error k/\e=.returned (.int .i64 k)/\Turns (aI R) (aI R) w w') \/
 (∃v,cO R p n=.ok v/\0<v.held/\e=.returned (.int .i64 5)/\Turns (aI R) (aI R) w w') \/
 (∃k v',∃hk:k<R.vs.length,cO R p n=.ok R.vs[k]/\bR R.vs p n R.vs.length=k/\R.vs[k].held<=0/\e=.returned (.int .i64 0)/\kK v' (oq R.vs k)/\Turns (aI R) (aI (EU R k v')) w w')
theorem nU(R:RefL)(P:fc)(p:Bs)(n:Int)(w:World)(h:RefAt R P w):
  Calls Tryz.prog 63 #[.pointer (some ⟨R.blk,0,none⟩),str p,.int .i64 n] w (FO R p n w):=by
 have HG:=qqH (j0 R P p n w h);have HH:=qqH h;clear h;go_enter Tryz.func63,Tryz.ntmps63;go_wp2_with fail;refine HG.out.mono ?_;rintro e w1 ⟨hs,hm⟩
 cases hr:cO R p n with
 | error k =>
  rw[hr]at hm;subst hm;have hk0:=jI hr;have HR:=Hq2 hr hs;clear hr hs;go_wp2_with fail;refine bodyPost_ret (results_tmp rfl _ _ _) rfl (.inl ⟨k,HR.a,rfl,Turns.same HH.out.ref HR.z⟩)
 | ok v =>
  rw[hr]at hm;obtain⟨rfl,-⟩:=hm;obtain⟨-,-,hf⟩:=fP hr;obtain⟨k,hb,hk,hv⟩:=lM hf;have hA1:=HH.out.same hs;have hcv:=hA1.one v (hv ▸ List.getElem_mem hk);have HFi:=qqH (ky R P p n w1 hA1);have HR:=Hq4 hr hs hb hv;clear hr hs hf hb hA1 hcv;go_wp2_with fail;refine HFi.out.mono ?_;rintro e w2 ⟨rfl,hs2⟩;rw[HR.c];have hA2:=HH.out.same (HR.b.trans hs2);obtain⟨sl,cap,e1,e2,e3,hbo,hcell⟩:=hA2.row;obtain⟨g,off,hg,hcc⟩:=hcell (by omega);subst hg;obtain⟨-,-,-,h3⟩:=hcc k hk;rw[HR.x]at h3;have c0:w2.cell? ⟨R.blk,0,none⟩=some (.slice (some ⟨g,off,none⟩) R.vs.length cap):=by rw[<- e1];exact aa hbo 0 rfl
  have hbl:=ah hbo;have hgl:=World.block_lt_of_cell? w2 _ h3;have HS:=Hq2 (HR.b.trans hs2) hA2;have HRm:=qqH (uC R P k w2 hA2 hk);clear hs2 hA2 e1 hbo hcell hcc;by_cases c1:0<v.held
  ·go_wp2_with fail;refine bodyPost_ret (results_tmp rfl _ _ _) rfl (.inr (.inl ⟨v,HR.a,c1,rfl,Turns.same HH.out.ref HS.a⟩))
  ·go_wp2_with fail;refine HRm.out.mono ?_;rintro e w3 ⟨v',rfl,hv',hT⟩;have HT:=Hq2 hv' hT;clear hv' hT;go_wp2_with fail;refine bodyPost_ret (results_tmp rfl _ _ _) rfl (.inr (.inr ⟨k,v',hk,by rw[HR.x];exact HR.a,HR.c,by rw[HR.x];omega,rfl,HT.a,Turns.Qg HH.out.ref HS.a HT.z⟩))
def me(vs:List RVer)(p:Bs)(n:Int):Option RVer:=if 0<=bR vs p n vs.length then vs[(bR vs p n vs.length).toNat]? else none
def fZ(p:Bs)(s:List RVer×Nat)(n:Int):List RVer×Nat :=
 match me s.1 p n with
 | some v=>if v.held<=0 then(oq s.1 (bR s.1 p n s.1.length).toNat,s.2+1)else s
 | none=>s
def lL(L:Nat)(keep:Int):Nat:=if keep<0 then L else((L:Int)-keep).toNat
def ip(R:RefL)(v':Value)(vs':List RVer):RefL:={ R with vv:=v',vs:=vs' }
def rU(R:RefL)(P:fc)(p:Bs)(keep:Int)(w:World)(e:Ending)(w':World):Prop :=
 (∃k,cO R p 0=.error k/\e=.returned (.tuple #[.int .i64 0,.int .i64 k])/\Turns (aI R++bc P) (aI R++bc P) w w') \/
 (∃v,cO R p 0=.ok v/\∃vs' c v',((fM R.vs p).take (lL (fM R.vs p).length keep)).foldl (fZ p) (R.vs,0)=(vs',c)/\e=.returned (.tuple #[.int .i64 (c:Nat),.int .i64 0])/\kK v' vs'/\Turns (aI R++bc P) (aI (ip R v' vs')++bc P) w w')
def AO(R:RefL)(P:fc)(p:Bs)(ns:List Int)(m:Nat)(nv:Value)(w:World)(cv i _f:Value)(W:World):Prop :=
 ∃(j c:Nat) (vs':List RVer) (v':Value),j<=m/\i=.int .i64 j/\cv=.int .i64 c/\(ns.take j).foldl (fZ p) (R.vs,0)=(vs',c)/\kK v' vs'/\(∀v∈vs',v∈R.vs)/\vs'.length<=R.vs.length/\c<=j/\Turns (aI R++bc P) ((aI (ip R v' vs')++bc P)++bZ nv ns) w W
theorem yQ{vs:List RVer}{k:Nat}:∀v∈oq vs k,v∈vs:=fun v hv=>by
 rcases List.mem_append.1 hv with h|h
 ·exact List.mem_of_mem_take h
 ·exact List.mem_of_mem_drop h
theorem yP{vs:List RVer}{k:Nat}:(oq vs k).length<=vs.length:=by
 unfold oq;rw[List.length_append,List.length_take,List.length_drop];omega
theorem BE{α β:Type}{f:β->α->β}{b:β}{l:List α}{k:Nat}(h:k<l.length):(l.take (k+1)).foldl f b=f ((l.take k).foldl f b) l[k]:=by
 rw[List.take_succ_eq_append_getElem h,List.foldl_append];rfl
theorem xy(R:RefL)(P:fc)(p:Bs)(keep:Int)(w:World)(h:RefAt R P w)(hJ:Sat w (aI R++bc P))(hkr : -9223372036854775808<=keep/\keep<=9223372036854775807):
  Calls Tryz.prog 65 #[.pointer (some ⟨R.blk,0,none⟩),str p,.int .i64 keep] w (rU R P p keep w):=by
 have HN:=qqH (mM R P p w h);have hlenR:=h.len;have HH:=Hq2 h hJ;clear h hJ;go_enter Tryz.func65,Tryz.ntmps65;go_wp2_with fail;refine HN.out.mono ?_;intro e w1 hp;unfold eV at hp
 cases hr:cO R p 0 with
 | error k =>
  rw[hr]at hp;obtain⟨hs,rfl⟩:=hp;have hk0:=jI hr;have HR:=Hq2 hr hs;clear hr hs;go_wp2_with fail;refine bodyPost_ret (results_tmp2 rfl _ _ _) rfl (.inl ⟨k,HR.a,rfl,Turns.same HH.z HR.z⟩)
 | ok v0 =>
  rw[hr]at hp;obtain⟨nv,rfl,hio,hT⟩:=hp;obtain⟨ns,hns⟩:∃ns,ns=fM R.vs p:=⟨_,rfl⟩;rw[<- hns]at hio hT;have hnl:ns.length<=100000:=by rw[hns];have:=qu R.vs p;omega
  have hT1:Turns (aI R++bc P) ((aI R++bc P)++bZ nv ns) w w1:=((Turns.refl HH.z).Qb hT).to List.perm_append_comm;obtain⟨na,nc,hnv,-⟩:=aV (aW hT1.sat.right hio);obtain⟨m,hm⟩:∃m,m=lL ns.length keep:=⟨_,rfl⟩;have hml:m<=ns.length:=by rw[hm];unfold lL;split<;>omega
  obtain⟨-,hpath,-⟩:=fP hr;have HR:=Hq6 hr hns hT1 hio hm hpath;have hst:AO R P p ns m (.slice na ns.length nc) w (.int .i64 0) (.int .i64 0) undef w1:=⟨0,0,R.vs,R.vv,Nat.zero_le _,rfl,rfl,rfl,HH.a.ok.vs,fun v h=>h,Nat.le_refl _,Nat.le_refl _,by rw[<- hnv];exact hT1⟩;have HST:=qqH hst;subst hnv;clear hr hns hT hT1 hio hst hpath;go_wp2_with fail;go_loopw [10,11,12] (fun cv i f wr=>AO R P p ns m (.slice na ns.length nc) w cv i f wr) (fun _ i _ _=>m-(intOf i).toNat)
  case atStart=>exact HST.out
  case round =>
   obtain⟨j,c,vs',v',hj,rfl,rfl,hf,hv',hsub,hle,hcj,hT⟩:=hrel;have hA:RefAt (ip R v' vs') P wr:=⟨hT.sat.left.left,⟨hv',HH.a.ok.ts⟩,hT.sat.left.right,HH.a.pok,fun v hv=>HH.a.inp v (hsub v hv),by show vs'.length<=_;omega,fun v hv=>HH.a.clen v (hsub v hv)⟩;have HS:=Hq5 hf hv' hsub hT hA;clear hf hv' hsub hT hA;by_cases hlt:j<m
   ·have hjn:j<ns.length:=by omega
    obtain⟨a',c',e1,-,-,hcells,-⟩:=aV (aW HS.d.sat.right HR.d);simp only[Value.slice.injEq]at e1;obtain⟨rfl,-,-⟩:=e1;obtain⟨g,off,hg,hcell⟩:=hcells (by rw[List.length_map];omega);subst hg;obtain⟨n,hn⟩:∃n,n=ns[j]:=⟨_,rfl⟩;have hck:wr.cell? ⟨g,off+j,none⟩=some (.int .i64 n):=by rw[hcell j (by simpa using hjn)];simp[hn,dq]
    have hgl:=World.block_lt_of_cell? wr _ hck;have HD:=qqH (nU (ip R v' vs') P p n wr HS.w);have hfn:=BE (f:=fZ p) (b:=(R.vs,0)) hjn;rw[HS.a,<- hn]at hfn;have HFN:=qqH hfn;clear hcells hcell hn hfn
    have hgo:∀(W':World) (f:Int) (s':List RVer×Nat) (v2:Value),fZ p (vs',c) n=s'->(s'.2:Int)=(if f=0 then(c:Int)+1 else(c:Int))->kK v2 s'.1->(∀v∈s'.1,v∈R.vs)->s'.1.length<=R.vs.length->Turns (aI R++bc P) ((aI (ip R v2 s'.1)++bc P)++bZ (.slice (some ⟨g,off,none⟩) ns.length nc) ns) w W'->∀fv,AO R P p ns m (.slice (some ⟨g,off,none⟩) ns.length nc) w (.int .i64 (if f=0 then(c:Int)+1 else(c:Int))) (.int .i64 ((j:Int)+1)) fv W':=fun W' f s' v2 h1 h2 h3 h4 h5 h6 fv=>by
     refine⟨j+1,s'.2,s'.1,v2,by omega,by go_num,by rw[h2],by rw[HFN.out,h1],h3,h4,h5,?_,h6⟩;split at h2<;>omega
    have HGO:=qqH hgo;clear hgo;have hc1:(j:Int)<(ns.length:Int):=by omega
    by_cases hkn:keep<0
    ·go_wp2_with fail;refine HD.out.mono ?_;rintro e w2 (⟨k,hk,rfl,hT⟩|⟨v,hv,hpos,rfl,hT⟩|⟨k,v2,hk,hg2,hb,hh,rfl,hv2,hT⟩)
     ·have hk0:=jI hk
      have hnf:me vs' p n=none:=by
       have:=hk;unfold cO at this;rw[show(ip R v' vs').closed=false from(fP HR.a).1,if_neg (by simp),if_pos HR.v]at this
       cases hf:me vs' p n with
       | none=>rfl
       | some v=>rw[show nV (ip R v' vs') p n=some v from hf]at this;cases this
      have HX:=qqH (HGO.out w2 k (vs',c) v' (by unfold fZ;simp only[hnf]) (by rw[if_neg hk0]) HS.b HS.c hle ((HS.d.step (F:=aI (ip R v' vs')) (R:=bc P++bZ (.slice (some ⟨g,off,none⟩) ns.length nc) ns) af hT).to af));rw[if_neg hk0]at HX;clear hT hnf hk;go_wp2_with fail;go_roundw
      case rel=>exact HX.out _
      case measure=>simp[intOf];omega
     ·obtain⟨k,hb,hk,hvk⟩:=lM (fP hv).2.2;have hnf:me vs' p n=some v:=(fP hv).2.2;have HX:=qqH (HGO.out w2 5 (vs',c) v' (by unfold fZ;simp only[hnf];rw[if_neg (by omega)]) (by rw[if_neg (by omega)]) HS.b HS.c hle ((HS.d.step (F:=aI (ip R v' vs')) (R:=bc P++bZ (.slice (some ⟨g,off,none⟩) ns.length nc) ns) af hT).to af));rw[if_neg (by omega)]at HX;clear hT hnf hv hb hk hvk;go_wp2_with fail;go_roundw
      case rel=>exact HX.out _
      case measure=>simp[intOf];omega
     ·have hnf:me vs' p n=some (ip R v' vs').vs[k]:=(fP hg2).2.2;have hb2:bR vs' p n vs'.length=k:=hb;have HX:=qqH (HGO.out w2 0 (oq vs' k,c+1) v2 (by unfold fZ;simp only[hnf];rw[if_pos hh,hb2,Int.toNat_natCast]) (by rw[if_pos rfl];rfl) hv2 (fun v hv=>HS.c v (yQ v hv)) (Nat.le_trans yP hle) ((HS.d.step (F:=aI (ip R v' vs')) (R:=bc P++bZ (.slice (some ⟨g,off,none⟩) ns.length nc) ns) af hT).to (by unfold EU ip;exact af)));rw[if_pos rfl]at HX;clear hT hnf hb2 hb hg2 hh hv2;go_wp2_with fail;go_roundw
      case rel=>exact HX.out _
      case measure=>simp[intOf];omega
    ·have hc2:(j:Int)<(ns.length:Int)-keep:=by rw[show m=_ from HR.e]at hlt;unfold lL at hlt;rw[if_neg hkn]at hlt;omega
     go_wp2_with fail;refine HD.out.mono ?_;rintro e w2 (⟨k,hk,rfl,hT⟩|⟨v,hv,hpos,rfl,hT⟩|⟨k,v2,hk,hg2,hb,hh,rfl,hv2,hT⟩)
     ·have hk0:=jI hk
      have hnf:me vs' p n=none:=by
       have:=hk;unfold cO at this;rw[show(ip R v' vs').closed=false from(fP HR.a).1,if_neg (by simp),if_pos HR.v]at this
       cases hf:me vs' p n with
       | none=>rfl
       | some v=>rw[show nV (ip R v' vs') p n=some v from hf]at this;cases this
      have HX:=qqH (HGO.out w2 k (vs',c) v' (by unfold fZ;simp only[hnf]) (by rw[if_neg hk0]) HS.b HS.c hle ((HS.d.step (F:=aI (ip R v' vs')) (R:=bc P++bZ (.slice (some ⟨g,off,none⟩) ns.length nc) ns) af hT).to af));rw[if_neg hk0]at HX;clear hT hnf hk;go_wp2_with fail;go_roundw
      case rel=>exact HX.out _
      case measure=>simp[intOf];omega
     ·obtain⟨k,hb,hk,hvk⟩:=lM (fP hv).2.2;have hnf:me vs' p n=some v:=(fP hv).2.2;have HX:=qqH (HGO.out w2 5 (vs',c) v' (by unfold fZ;simp only[hnf];rw[if_neg (by omega)]) (by rw[if_neg (by omega)]) HS.b HS.c hle ((HS.d.step (F:=aI (ip R v' vs')) (R:=bc P++bZ (.slice (some ⟨g,off,none⟩) ns.length nc) ns) af hT).to af));rw[if_neg (by omega)]at HX;clear hT hnf hv hb hk hvk;go_wp2_with fail;go_roundw
      case rel=>exact HX.out _
      case measure=>simp[intOf];omega
     ·have hnf:me vs' p n=some (ip R v' vs').vs[k]:=(fP hg2).2.2;have hb2:bR vs' p n vs'.length=k:=hb;have HX:=qqH (HGO.out w2 0 (oq vs' k,c+1) v2 (by unfold fZ;simp only[hnf];rw[if_pos hh,hb2,Int.toNat_natCast]) (by rw[if_pos rfl];rfl) hv2 (fun v hv=>HS.c v (yQ v hv)) (Nat.le_trans yP hle) ((HS.d.step (F:=aI (ip R v' vs')) (R:=bc P++bZ (.slice (some ⟨g,off,none⟩) ns.length nc) ns) af hT).to (by unfold EU ip;exact af)));rw[if_pos rfl]at HX;clear hT hnf hb2 hb hg2 hh hv2;go_wp2_with fail;go_roundw
      case rel=>exact HX.out _
      case measure=>simp[intOf];omega
   ·obtain rfl:j=m:=by omega
    have hfin:rU R P p keep w (.returned (.tuple #[.int .i64 (c:Nat),.int .i64 0])) wr:=.inr ⟨v0,HR.a,vs',c,v',by rw[<- HR.b,<- HR.e];exact HS.a,rfl,HS.b,HS.d.left⟩;have HF:=qqH hfin;clear hfin;have hmv:j=lL ns.length keep:=HR.e;unfold lL at hmv;by_cases hc1:(j:Int)<(ns.length:Int)
    ·have hkn:¬keep<0:=fun h=>by rw[if_pos h]at hmv;omega
     have hc2:¬(j:Int)<(ns.length:Int)-keep:=by rw[if_neg hkn]at hmv;omega
     clear hmv;go_wp2_with fail;refine bodyPost_ret (results_tmp2 rfl _ _ _) rfl ?_;exact HF.out
    ·clear hmv;go_wp2_with fail;refine bodyPost_ret (results_tmp2 rfl _ _ _) rfl ?_;exact HF.out
def AG(S:AS)(p:Bs)(n:Int)(w:World)(e:Ending)(w':World):Prop :=
 (∃k,i5 S p n k/\e=.returned (cC k)/\Turns (arF S) (arF S) w w') \/
 (∃V,iB S p n V/\((0<V.held/\e=.returned (cC 5)/\Turns (arF S) (arF S) w w')\/(V.held<=0/\jP S p [(V.num:Int)] [] w e w')))
theorem GD(w:World)(x:Int):Turns [] (bZ (.slice (some ⟨w.heap.size,0,none⟩) 1 1) [x]) w (w.alloc (.cells #[.int .i64 x] 3))/\iOk (.slice (some ⟨w.heap.size,0,none⟩) 1 1) [x]:=by
 refine⟨?_,rfl,fun h=>by simp[Value.ownBlock]at h⟩;exact(Turns.refl (Sat.nil w)).Qd (φ:=fun o=>∃cap cur,(Value.slice (some ⟨w.heap.size,0,none⟩) 1 1)=.slice (some ⟨w.heap.size,0,none⟩) 1 cap/\o=.cells cur 3 (0,0)/\1<=cap/\cap<=maxLen/\cur.size=cap*1/\cur.toList.take (1*1)=[dq x]) ⟨1,#[.int .i64 x],rfl,rfl,by omega,by unfold maxLen;omega,rfl,rfl⟩
theorem jP.less{S:AS}{p:Bs}{ns:List Int}{J F:HF}{a w:World}{e:Ending}{w':World}(h0:Turns F (arF S++J) a w)(h:jP S p ns J w e w'):
  (128*S.A.count<S.data.length+(frame 3 (dI p ns)).length/\e=.returned (cC 8)/\Turns F (arF S++J) a w') \/
  (S.data.length+(frame 3 (dI p ns)).length<=128*S.A.count/\e=.returned .nilIface/\∃v' L',RecIs S L' (frame 3 (dI p ns))/\et v' (dK ns (ai S.ps p))/\Turns F (arF (jp S p ns v' L')++J) a w'):=by
 rcases h with⟨h1,h2,h3⟩|⟨h1,h2,v',L',h3,h4,h5⟩
 ·exact .inl ⟨h1,h2,h0.trans h3⟩
 ·exact .inr ⟨h1,h2,v',L',h3,h4,h0.trans h5⟩
theorem wA(S:AS)(l:Bs)(n:Int)(b:Nat)(w:World)(h:Sat w (arF S))(hok:ArOk S)(hB:ArB S b)(hb:b<=90000):
  Calls Tryz.prog 62 #[.pointer (some ⟨S.a,0,none⟩),str l,.int .i64 n] w (AG S l n w):=by
 have HF:=qqH (iJ S.a S.X S.ps S.pc l n w h.Q5 (h.tail.right.right.left) hok.paths);have HH:=Hq4 h hok hB hb;clear h hok hB hb;go_enter Tryz.func62,Tryz.ntmps62;go_wp2_with fail;refine HF.out.mono ?_;intro e w1 hp;obtain⟨hs,⟨k,hk,rfl⟩|⟨V,hV,rfl⟩⟩:=iK hp
 ·have HK:=Hq2 hk hs;clear hp hs hk;unfold cC;go_wp2_with fail;exact bodyPost_ret (results_tmp rfl _ _ _) rfl (.inl ⟨k,HK.a,rfl,(Turns.same HH.a HK.z)⟩)
 ·obtain⟨p,hpm,hpk,hVp⟩:=pX hV.2.2;have hT1:Turns (arF S) (arF S) w w1:=Turns.same HH.a hs;have hps:Sat w1 (er p.val p.g):=Sat.flat (f:=fun p:bl=>er p.val p.g) (hT1.sat.tail.right.right.left).tail hpm;have hvo:=(Sat.flat (f:=bT) hps.right hVp:Sat w1 (bT V)).Q5;have v0:w1.cell? ⟨V.blk,0,none⟩=some (.int .i64 V.num):=aa hvo 0 rfl;have v3:w1.cell? ⟨V.blk,3,none⟩=some (.int .i64 V.held):=aa hvo 3 rfl;have hvl:=ah hvo;have hnum:=(((HH.c.vers p hpm).2.2 V hVp).1);have hne:ai S.ps l≠[]:=fun e=>by have:=hV.2.2;rw[e]at this;cases this
  have HV:=Hq3 hV hT1 hne;have HB:=qqH HH.x;clear hp hs hV hT1 hps hvo hpm hpk hVp hne;unfold dz;by_cases c1:0<V.held
  ·go_wp2_with fail;refine bodyPost_ret (results_tmp rfl _ _ _) rfl (.inr ⟨V,HV.a,.inl ⟨c1,rfl,HV.b⟩⟩)
  ·have hrow:=GD w1 V.num;have hT2:Turns (arF S) (arF S++bZ (.slice (some ⟨w1.heap.size,0,none⟩) 1 1) [(V.num:Int)]) w (w1.alloc (.cells #[.int .i64 V.num] 3)):=(HV.b.Qb hrow.1).to List.perm_append_comm;have HR:=qqH (pN S HH.b b HH.c HH.x l (.slice (some ⟨w1.heap.size,0,none⟩) 1 1) [(V.num:Int)] _ hT2.sat hrow.2 (by have:=bM HV.a.2.1;omega) (fun x hx=>by rw[List.mem_singleton.1 hx];unfold I64;have:=HB.out;omega) (by simp) HV.y);have H2:=qqH hT2;clear hrow hT2;go_wp2_with fail;refine HR.out.mono ?_;intro e w2 hp;rcases hp.less H2.out with⟨h1,rfl,h3⟩|⟨h1,rfl,v',L',h3,h4,h5⟩
   ·have H3:=Hq2 h1 h3;clear hp h1 h3;unfold cC;go_wp2_with fail;refine bodyPost_ret (results_tmp rfl _ _ _) rfl (.inr ⟨V,HV.a,.inr ⟨by omega,.inl ⟨H3.a,rfl,?_⟩⟩⟩);rw[List.append_nil];exact H3.z.left
   ·have H3:=Hq4 h1 h3 h4 h5;clear hp h1 h3 h4 h5;go_wp2_with fail;refine bodyPost_ret (results_tmp rfl _ _ _) rfl (.inr ⟨V,HV.a,.inr ⟨by omega,.inr ⟨H3.a,rfl,v',L',H3.b,H3.c,?_⟩⟩⟩);rw[List.append_nil,List.append_nil];exact H3.x.left
def kp(V:VerL):Bool:=decide (V.held=0)
def cW(vs:List VerL)(keep:Int):List Int:=ez ((vs.take (vs.length-(min (max keep 0) (vs.length:Int)).toNat)).filter kp)
def DP(S:AS)(p:Bs)(keep:Int)(w:World)(e:Ending)(w':World):Prop :=
 (∃k,i5 S p 0 k/\e=.returned (.tuple #[.int .i64 0,cC k])/\Turns (arF S) (arF S) w w') \/
 (∃V,iB S p 0 V/\((128*S.A.count<S.data.length+(frame 3 (dI p (cW (ai S.ps p) keep))).length/\e=.returned (.tuple #[.int .i64 0,cC 8])/\Turns (arF S) (arF S) w w') \/
  (S.data.length+(frame 3 (dI p (cW (ai S.ps p) keep))).length<=128*S.A.count/\e=.returned (.tuple #[.int .i64 (cW (ai S.ps p) keep).length,.nilIface]) /\
   ∃v' L',RecIs S L' (frame 3 (dI p (cW (ai S.ps p) keep)))/\et v' (dK (cW (ai S.ps p) keep) (ai S.ps p))/\Turns (arF S) (arF (jp S p (cW (ai S.ps p) keep) v' L')) w w')))
def FK(S:AS)(vs:List VerL)(m:Nat)(w:World)(out i _v:Value)(W:World):Prop :=
 ∃(j:Nat) (J:HF),j<=m/\i=.int .i64 j/\iOk out (ez ((vs.take j).filter kp))/\Turns (arF S) (bZ out (ez ((vs.take j).filter kp))++(arF S++J)) w W
theorem yc(S:AS)(l:Bs)(keep:Int)(b:Nat)(w:World)(h:Sat w (arF S))(hok:ArOk S)(hB:ArB S b)(hb:b<=90000)(hvl5:(ai S.ps l).length<=15000):
  Calls Tryz.prog 64 #[.pointer (some ⟨S.a,0,none⟩),str l,.int .i64 keep] w (DP S l keep w):=by
 have HF:=qqH (iJ S.a S.X S.ps S.pc l 0 w h.Q5 (h.tail.right.right.left) hok.paths);have HH:=Hq5 h hok hB hb hvl5;clear h hok hB hb hvl5;go_enter Tryz.func64,Tryz.ntmps64;go_wp2_with fail;refine HF.out.mono ?_;intro e w1 hp;obtain⟨hs,⟨k,hk,rfl⟩|⟨V,hV,rfl⟩⟩:=iK hp
 ·have HK:=Hq2 hk hs;clear hp hs hk;unfold cC;go_wp2_with fail;exact bodyPost_ret (results_tmp2 rfl _ _ _) rfl (.inl ⟨k,HK.a,rfl,(Turns.same HH.a HK.z)⟩)
 ·have hT1:Turns (arF S) (arF S) w w1:=Turns.same HH.a hs;have ha1:=hT1.sat.Q5;have c0:w1.cell? ⟨S.a,0,none⟩=some (.map (some S.X.pm)):=aa ha1 0 rfl;have hpm:=hT1.sat.Q7 (b:=S.X.pm) (o:=aR str (S.ps.map aN) S.pc) (by simp[arF,aU]);have hal:=ah ha1;obtain⟨sl,cap,e1,e2,e3,e4,-,-⟩:=gM (hT1.sat.tail.right.right.left) HH.b.paths l;obtain⟨vs,hvs⟩:∃vs,vs=ai S.ps l:=⟨_,rfl⟩;rw[<- hvs]at e1 e2 e4;have hvl:vs.length<=15000:=by rw[hvs];exact HH.w
  have hOl:OkS l:=by have:=bM hV.2.1;unfold OkS;omega
  have hne:ai S.ps l≠[]:=fun e=>by have:=hV.2.2;rw[e]at this;cases this
  obtain⟨k0,hk0⟩:∃k0:Nat,min (max keep 0) (vs.length:Int)=k0:=⟨(min (max keep 0) (vs.length:Int)).toNat,by omega⟩;have hk0l:k0<=vs.length:=by omega
  obtain⟨m,hm⟩:∃m:Nat,(vs.length:Int)-(k0:Int)=(m:Int):=⟨vs.length-k0,by omega⟩;have hmv:m=vs.length-(min (max keep 0) (vs.length:Int)).toNat:=by omega
  have hml:m<=vs.length:=by omega
  have hmc:m<=cap:=by omega
  have HV:=Hq9 hV hT1 hpm e1 e4 hvs hOl hne hmv;clear hp hs hV hT1 ha1 hpm e1 e4 hvs hOl hne hmv;unfold dz;go_wp2_with ((refine fX eB rfl _ _ rfl Tryz.underlying119 HV.c HH.b.paths.map (gd _) l rfl rfl HV.g ?_;rw[de,HV.d]));clear hk0 hm;go_loopw [11,42,13] (fun out i v wr=>FK S vs m w out i v wr) (fun _ i _ _=>m-(intOf i).toNat)
  case atStart=>exact⟨0,[],Nat.zero_le _,rfl,lJ,by rw[List.append_nil];exact HV.b⟩
  case round =>
   obtain⟨j,J,hj,rfl,hio,hT⟩:=hrel;obtain⟨ns,hns⟩:∃ns,ns=ez ((vs.take j).filter kp):=⟨_,rfl⟩;rw[<- hns]at hio hT;have HR:=Hq3 hio hT hns;clear hio hT hns;by_cases hlt:j<m
   ·have hltv:j<vs.length:=by omega
    obtain⟨sl2,cap2,e1',-,-,e4',e5',-⟩:=gM (w:=wr) (HR.b.sat.sub (G:=aU S.X.pm S.ps S.pc) (fun x=>by simp only[arF,aB,an]<;>omega)) HH.b.paths l;rw[HV.d]at e1';simp only[Value.slice.injEq]at e1';obtain⟨rfl,-,rfl⟩:=e1';rw[<- HV.f]at e4' e5';obtain⟨g,off,hg,hcell⟩:=e4' (by rw[List.length_map];omega);subst hg;have hc1:=hcell j (by rw[List.length_map];exact hltv);rw[List.getElem_map]at hc1;obtain⟨U,hU⟩:∃U,U=vs[j]:=⟨_,rfl⟩;rw[<- hU]at hc1;unfold dz at hc1;have hub:=e5' U (by rw[hU];exact List.getElem_mem hltv);have hc2:wr.cell? ⟨U.blk,0,none⟩=some (.int .i64 U.num):=aa hub 0 rfl;have hc3:wr.cell? ⟨U.blk,3,none⟩=some (.int .i64 U.held):=aa hub 3 rfl
    have htk:ez ((vs.take (j+1)).filter kp)=ns++(if kp U then[(U.num:Int)]else[]):=by
     rw[List.take_succ_eq_append_getElem hltv,<- hU,List.filter_append,HR.y];unfold ez
     cases h:kp U<;>simp[h]
    have hlen:ns.length<=90000:=by rw[HR.y];unfold ez;rw[List.length_map];have:=List.length_filter_le kp (vs.take j);rw[List.length_take]at this;omega
    have HU:=Hq2 htk hlen;clear e4' e5' hcell hU hub htk hlen;by_cases c1:U.held=0
    ·have hfb:kp U=true:=by unfold kp;exact decide_eq_true c1
     have HC:=qqH hfb;clear hfb;go_wp2_with ((at_builtin;refine al rfl ?_;refine j8 (.tmp 51) (.tmp 56) rfl _ ns rfl (HR.b.alloc _) HR.a _ 1 1 rfl [(U.num:Int)] rfl (fun _=>⟨_,rfl,fun j u hu=>gQ _ _ _ j u hu⟩) (by have:=HU.z;simp;omega) ?_;intro av cv w5 hok5 hT5;have H5:=Hq2 hok5 hT5;clear hok5 hT5));go_roundw
     case rel =>
      refine⟨j+1,J,by omega,by go_num,?_,?_⟩
      ·rw[HU.a,if_pos HC.out];have:=H5.a;rw[List.length_append]at this;exact this
      ·rw[HU.a,if_pos HC.out];have:=H5.z;rw[List.length_append]at this;exact this
     case measure=>simp[intOf];omega
    ·have hfb:¬kp U=true:=by unfold kp;simp[c1]
     have HC:=qqH hfb;clear hfb;go_wp2_with fail;go_roundw
     case rel =>
      refine⟨j+1,J,by omega,by go_num,?_,?_⟩
      ·rw[HU.a,if_neg HC.out,List.append_nil];exact HR.a
      ·rw[HU.a,if_neg HC.out,List.append_nil];exact HR.b
     case measure=>simp[intOf];omega
   ·obtain rfl:j=m:=by omega
    obtain⟨oa,oc,ho,-⟩:=aV (aW HR.b.sat.left HR.a);have hpn:ns=cW vs keep:=by unfold cW;rw[HR.y,<- HV.out.2.2.2.2.2.2.2.2]
    have hT2:=HR.b.to (H:=(arF S++bZ (.slice oa ns.length oc) ns)++J) (by rw[ho];exact af);have hnl:ns.length<=15000:=by rw[HR.y];unfold ez;rw[List.length_map];have:=List.length_filter_le kp (vs.take j);rw[List.length_take]at this;omega
    have hI:∀n∈ns,I64 n:=fun n hn=>by
     rw[HR.y]at hn;obtain⟨U,hU,rfl⟩:=List.mem_map.1 hn;have hU2:=List.mem_of_mem_take (List.mem_filter.1 hU).1;rw[HV.f]at hU2;obtain⟨q,hq,-,hqg⟩:=jz HV.h;have:=((HH.c.vers q hq).2.2 U (hqg ▸ hU2)).1;have:=HH.d;unfold I64;omega
    have HRm:=qqH (pN S HH.b b HH.c HH.d l (.slice oa ns.length oc) ns _ hT2.sat.left (ho ▸ HR.a) (by have:=bM HV.a.2.1;omega) hI hnl HV.h);have H2:=Hq2 hT2 hpn;subst ho;clear hT2 hpn hI;go_wp2_with fail;refine HRm.out.mono ?_;intro e w2 hp;have hvs:=HV.f;have hpn2:ns=cW (ai S.ps l) keep:=by rw[<- hvs];exact H2.z
    rcases hp with⟨h1,rfl,h3⟩|⟨h1,rfl,v',L',h3,h4,h5⟩
    ·have H3:=Hq3 h1 (H2.a.step (List.Perm.refl _) h3) hpn2;clear h1 h3 hvs hpn2;unfold cC;go_wp2_with fail;refine bodyPost_ret (results_tmp2 rfl _ _ _) rfl (.inr ⟨V,HV.a,.inl ⟨by rw[<- H3.y];exact H3.a,rfl,H3.b.left.left⟩⟩)
    ·have H3:=Hq5 h1 (H2.a.step (List.Perm.refl _) h5) hpn2 h3 h4;clear h1 h3 h4 h5 hvs hpn2;go_wp2_with fail;refine bodyPost_ret (results_tmp2 rfl _ _ _) rfl (.inr ⟨V,HV.a,.inr ?_⟩);rw[<- H3.c];exact⟨H3.a,rfl,v',L',H3.d,H3.w,H3.b.left.left⟩
def inR(p:Bs)(ns:List Int)(v:RVer):Bool:=decide (v.path=p)&&ns.contains v.num
def fe(vs:List RVer)(p:Bs)(ns:List Int):List RVer:=vs.filter (fun v => !inR p ns v)
def pd(vs:List RVer):Prop:=vs.Pairwise (fun a b=>a.path=b.path->a.num<b.num)
theorem Jd{vs:List RVer}(h:∀p,((aL vs p).map (·.num)).Pairwise (·<·)):pd vs:=by
 unfold pd;rw[List.pairwise_iff_getElem];intro i j hi hj hij e;have h1:=h vs[j].path;rw[List.pairwise_map,aL,List.pairwise_filter]at h1;exact(List.pairwise_iff_getElem.1 h1) i j hi hj hij (by simp[e]) (by simp)
theorem pd.one{vs:List RVer}(h:pd vs){i j:Nat}(hi:i<vs.length)(hj:j<vs.length)(hp:vs[i].path=vs[j].path)(hn:vs[i].num=vs[j].num):i=j:=by
 have h1:=List.pairwise_iff_getElem.1 h;rcases Nat.lt_trichotomy i j with hl|hl|hl
 ·have:=h1 i j hi hj hl hp;omega
 ·exact hl
 ·have:=h1 j i hj hi hl hp.symm;omega
theorem pd.gone{vs:List RVer}(h:pd vs)(p:Bs)(ns:List Int):pd (fe vs p ns):=List.Pairwise.filter _ h
theorem BD{vs:List RVer}{k:Nat}(hk:k<vs.length){f:RVer->Bool}(hf:f vs[k]=false)(ho:∀i (hi:i<vs.length),i≠k->f vs[i]=true):vs.filter f=oq vs k:=by
 have e:vs=vs.take k++vs[k]::vs.drop (k+1):=by rw[<- List.drop_eq_getElem_cons hk,List.take_append_drop]
 have h1:(vs.take k).filter f=vs.take k:=List.filter_eq_self.2 fun v hv=>by
  obtain⟨i,hi,rfl⟩:=List.getElem_of_mem hv;rw[List.length_take]at hi;rw[List.getElem_take];exact ho i (by omega) (by omega)
 have h2:(vs.drop (k+1)).filter f=vs.drop (k+1):=List.filter_eq_self.2 fun v hv=>by
  obtain⟨i,hi,rfl⟩:=List.getElem_of_mem hv;rw[List.length_drop]at hi;rw[List.getElem_drop];exact ho _ (by omega) (by omega)
 calc vs.filter f=(vs.take k++vs[k]::vs.drop (k+1)).filter f:=by rw[<- e]
  _=oq vs k:=by rw[List.filter_append,List.filter_cons_of_neg (by simp[hf]),h1,h2];rfl
theorem yS{vs:List RVer}(h:pd vs){k:Nat}(hk:k<vs.length){p:Bs}{n:Int}(hp:vs[k].path=p)(hn:vs[k].num=n):oq vs k=fe vs p [n]:=by
 refine(BD hk (by simp[inR,hp,hn]) (fun i hi hne=>?_)).symm
 cases hb:inR p [n] vs[i]with
 | false=>rfl
 | true =>
  unfold inR at hb;simp only[Bool.and_eq_true,decide_eq_true_eq,List.contains_iff_mem,List.mem_singleton]at hb;exact absurd (h.one hi hk (by rw[hb.1,hp]) (by rw[hb.2,hn])) hne
theorem Et(vs:List RVer)(p:Bs)(ns ms:List Int):fe (fe vs p ns) p ms=fe vs p (ns++ms):=by
 unfold fe inR;rw[List.filter_filter];refine List.filter_congr fun v _=>?_
 simp only[List.contains_eq_mem,List.mem_append];by_cases h1:v.path=p<;>by_cases h2:v.num∈ns<;>by_cases h3:v.num∈ms<;>simp[h1,h2,h3]
theorem vI(vs:List RVer)(p:Bs)(ns:List Int)(q:Bs):aL (fe vs p ns) q=if q=p then(aL vs p).filter (fun v => !ns.contains v.num)else aL vs q:=by
 unfold aL fe inR;rw[List.filter_filter];by_cases h:q=p
 ·subst h;rw[if_pos rfl,List.filter_filter];refine List.filter_congr fun v _=>?_
  by_cases h1:v.path=q<;>simp[h1]
 ·rw[if_neg h];refine List.filter_congr fun v _=>?_
  by_cases h1:v.path=q
  ·simp[h1,h]
  ·simp[h1]
theorem Ev{ts:List RTag}{t:RTag}(h:t∈ts):1<=jl ts t.path t.num:=by
 unfold jl;have:0<ts.countP (fun x=>decide (x.path=t.path/\x.num=t.num)):=List.countP_pos_iff.2 ⟨t,h,by simp⟩;omega
def pV(ns:List Int)(l:List kD):Nat:=((l.filter (fun t=>ns.contains t.1)).map (·.2.1.length)).sum
theorem t6(vs:List RVer)(p:Bs)(ns:List Int):fB vs=fB (fe vs p ns)+pV ns ((aL vs p).map iG):=by
 have h1:(vs.map (·.cont.length)).sum=(((vs.filter (inR p ns))++(vs.filter (fun v => !inR p ns v))).map (·.cont.length)).sum:=((List.filter_append_perm (inR p ns) vs).symm.map _).sum_nat;rw[List.map_append,List.sum_append]at h1
 have h2:pV ns ((aL vs p).map iG)=((vs.filter (inR p ns)).map (·.cont.length)).sum:=by
  unfold pV aL;rw[List.filter_map,List.map_map,List.filter_filter];congr 2;refine List.filter_congr fun v _=>?_
  unfold inR;show(ns.contains v.num&&_)=_;rw[Bool.and_comm]
 unfold fB fe;omega
theorem xf{S:AS}(hok:ArOk S)(ns:List Int)(p:Bs):bP ns (ai S.ps p)=pV ns ((ai S.ps p).map (ed S)):=by
 unfold bP pV;rw[List.filter_map,List.map_map];congr 1;refine List.map_congr_left fun V hV=>?_
 have hV2:V∈ai S.ps p:=(List.mem_filter.1 hV).1;obtain⟨q,hq,-,hg⟩:=di (List.ne_nil_of_mem hV2);exact(kV hok hq (hg ▸ hV2)).symm
theorem Link.gone{S:AS}{R:RefL}(L:Link S R)(hok:ArOk S){p:Bs}{ns:List Int}{v' vv:Value}{L':DevL}(hg:∀v∈R.vs,v.path=p->v.num∈ns->v.held<=0):
  Link (jp S p ns v' L') { R with vv:=vv,vs:=fe R.vs p ns } where
 closed:=L.closed
 quota:=L.quota
 used:=by
  show S.X.used-(bP ns (ai S.ps p):Nat)=_
  have h1:=t6 R.vs p ns
  rw[L.used,xf hok,L.vers]
  simp only
  omega
 vers:=fun q=>by
  show(ai (ge S.ps S.pc p v' ns) q).map (ed S)=_
  simp only
  rw[ow,vI]
  by_cases h:q=p
  ·rw[if_pos h,if_pos h]
   have h1:=congrArg (List.filter (fun t:kD => !ns.contains t.1)) (L.vers p)
   rw[List.filter_map,List.filter_map]at h1
   exact h1
  ·rw[if_neg h,if_neg h];exact L.vers q
 sorted:=L.sorted.filter _
 asc:=fun q=>by
  have h1:=L.asc q
  simp only
  rw[vI]
  split
  ·rename_i h;subst h;exact h1.sublist (List.filter_sublist.map _)
  ·exact h1
 each:=fun v hv=>L.each v (List.mem_filter.1 hv).1
 tags:=L.tags
 tsort:=L.tsort
 teach:=fun t ht=>by
  obtain⟨h1,v,hv,h2,h3⟩:=L.teach t ht
  refine⟨h1,v,List.mem_filter.2 ⟨hv,?_⟩,h2,h3⟩
  cases hb:inR p ns v with
  | false=>rfl
  | true =>
   unfold inR at hb
   simp only[Bool.and_eq_true,decide_eq_true_eq,List.contains_iff_mem]at hb
   have h4:=hg v hv hb.1 hb.2
   have h5:1<=jl R.ts t.path t.num:=Ev ht
   rw[L.held v hv,h2,h3]at h4
   omega
 held:=fun v hv=>L.held v (List.mem_filter.1 hv).1
theorem Link.at{S:AS}{R:RefL}(L:Link S R){p:Bs}{n:Int}{V:VerL}(h:iB S p n V){k:Nat}(hk:k<R.vs.length)(hg:cO R p n=.ok R.vs[k]):R.vs[k].path=p/\R.vs[k].num=V.num/\R.vs[k].held=V.held:=by
 obtain⟨v,h1,h2,-,h3⟩:=L.found h;rw[hg]at h1;simp only[Except.ok.injEq]at h1;rw[h1];unfold iG ed at h2;simp only[Prod.mk.injEq]at h2;exact⟨h3,h2.1,h2.2.2⟩
theorem Link.uniq{S:AS}{R:RefL}(L:Link S R):pd R.vs:=Jd L.asc
theorem Link.delete{S:AS}{R:RefL}(L:Link S R)(hok:ArOk S){p:Bs}{n:Int}{V:VerL}(h:iB S p n V)(hV:V.held<=0){k:Nat}(hk:k<R.vs.length)(hg:cO R p n=.ok R.vs[k]){v' vv:Value}{L':DevL}:
  oq R.vs k=fe R.vs p [(V.num:Int)]/\Link (jp S p [(V.num:Int)] v' L') { R with vv:=vv,vs:=fe R.vs p [(V.num:Int)] }:=by
 obtain⟨h1,h2,h3⟩:=L.at h hk hg;refine⟨yS L.uniq hk h1 h2,L.gone hok (fun v hv hp hn=>?_)⟩;obtain⟨i,hi,rfl⟩:=List.getElem_of_mem hv;rw[List.mem_singleton]at hn;obtain rfl:=L.uniq.one hi hk (by rw[hp,h1]) (by rw[hn,h2]);rw[h3];exact hV
theorem vq{vs:List RVer}(h:pd vs)(h1:∀v∈vs,1<=v.num){k:Nat}(hk:k<vs.length):bR vs vs[k].path vs[k].num vs.length=k/\me vs vs[k].path vs[k].num=some vs[k]:=by
 have hf:vs.filter (jX vs[k].path vs[k].num)≠[]:=fun e=>by
  have:vs[k]∈vs.filter (jX vs[k].path vs[k].num):=List.mem_filter.2 ⟨List.getElem_mem hk,by simp[jX]⟩;rw[e]at this;cases this
 have h2:=mo vs vs[k].path vs[k].num _ (Nat.le_refl _);rw[List.take_length]at h2;have h3:me vs vs[k].path vs[k].num=(vs.filter (jX vs[k].path vs[k].num)).getLast?:=h2
 cases hg:(vs.filter (jX vs[k].path vs[k].num)).getLast? with
 | none=>exact absurd (List.getLast?_eq_none_iff.1 hg) hf
 | some v =>
  have hm:=List.mem_filter.1 (List.mem_of_getLast? hg)
  have hv:v.path=vs[k].path/\v.num=vs[k].num:=by
   have h5:=hm.2;unfold jX at h5;have h6:=h1 vs[k] (List.getElem_mem hk);simp only[Bool.and_eq_true,decide_eq_true_eq,Bool.or_eq_true]at h5;exact⟨h5.1,h5.2.resolve_right (by omega)⟩
  rw[hg]at h2;by_cases hb:0<=bR vs vs[k].path vs[k].num vs.length
  ·rw[if_pos hb]at h2;obtain⟨hj,e⟩:=List.getElem?_eq_some_iff.1 h2;have hjk:=h.one hj hk (by rw[e];exact hv.1) (by rw[e];exact hv.2);refine⟨by omega,?_⟩;rw[h3,hg,<- e];simp only[hjk]
  ·rw[if_neg hb]at h2;cases h2
theorem lw{vs:List RVer}(h:pd vs)(h1:∀v∈vs,1<=v.num){v:RVer}(hv:v∈vs):∃k:Nat,∃hk:k<vs.length,vs[k]=v/\bR vs v.path v.num vs.length=k/\me vs v.path v.num=some v:=by
 obtain⟨k,hk,rfl⟩:=List.getElem_of_mem hv;exact⟨k,hk,rfl,vq h h1 hk⟩
def mE(v:RVer):Bool:=decide (v.held<=0)
theorem tt{vs:List RVer}(h:pd vs)(h1:∀v∈vs,1<=v.num)(p:Bs):∀j,j<=(aL vs p).length ->
  (((aL vs p).take j).map (·.num)).foldl (fZ p) (vs,0)=(fe vs p ((((aL vs p).take j).filter mE).map (·.num)),(((aL vs p).take j).filter mE).length)
 | 0,_=>by
  simp only[List.take_zero,List.map_nil,List.foldl_nil,List.filter_nil,List.length_nil,Prod.mk.injEq,and_true]
  unfold fe inR
  exact(List.filter_eq_self.2 (fun v _=>by simp)).symm
 | j+1,hj=>by
  obtain⟨v,hv⟩:∃v,v=(aL vs p)[j]:=⟨_,rfl⟩
  have hvm:v∈vs/\v.path=p:=by
   have:=List.mem_filter.1 (hv ▸ List.getElem_mem hj:v∈aL vs p);exact⟨this.1,by simpa using this.2⟩
  rw[List.take_succ_eq_append_getElem (by omega),<- hv,List.map_append,List.foldl_append,tt h h1 p j (by omega),List.filter_append];simp only[List.map_cons,List.map_nil,List.foldl_cons,List.foldl_nil];obtain⟨ns,hns⟩:∃ns,ns=(((aL vs p).take j).filter mE).map (·.num):=⟨_,rfl⟩;rw[<- hns]
  have hnot:v.num∉ns:=fun hm=>by
   rw[hns]at hm;obtain⟨u,hu,e⟩:=List.mem_map.1 hm;have hu2:=(List.mem_filter.1 hu).1;obtain⟨i,hi,rfl⟩:=List.getElem_of_mem hu2;rw[List.length_take]at hi
   have hp2:(aL vs p).Pairwise (fun a b=>a.num<b.num):=by
    have:=List.Pairwise.filter (fun v=>decide (v.path=p)) h;refine this.imp_of_mem (fun {a b} ha hb hab=>hab ?_);have h3:=(List.mem_filter.1 ha).2;have h4:=(List.mem_filter.1 hb).2;simp only[decide_eq_true_eq]at h3 h4;rw[h3,h4]
   have:=List.pairwise_iff_getElem.1 hp2 i j (by omega) hj (by omega);rw[List.getElem_take]at e;rw[<- hv]at this;omega
  have hm:v∈fe vs p ns:=List.mem_filter.2 ⟨hvm.1,by simp[inR,hvm.2,hnot]⟩;obtain⟨k,hk,hk2,hb,hf⟩:=lw (h.gone p ns) (fun x hx=>h1 x (List.mem_filter.1 hx).1) hm;rw[hvm.2]at hb hf;have hc:=yS (p:=p) (n:=v.num) (h.gone p ns) hk (by rw[hk2];exact hvm.2) (by rw[hk2]);unfold fZ;simp only[hf,hb,Int.toNat_natCast];by_cases hh:v.held<=0
  ·rw[if_pos hh,hc,Et,List.filter_cons_of_pos (by simp[mE,hh])];simp[hns]
  ·rw[if_neg hh,List.filter_cons_of_neg (by simp[mE,hh])];simp[hns]
theorem Link.Qn{S:AS}{R:RefL}(L:Link S R)(p:Bs)(j:Nat):ez (((ai S.ps p).take j).filter kp)=(((aL R.vs p).take j).filter mE).map (·.num):=by
 have h0:∀v∈aL R.vs p,0<=v.held:=fun v hv=>by
  rw[L.held v (List.mem_filter.1 hv).1];unfold jl;omega
 have h1:=congrArg (List.take j) (L.vers p);rw[<- List.map_take,<- List.map_take]at h1;have h2:=congrArg (fun l:List kD=>(l.filter (fun t=>decide (t.2.2=0))).map (·.1)) h1;simp only[List.filter_map,List.map_map]at h2;unfold ez;refine h2.trans ?_;congr 1;refine List.filter_congr fun v hv=>?_
 have:=h0 v (List.mem_of_mem_take hv);unfold mE;show decide (v.held=0)=_;by_cases hv:v.held=0
 ·simp[hv]
 ·rw[decide_eq_false hv,decide_eq_false (by omega)]
theorem Link.prune{S:AS}{R:RefL}(L:Link S R)(_:ArOk S)(p:Bs)(keep:Int){vs':List RVer}{c:Nat}(hf:((fM R.vs p).take (lL (fM R.vs p).length keep)).foldl (fZ p) (R.vs,0)=(vs',c)):
  vs'=fe R.vs p (cW (ai S.ps p) keep)/\c=(cW (ai S.ps p) keep).length/\∀v∈R.vs,v.path=p->v.num∈cW (ai S.ps p) keep->v.held<=0:=by
 have hlen:(ai S.ps p).length=(aL R.vs p).length:=by have:=congrArg List.length (L.vers p);simpa using this
 have hnl:(fM R.vs p).length=(aL R.vs p).length:=by unfold fM;rw[List.length_map];rfl
 obtain⟨j,hj⟩:∃j,j=(ai S.ps p).length-(min (max keep 0) ((ai S.ps p).length:Int)).toNat:=⟨_,rfl⟩;have hjj:lL (fM R.vs p).length keep=j:=by unfold lL;rw[hnl,hj,hlen];split<;>omega
 have hjl:j<=(aL R.vs p).length:=by omega
 have hns:cW (ai S.ps p) keep=(((aL R.vs p).take j).filter mE).map (·.num):=by unfold cW;rw[<- hj];exact L.Qn p j
 have h3:=tt L.uniq (fun v hv=>(L.each v hv).1) p j hjl;rw[hjj]at hf;have h4:(fM R.vs p).take j=((aL R.vs p).take j).map (·.num):=by unfold fM;rw[List.map_take];rfl
 rw[h4,h3]at hf;simp only[Prod.mk.injEq]at hf;rw[hns];refine⟨hf.1.symm,by rw[<- hf.2,List.length_map],fun v hv hp hn=>?_⟩;obtain⟨u,hu,e⟩:=List.mem_map.1 hn;obtain⟨hu1,hu2⟩:=List.mem_filter.1 hu;have hu3:=List.mem_filter.1 (List.mem_of_mem_take hu1);obtain⟨i,hi,rfl⟩:=List.getElem_of_mem hv;obtain⟨i',hi',rfl⟩:=List.getElem_of_mem hu3.1;obtain rfl:=L.uniq.one hi' hi (by rw[hp];simpa using hu3.2) e;simpa[mE]using hu2
end
section
open Go.Shelf
def qZ:Go.Shelf.Ren:=⟨fun|7=>118|10=>149|n=>n,fun|23=>120|26=>9|3=>230|28=>241|0=>0|27=>240|33=>226|4=>4|n=>n,fun|n=>n⟩
theorem Dk:Go.Proofs.SlLaysZ.n7 Tryz.prog qZ:={
 mixed:=by kernel_rfl,
 f7:=⟨Tryz.f118.name,by decide,Tryz.func118.trans (congrArg some (by kernel_rfl))⟩,
 f10:=⟨Tryz.f149.name,by decide,Tryz.func149.trans (congrArg some (by kernel_rfl))⟩,
 t0:=Tryz.underlying0,
 a0:=Tryz.isAgg0,
 z0:=Tryz.sizeOf0,
 v0:=Tryz.zeroValue0,
 t4:=Tryz.underlying4,
 a4:=Tryz.isAgg4,
 z4:=Tryz.sizeOf4,
 v4:=Tryz.zeroValue4,
 t23:=Tryz.underlying120,
 a23:=Tryz.isAgg120,
 z23:=Tryz.sizeOf120,
 v23:=Tryz.zeroValue120,
 t26:=Tryz.underlying9,
 a26:=Tryz.isAgg9,
 z26:=Tryz.sizeOf9,
 v26:=Tryz.zeroValue9,
 t27:=Tryz.underlying240,
 a27:=Tryz.isAgg240,
 z27:=Tryz.sizeOf240,
 v27:=Tryz.zeroValue240,
 t28:=Tryz.underlying241,
 a28:=Tryz.isAgg241,
 z28:=Tryz.sizeOf241,
 v28:=Tryz.zeroValue241,
 t33:=Tryz.underlying226,
 a33:=Tryz.isAgg226,
 z33:=Tryz.sizeOf226,
 v33:=Tryz.zeroValue226 }
def nY:Go.Shelf.Ren:=⟨fun|6=>116|8=>146|9=>147|11=>162|13=>156|12=>163|23=>172|24=>173|14=>177|15=>178|16=>179|17=>180|18=>181|19=>182|20=>183|21=>184|22=>185|25=>191|26=>187|27=>188|28=>192|29=>193|30=>194|31=>196|n=>n,fun|26=>9|28=>241|24=>68|0=>0|3=>3|37=>37|48=>116|50=>82|4=>4|40=>309|39=>308|45=>284|5=>5|9=>9|51=>323|55=>327|57=>331|58=>133|33=>226|n=>n,fun|n=>n⟩
theorem Fa:Go.Proofs.SlLaysZ.n6 Tryz.prog nY:={
 mixed:=by kernel_rfl,
 f6:=⟨Tryz.f116.name,by decide,Tryz.func116.trans (congrArg some (by kernel_rfl))⟩,
 f8:=⟨Tryz.f146.name,by decide,Tryz.func146.trans (congrArg some (by kernel_rfl))⟩,
 f11:=⟨Tryz.f162.name,by decide,Tryz.func162.trans (congrArg some (by kernel_rfl))⟩,
 t0:=Tryz.underlying0,
 a0:=Tryz.isAgg0,
 z0:=Tryz.sizeOf0,
 v0:=Tryz.zeroValue0,
 t24:=Tryz.underlying68,
 a24:=Tryz.isAgg68,
 z24:=Tryz.sizeOf68,
 v24:=Tryz.zeroValue68,
 t26:=Tryz.underlying9,
 a26:=Tryz.isAgg9,
 z26:=Tryz.sizeOf9,
 v26:=Tryz.zeroValue9,
 t28:=Tryz.underlying241,
 a28:=Tryz.isAgg241,
 z28:=Tryz.sizeOf241,
 v28:=Tryz.zeroValue241,
 i26:=by kernel_rfl }
def Ah:Go.Shelf.Ren:=⟨fun|6=>147|8=>156|9=>163|19=>172|20=>173|21=>177|22=>178|23=>179|24=>180|25=>181|26=>182|27=>183|28=>184|29=>185|36=>191|31=>187|32=>188|37=>192|38=>193|39=>194|41=>196|n=>n,fun|27=>68|29=>9|3=>3|32=>37|26=>68|0=>0|44=>116|46=>82|4=>4|36=>309|35=>308|41=>284|5=>5|9=>9|53=>323|57=>327|63=>331|64=>133|n=>n,fun|n=>n⟩
theorem DB:Go.Proofs.SlLaysM.n6 Tryz.prog Ah:={
 mixed:=by kernel_rfl,
 f6:=⟨Tryz.f147.name,by decide,Tryz.func147.trans (congrArg some (by kernel_rfl))⟩,
 f8:=Tryz.func156.trans (congrArg some (by kernel_rfl)),
 f9:=⟨Tryz.f163.name,by decide,Tryz.func163.trans (congrArg some (by kernel_rfl))⟩,
 f19:=Tryz.func172.trans (congrArg some (by kernel_rfl)),
 f20:=Tryz.func173.trans (congrArg some (by kernel_rfl)),
 f21:=⟨Tryz.f177.name,by decide,Tryz.func177.trans (congrArg some (by kernel_rfl))⟩,
 f22:=⟨Tryz.f178.name,by decide,Tryz.func178.trans (congrArg some (by kernel_rfl))⟩,
 f23:=⟨Tryz.f179.name,by decide,Tryz.func179.trans (congrArg some (by kernel_rfl))⟩,
 f24:=⟨Tryz.f180.name,by decide,Tryz.func180.trans (congrArg some (by kernel_rfl))⟩,
 f25:=⟨Tryz.f181.name,by decide,Tryz.func181.trans (congrArg some (by kernel_rfl))⟩,
 f26:=⟨Tryz.f182.name,by decide,Tryz.func182.trans (congrArg some (by kernel_rfl))⟩,
 f27:=⟨Tryz.f183.name,by decide,Tryz.func183.trans (congrArg some (by kernel_rfl))⟩,
 f28:=⟨Tryz.f184.name,by decide,Tryz.func184.trans (congrArg some (by kernel_rfl))⟩,
 f29:=⟨Tryz.f185.name,by decide,Tryz.func185.trans (congrArg some (by kernel_rfl))⟩,
 f31:=Tryz.func187.trans (congrArg some (by kernel_rfl)),
 f32:=Tryz.func188.trans (congrArg some (by kernel_rfl)),
 f36:=⟨Tryz.f191.name,by decide,Tryz.func191.trans (congrArg some (by kernel_rfl))⟩,
 f37:=⟨Tryz.f192.name,by decide,Tryz.func192.trans (congrArg some (by kernel_rfl))⟩,
 f38:=⟨Tryz.f193.name,by decide,Tryz.func193.trans (congrArg some (by kernel_rfl))⟩,
 f39:=⟨Tryz.f194.name,by decide,Tryz.func194.trans (congrArg some (by kernel_rfl))⟩,
 f41:=⟨Tryz.f196.name,by decide,Tryz.func196.trans (congrArg some (by kernel_rfl))⟩,
 t0:=Tryz.underlying0,
 a0:=Tryz.isAgg0,
 z0:=Tryz.sizeOf0,
 v0:=Tryz.zeroValue0,
 t3:=Tryz.underlying3,
 a3:=Tryz.isAgg3,
 z3:=Tryz.sizeOf3,
 v3:=Tryz.zeroValue3,
 t4:=Tryz.underlying4,
 a4:=Tryz.isAgg4,
 z4:=Tryz.sizeOf4,
 v4:=Tryz.zeroValue4,
 t5:=Tryz.underlying5,
 a5:=Tryz.isAgg5,
 z5:=Tryz.sizeOf5,
 v5:=Tryz.zeroValue5,
 t9:=Tryz.underlying9,
 a9:=Tryz.isAgg9,
 z9:=Tryz.sizeOf9,
 v9:=Tryz.zeroValue9,
 t26:=Tryz.underlying68,
 a26:=Tryz.isAgg68,
 z26:=Tryz.sizeOf68,
 v26:=Tryz.zeroValue68,
 t27:=Tryz.underlying68,
 a27:=Tryz.isAgg68,
 z27:=Tryz.sizeOf68,
 v27:=Tryz.zeroValue68,
 t29:=Tryz.underlying9,
 a29:=Tryz.isAgg9,
 z29:=Tryz.sizeOf9,
 v29:=Tryz.zeroValue9,
 t32:=Tryz.underlying37,
 a32:=Tryz.isAgg37,
 z32:=Tryz.sizeOf37,
 v32:=Tryz.zeroValue37,
 t35:=Tryz.underlying308,
 a35:=Tryz.isAgg308,
 z35:=Tryz.sizeOf308,
 v35:=Tryz.zeroValue308,
 t36:=Tryz.underlying309,
 a36:=Tryz.isAgg309,
 z36:=Tryz.sizeOf309,
 v36:=Tryz.zeroValue309,
 t41:=Tryz.underlying284,
 a41:=Tryz.isAgg284,
 z41:=Tryz.sizeOf284,
 v41:=Tryz.zeroValue284,
 t44:=Tryz.underlying116,
 a44:=Tryz.isAgg116,
 z44:=Tryz.sizeOf116,
 v44:=Tryz.zeroValue116,
 t46:=Tryz.underlying82,
 a46:=Tryz.isAgg82,
 z46:=Tryz.sizeOf82,
 v46:=Tryz.zeroValue82,
 t53:=Tryz.underlying323,
 a53:=Tryz.isAgg323,
 z53:=Tryz.sizeOf323,
 v53:=Tryz.zeroValue323,
 t57:=Tryz.underlying327,
 a57:=Tryz.isAgg327,
 z57:=Tryz.sizeOf327,
 v57:=Tryz.zeroValue327,
 t63:=Tryz.underlying331,
 a63:=Tryz.isAgg331,
 z63:=Tryz.sizeOf331,
 v63:=Tryz.zeroValue331,
 t64:=Tryz.underlying133,
 a64:=Tryz.isAgg133,
 z64:=Tryz.sizeOf133,
 v64:=Tryz.zeroValue133 }
end
section
open Go.RowKit Go.Maps Go.Sort Go.Shelf
theorem GL(m:Nat):AnyZ.SortsIn Tryz.prog nY Fence.wide m :=
 ⟨fun blk off cap ss W hH hblk hsz=>callsIn_wide.2 (AnyM.slices_Sort_string DB blk off cap ss W hH hblk hsz),
  fun p cap W=>callsIn_wide.2 (AnyM.slices_Sort_string_none DB p cap W)⟩
theorem BW(mb:Option Nat)(W:World):CallsIn Fence.wide 5 Tryz.prog 118 #[.map mb] W fun e w'=>e=.returned (.func (.func 149) #[] #[.pointer (some ⟨W.heap.size,0,none⟩)])/\w'=W.alloc (.cells #[.map mb] 120) :=
 AnyZ.keys_in Dk Fence.wide 5 trivial rfl mb W
theorem uM{H:Type}(b nn:Nat)(D0:DataW H)(R:Value->Option (DataW H×List MemPlace))(w:World)(hown:w.ownsMap Tryz.prog 9 R b nn D0)(hmax:Maps.size D0<=maxLen)(hbytes:Maps.size D0*16<=140737488355328):
  CallsIn Fence.wide 5 Tryz.prog 116 #[.func (.func 149) #[] #[.pointer (some ⟨w.heap.size,0,none⟩)]] (w.alloc (.cells #[.map (some b)] 120)) fun e w'=>∃(v:Value) (ss:List (List UInt8)),e=.returned v/\ss.Perm (strKeys D0) /\
   w'.ownsRow (w.alloc (.cells #[.map (some b)] 120)).heap.size 9 1 v ss.length ((ss.mergeSort (fun x y=>decide (x<=y))).map encStr)/\(v=.slice none 0 0↔ss=[])/\Below (w.alloc (.cells #[.map (some b)] 120)).heap.size (w.alloc (.cells #[.map (some b)] 120)) w':=by
 have hbl:=hown.lt
 have hseq:SeqGives Fence.wide 2 Tryz.prog 149 #[.pointer (some ⟨w.heap.size,0,none⟩)] encStr (fun ss=>ss.Perm (strKeys D0)) (Maps.size D0) (w.alloc (.cells #[.map (some b)] 120)) :=
  AnyZ.keys_gives (ρ:=qZ) { Dk with } Fence.wide _ trivial rfl (by omega) w.heap.size b nn D0 _ (by simp) (by simp) (by
   obtain⟨es,clock,hb,Ft,hs,hD⟩:=hown;exact⟨es,clock,(Below.heap_alloc _ _ b hbl).trans hb,Ft,hs,hD⟩)
 exact AnyZ.sorted_in Fa Fence.wide 5 trivial trivial trivial trivial rfl (by omega) (GL _) (enters_of Tryz.func147 (by kernel_rfl) rfl) 149 #[.pointer (some ⟨w.heap.size,0,none⟩)] trivial (enters_of Tryz.func149 (by kernel_rfl) rfl) _ _ hmax hbytes _ hseq
def Il:Value->Option (DataW Unit×List MemPlace):=fun _=>some (.lit (.bool true),[])
theorem zr(x:Lit×DataW Unit):∀l:List (Lit×DataW Unit),(DataW.insert x l).Perm (x::l)
 | []=>List.Perm.refl _
 | y::r=>by
  unfold DataW.insert
  split
  ·exact List.Perm.refl _
  ·exact((zr x r).cons y).trans (List.Perm.swap x y r)
theorem vF:∀l:List (Lit×DataW Unit),(l.foldr DataW.insert []).Perm l
 | []=>List.Perm.refl _
 | x::r=>(zr x _).trans ((vF r).cons x)
theorem Kb(l:Bs)(h:OkS l):Go.keyOf Tryz.prog 9 (str l)=some (.string l):=by
 have h1:(ByteArray.mk l.toArray).size=l.length:=by simp[ByteArray.size]
 have h2:(ByteArray.mk l.toArray).size<=maxLen:=by rw[h1];unfold OkS at h;unfold maxLen;omega
 exact Go.WideMaps.keyOf_string_mk (k:=9) Tryz.underlying9 (s:=⟨l.toArray⟩) h2
theorem Cc{w:World}{b c:Nat}{l:List (Ent Bs)}(hb:w.heap[b]?=some (aR str l c))(hm:MapOk OkS l c)(hl:l.length<=1000000):∃D:DataW Unit,w.ownsMap Tryz.prog 9 Il b l.length D/\(strKeys D).Perm (l.map (·.key))/\Maps.size D=l.length:=by
 have hrd:∀e∈l,Go.WideElems.rd Tryz.prog 9 Il (dM str e)=some (.string e.key,.lit (.bool true)):=fun e he=>by
  unfold Go.WideElems.rd;rw[show(dM str e).key=str e.key from rfl,Kb e.key (hm.ok e he)];rfl
 have hrg:(l.map (dM str)).map (Go.WideElems.rg Tryz.prog 9 Il)=l.map (fun e=>(Lit.string e.key,DataW.lit (.bool true))):=by
  rw[List.map_map];refine List.map_congr_left fun e he=>?_
  simp only[Function.comp_apply,Go.WideElems.rg,hrd e he,Option.getD_some]
 have hp:=vF (l.map (fun e=>(Lit.string e.key,(DataW.lit (.bool true):DataW Unit))));refine⟨.map ((l.map (fun e=>(Lit.string e.key,DataW.lit (.bool true)))).foldr DataW.insert []),⟨(l.map (dM str)).toArray,c,hb,⟨?_,⟨?_,?_,?_⟩,?_⟩,by simp,?_⟩,?_,?_⟩
 ·simp[maxLen];omega
 ·intro x hx;obtain⟨e,he,rfl⟩:=List.mem_map.1 (by simpa using hx);exact hm.lt e he
 ·have:=hm.borns;simp only[List.map_map];exact this
 ·have:((l.map (·.key)).map str).Nodup:=by
   rw[List.nodup_iff_pairwise_ne,List.pairwise_map];exact(List.nodup_iff_pairwise_ne.1 hm.nodup).imp (fun h e=>h (DC _ _ e))
  rw[List.map_map]at this;simp only[List.map_map];exact this
 ·intro x hx;obtain⟨e,he,rfl⟩:=List.mem_map.1 (by simpa using hx);exact⟨_,hrd e he⟩
 ·simp only[];rw[hrg]
 ·unfold strKeys;refine(hp.map _).trans ?_;rw[List.map_map];exact List.Perm.refl _
 ·show(List.foldr DataW.insert [] _).length=_;rw[hp.length_eq,List.length_map]
def xu(t:Bs×Bs×Int):List Value:=[str t.1,str t.2.1,.int .i64 t.2.2]
def gy(l:List (Bs×Bs×Int)):List Value:=l.flatMap xu
def qx(v:Value)(l:List (Bs×Bs×Int)):HF:=bN 230 3 v l.length (gy l)
def vV(v:Value)(l:List (Bs×Bs×Int)):Prop:=dj 3 v l.length (gy l)
theorem pI(l m:List (Bs×Bs×Int)):gy (l++m)=gy l++gy m:=by simp[gy]
theorem lK(l:List (Bs×Bs×Int)):(gy l).length=l.length*3:=by
 induction l with
 | nil=>rfl
 | cons a r ih=>simp only[gy,List.flatMap_cons,List.length_append,List.length_cons]at ih ⊢;rw[ih];simp[xu];omega
theorem IL:(Tryz.prog.info? 230).map (fun i=>(i.zero,i.size,i.bytes))=some (some (.agg #[str [],str [],.int .i64 0]),3,40):=by kernel_rfl
theorem GR(l:List (Bs×Bs×Int)):∀u∈gy l,u.oneCell'=true:=fun u hu=>by
 obtain⟨v,hv,hx⟩:=List.mem_flatMap.1 hu
 simp only[xu,List.mem_cons,List.not_mem_nil,or_false]at hx
 rcases hx with rfl|rfl|rfl<;>rfl
theorem xR{o:Oper}{a:Act}{w a0:World}{K:Act->World->Prop}{Q:Exit->Act->World->Prop}{F G:HF}(s x:Operand)(hop:o.op=.call { callee:=.builtin .append,args:=#[s,x],argTypes:=#[187,187] })(v:Value)(l:List (Bs×Bs×Int))(hs:a.eval s=v)(hT:Turns F (qx v l++G) a0 w)(hok:vV v l)(sa:Option Addr)(m c:Nat)(hx:a.eval x=.slice sa m c)(r:List (Bs×Bs×Int))(hm:m=r.length)(hc:ak w sa (gy r))(hb:l.length+r.length<=1000000)(hk:∀v' w',vV v' (l++r)->Turns F (qx v' (l++r)++G) a0 w'->K (a.put o.dst v') w'):o.wp Tryz.prog a w K Q:=by
 obtain⟨i0,hi0,hz1,hz2,hz3⟩:=info_parts IL;refine cY s x 187 230 i0 (.agg #[str [],str [],.int .i64 0]) 3 40 hop Tryz.underlying187 hi0 hz1 hz2 hz3 rfl (by decide) v l.length (gy l) hs hT hok sa m c hx (gy r) (by rw[lK,hm]) (fun hp=>?_) (GR r) (by unfold maxLen;omega) (by omega) (fun v' w' k1 k2 _=>hk v' w' (by unfold vV;rw[List.length_append,pI,<- hm];exact k1) (by unfold qx;rw[List.length_append,pI,<- hm];exact k2));obtain⟨g,off,e,hcc⟩:=hc (by rw[lK];omega);refine⟨_,e,fun j u hu=>?_⟩;obtain⟨hj,rfl⟩:=List.getElem?_eq_some_iff.1 hu;rw[Addr.add_lit];exact hcc j hj
def kr(ts:List ib):List Bs:=(ts.map (·.key)).mergeSort (fun x y=>decide (x<=y))
def iU(ts:List ib)(ks:List Bs):List (Bs×Bs×Int):=ks.map (fun k=>(k,gOf ([],0) ts k))
def F4(S:AS)(w:World)(e:Ending)(w':World):Prop :=
 (S.X.closed=true/\e=.returned (.tuple #[.slice none 0 0,cC 9])/\Turns (arF S) (arF S) w w') \/
 (S.X.closed=false/\∃v,e=.returned (.tuple #[v,.nilIface])/\vV v (iU S.ts (kr S.ts))/\Turns (arF S) (qx v (iU S.ts (kr S.ts))++arF S) w w')
def Ii(S:AS)(ks:List Bs)(kv:Value)(w:World)(out i:Value)(W:World):Prop :=
 ∃j:Nat,j<=ks.length/\i=.int .i64 j/\vV out (iU S.ts (ks.take j))/\Turns (arF S) (qx out (iU S.ts (ks.take j))++(arF S++bN 9 1 kv ks.length (ks.map str))) w W
theorem E9{a b:List Bs}(h:a.Perm b):a.mergeSort (fun x y=>decide (x<=y))=b.mergeSort (fun x y=>decide (x<=y)):=by
 have ht:∀x y z:Bs,decide (x<=y)=true->decide (y<=z)=true->decide (x<=z)=true:=fun x y z h1 h2=>by
  simp only[decide_eq_true_eq]at h1 h2 ⊢;exact List.le_trans h1 h2
 have htot:∀x y:Bs,(decide (x<=y) || decide (y<=x))=true:=fun x y=>by
  simp only[Bool.or_eq_true,decide_eq_true_eq];exact List.le_total x y
 refine List.Perm.eq_of_pairwise (le:=fun x y=>decide (x<=y)=true) (fun x y _ _ h1 h2=>?_) (List.pairwise_mergeSort ht htot a) (List.pairwise_mergeSort ht htot b) (((List.mergeSort_perm a _).trans h).trans (List.mergeSort_perm b _).symm);simp only[decide_eq_true_eq]at h1 h2;exact List.le_antisymm h1 h2
theorem IV{S:AS}{w wa w':World}{B:Nat}{v:Value}{xs:List Value}(hT:Turns (arF S) (arF S) w wa)(hB:B=wa.heap.size)(ho:w'.ownsRow B 9 1 v xs.length xs)(hb:Below B wa w'):dj 1 v xs.length xs/\Turns (arF S) (bN 9 1 v xs.length xs++arF S) w w':=by
 subst hB;obtain⟨h1,h2⟩:=fT ho;refine⟨h2,hT.Qb ⟨(aX.of_below hb).mods _,h1,fun g hg=>.inr ?_⟩⟩;have hg:=(ga _ _ _ _ _ _).1 hg;rcases ho.2 with⟨rfl,-⟩|⟨g',cap,cur,rfl,hb',-⟩
 ·cases hg
 ·simp only[Value.ownBlock,Option.some.injEq]at hg;subst hg;exact hb'
theorem Ai{S:AS}{ss:List Bs}{D:DataW Unit}(h1:ss.Perm (strKeys D))(h2:(strKeys D).Perm ((S.ts.map aN).map (·.key))):(ss.mergeSort (fun x y=>decide (x<=y))).map encStr=(kr S.ts).map str/\ss.length=(kr S.ts).length:=by
 have h3:ss.Perm (S.ts.map (·.key)):=by rw[<- eL];exact h1.trans h2
 refine⟨?_,?_⟩
 ·unfold kr;rw[E9 h3];try rfl
 ·unfold kr;rw[List.length_mergeSort];exact h3.length_eq
theorem He{S:AS}(ht:TagsOk S.ts S.tc){k:Bs}(hk:k∈kr S.ts):(dW (S.ts.map aN) k).getD Jh=.agg #[str k,str (gOf ([],0) S.ts k).1,.int .i64 (gOf ([],0) S.ts k).2]/\OkS k:=by
 have hk2:k∈S.ts.map (·.key):=(List.mergeSort_perm _ _).mem_iff.1 hk;obtain⟨q,hq,hqk⟩:=List.mem_map.1 hk2;rw[de];unfold eE gOf
 cases hf:S.ts.find? (fun p=>decide (p.key=k))with
 | none=>exact absurd hqk (by simpa using List.find?_eq_none.1 hf q hq)
 | some p =>
  have h1:p.key=k:=by simpa using List.find?_some hf
  have h2:=List.mem_of_find?_eq_some hf;refine⟨by have:=ht.val p h2;simp only[];rw[this,h1];rfl,?_⟩;have:=ht.map.ok (aN p) (List.mem_map.2 ⟨p,h2,rfl⟩);rw[<- h1];exact this
theorem yK(w:World)(xs:List Value)(t:TypeId):ak (w.alloc (.cells xs.toArray t)) (some ⟨w.heap.size,0,none⟩) xs:=fun _ =>
 ⟨_,_,rfl,fun j hj=>by rw[Nat.zero_add];exact aa (aM w _) j (by simp)⟩
theorem AY(S:AS)(b:Nat)(w:World)(h:Sat w (arF S))(hok:ArOk S)(hB:ArB S b)(hb:b<=90000):
  Calls Tryz.prog 90 #[.pointer (some ⟨S.a,0,none⟩)] w (F4 S w):=by
 have ha:=h.Q5;have hal:=ah ha
 cases hc:S.X.closed with
 | true =>
  have a10:w.cell? ⟨S.a,10,none⟩=some (.bool true):=by rw[<- hc];exact aa ha 10 rfl
  have HC:=Hq2 hc h;clear h hok hB hb ha hc;go_enter Tryz.func90,Tryz.ntmps90;go_wp2_with fail;exact bodyPost_ret (results_tmp2 rfl _ _ _) rfl (.inl ⟨HC.a,rfl,Turns.refl HC.z⟩)
 | false =>
  have a10:w.cell? ⟨S.a,10,none⟩=some (.bool false):=by rw[<- hc];exact aa ha 10 rfl
  have a1:w.cell? ⟨S.a,1,none⟩=some (.map (some S.X.tm)):=aa ha 1 rfl;have htm:=h.Q7 (b:=S.X.tm) (o:=aR str (S.ts.map aN) S.tc) (by simp[arF,dm]);obtain⟨D,hD,hDp,hDs⟩:=Cc htm hok.tags.map (by rw[List.length_map];have:=hB.nt;omega);have hlen:(S.ts.map aN).length<=90000:=by rw[List.length_map];have:=hB.nt;omega
  have hKs:=uM S.X.tm _ D Il w hD (by rw[hDs];unfold maxLen;omega) (by rw[hDs];omega);have HK:=qqH (callsIn_wide.1 hKs);have HM:=qqH (callsIn_wide.1 (BW (some S.X.tm) w));have HH:=Hq7 h hok hB hb hc hDp hlen;clear h hok hB hb ha hc htm hD hDp hDs hlen hKs;go_enter Tryz.func90,Tryz.ntmps90;go_wp2_with fail;refine HM.out.mono ?_;rintro e w1 ⟨rfl,rfl⟩;go_wp2_with fail;refine HK.out.mono ?_;rintro e w2 ⟨v,ss,rfl,hss,hown,-,hbel⟩;obtain⟨hs1,hs2⟩:=Ai hss HH.f;rw[hs1,hs2]at hown;obtain⟨ks,hks⟩:∃ks,ks=kr S.ts:=⟨_,rfl⟩;rw[<- hks]at hown;obtain⟨hro,hT0⟩:=IV (S:=S) ((Turns.refl HH.a).alloc _) rfl (by rw[List.length_map];exact hown) hbel;rw[List.length_map]at hro hT0;obtain⟨sl,cap,rfl,-,hcap,-,-⟩:=bV hT0.sat.left hro (by decide)
  have hkl:ks.length<=90000:=by
   have:=HH.u;rw[hks];unfold kr;rw[List.length_mergeSort,List.length_map];rw[List.length_map]at this;exact this
  have hal2:=ah (hT0.sat.right.Q5);have HV:=Hq4 hT0 hro hks hkl;clear hss hown hbel hs1 hs2 hks hro hT0;go_wp2_with fail;go_loopw [4,20] (fun out i wr=>Ii S ks (.slice sl ks.length cap) w out i wr) (fun _ i _=>ks.length-(intOf i).toNat)
  case atStart=>exact⟨0,Nat.zero_le _,rfl,by unfold vV;exact⟨rfl,fun _=>⟨rfl,rfl⟩⟩,by exact HV.a.drop (fun x=>by show cnt x ([]++(arF S++_))<=_;simp only[an,gC];omega)⟩
  case round =>
   obtain⟨j,hj,rfl,hio,hT⟩:=hrel;have HR:=Hq2 hio hT;clear hio hT;by_cases hlt:j<ks.length
   ·obtain⟨sl2,cap2,e1',-,-,hcell,-⟩:=bV (w:=wr) (HR.z.sat.right.right) HV.b (by decide);simp only[Value.slice.injEq]at e1';obtain⟨rfl,-,rfl⟩:=e1';obtain⟨g,off,hg,hcc⟩:=hcell (by rw[List.length_map];omega);subst hg;have hc1:=hcc j (by rw[List.length_map];exact hlt);rw[List.getElem_map]at hc1;obtain⟨k,hk⟩:∃k,k=ks[j]:=⟨_,rfl⟩;rw[<- hk]at hc1;have hkm:k∈kr S.ts:=by rw[<- HV.c,hk];exact List.getElem_mem hlt
    obtain⟨hlk,hOk⟩:=He HH.b.tags hkm;have hA:=(HR.z.sat.right.left).Q5;have a1':wr.cell? ⟨S.a,1,none⟩=some (.map (some S.X.tm)):=aa hA 1 rfl;have htm:=HR.z.sat.Q7 (b:=S.X.tm) (o:=aR str (S.ts.map aN) S.tc) (by simp[arF,dm]);obtain⟨p1,n1,hpn⟩:∃p1 n1,gOf ([],0) S.ts k=(p1,n1):=⟨_,_,rfl⟩;rw[hpn]at hlk
    have htk:iU S.ts (ks.take (j+1))=iU S.ts (ks.take j)++[(k,p1,n1)]:=by
     unfold iU;rw[List.take_succ_eq_append_getElem hlt,<- hk,List.map_append];simp[hpn]
    have hlen:(iU S.ts (ks.take j)).length<=90000:=by have:=HV.x;simp[iU];omega
    have HU:=Hq5 htk hlen hlk hOk htm;obtain⟨ns,hns⟩:∃ns,ns=iU S.ts (ks.take j):=⟨_,rfl⟩;rw[<- hns]at HR HU;clear hcell hcc htk hlen hlk hOk htm hA hpn hk hkm hns;go_wp2_with ((first|(refine fX eB rfl _ _ rfl Tryz.underlying120 HU.w HH.b.tags.map (m8 _) k rfl rfl HU.d ?_;rw[HU.c])|(at_builtin;refine al rfl ?_;refine xR (.tmp 24) (.tmp 32) rfl _ ns rfl (HR.z.alloc _) HR.a _ 1 1 rfl [(k,p1,n1)] rfl (yK wr (gy [(k,p1,n1)]) _) (by have:=HU.b;show ns.length+1<=1000000;omega) ?_;intro av w5 hok5 hT5;have H5:=Hq2 hok5 hT5;clear hok5 hT5)));go_roundw
    case rel =>
     refine⟨j+1,by omega,by go_num,?_,?_⟩
     ·rw[HU.a];exact H5.a
     ·rw[HU.a];exact H5.z
    case measure=>simp[intOf];omega
   ·obtain rfl:j=ks.length:=by omega
    rw[List.take_length]at HR;go_wp2_with fail;refine bodyPost_ret (results_tmp2 rfl _ _ _) rfl (.inr ⟨HH.e,u4,rfl,?_,?_⟩)
    ·rw[<- HV.c];exact HR.a
    ·rw[<- HV.c];exact HR.z.drop (fun x=>by simp only[an];omega)
end
end Go.Proofs.YtdhobpbngkainaaGreatDoor
