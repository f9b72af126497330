/- Ours. A part of the proof, made small by a program. -/
import Derived.Test.YtdhobpbngkainaaGreatDoorGb08
set_option maxRecDepth 100000
set_option maxHeartbeats 16000000
namespace Go.Proofs.YtdhobpbngkainaaGreatDoor
open List Go.Proofs.Tryz
section
open Go.RowKit Go.Maps
def Jr(X:WS)(sp:List (Nat×Nat×Nat))(ov wv:Value):WS:={ X with U:={ X.U with out:=ov,want:=wv },S:=et X.S sp }
theorem PV.out{w0 W W':World}{X:WS}{k m:Nat}(h:PV w0 W X)(hp:GP X k m){sp:List (Nat×Nat×Nat)}{ov wv:Value}(hA:Ov { X.S.A with spare:=sp })(hT:Turns [] (gF (Jr X sp ov wv)) w0 W'):PV w0 W' (Jr X sp ov wv)/\GP (Jr X sp ov wv) (k+1) m :=
 ⟨{ h with turns:=hT },⟨(hp.gb.spare hA).mono Nb,by have:=hp.vs;show X.R.vs.length<=_;omega,by have:=hp.ts;show X.R.ts.length<=_;omega,fun v hv=>(by have:=hp.nums v hv;omega),hp.used,hp.ml,hp.mb⟩⟩
def GBy(X:WS)(W':World)(e:Ending)(w'':World):Prop :=
 ∃D v sp ev n,e=.returned (.tuple #[v,ev])/\oP ev n/\D.length<=1000000/\PE v D/\Ov { X.S.A with spare:=sp }/\Turns (N9 X.S) (aJ v D++N9 (et X.S sp)) W' w''
def GRy(X:WS)(u:World)(e:Ending)(u':World):Prop:=∃c cv f,e=.returned (.tuple #[cv,.int .i64 f])/\c.length<=1000000/\aV u u'/\tJ X.P cv c
theorem sJ(w0 W:World)(X:WS)(o:Pj)(k m:Nat)(h:PV w0 W X)(hp:GP X k m)(hb:k<=1000)(hE:bh w0)(hk:o.kind=2\/o.kind=3)(hours:(o.kind=2->∀W',Sat W' (N9 X.S)->Calls prog 27 #[.pointer (some ⟨X.S.a,0,none⟩),str o.s,.int .i64 o.a] W' (GBy X W'))/\(o.kind=3->∀W',Sat W' (N9 X.S)->Calls prog 103 #[.pointer (some ⟨X.S.a,0,none⟩),str o.s,.int .i64 o.a,.int .i64 o.b,.int .i64 o.c] W' (GBy X W')))(href:(o.kind=2->∀W',OD X.R X.P W'->Calls prog 102 #[.pointer (some ⟨X.R.blk,0,none⟩),str o.s,.int .i64 o.a] W' (GRy X W'))/\(o.kind=3->∀W',OD X.R X.P W'->Calls prog 104 #[.pointer (some ⟨X.R.blk,0,none⟩),str o.s,.int .i64 o.a,.int .i64 o.b,.int .i64 o.c] W' (GRy X W'))):
  Calls prog 57 #[.pointer (some ⟨X.U.blk,0,none⟩),PG o] W (gK w0 X (k+1) m):=by
 obtain⟨ok,oa,Ot,oc,os,ot,OA,od⟩:=o;dsimp only at hk hours href;obtain⟨ob,hob⟩:=Na W.heap.size;obtain⟨W1,hW1⟩:=Na (W.alloc (.cells #[.int .i64 ok,.int .i64 oa,.int .i64 Ot,.int .i64 oc,str os,str ot,OA] 65));obtain⟨Oc,U9⟩:=Na ((ob,Is (oO ⟨ok,oa,Ot,oc,os,ot,OA,od⟩)):Nat×(Obj->Prop));obtain⟨J,hJ⟩:=Na (Oc::(X.U.blk,Is (bw X.U))::(aC X.R++(ay X.P++bP X.U.most X.M)):HF)
 have hT1:Turns [] (N9 X.S++J) w0 W1:=by
  rw[hW1,hJ,U9,hob];have:=h.turns.Q9 (.cells #[.int .i64 ok,.int .i64 oa,.int .i64 Ot,.int .i64 oc,str os,str ot,OA] 65);unfold gF at this;exact this.to (H:=N9 X.S++((W.heap.size,Is (.cells #[.int .i64 ok,.int .i64 oa,.int .i64 Ot,.int .i64 oc,str os,str ot,OA] 65))::(X.U.blk,Is (bw X.U))::(aC X.R++(ay X.P++bP X.U.most X.M)))) ac
 have hcells:∀(W:World) (G:HF),Turns [] (G++J) w0 W ->
   W.cell? ⟨X.U.blk,1,none⟩=some (.pointer (some ⟨X.S.a,0,none⟩))/\W.cell? ⟨X.U.blk,2,none⟩=some (.pointer (some ⟨X.R.blk,0,none⟩))/\W.cell? ⟨ob,4,none⟩=some (str os)/\W.cell? ⟨ob,1,none⟩=some (.int .i64 oa)/\W.cell? ⟨ob,2,none⟩=some (.int .i64 Ot)/\W.cell? ⟨ob,3,none⟩=some (.int .i64 oc)/\OD X.R X.P W/\bh W:=by
  intro W G hT;rw[hJ,U9]at hT;have hu:W.heap[X.U.blk]?=some (bw X.U):=hT.sat.Q7 Nh;have ho:W.heap[ob]?=some (oO ⟨ok,oa,Ot,oc,os,ot,OA,od⟩):=hT.sat.Q7 Nh;refine⟨?_,?_,aa ho 4 rfl,aa ho 1 rfl,aa ho 2 rfl,aa ho 3 rfl,h.Qj hp hb (hT.sat.right.tail.tail.sub (G:=aC X.R++ay X.P) (fun x=>by simp only[af];omega)),hE.keep hT.mods (fun h=>by simp at h)⟩
  ·have:=aa hu 1 (v:=rB X.U.a) rfl;rw[h.a]at this;exact this
  ·have:=aa hu 2 (v:=.pointer (some ⟨X.U.r,0,none⟩)) rfl;rw[h.r]at this;exact this
 obtain⟨u1,-,o4,o1,o2,o3,-⟩:=hcells W1 _ hT1;have HH:=Oz h hours href;have HP:=Ob hp hb;have PL:=OW hcells hW1 hob hJ;have HT1:=NZ hT1;clear h hp hb hE hours href hT1 hcells hW1 hob hJ U9;unfold PG QI;rcases hk with rfl|rfl
 case' inl =>
  go_enter func57,ntmps57;go_upto_region 9 with(fail);rw[<- PL.b,<- PL.c];refine aF 8 HM.o Nc rfl ?_;simp only[QE,take_zero];repeat still_step
  refine wpStill_nil ?_;refine aO Nc (HH.b.1 rfl W1.drew HT1.o.drew.sat.left) ?_;rintro e W3 ⟨D,v,sp,ev,n,rfl,hev,hD,OB,hA,hG⟩;refine⟨_,rfl,?_⟩;simp only[Act.put,QA,QB,QC,QD,drop_zero];repeat still_step
  refine wpStill_nil ?_;have Oa:=HT1.o.drew.step (Perm.refl _) hG;obtain⟨-,u2,o4,o1,o2,o3,-⟩:=PL.a W3 _ Oa;have HT3:=PD Oa hev hD OB hA;clear hG Oa hev hD OB hA;go_upto_region 10 with(fail);refine aF 8 HM.o Nc rfl ?_;simp only[QE,take_zero];repeat still_step
  refine wpStill_nil ?_;refine aO Nc (HH.c rfl W3.drew (PL.a W3.drew _ HT3.a.drew).2.2.2.2.2.2.1) ?_;intro e W4 hr;obtain⟨c,cv,f,rfl,hcl,hs,hwa⟩:=hr;refine⟨_,rfl,?_⟩;simp only[Act.put,QA,QB,QC,QD,drop_zero];repeat still_step
  refine wpStill_nil ?_
 case' inr =>
  go_enter func57,ntmps57;go_upto_region 11 with(fail);rw[<- PL.b,<- PL.c];refine aF 12 HM.o Nc rfl ?_;simp only[QE,take_zero];repeat still_step
  refine wpStill_nil ?_;refine aO Nc (HH.b.2 rfl W1.drew HT1.o.drew.sat.left) ?_;rintro e W3 ⟨D,v,sp,ev,n,rfl,hev,hD,OB,hA,hG⟩;refine⟨_,rfl,?_⟩;simp only[Act.put,QA,QB,QC,QD,drop_zero];repeat still_step
  refine wpStill_nil ?_;have Oa:=HT1.o.drew.step (Perm.refl _) hG;obtain⟨-,u2,o4,o1,o2,o3,-⟩:=PL.a W3 _ Oa;have HT3:=PD Oa hev hD OB hA;clear hG Oa hev hD OB hA;go_upto_region 12 with(fail);refine aF 12 HM.o Nc rfl ?_;simp only[QE,take_zero];repeat still_step
  refine wpStill_nil ?_;refine aO Nc (HH.x rfl W3.drew (PL.a W3.drew _ HT3.a.drew).2.2.2.2.2.2.1) ?_;intro e W4 hr;obtain⟨c,cv,f,rfl,hcl,hs,hwa⟩:=hr;refine⟨_,rfl,?_⟩;simp only[Act.put,QA,QB,QC,QD,drop_zero];repeat still_step
  refine wpStill_nil ?_
 all_goals
  have Oj:=HT3.a.drew.Q8 hs;obtain⟨-,-,-,-,-,-,-,WW⟩:=PL.a W4 _ Oj;have PX:=NZ (bc ev n W4 WW (HT3.b.is W4));have HT4:=Oz Oj hwa hcl;clear hs hwa hcl Oj WW u2 o4 o1 o2 o3;go_wp2_with fail;refine PX.o.mono ?_;rintro e W5 ⟨rfl,hs5⟩;have Og:=HT4.a.Q8 hs5;obtain⟨va,vc,hbv,-,hvcap,UZ,-⟩:=aP (dh Og.sat.left.left HT3.d);rw[PL.x]at Og;obtain⟨P6,OG,hcv,hcc⟩:=HT4.b.at (Og.sat.right.tail.tail.right.left) HH.a.Ru;subst hbv;subst hcv;have hDl:=HT3.c;have hcl:=HT4.y;have XF:=NZ (vf va P6 vc OG D c W5 UZ hcc Nb Nb);have QX:=NZ Og;clear hs5 Og UZ hcc;go_wp2_with fail;refine XF.o.mono ?_;rintro e W6 ⟨rfl,hs6⟩;obtain⟨al,hal⟩:=Na (decide (D=c));rw[<- hal]
  have hnil:∃bn,∀W,(binOp .eql 38 (.slice va D.length vc) (.slice none 0 0)).run prog W=.ok (.bool bn) W:=by
   cases va with
   | none=>exact⟨true,fun W=>by rfl⟩
   | some a=>exact⟨false,fun W=>by rfl⟩
  obtain⟨bn,heq⟩:=hnil
  have Ox:Turns [] ((X.U.blk,Is (bw X.U))::(aJ (.slice va D.length vc) D++(N9 (et X.S sp)++(aC X.R++((ay X.P++bP X.U.most X.M)++[Oc]))))) w0 W6 :=
   (QX.o.Q8 hs6.same).to ac
  obtain⟨Z,hZ⟩:=Na (aJ (.slice va D.length vc) D++(N9 (et X.S sp)++(aC X.R++((ay X.P++bP X.U.most X.M)++[Oc]))));rw[<- hZ]at Ox;have RU:=Ob Ox hZ;clear Ox hs6 hZ hal;by_cases hpar:D.length%2=0
  ·have hev1:((D.length:Int).tmod 2==0)=true:=by rw[Int.tmod_eq_emod_of_nonneg Nb];simp;omega
   have hev2:((D.length:Int)%2==0)=true:=Nj
   go_wp2_with (first
    | (refine ai rfl (aX 38 (.tmp 100) (.tmp 98) rfl X.U.blk 3 (cA X.U) 63 (.slice va D.length vc) RU.a rfl rfl Nw Nc rfl rfl ?_);intro w15 S9;have XG:=NZ (show Turns [] ((X.U.blk,Is (bw { X.U with out:=.slice va D.length vc }))::Z) w0 w15 from S9);clear S9;simp only[Act.put])
    | (refine ai rfl (aX 38 (.tmp 104) (.tmp 102) rfl X.U.blk 4 (cA { X.U with out:=.slice va D.length vc }) 63 (.slice P6 c.length OG) XG.o rfl rfl Nw Nc rfl rfl ?_);intro w16 hT16;have XH:=NZ (show Turns [] ((X.U.blk,Is (bw { X.U with out:=.slice va D.length vc,want:=.slice P6 c.length OG }))::Z) w0 w16 from hT16);clear hT16;simp only[Act.put])
    | (refine ai rfl (aX 38 (.tmp 111) (.const (.slice none 0 0)) rfl X.U.blk 3 (cA { X.U with out:=.slice va D.length vc,want:=.slice P6 c.length OG }) 63 (.slice none 0 0) XH.o rfl rfl Nw Nc rfl rfl ?_);intro w18 Zt;have HT18:=NZ (show Turns [] ((X.U.blk,Is (bw { X.U with out:=.slice none 0 0,want:=.slice P6 c.length OG }))::Z) w0 w18 from Zt);clear Zt;simp only[Act.put])
    | (refine ai rfl (aX 38 (.tmp 114) (.const (.slice none 0 0)) rfl X.U.blk 4 (cA { X.U with out:=.slice none 0 0,want:=.slice P6 c.length OG }) 63 (.slice none 0 0) HT18.o rfl rfl Nw Nc rfl rfl ?_);intro w19 Zu;have HT19:=NZ (show Turns [] ((X.U.blk,Is (bw { X.U with out:=.slice none 0 0,want:=.slice none 0 0 }))::Z) w0 w19 from Zu);clear Zu;simp only[Act.put]))
   have h19:=HT19.o;rw[RU.z]at h19;obtain⟨B,hB,Yu⟩:=Kh (h19.to (H:=aJ (.slice va D.length vc) D++((X.U.blk,Is (bw { X.U with out:=.slice none 0 0,want:=.slice none 0 0 }))::(N9 (et X.S sp)++(aC X.R++((ay X.P++bP X.U.most X.M)++[Oc]))))) ac) HT3.d;obtain⟨Y,hY⟩:=Na ((X.U.blk,Is (bw { X.U with out:=.slice none 0 0,want:=.slice none 0 0 }))::(N9 (et X.S sp)++(aC X.R++((ay X.P++bP X.U.most X.M)++[Oc]))):HF);rw[<- hY]at hB Yu;have HB:=Oz hB Yu hY;clear h19 hB Yu hY;go_loopw [11] (fun i W'=>∃j:Nat,j<=D.length/\i=.int .i64 j/\Turns [] (B++Y) w0 W') (fun i _=>D.length-(intOf i).toNat)
   case atStart=>exact⟨0,Nat.zero_le _,rfl,HB.a⟩
   case round =>
    obtain⟨j,hj,rfl,Xb⟩:=hrel;by_cases hlt:j<D.length
    ·obtain⟨g,x,rfl,hx,hfz,hgl,hset⟩:=HB.b _ _ Xb hlt;have HS:=NZ hset;clear Xb hset;go_wp2_with fail;go_roundw
     case rel=>exact⟨j+1,Nb,by go_num,HS.o _⟩
     case measure=>simp[intOf];omega
    ·obtain rfl:j=D.length:=Nb
     have HF:=NZ (PV.out (k:=k) (m:=m) (ov:=.slice none 0 0) (wv:=.slice none 0 0) HH.a HP.a HT3.w (Xb.drop (fun x=>by
      rw[HB.y];unfold gF Jr;simp only[ao,af,cW]<;>omega)))
     clear Xb
     cases al with
     | false =>
      go_wp2_with (go_at_call 41;refine(bC _ _).mono ?_;rintro e w' ⟨rfl,rfl⟩)
      all_goals
       go_ret;exact⟨_,_,rfl,HF.a,HF.z,rfl⟩
     | true =>
      by_cases hnf:n=f
      ·subst hnf;by_cases hf0:n=0
       ·subst hf0;go_wp2_with (go_at_call 41;refine(bC _ _).mono ?_;rintro e w' ⟨rfl,rfl⟩)
        all_goals
         go_ret;exact⟨_,_,rfl,HF.a,HF.z,rfl⟩
       ·have hf1:(n==0)=false:=by simpa using hf0
        cases bn with
        | true =>
         go_wp2_with (go_at_call 41;refine(bC _ _).mono ?_;rintro e w' ⟨rfl,rfl⟩)
         all_goals
          go_ret;exact⟨_,_,rfl,HF.a,HF.z,rfl⟩
        | false =>
         go_wp2_with (go_at_call 41;refine(bC _ _).mono ?_;rintro e w' ⟨rfl,rfl⟩)
         all_goals
          go_ret;exact⟨_,_,rfl,HF.a,HF.z,rfl⟩
      ·have Yl:(n==f)=false:=by simpa using hnf
       go_wp2_with (go_at_call 41;refine(bC _ _).mono ?_;rintro e w' ⟨rfl,rfl⟩)
       all_goals
        go_ret;exact⟨_,_,rfl,HF.a,HF.z,rfl⟩
  ·have hev1:((D.length:Int).tmod 2==0)=false:=by rw[Int.tmod_eq_emod_of_nonneg Nb];simp;omega
   have hev2:((D.length:Int)%2==0)=false:=Nj
   go_upto_region 17 with(first
     | (refine ai rfl (aX 38 (.tmp 100) (.tmp 98) rfl X.U.blk 3 (cA X.U) 63 (.slice va D.length vc) RU.a rfl rfl Nw Nc rfl rfl ?_);intro w15 S9;have XG:=NZ (show Turns [] ((X.U.blk,Is (bw { X.U with out:=.slice va D.length vc }))::Z) w0 w15 from S9);clear S9;simp only[Act.put])
     | (refine ai rfl (aX 38 (.tmp 104) (.tmp 102) rfl X.U.blk 4 (cA { X.U with out:=.slice va D.length vc }) 63 (.slice P6 c.length OG) XG.o rfl rfl Nw Nc rfl rfl ?_);intro w16 hT16;have XH:=NZ (show Turns [] ((X.U.blk,Is (bw { X.U with out:=.slice va D.length vc,want:=.slice P6 c.length OG }))::Z) w0 w16 from hT16);clear hT16;simp only[Act.put]))
   have h16:=XH.o;rw[RU.z]at h16
   have HF:=NZ (PV.out (k:=k) (m:=m) (ov:=.slice va D.length vc) (wv:=.slice P6 c.length OG) HH.a HP.a HT3.w (h16.drop (fun x=>by
    unfold gF Jr;simp only[ao,af,cW]<;>omega)))
   clear h16
   cases al with
   | false =>
    go_wp2_with (go_at_call 41;refine(bC _ _).mono ?_;rintro e w' ⟨rfl,rfl⟩)
    all_goals
     go_ret;exact⟨_,_,rfl,HF.a,HF.z,rfl⟩
   | true =>
    by_cases hnf:n=f
    ·subst hnf;by_cases hf0:n=0
     ·subst hf0;go_wp2_with (go_at_call 41;refine(bC _ _).mono ?_;rintro e w' ⟨rfl,rfl⟩)
      all_goals
       go_ret;exact⟨_,_,rfl,HF.a,HF.z,rfl⟩
     ·have hf1:(n==0)=false:=by simpa using hf0
      cases bn with
      | true =>
       go_wp2_with (go_at_call 41;refine(bC _ _).mono ?_;rintro e w' ⟨rfl,rfl⟩)
       all_goals
        go_ret;exact⟨_,_,rfl,HF.a,HF.z,rfl⟩
      | false =>
       go_wp2_with (go_at_call 41;refine(bC _ _).mono ?_;rintro e w' ⟨rfl,rfl⟩)
       all_goals
        go_ret;exact⟨_,_,rfl,HF.a,HF.z,rfl⟩
    ·have Yl:(n==f)=false:=by simpa using hnf
     go_wp2_with (go_at_call 41;refine(bC _ _).mono ?_;rintro e w' ⟨rfl,rfl⟩)
     all_goals
      go_ret;exact⟨_,_,rfl,HF.a,HF.z,rfl⟩
theorem pp(w0 W:World)(X:WS)(o:Pj)(k m:Nat)(h:PV w0 W X)(hp:GP X k m)(hb:k<=1000)(hE:bh w0)(hk:o.kind=4)(hours:∀W',Sat W' (N9 X.S)->Calls prog 105 #[.pointer (some ⟨X.S.a,0,none⟩),str o.s] W' (fun e w''=>∃ns v ev n,e=.returned (.tuple #[v,ev])/\oP ev n/\ns.length<=100000/\RJ v ns/\Turns (N9 X.S) (ck v ns++N9 X.S) W' w''))(href:∀W',OD X.R X.P W'->Calls prog 106 #[.pointer (some ⟨X.R.blk,0,none⟩),str o.s] W' (fun e u'=>∃ms cv f,e=.returned (.tuple #[cv,.int .i64 f])/\ms.length<=100000/\RJ cv ms/\Turns [] (ck cv ms) W' u')):
  Calls prog 57 #[.pointer (some ⟨X.U.blk,0,none⟩),PG o] W (gK w0 X (k+1) m):=by
 obtain⟨ok,oa,Ot,oc,os,ot,OA,od⟩:=o;dsimp only at hk hours href;obtain⟨ob,hob⟩:=Na W.heap.size;obtain⟨W1,hW1⟩:=Na (W.alloc (.cells #[.int .i64 ok,.int .i64 oa,.int .i64 Ot,.int .i64 oc,str os,str ot,OA] 65));obtain⟨Oc,U9⟩:=Na ((ob,Is (oO ⟨ok,oa,Ot,oc,os,ot,OA,od⟩)):Nat×(Obj->Prop));obtain⟨J,hJ⟩:=Na (Oc::(X.U.blk,Is (bw X.U))::(aC X.R++(ay X.P++bP X.U.most X.M)):HF)
 have hT1:Turns [] (N9 X.S++J) w0 W1:=by
  rw[hW1,hJ,U9,hob];have:=h.turns.Q9 (.cells #[.int .i64 ok,.int .i64 oa,.int .i64 Ot,.int .i64 oc,str os,str ot,OA] 65);unfold gF at this;exact this.to (H:=N9 X.S++((W.heap.size,Is (.cells #[.int .i64 ok,.int .i64 oa,.int .i64 Ot,.int .i64 oc,str os,str ot,OA] 65))::(X.U.blk,Is (bw X.U))::(aC X.R++(ay X.P++bP X.U.most X.M)))) ac
 have hcells:∀(W:World) (G:HF),Turns [] (G++J) w0 W ->
   W.cell? ⟨X.U.blk,1,none⟩=some (.pointer (some ⟨X.S.a,0,none⟩))/\W.cell? ⟨X.U.blk,2,none⟩=some (.pointer (some ⟨X.R.blk,0,none⟩))/\W.cell? ⟨ob,4,none⟩=some (str os)/\W.cell? ⟨ob,1,none⟩=some (.int .i64 oa)/\W.cell? ⟨ob,2,none⟩=some (.int .i64 Ot)/\W.cell? ⟨ob,3,none⟩=some (.int .i64 oc)/\OD X.R X.P W/\bh W:=by
  intro W G hT;rw[hJ,U9]at hT;have hu:W.heap[X.U.blk]?=some (bw X.U):=hT.sat.Q7 Nh;have ho:W.heap[ob]?=some (oO ⟨ok,oa,Ot,oc,os,ot,OA,od⟩):=hT.sat.Q7 Nh;refine⟨?_,?_,aa ho 4 rfl,aa ho 1 rfl,aa ho 2 rfl,aa ho 3 rfl,h.Qj hp hb (hT.sat.right.tail.tail.sub (G:=aC X.R++ay X.P) (fun x=>by simp only[af];omega)),hE.keep hT.mods (fun h=>by simp at h)⟩
  ·have:=aa hu 1 (v:=rB X.U.a) rfl;rw[h.a]at this;exact this
  ·have:=aa hu 2 (v:=.pointer (some ⟨X.U.r,0,none⟩)) rfl;rw[h.r]at this;exact this
 obtain⟨u1,-,o4,o1,o2,o3,-⟩:=hcells W1 _ hT1;have HH:=Oz h hours href;have HP:=Ob hp hb;have PL:=OW hcells hW1 hob hJ;have HT1:=NZ hT1;clear h hp hb hE hours href hT1 hcells hW1 hob hJ U9;unfold PG QI;subst hk;go_enter func57,ntmps57;go_upto_region 26 with(fail);rw[<- PL.b,<- PL.c];refine aF 6 HM.o Nc rfl ?_;simp only[QE,take_zero];repeat still_step
 refine wpStill_nil ?_;refine aO Nc (HH.b W1.drew HT1.o.drew.sat.left) ?_;rintro e W3 ⟨ns,v,ev,n,rfl,hev,hnl,OB,hG⟩;refine⟨_,rfl,?_⟩;simp only[Act.put,QA,QB,QC,QD,drop_zero];repeat still_step
 refine wpStill_nil ?_;have Oa:Turns [] ((ck v ns++N9 X.S)++J) w0 W3:=HT1.o.drew.step (Perm.refl _) hG;obtain⟨-,u2,o4,o1,o2,o3,-⟩:=PL.a W3 _ Oa;have HT3:=OW Oa hev hnl OB;clear hG Oa hev hnl OB;go_upto_region 27 with(fail);refine aF 6 HM.o Nc rfl ?_;simp only[QE,take_zero];repeat still_step
 refine wpStill_nil ?_;refine aO Nc (HH.y W3.drew (PL.a W3.drew _ HT3.a.drew).2.2.2.2.2.2.1) ?_;intro e W4 hr;obtain⟨ms,cv,f,rfl,hml,hmo,Zj⟩:=hr;refine⟨_,rfl,?_⟩;simp only[Act.put,QA,QB,QC,QD,drop_zero];repeat still_step
 refine wpStill_nil ?_
 have Oj:Turns [] ((ck cv ms++(ck v ns++N9 X.S))++J) w0 W4:=by
  have:=HT3.a.drew.Qb Zj;rwa [<- NV]at this
 obtain⟨-,-,-,-,-,-,-,WW⟩:=PL.a W4 _ Oj;have PX:=NZ (bc ev n W4 WW (HT3.b.is W4));have HT4:=Oz Oj hmo hml;clear Zj hmo hml Oj WW u2 o4 o1 o2 o3;go_wp2_with fail;refine PX.o.mono ?_;rintro e W5 ⟨rfl,hs5⟩;have Og:=HT4.a.Q8 hs5;obtain⟨ca,cc,hcv,-,-,hcc,-⟩:=bb (Og.sat.left.left) HT4.b Nk;obtain⟨la,lc,hlv,-,-,hlc,-⟩:=bb (Og.sat.left.right.left) HT3.x Nk;have hnl:=HT3.c;have hml:=HT4.y;have XF:=NZ (qE la ca lc cc ns ms W5 hlc hcc Nb Nb)
 have hnil:∃bn,∀W,(binOp .eql 171 v (.slice none 0 0)).run prog W=.ok (.bool bn) W:=by
  subst hlv
  cases la with
  | none=>exact⟨true,fun W=>by rfl⟩
  | some a=>exact⟨false,fun W=>by rfl⟩
 obtain⟨bn,heq⟩:=hnil;have QX:=NZ Og;subst hcv;subst hlv;clear hs5 Og hcc hlc;go_wp2_with fail;refine XF.o.mono ?_;rintro e W6 ⟨rfl,hs6⟩;obtain⟨al,hal⟩:=Na (decide (ns=ms));rw[<- hal];have Ox:=QX.o.Q8 hs6.same
 have HF:=NZ (NK (HH.a.back (Ox.drop (fun x=>by
  rw[PL.x];unfold gF;simp only[ao,af]<;>omega))) (HP.a.mono (k':=k+1) (m':=m) Nb Nb))
 clear hs6 Ox hal
 cases al with
 | false =>
  go_wp2_with (go_at_call 41;refine(bC _ _).mono ?_;rintro e w' ⟨rfl,rfl⟩)
  all_goals
   go_ret;exact⟨_,_,rfl,HF.a,HF.z,rfl⟩
 | true =>
  by_cases hnf:n=f
  ·subst hnf;by_cases hf0:n=0
   ·subst hf0;go_wp2_with (go_at_call 41;refine(bC _ _).mono ?_;rintro e w' ⟨rfl,rfl⟩)
    all_goals
     go_ret;exact⟨_,_,rfl,HF.a,HF.z,rfl⟩
   ·have hf1:(n==0)=false:=by simpa using hf0
    cases bn with
    | true =>
     go_wp2_with (go_at_call 41;refine(bC _ _).mono ?_;rintro e w' ⟨rfl,rfl⟩)
     all_goals
      go_ret;exact⟨_,_,rfl,HF.a,HF.z,rfl⟩
    | false =>
     go_wp2_with (go_at_call 41;refine(bC _ _).mono ?_;rintro e w' ⟨rfl,rfl⟩)
     all_goals
      go_ret;exact⟨_,_,rfl,HF.a,HF.z,rfl⟩
  ·have Yl:(n==f)=false:=by simpa using hnf
   go_wp2_with (go_at_call 41;refine(bC _ _).mono ?_;rintro e w' ⟨rfl,rfl⟩)
   all_goals
    go_ret;exact⟨_,_,rfl,HF.a,HF.z,rfl⟩
theorem uq(w0 W:World)(X:WS)(o:Pj)(k m:Nat)(h:PV w0 W X)(hp:GP X k m)(hb:k<=1000)(hE:bh w0)(hk:o.kind=5)(hours:∀W',Sat W' (N9 X.S)->Calls prog 88 #[.pointer (some ⟨X.S.a,0,none⟩),str o.s] W' (fun e w''=>∃ns v ev n,e=.returned (.tuple #[v,ev])/\oP ev n/\ns.length<=100000/\qe v ns/\Turns (N9 X.S) (ek v ns++N9 X.S) W' w''))(href:∀W',OD X.R X.P W'->Calls prog 89 #[.pointer (some ⟨X.R.blk,0,none⟩),str o.s] W' (fun e u'=>∃ms cv f,e=.returned (.tuple #[cv,.int .i64 f])/\ms.length<=100000/\nW cv ms/\Turns [] (ew cv ms) W' u')):
  Calls prog 57 #[.pointer (some ⟨X.U.blk,0,none⟩),PG o] W (gK w0 X (k+1) m):=by
 obtain⟨ok,oa,Ot,oc,os,ot,OA,od⟩:=o;dsimp only at hk hours href;obtain⟨ob,hob⟩:=Na W.heap.size;obtain⟨W1,hW1⟩:=Na (W.alloc (.cells #[.int .i64 ok,.int .i64 oa,.int .i64 Ot,.int .i64 oc,str os,str ot,OA] 65));obtain⟨Oc,U9⟩:=Na ((ob,Is (oO ⟨ok,oa,Ot,oc,os,ot,OA,od⟩)):Nat×(Obj->Prop));obtain⟨J,hJ⟩:=Na (Oc::(X.U.blk,Is (bw X.U))::(aC X.R++(ay X.P++bP X.U.most X.M)):HF)
 have hT1:Turns [] (N9 X.S++J) w0 W1:=by
  rw[hW1,hJ,U9,hob];have:=h.turns.Q9 (.cells #[.int .i64 ok,.int .i64 oa,.int .i64 Ot,.int .i64 oc,str os,str ot,OA] 65);unfold gF at this;exact this.to (H:=N9 X.S++((W.heap.size,Is (.cells #[.int .i64 ok,.int .i64 oa,.int .i64 Ot,.int .i64 oc,str os,str ot,OA] 65))::(X.U.blk,Is (bw X.U))::(aC X.R++(ay X.P++bP X.U.most X.M)))) ac
 have hcells:∀(W:World) (G:HF),Turns [] (G++J) w0 W ->
   W.cell? ⟨X.U.blk,1,none⟩=some (.pointer (some ⟨X.S.a,0,none⟩))/\W.cell? ⟨X.U.blk,2,none⟩=some (.pointer (some ⟨X.R.blk,0,none⟩))/\W.cell? ⟨ob,4,none⟩=some (str os)/\W.cell? ⟨ob,1,none⟩=some (.int .i64 oa)/\W.cell? ⟨ob,2,none⟩=some (.int .i64 Ot)/\W.cell? ⟨ob,3,none⟩=some (.int .i64 oc)/\OD X.R X.P W/\bh W:=by
  intro W G hT;rw[hJ,U9]at hT;have hu:W.heap[X.U.blk]?=some (bw X.U):=hT.sat.Q7 Nh;have ho:W.heap[ob]?=some (oO ⟨ok,oa,Ot,oc,os,ot,OA,od⟩):=hT.sat.Q7 Nh;refine⟨?_,?_,aa ho 4 rfl,aa ho 1 rfl,aa ho 2 rfl,aa ho 3 rfl,h.Qj hp hb (hT.sat.right.tail.tail.sub (G:=aC X.R++ay X.P) (fun x=>by simp only[af];omega)),hE.keep hT.mods (fun h=>by simp at h)⟩
  ·have:=aa hu 1 (v:=rB X.U.a) rfl;rw[h.a]at this;exact this
  ·have:=aa hu 2 (v:=.pointer (some ⟨X.U.r,0,none⟩)) rfl;rw[h.r]at this;exact this
 obtain⟨u1,-,o4,o1,o2,o3,-⟩:=hcells W1 _ hT1;have HH:=Oz h hours href;have HP:=Ob hp hb;have PL:=OW hcells hW1 hob hJ;have HT1:=NZ hT1;clear h hp hb hE hours href hT1 hcells hW1 hob hJ U9;unfold PG QI;subst hk;go_enter func57,ntmps57;go_upto_region 32 with(fail);rw[<- PL.b,<- PL.c];refine aF 6 HM.o Nc rfl ?_;simp only[QE,take_zero];repeat still_step
 refine wpStill_nil ?_;refine aO Nc (HH.b W1.drew HT1.o.drew.sat.left) ?_;rintro e W3 ⟨ns,v,ev,n,rfl,hev,hnl,OB,hG⟩;refine⟨_,rfl,?_⟩;simp only[Act.put,QA,QB,QC,QD,drop_zero];repeat still_step
 refine wpStill_nil ?_;have Oa:Turns [] ((ek v ns++N9 X.S)++J) w0 W3:=HT1.o.drew.step (Perm.refl _) hG;obtain⟨-,u2,o4,o1,o2,o3,-⟩:=PL.a W3 _ Oa;have HT3:=OW Oa hev hnl OB;clear hG Oa hev hnl OB;go_upto_region 33 with(fail);refine aF 6 HM.o Nc rfl ?_;simp only[QE,take_zero];repeat still_step
 refine wpStill_nil ?_;refine aO Nc (HH.y W3.drew (PL.a W3.drew _ HT3.a.drew).2.2.2.2.2.2.1) ?_;intro e W4 hr;obtain⟨ms,cv,f,rfl,hml,hmo,Zj⟩:=hr;refine⟨_,rfl,?_⟩;simp only[Act.put,QA,QB,QC,QD,drop_zero];repeat still_step
 refine wpStill_nil ?_
 have Oj:Turns [] ((ew cv ms++(ek v ns++N9 X.S))++J) w0 W4:=by
  have:=HT3.a.drew.Qb Zj;rwa [<- NV]at this
 obtain⟨-,-,-,-,-,-,-,WW⟩:=PL.a W4 _ Oj;have PX:=NZ (bc ev n W4 WW (HT3.b.is W4));have HT4:=Oz Oj hmo hml;clear Zj hmo hml Oj WW u2 o4 o1 o2 o3;go_wp2_with fail;refine PX.o.mono ?_;rintro e W5 ⟨rfl,hs5⟩;have Og:=HT4.a.Q8 hs5;obtain⟨ca,cc,hcv,-,-,hcc,-⟩:=bb (Og.sat.left.left) HT4.b Nk;obtain⟨la,lc,hlv,-,-,hlc,-⟩:=bb (Og.sat.left.right.left) HT3.x Nk;have hnl:=HT3.c;have hml:=HT4.y;have XF:=NZ (kQ ns ms la ca lc cc W5 hlc hcc Nb Nb)
 have hnil:∃bn,∀W,(binOp .eql 181 v (.slice none 0 0)).run prog W=.ok (.bool bn) W:=by
  subst hlv
  cases la with
  | none=>exact⟨true,fun W=>by rfl⟩
  | some a=>exact⟨false,fun W=>by rfl⟩
 obtain⟨bn,heq⟩:=hnil;have QX:=NZ Og;subst hcv;subst hlv;clear hs5 Og hcc hlc;go_wp2_with fail;refine XF.o.mono ?_;rintro e W6 ⟨al,rfl,hal,hs6⟩;have Ox:=QX.o.Q8 hs6
 have HF:=NZ (NK (HH.a.back (Ox.drop (fun x=>by
  rw[PL.x];unfold gF;simp only[ao,af]<;>omega))) (HP.a.mono (k':=k+1) (m':=m) Nb Nb))
 clear hs6 Ox hal
 cases al with
 | false =>
  go_wp2_with (go_at_call 41;refine(bC _ _).mono ?_;rintro e w' ⟨rfl,rfl⟩)
  all_goals
   go_ret;exact⟨_,_,rfl,HF.a,HF.z,rfl⟩
 | true =>
  by_cases hnf:n=f
  ·subst hnf;by_cases hf0:n=0
   ·subst hf0;go_wp2_with (go_at_call 41;refine(bC _ _).mono ?_;rintro e w' ⟨rfl,rfl⟩)
    all_goals
     go_ret;exact⟨_,_,rfl,HF.a,HF.z,rfl⟩
   ·have hf1:(n==0)=false:=by simpa using hf0
    cases bn with
    | true =>
     go_wp2_with (go_at_call 41;refine(bC _ _).mono ?_;rintro e w' ⟨rfl,rfl⟩)
     all_goals
      go_ret;exact⟨_,_,rfl,HF.a,HF.z,rfl⟩
    | false =>
     go_wp2_with (go_at_call 41;refine(bC _ _).mono ?_;rintro e w' ⟨rfl,rfl⟩)
     all_goals
      go_ret;exact⟨_,_,rfl,HF.a,HF.z,rfl⟩
  ·have Yl:(n==f)=false:=by simpa using hnf
   go_wp2_with (go_at_call 41;refine(bC _ _).mono ?_;rintro e w' ⟨rfl,rfl⟩)
   all_goals
    go_ret;exact⟨_,_,rfl,HF.a,HF.z,rfl⟩
theorem sK(w0 W:World)(X:WS)(o:Pj)(k m:Nat)(h:PV w0 W X)(hp:GP X k m)(hb:k<=1000)(hE:bh w0)(hk:o.kind=13):
  Calls prog 57 #[.pointer (some ⟨X.U.blk,0,none⟩),PG o] W (gK w0 X (k+1) m):=by
 obtain⟨ok,oa,Ot,oc,os,ot,OA,od⟩:=o;simp only at hk;subst hk;have htl:X.R.ts.length<=100000:=by have:=hp.ts;omega
 have HH:=PD h hp hb hE htl;clear h hp hb hE;unfold PG QI;go_enter func57,ntmps57;go_upto_region 37 with(fail);have hT1:=HH.a.turns.alloc (.cells #[.int .i64 13,.int .i64 oa,.int .i64 Ot,.int .i64 oc,str os,str ot,OA] 65);generalize W.alloc (.cells #[.int .i64 13,.int .i64 oa,.int .i64 Ot,.int .i64 oc,str os,str ot,OA] 65)=W1 at hT1 ⊢
 have hcells:∀(W:World) (G:HF),Turns [] (G++((X.U.blk,Is (bw X.U))::(aC X.R++(ay X.P++bP X.U.most X.M)))) w0 W ->
   W.cell? ⟨X.U.blk,1,none⟩=some (.pointer (some ⟨X.S.a,0,none⟩))/\W.cell? ⟨X.U.blk,2,none⟩=some (.pointer (some ⟨X.R.blk,0,none⟩))/\W.cell? ⟨X.R.blk,3,none⟩=some (.bool X.R.closed)/\W.cell? ⟨X.R.blk,1,none⟩=some X.R.tv:=by
  intro W G hT;have hu:W.heap[X.U.blk]?=some (bw X.U):=hT.sat.Q7 Nh;have hr:W.heap[X.R.blk]?=some (fL X.R):=hT.sat.Q7 (by unfold aC;simp);refine⟨?_,?_,aa hr 3 rfl,aa hr 1 rfl⟩
  ·have:=aa hu 1 (v:=rB X.U.a) rfl;rw[HH.a.a]at this;exact this
  ·have:=aa hu 2 (v:=.pointer (some ⟨X.U.r,0,none⟩)) rfl;rw[HH.a.r]at this;exact this
 have hT2:Turns [] (N9 X.S++((X.U.blk,Is (bw X.U))::(aC X.R++(ay X.P++bP X.U.most X.M)))) w0 W1:=by
  unfold gF at hT1;exact hT1.to ac
 have PL:=NZ hcells;obtain⟨u1,-,-,-⟩:=hcells W1 _ hT2;have HT2:=NZ hT2;clear hT1 hcells hT2;go_wp2_with fail;refine(tG X.S 70000 W1 HT2.o.sat.left HH.b.gb.ok (HH.b.gb.b HH.c) Nb).mono ?_;intro e W3 hp;rcases hp with⟨hcl,rfl,hG⟩|⟨hcl,v,rfl,hpo,hG⟩
 ·have Oa:=HT2.o.step (Perm.refl _) hG;have Zi:bh W3:=HH.d.keep Oa.mods (fun h=>by simp at h);have HT3:=Oz Oa Zi hcl;clear hG Oa Zi hcl u1;unfold cr;go_wp2_with fail;refine(bc (cr 9) 9 W3 HT3.b (.inr (.inl rfl))).mono ?_;rintro e W5 ⟨rfl,hs5⟩;have Og:=HT3.a.Q8 hs5;obtain⟨-,u2,r3,-⟩:=PL.o W5 _ Og;rw[HH.a.lc,HT3.y]at r3;have QX:=NZ Og;clear Og hs5;have heq:∀W,(binOp .eql 187 (.slice none 0 0) (.slice none 0 0)).run prog W=.ok (.bool true) W:=fun W=>by kernel_rfl
  go_wp2_with fail;go_ret;exact⟨_,X,rfl,HH.a.back (QX.o.drop (fun x=>by unfold gF;simp only[ao,af]<;>omega)),HH.b.mono Nb Nb,rfl⟩
 ·have Oa:Turns [] ((py v (dg X.S.ts (e8 X.S.ts))++N9 X.S)++((X.U.blk,Is (bw X.U))::(aC X.R++(ay X.P++bP X.U.most X.M)))) w0 W3:=HT2.o.step (Perm.refl _) hG;obtain⟨ns,hns⟩:=Na (dg X.S.ts (e8 X.S.ts));rw[<- hns]at Oa hpo
  have hnl:ns.length<=100000:=by
   rw[hns];unfold dg e8;rw[NP,(mergeSort_perm _ _).length_eq,NP];have:=(HH.b.gb.b HH.c).nt;omega
  obtain⟨ms,hms⟩:=Na (X.R.ts.map Qy);have hml:ms.length=X.R.ts.length:=by rw[hms,NP]
  have Zi:bh W3:=HH.d.keep Oa.mods (fun h=>by simp at h);have HT3:=Ry Oa Zi hcl hpo hms hml hnl;clear hG Oa Zi hcl u1 hpo hns hnl hms hml;go_wp2_with fail;refine(bc .nilIface 0 W3 HT3.b (.inl ⟨rfl,rfl⟩)).mono ?_;rintro e W5 ⟨rfl,hs5⟩;have Og:=HT3.a.Q8 hs5;obtain⟨-,u2,r3,r1⟩:=PL.o W5 _ Og;rw[HH.a.lc,HT3.c]at r3;obtain⟨ca,cc,hcv,-,-,hcc,-⟩:=bb (Og.sat.right.tail.left.tail.right) HH.a.ref.ts Nk;obtain⟨la,lc,hlv,-,-,hlc,-⟩:=bb (Og.sat.left.left) HT3.d Nk;rw[hcv]at r1;rw[sr,<- HT3.e]at hcc;have hsc:=ng ns ms la ca lc cc W5 hlc hcc (by have:=HT3.u;omega) (by rw[HT3.f];have:=HH.w;omega);rw[HT3.f]at hsc;have XF:=NZ hsc;have QX:=NZ Og;subst hlv;clear hs5 Og hcv hcc hlc hsc;go_wp2_with fail;refine XF.o.mono ?_;rintro e W6 ⟨b6,rfl,hb6,hs6⟩;have RU:=NZ (QX.o.Q8 hs6);clear hs6 hb6
  cases b6 with
  | true =>
   go_wp2_with fail;go_ret;exact⟨_,X,rfl,HH.a.back (RU.o.drop (fun x=>by unfold gF;simp only[ao,af]<;>omega)),HH.b.mono Nb Nb,rfl⟩
  | false =>
   go_wp2_with fail;go_ret;exact⟨_,X,rfl,HH.a.back (RU.o.drop (fun x=>by unfold gF;simp only[ao,af]<;>omega)),HH.b.mono Nb Nb,rfl⟩
theorem GB.Ql{S:AS}{k:Nat}(h:GB S k){l:Bs}{n:Int}{V:Oe}(hf:iW (ah S.ps l) n=some V):(gB S V).length<=65535:=by
 obtain⟨p,hp,-,hV⟩:=nT hf;obtain⟨H,t,hH⟩:=h.gh;obtain⟨x,hx,-,e⟩:=t.vers (qs h.ok hp hV);have:=(hH x hx).2.2.1;unfold bV bu at e;simp only[Prod.mk.injEq]at e;rw[qZ h.ok hp hV];omega
theorem Kz{S:AS}{k:Nat}(h:GB S k)(hb:k<=1000){pre:Bs}{es:List OI}(hs:CE (eY pre S.ps) es):es.length<=100000:=by
 have h1:=hs.1.length_eq;unfold eY at h1;rw[NP]at h1;have h2:=length_filter_le (fun p:bf=>pre.isPrefixOf p.key) S.ps;have h3:=(h.b hb).np;omega
theorem K6{w0 W:World}{X:WS}(h:PV w0 W X){p:Bs}{n:Int}{u u':World}{e:Ending}(hq:js X.R p n u e u'):GRy X u e u':=by
 obtain⟨hs,hm⟩:=hq
 cases hg:cJ X.R p n with
 | error f=>rw[hg]at hm;exact⟨[],_,f,hm,Nh,hs,zn _⟩
 | ok v =>
  rw[hg]at hm;have Ur:Sat W (ay X.P):=h.turns.sat.tail.right.right.left;exact⟨v.cont,_,0,hm.1,by have:=(h.inv.each v hm.2).2.2;omega,hs,G6 Ur h.Ru (h.inp v hm.2)⟩
theorem JJ{w0 W:World}{X:WS}(h:PV w0 W X){p:Bs}{n a c:Int}{u u':World}{e:Ending}(hq:jt X.R p n a c u e u'):GRy X u e u':=by
 obtain⟨hs,hm⟩:=hq
 cases hg:cJ X.R p n with
 | error f=>rw[hg]at hm;exact⟨[],_,f,hm,Nh,hs,zn _⟩
 | ok v =>
  rw[hg]at hm;obtain⟨hv,⟨-,hm⟩|⟨-,sl,cap,hm,-,hx⟩⟩:=hm
  ·exact⟨[],_,4,hm,Nh,hs,zn _⟩
  ·have hlv:=(h.inv.each v hv).2.2;refine⟨(v.cont.drop a.toNat).take c.toNat,_,0,hm,by rw[NS,NT];omega,hs,sl,cap,rfl,?_⟩;by_cases hne:(v.cont.drop a.toNat).take c.toNat=[]
   ·exact .inl hne
   ·obtain⟨g,off,cap',e1,e2⟩:=hx hne;refine .inr ⟨(v.cv,v.cont),h.inp v hv,g,off,cap',a.toNat,e1,e2,?_⟩;rw[NS];rcases Nat.le_total c.toNat (v.cont.drop a.toNat).length with hc|hc
    ·rw[Nat.min_eq_left hc]
    ·rw[Nat.min_eq_right hc,take_of_length_le hc,take_length]
theorem AK(w0 W:World)(X:WS)(o:Pj)(k m:Nat)(h:PV w0 W X)(hp:GP X k m)(hb:k<=1000)(hE:bh w0)(ho:Qs w0 o)(hk:o.kind=2\/o.kind=3\/o.kind=4\/o.kind=5\/o.kind=13):
  Calls prog 57 #[.pointer (some ⟨X.U.blk,0,none⟩),PG o] W (gK w0 X (k+1) m):=by
 have hB:=hp.gb.b hb;have hbb:70000<=90000:=Nb
 have hc9:o.c<=9223372036854775807:=ho.c.2
 have ZL:o.kind=2\/o.kind=3->Calls prog 57 #[.pointer (some ⟨X.U.blk,0,none⟩),PG o] W (gK w0 X (k+1) m):=fun hk=>by
  refine sJ w0 W X o k m h hp hb hE hk ⟨fun _ W' hs=>?_,fun _ W' hs=>?_⟩ ⟨fun _ W' hr=>(kp X.R X.P o.s o.a W' hr).mono (fun e u' hq=>K6 h hq),fun _ W' hr=>(wi X.R X.P o.s o.a o.b o.c W' hr hc9).mono (fun e u' hq=>JJ h hq)⟩
  ·refine(wz X.S o.s o.a 70000 W' hs hp.gb.ok hB hbb (by have:=ho.s;omega)).mono ?_;rintro e w' (⟨n,hf,rfl,hT⟩|⟨V,v,sp,hf,rfl,OB,hA,hT⟩)
   ·exact⟨[],_,X.S.A.spare,_,n,rfl,.inr rfl,Nh,go,hp.gb.ok.area,by rw[pR];exact hT⟩
   ·exact⟨_,_,sp,_,0,rfl,.inl ⟨rfl,rfl⟩,by have:=hp.gb.Ql hf.2.2;omega,OB,hA,hT⟩
  ·refine(yd X.S o.s o.a o.b o.c 70000 W' hs hp.gb.ok hB hbb (by have:=ho.s;omega) hc9).mono ?_;rintro e w' (⟨n,hf,rfl,hT⟩|⟨V,hf,hr,rfl,hT⟩|⟨V,v,sp,hf,hr,rfl,OB,hA,hT⟩)
   ·exact⟨[],_,X.S.A.spare,_,n,rfl,.inr rfl,Nh,go,hp.gb.ok.area,by rw[pR];exact hT⟩
   ·exact⟨[],_,X.S.A.spare,_,4,rfl,.inr rfl,Nh,go,hp.gb.ok.area,by rw[pR];exact hT⟩
   ·exact⟨_,_,sp,_,0,rfl,.inl ⟨rfl,rfl⟩,by have:=hp.gb.Ql hf.2.2;rw[NS,NT];omega,OB,hA,hT⟩
 rcases hk with hk|hk|hk|hk|hk
 ·exact ZL (.inl hk)
 ·exact ZL (.inr hk)
 ·refine pp w0 W X o k m h hp hb hE hk (fun W' hs=>?_) (fun W' hr=>(m0 X.R X.P o.s W' hr).mono (fun e u' hm=>?_))
  ·refine(tI X.S o.s 70000 W' hs hp.gb.ok hB hbb).mono ?_;rintro e w' (⟨n,hf,rfl,hT⟩|⟨V,v,hf,rfl,OB,hT⟩)
   ·exact⟨[],_,_,n,rfl,.inr rfl,Nh,lW,hT⟩
   ·exact⟨_,v,_,0,rfl,.inl ⟨rfl,rfl⟩,by have:=hp.gb.vl o.s;unfold fj;rw[NP];omega,OB,hT⟩
  ·unfold it at hm
   cases hg:cJ X.R o.s 0 with
   | error f=>rw[hg]at hm;exact⟨[],_,f,hm.2,Nh,lW,Turns.same (Sat.nil W') hm.1⟩
   | ok v =>
    rw[hg]at hm;obtain⟨cv,he,h1,h2⟩:=hm;exact⟨_,cv,0,he,by have:=rp X.R.vs o.s;have:=hp.vs;omega,h1,h2⟩
 ·refine uq w0 W X o k m h hp hb hE hk (fun W' hs=>?_) (fun W' hr=>(sn X.R X.P o.s W' hr).mono (fun e u' hm=>?_))
  ·refine(tw X.S o.s 70000 W' hs hp.gb.ok hB hbb).mono ?_;rintro e w' (⟨hc,rfl,hT⟩|⟨hc,v,es,rfl,hso,heo,hT⟩)
   ·exact⟨[],_,_,9,rfl,.inr rfl,Nh,⟨rfl,fun _=>⟨rfl,rfl⟩⟩,hT⟩
   ·exact⟨es,v,_,0,rfl,.inl ⟨rfl,rfl⟩,Kz hp.gb hb hso,heo,hT⟩
  ·rcases hm with⟨_,he,hs⟩|⟨-,cv,he,h1,h2⟩
   ·exact⟨[],_,9,he,Nh,⟨rfl,fun _=>⟨rfl,rfl⟩⟩,Turns.same (Sat.nil W') hs⟩
   ·exact⟨_,cv,0,he,by have:=rf o.s X.R.vs;have:=hp.vs;omega,h1,h2⟩
 ·exact sK w0 W X o k m h hp hb hE hk
theorem sM(w0 W:World)(X:WS)(o:Pj)(k m:Nat)(h:PV w0 W X)(hp:GP X k m)(hb:k<=1000)(hE:bh w0)(ho:Qs w0 o)(hk:o.kind=2\/o.kind=3\/o.kind=4\/o.kind=5\/o.kind=13):
  Calls prog 23 #[.pointer (some ⟨X.U.blk,0,none⟩),PG o] W (gK w0 X (k+1) m):=by
 have hal:PV w0 (W.alloc (oO o)) X:=h.back (h.turns.alloc _);have HA:=NZ (AK w0 _ X o k m hal hp hb hE ho hk);obtain⟨ok,oa,Ot,oc,os,ot,OA,od⟩:=o;simp only at hk;clear h hp hb hE ho hal;unfold oO at HA;unfold PG QI at *
 rcases hk with rfl|rfl|rfl|rfl|rfl
 all_goals
  go_enter func23,ntmps23;go_wp2_with fail;refine HA.o.mono ?_;rintro e w1 ⟨z,X',rfl,hw⟩;have HW:=NZ hw;clear hw;go_wp2_with fail;go_ret;exact⟨z,X',rfl,HW.o⟩
structure StIn (X:WS):Prop where
 cl:∀j,j<=X.R.vs.length->(gt (X.R.vs.take j)).length<=700000
 ml:X.M.length<=800000
 mb:∀x∈X.M,x.bs.length<=1000000
theorem sO(w0 W:World)(X:WS)(just:Bool)(h:PV w0 W X)(hE:bh w0)(hc:X.R.closed=true):
  Calls prog 73 #[.pointer (some ⟨X.U.blk,0,none⟩),.bool just] W (fun e w'=>e=.returned (.bool true)/\aV W w'):=by
 have hcl:X.S.X.closed=true:=by rw[<- h.lc];exact hc
 have u1:W.cell? ⟨X.U.blk,1,none⟩=some (.pointer (some ⟨X.S.a,0,none⟩)):=by
  have:=aa h.turns.sat.Q5 1 (v:=rB X.U.a) rfl;rw[h.a]at this;exact this
 have hU:=h.turns.sat.Q5;have hR:W.heap[X.R.blk]?=some (fL X.R):=h.turns.sat.tail.right.left.Q5;have hA:W.heap[X.S.a]?=some (aL X.S.X):=h.turns.sat.tail.left.Q5;have HS:=NZ (vK X.S.a X.S.X W hA hcl);have HH:=PD h hE hU hR hc;have Wy:=ae hU;clear h hE hU hR hA hc hcl;go_enter func73,ntmps73;go_wp2_with fail;refine HS.o.mono ?_;rintro e w1 ⟨rfl,hs1⟩;have H1:=NZ hs1;clear hs1 u1;go_upto_region 2 with(fail);obtain⟨t,ht⟩:=Na w1.heap.size;rw[<- ht];have hT2:=(HH.a.turns.Q8 H1.o).Q9 (.cells #[.int .i64 0,.int .i64 0] 74 (0,0));rw[<- ht]at hT2;have hs2:=N7.alloc H1.o (.cells #[.int .i64 0,.int .i64 0] 74 (0,0));generalize w1.alloc (.cells #[.int .i64 0,.int .i64 0] 74 (0,0))=w2 at hT2 hs2 ⊢;have HE:=NZ (bc (cr 9) 9 w2 (HH.b.keep hT2.mods (fun h=>by simp at h)) (.inr (.inl rfl)));have HT2:=NZ hT2;clear hT2 ht;go_wp2_with fail;refine HE.o.mono ?_;rintro e w3 ⟨rfl,hs3⟩;have Oa:=HT2.o.Q8 hs3;have hr3:w3.heap[X.R.blk]?=some (fL X.R):=Oa.sat.tail.tail.right.left.Q5;have r3:w3.cell? ⟨X.R.blk,3,none⟩=some (.bool X.R.closed):=aa hr3 3 rfl;rw[HH.w]at r3
 have u2:w3.cell? ⟨X.U.blk,2,none⟩=some (.pointer (some ⟨X.R.blk,0,none⟩)):=by
  have:=aa Oa.sat.tail.Q5 2 (v:=.pointer (some ⟨X.U.r,0,none⟩)) rfl;rw[HH.a.r]at this;exact this
 have t0:w3.cell? ⟨t,0,none⟩=some (.int .i64 0):=aa Oa.sat.Q5 0 rfl;have t1:w3.cell? ⟨t,1,none⟩=some (.int .i64 0):=aa Oa.sat.Q5 1 rfl;have HT3:=Ob Oa hs3;clear Oa hs3 hr3;go_wp2_with fail;go_ret;exact ⟨rfl,hs2.trans HT3.z⟩
theorem vU(w0 W:World)(X:WS)(h:PV w0 W X)(hE:bh w0)(hc:X.R.closed=false)(k m:Nat)(hp:GP X k m)(hb:k<=1000)(hm:m<=60000):
  Calls prog 73 #[.pointer (some ⟨X.U.blk,0,none⟩),.bool false] W (fun e w'=>∃z,e=.returned (.bool z)/\aV W w'):=by
 have hcl:X.S.X.closed=false:=by rw[<- h.lc];exact hc
 have u1:W.cell? ⟨X.U.blk,1,none⟩=some (.pointer (some ⟨X.S.a,0,none⟩)):=by
  have:=aa h.turns.sat.Q5 1 (v:=rB X.U.a) rfl;rw[h.a]at this;exact this
 have hU:=h.turns.sat.Q5;have hR:=h.Qj hp hb (h.turns.sat.tail.right.sub (G:=aC X.R++ay X.P) (fun x=>by simp only[af];omega));have hA:W.heap[X.S.a]?=some (aL X.S.X):=h.turns.sat.tail.left.Q5;obtain⟨sc,hsc⟩:=Na X.S.X.sc;obtain⟨sb,hsb⟩:=Na X.S.X.sb;have hS:=zL X.S.a X.S.X W hA hcl;unfold tE at hS;rw[<- hsc,<- hsb]at hS;have HS:=NZ hS;have HI:=Oz (show StIn X from⟨fun j _=>by have h1:=lQ X.R.vs j;have h2:=hp.used;omega,by have:=hp.ml;omega,fun x hx=>by have:=hp.mb x hx;omega⟩) hsc hsb;have HH:=PD h hE hU hR hc;have Wy:=ae hU;clear h hE hU hR hA hc hcl hS hp hb hm hsc hsb;go_enter func73,ntmps73;go_wp2_with fail;refine HS.o.mono ?_;rintro e w1 ⟨rfl,hs1⟩;have H1:=NZ hs1;clear hs1 u1;go_upto_region 2 with(fail);obtain⟨t,ht⟩:=Na w1.heap.size;rw[<- ht];have hT2:=(HH.a.turns.Q8 H1.o).Q9 (.cells #[.int .i64 sc,.int .i64 sb] 74 (0,0));rw[<- ht]at hT2;have hs2:=N7.alloc H1.o (.cells #[.int .i64 sc,.int .i64 sb] 74 (0,0));generalize w1.alloc (.cells #[.int .i64 sc,.int .i64 sb] 74 (0,0))=w2 at hT2 hs2 ⊢;have HE:=NZ (bc .nilIface 0 w2 (HH.b.keep hT2.mods (fun h=>by simp at h)) (.inl ⟨rfl,rfl⟩));have HT2:=Ob hT2 hs2;clear hT2 ht hs2;go_wp2_with fail;refine HE.o.mono ?_;rintro e w3 ⟨rfl,hs3⟩;have Oa:=HT2.a.Q8 hs3;have hr3:w3.heap[X.R.blk]?=some (fL X.R):=Oa.sat.tail.tail.right.left.Q5;have r3:w3.cell? ⟨X.R.blk,3,none⟩=some (.bool X.R.closed):=aa hr3 3 rfl;rw[HH.w]at r3
 have u2:w3.cell? ⟨X.U.blk,2,none⟩=some (.pointer (some ⟨X.R.blk,0,none⟩)):=by
  have:=aa Oa.sat.tail.Q5 2 (v:=.pointer (some ⟨X.U.r,0,none⟩)) rfl;rw[HH.a.r]at this;exact this
 have hra:=HH.d.same (HT2.z.trans hs3);have HC:=Ob (oG X.R X.P w3 hra HI.a.cl) hra;have HT3:=Ob Oa (HT2.z.trans hs3);clear Oa hs3 hr3 hra;go_wp2_with fail;refine HC.a.mono ?_;rintro e w4 ⟨v8,M8,rfl,ok8,hM8,ZY,OX⟩;obtain⟨sl8,cap8,rfl,hc8,hc8b,Uk⟩:=kq OX.sat ok8;have qal:=HC.z.same OX.news;have hm8:M8.length=(gt X.R.vs).length:=by rw[<- hM8,NP]
 have qaa:M8.length<=800000:=by
  have h1:=HI.a.cl X.R.vs.length (Nat.le_refl _);rw[take_length]at h1;omega
 have HZ:=NZ (sq sl8 cap8 M8 w4 Uk (fun x hx=>(ZY x hx).val qal) Nb);have Oj:=HT3.a.Q8 OX.news;have HT4:=Ob Oj (HT3.z.trans OX.news);have H8:=Ob hM8 hm8;clear hM8 ZY OX qal Oj Uk ok8 hm8 u2 r3;go_wp2_with fail;refine HZ.o.mono ?_;rintro e w5 ⟨rfl,hs5⟩;have Og:=HT4.a.Q8 hs5;obtain⟨msl,YD,hme,hmc,hmc9,Uo⟩:=kq (Og.sat.tail.tail.right.right.right) HH.a.most
 have u5:w5.cell? ⟨X.U.blk,5,none⟩=some (.slice msl X.M.length YD):=by
  have:=aa Og.sat.tail.Q5 5 (v:=X.U.most) rfl;rw[hme]at this;exact this
 have hz2:=sq msl YD X.M w5 Uo (fun x hx=>by
  obtain⟨s,c,e,-⟩:=(HH.a.ms x hx).at Og Og.sat.tail.tail.right.right.left HH.a.Ru;exact⟨s,c,e,HI.a.mb x hx⟩) (by have:=HI.a.ml;omega)
 have HZ2:=NZ hz2;have HME:=NZ hme;have hml:=HI.a.ml;have QX:=Ob Og (HT4.z.trans hs5);clear Og hs5 hme Uo hz2;go_wp2_with fail;refine HZ2.o.mono ?_;rintro e w6 ⟨rfl,hs6⟩;have Ox:=QX.a.Q8 hs6;have t0:w6.cell? ⟨t,0,none⟩=some (.int .i64 sc):=aa Ox.sat.Q5 0 rfl;have t1:w6.cell? ⟨t,1,none⟩=some (.int .i64 sb):=aa Ox.sat.Q5 1 rfl;have htl:=ae Ox.sat.Q5
 have u6:w6.cell? ⟨X.U.blk,5,none⟩=some (.slice msl X.M.length YD):=by
  have:=aa Ox.sat.tail.Q5 5 (v:=X.U.most) rfl;rw[HME.o]at this;exact this
 have hul6:=ae Ox.sat.tail.Q5;have RU:=NZ (QX.z.trans hs6);obtain⟨c8,Yd⟩:=Na M8.length;obtain⟨l8,Z5⟩:=Na (lH (M8.map (·.bs)));obtain⟨m,hm'⟩:=Na X.M.length;obtain⟨l9,Z7⟩:=Na (lH (X.M.map (·.bs)));rw[<- hm']at u6 hml hmc;rw[<- Yd]at hc8 qaa;rw[<- Yd,<- Z5,<- Z7];clear Ox hs6 Yd Z5 hm' Z7 u5;by_cases k1:sc<(c8:Int)
 ·go_wp2_with fail;go_ret;exact ⟨_,rfl,RU.o⟩
 by_cases k2:sb<(l8:Int)
 ·go_wp2_with fail;go_ret;exact ⟨_,rfl,RU.o⟩
 by_cases k3:sc<=(m:Int)
 ·go_wp2_with fail;go_quiet (fail);go_wp2_with fail;go_ret;exact⟨decide (sb<=(l9:Int)),rfl,RU.o.drewN _⟩
 ·go_wp2_with fail;have k4:decide (sc<=(m:Int))=false:=by simpa using k3
  go_quiet (fail);go_wp2_with fail;go_ret;exact⟨false,rfl,RU.o.drewN _⟩
theorem qn(w0 W:World)(X:WS)(o:Pj)(h:PV w0 W X)(hE:bh w0)(hk:o.kind=15)(k m:Nat)(hp:GP X k m)(hb:k<=1000)(hm:m<=60000):
  Calls prog 23 #[.pointer (some ⟨X.U.blk,0,none⟩),PG o] W (gK w0 X (k+1) m):=by
 obtain⟨ok,oa,Ot,oc,os,ot,OA,od⟩:=o;simp only at hk;subst hk;have HH:=Oz h hE hp;have HB:=Ob hb hm;clear h hE hp hb hm;unfold PG QI;go_enter func23,ntmps23;go_upto_region 46 with(fail);have hT1:=HH.a.turns.alloc (.cells #[.int .i64 15,.int .i64 oa,.int .i64 Ot,.int .i64 oc,str os,str ot,OA] 65);generalize W.alloc (.cells #[.int .i64 15,.int .i64 oa,.int .i64 Ot,.int .i64 oc,str os,str ot,OA] 65)=W1 at hT1 ⊢;have h1:PV w0 W1 X:=HH.a.back hT1
 have HS:Hid (Calls prog 73 #[.pointer (some ⟨X.U.blk,0,none⟩),.bool false] W1 (fun e w'=>∃z,e=.returned (.bool z)/\aV W1 w')):=NZ (by
  cases hc:X.R.closed with
  | true=>exact(sO w0 W1 X false h1 HH.b hc).mono (fun e w' he=>⟨true,he.1,he.2⟩)
  | false=>exact vU w0 W1 X h1 HH.b hc k m HH.y HB.a HB.z)
 have H1:=NZ h1;clear h1 hT1;go_wp2_with fail;refine HS.o.mono ?_;rintro e W2 ⟨z,rfl,hs2⟩;have H2:=NZ (H1.o.back (H1.o.turns.Q8 hs2));clear hs2;go_wp2_with fail;go_ret;exact ⟨z,X,rfl,H2.o,HH.y.mono Nb Nb,rfl⟩
theorem sL(u:Nat)(o:Pj)(W:World)(hk:o.kind<1\/15<o.kind):
  Calls prog 23 #[.pointer (some ⟨u,0,none⟩),PG o] W (fun e W'=>e=.returned (.bool true)/\aV W W'):=by
 obtain⟨ok,oa,Ot,oc,os,ot,OA,od⟩:=o;simp only at hk;have n1:¬ok=1:=Nb
 have n2:¬ok=2:=Nb
 have n3:¬ok=3:=Nb
 have n4:¬ok=4:=Nb
 have n5:¬ok=5:=Nb
 have n6:¬ok=6:=Nb
 have n7:¬ok=7:=Nb
 have n8:¬ok=8:=Nb
 have n9:¬ok=9:=Nb
 have n10:¬ok=10:=Nb
 have n11:¬ok=11:=Nb
 have n12:¬ok=12:=Nb
 have n13:¬ok=13:=Nb
 have n14:¬ok=14:=Nb
 have n15:¬ok=15:=Nb
 clear hk;unfold PG QI;go_enter func23,ntmps23;go_wp2_with fail;go_ret;exact ⟨rfl,(N7.refl _ W).alloc _⟩
theorem gK.mono{w0:World}{X:WS}{k m m':Nat}{e:Ending}{W:World}(h:gK w0 X k m e W)(hm:m<=m'):gK w0 X k m' e W:=by
 obtain⟨z,X',e1,h1,h2,h3⟩:=h;exact⟨z,X',e1,h1,h2.mono (Nat.le_refl _) hm,h3⟩
theorem AL(w0 W:World)(X:WS)(o:Pj)(k m:Nat)(h:PV w0 W X)(hp:GP X k m)(hb:k<=1000)(hm:m+o.d.length<=60000)(hE:bh w0)(ho:Qs w0 o)(hk:o.kind≠8):
  Calls prog 23 #[.pointer (some ⟨X.U.blk,0,none⟩),PG o] W (gK w0 X (k+1) (m+o.d.length)):=by
 have hmm:m<=m+o.d.length:=Nb
 by_cases k1:o.kind=1
 ·exact uu w0 W X o k m h hp hb hm hE ho k1
 by_cases k2:o.kind=2\/o.kind=3\/o.kind=4\/o.kind=5\/o.kind=13
 ·exact(sM w0 W X o k m h hp hb hE ho k2).mono (fun e W hg=>hg.mono hmm)
 by_cases k6:o.kind=6
 ·exact(sN w0 W X o k m h hp hb hE k6).mono (fun e W hg=>hg.mono hmm)
 by_cases k7:o.kind=7
 ·exact(ri w0 W X o k m h hp hb hE k7).mono (fun e W hg=>hg.mono hmm)
 by_cases k9:o.kind=9\/o.kind=10\/o.kind=11\/o.kind=12
 ·exact(ut w0 W X o k m h hp hb hE ho k9).mono (fun e W hg=>hg.mono hmm)
 by_cases k14:o.kind=14
 ·exact(pq w0 W X o k m h hp hb Nb hE k14).mono (fun e W hg=>hg.mono hmm)
 by_cases k15:o.kind=15
 ·exact(qn w0 W X o h hE k15 k m hp hb Nb).mono (fun e W hg=>hg.mono hmm)
 ·refine(sL X.U.blk o W Nb).mono ?_;rintro e W' ⟨rfl,hs⟩;exact⟨true,X,rfl,h.back (h.turns.Q8 hs),hp.mono Nb hmm,rfl⟩
def Mq(d:Nat)(L:Ol)(w:World)(e:Ending)(w':World):Prop :=
 (∃S,e=.returned (.tuple #[.pointer (some ⟨S.a,0,none⟩),.nilIface])/\GB S 0/\S.X.closed=false/\Turns (aA d L) (N9 S) w w') \/
 (∃F,e=.returned (.tuple #[.pointer none,cr 10])/\Turns (aA d L) F w w')
theorem Fi(d:Nat)(L:Ol)(q:Int)(w:World)(h:Sat w (aA d L))(hL:Ou L)(hn:L.n=648)(hch:L.N8=[])(hq:q<=9223372036854775807):
  Calls prog 22 #[.pointer (some ⟨d,0,none⟩),.int .i64 q] w (Mq d L w):=by
 by_cases hz:∀k,k<2->aN L.now k=an 128
 ·refine(oS d L q w h hL Nb Nb (by rw[hch];simp) hz hq).mono ?_;rintro e w' ⟨S,rfl,hs,hT⟩;rw[hn]at hs;exact .inl ⟨S,rfl,GB.start hs hq,hs.2.2.1,hT⟩
 ·classical
  obtain⟨us,hus⟩:∃us:Nat->Option (Nat×Nat),∀k,k<2->oe L.now us k:=by
   refine⟨fun k=>if hx:∃u:Nat×Nat,aN L.now k=bO u.1 u.2/\u.1%2=k/\u.1<4294967296/\u.2<4294967296 then some hx.choose else none,fun k _=>?_⟩;unfold oe;simp only;split
   ·rename_i hx;have hc:=hx.choose_spec;exact .inr ⟨hx.choose.1,hx.choose.2,rfl,hc⟩
   ·rename_i hx;exact .inl ⟨rfl,fun e wh he hw hk hs=>hx ⟨(e,wh),hs,hk,he,hw⟩⟩
  have hlb:∀u∈fy (iL us 2),u.1<4294967296/\u.2<4294967296:=fun u hu=>by
   have hm:u∈iL us 2:=by
    unfold fy at hu;split at hu
    ·rename_i a b hab;rw[hab];split at hu
     ·rcases mem_cons.1 hu with rfl|hu
      ·simp
      ·rw[mem_singleton.1 hu];simp
     ·exact hu
    ·exact hu
   unfold iL at hm;obtain⟨k,hk,hku⟩:=mem_filterMap.1 hm;rcases hus k (by simpa using hk)with⟨h1,-⟩|⟨e',wh',h1,-,-,h4,h5⟩
   ·rw[hku]at h1;cases h1
   ·rw[hku]at h1;obtain rfl:=Option.some.inj h1;exact⟨h4,h5⟩
  refine(zA d L us _ q w h hL Nb Nb (by rw[hch];simp) hus rfl (by unfold cD;exact decide_eq_false hz) hlb (fun pre u rest _ _ at_ s hr=>by
    have h1:=JE hr;have h2:(aB L.now (2+u.1%2*au L.n) (au L.n)).length<=128*au L.n:=by unfold aB;rw[NS];omega
    rw[hn]at h1 h2;have h3:au 648=323:=rfl;rw[h3]at h1 h2;omega)).mono ?_
  rintro e w' (⟨pre,e0,wh,rest,S,hl1,hpre,hwh,rfl,ho,hT⟩|⟨-,rfl,hT⟩)
  ·obtain⟨-,-,-,e4,-⟩:=ho.eX;exact .inl ⟨S,rfl,GB.open ho hn (hlb (e0,wh) (by rw[hl1];simp)).1 hq,e4,hT⟩
  ·exact .inr ⟨_,rfl,hT⟩
structure Si where
 sec:Int
 dv:Value
 d:Bs
 turn:Nat
def vX(y:Si):List Value:=[.int .i64 y.sec,y.dv,.int .u64 y.turn]
def oB(l:List Si):List Value:=l.flatMap vX
structure SK (w:World) (y:Si):Prop where
 sec:Za y.sec
 turn:y.turn<18446744073709551616
 d:y.d.length<=1125899906842624
 dv:∃sl cap,y.dv=.slice sl y.d.length cap/\y.d.length<=cap/\cap<=9223372036854775807/\ak w sl (y.d.map am)
theorem jK(l:List Si):(oB l).length=l.length*3:=by
 induction l with
 | nil=>rfl
 | cons a r ih=>simp only[oB,flatMap_cons,NM,length_cons]at ih ⊢;rw[ih];simp[vX];omega
theorem uB:∀(l:List Si) (i:Nat) (h:i<l.length) (j:Nat) (_:j<3),(oB l)[i*3+j]?=(vX l[i])[j]?
 | [],i,h,_,_=>by simp at h
 | a::r,0,_,j,hj=>by
  simp only[oB,flatMap_cons,Nat.zero_mul,Nat.zero_add,getElem_cons_zero]
  rw[getElem?_append_left (by simpa[vX]using hj)]
 | a::r,i+1,h,j,hj=>by
  simp only[oB,flatMap_cons,getElem_cons_succ]
  rw[getElem?_append_right (by simp[vX];omega),show(i+1)*3+j-(vX a).length=i*3+j by simp[vX];omega]
  exact uB r i (by simpa using h) j hj
theorem Jh{w:World}{sl:Option Addr}{l:List Si}(h:ak w sl (oB l)){i:Nat}(hi:i<l.length):∃g off,sl=some ⟨g,off,none⟩ /\
  w.cell? ⟨g,off+i*3,none⟩=some (.int .i64 l[i].sec)/\w.cell? ⟨g,off+i*3+1,none⟩=some l[i].dv/\w.cell? ⟨g,off+i*3+2,none⟩=some (.int .u64 l[i].turn):=by
 obtain⟨g,off,e,hc⟩:=h (by rw[jK];omega);refine⟨g,off,e,?_⟩
 have key:∀j (_:j<3) v,(vX l[i])[j]?=some v->w.cell? ⟨g,off+i*3+j,none⟩=some v:=by
  intro j hj v hv;have hlt:i*3+j<(oB l).length:=by rw[jK];omega
  have h1:=hc (i*3+j) hlt;have h2:=uB l i hi j hj;rw[hv,getElem?_eq_getElem hlt]at h2;rw[<- Option.some.inj h2,Nat.add_assoc];exact h1
 exact⟨key 0 Nb _ rfl,key 1 Nb _ rfl,key 2 Nb _ rfl⟩
end
section
open Go.RowKit
def Hh(d:Nat)(L:Ol)(w:World)(e:Ending)(w':World):Prop :=
 ∃L' p y,e=.returned (.tuple #[])/\Turns (aA d L) (aA d L') w w'/\Ou L'/\L'.n=L.n/\p<128*L.n/\L.now[p]?≠some y/\L'.now=L.now.set p y/\L'.safe=L'.now/\L'.N8=[]
theorem iQ{n:Int}(h1:0<=n)(h2:n<18446744073709551616):IntKind.u64.wrap n=n:=by
 unfold IntKind.wrap;simp[show IntKind.u64.bits=64 from rfl,show IntKind.u64.signed=false from rfl];omega
theorem xK{t:TypeId}(a b:Nat)(hb:0<b)(ha:a<18446744073709551616)(w:World):(binOp .rem t (.int .u64 a) (.int .u64 b)).run prog w=.ok (.int .u64 ((a%b:Nat):Int)) w:=by
 have h1:(a:Int).tmod b=((a%b:Nat):Int):=by rw[Int.tmod_eq_emod_of_nonneg Nb];omega
 obtain⟨r,hr⟩:=Na (a%b);have h3:r<=a:=by rw[hr];exact Nat.mod_le _ _
 rw[<- hr]at h1 ⊢;have h2:IntKind.u64.wrap (r:Int)=r:=iQ Nb Nb;have h4:¬b=0:=Nb
 simp[binOp,Op.intDiv,h1,h4]
theorem xJ{t:TypeId}(a b:Nat)(hb:0<b)(ha:a<18446744073709551616)(w:World):(binOp .quo t (.int .u64 a) (.int .u64 b)).run prog w=.ok (.int .u64 ((a / b:Nat):Int)) w:=by
 have h1:(a:Int).tdiv b=((a / b:Nat):Int):=by rw[Int.tdiv_eq_ediv_of_nonneg Nb];rfl
 obtain⟨r,hr⟩:=Na (a / b);have h3:r<=a:=by rw[hr];exact Nat.div_le_self _ _
 rw[<- hr]at h1 ⊢;have h2:IntKind.u64.wrap (r:Int)=r:=iQ Nb Nb;have h4:¬b=0:=Nb
 simp[binOp,Op.intDiv,h1,h2,h4]
theorem sZ{t:TypeId}(a:Nat)(ha:a<18446744073709551616)(w:World):(binOp .quo t (.int .u64 a) (.int .u64 8)).run prog w=.ok (.int .u64 ((a / 8:Nat):Int)) w:=xJ a 8 Nb ha w
theorem xw{t:TypeId}(a:Nat)(ha:a<18446744073709551616)(w:World):(binOp .quo t (.int .u64 a) (.int .u64 128)).run prog w=.ok (.int .u64 ((a / 128:Nat):Int)) w:=xJ a 128 Nb ha w
theorem EY{t:TypeId}(a:Nat)(ha:a<18446744073709551616)(w:World):(binOp .rem t (.int .u64 a) (.int .u64 8)).run prog w=.ok (.int .u64 ((a%8:Nat):Int)) w:=xK a 8 Nb ha w
theorem xB{t:TypeId}(a:Nat)(ha:a<18446744073709551616)(w:World):(binOp .rem t (.int .u64 a) (.int .u64 128)).run prog w=.ok (.int .u64 ((a%128:Nat):Int)) w:=xK a 128 Nb ha w
theorem BQ{t:TypeId}(x:UInt8)(j:Nat)(hj:j<8)(w:World):(binOp .xor t (am x) (.int .u8 ((2 ^ j:Nat):Int))).run prog w=.ok (am (x ^^^ UInt8.ofNat (2 ^ j))) w:=by
 have h:bits BinOp.xor IntKind.u8 (x.toNat:Int) ((2 ^ j:Nat):Int)=(((x ^^^ UInt8.ofNat (2 ^ j)).toNat:Nat):Int):=by
  have key:∀j:Fin 8,∀x:Fin 256,bits BinOp.xor IntKind.u8 (x.val:Int) ((2 ^ j.val:Nat):Int)=(((UInt8.ofNat x.val ^^^ UInt8.ofNat (2 ^ j.val)).toNat:Nat):Int):=by decide +kernel
  have:=key ⟨j,hj⟩ ⟨x.toNat,UInt8.toNat_lt x⟩;rwa [UInt8.ofNat_toNat]at this
 show Result.ok (Value.int IntKind.u8 (bits BinOp.xor IntKind.u8 (x.toNat:Int) ((2 ^ j:Nat):Int))) w=_;rw[h];rfl
theorem Mm(x:UInt8)(j:Nat)(hj:j<8):x ^^^ UInt8.ofNat (2 ^ j)≠x:=by
 have key:∀j:Fin 8,∀x:Fin 256,UInt8.ofNat x.val ^^^ UInt8.ofNat (2 ^ j.val)≠UInt8.ofNat x.val:=by decide +kernel
 have:=key ⟨j,hj⟩ ⟨x.toNat,UInt8.toNat_lt x⟩;simpa using this
theorem BP{t:TypeId}(j:Nat)(hj:j<8)(w:World):(binOp .shl t (.int .u8 1) (.int .u64 j)).run prog w=.ok (.int .u8 ((2 ^ j:Nat):Int)) w:=by
 rcases(by omega:j=0\/j=1\/j=2\/j=3\/j=4\/j=5\/j=6\/j=7)with rfl|rfl|rfl|rfl|rfl|rfl|rfl|rfl<;>rfl
theorem Cr(d:Nat)(L:Ol)(bit:Nat)(w:World)(h:Sat w (aA d L))(hL:Ou L)(hc:L.N8=[])(hs:L.safe=L.now)(hb:bit<18446744073709551616)(hn:0<L.n):
  Calls prog 21 #[.pointer (some ⟨d,0,none⟩),.int .u64 bit] w (Hh d L w):=by
 have hd:=h.Q5;have c0:w.cell? ⟨d,0,none⟩=some (.slice (some ⟨L.sb,0,none⟩) L.n L.n):=aa hd 0 rfl;have hdl:=ae hd;have hnn:=hL.hn;obtain⟨k,hk⟩:=Na (bit%(L.n*128*8));have hkl:k<L.n*128*8:=by rw[hk];exact Nat.mod_lt _ Nb
 have s0:IntKind.u64.wrap (L.n:Int)=L.n:=iQ Nb Nb;have s1:IntKind.u64.wrap ((L.n:Int)*128)=(L.n:Int)*128:=iQ Nb Nb;have s2:IntKind.u64.wrap ((L.n:Int)*128*8)=(L.n:Int)*128*8:=iQ Nb Nb;have s3:(0:Int)<(L.n:Int)*128*8:=Nb
 have s4:(bit:Int).tmod ((L.n:Int)*128*8)=k:=by rw[Int.tmod_eq_emod_of_nonneg Nb,show((L.n:Int)*128*8)=((L.n*128*8:Nat):Int) by push_cast;rfl,hk];exact(Int.natCast_emod ..).symm
 have s5:IntKind.u64.wrap (k:Int)=k:=iQ Nb Nb;have HH:=OW h hL hc hs;clear h hL hc hs hd hk;go_enter func21,ntmps21;go_upto_region 3 with(fail);obtain⟨p,hp⟩:=Na (k / 8);obtain⟨j,hj⟩:=Na (k%8);obtain⟨pa,hpa⟩:=Na (p / 128);obtain⟨pb,hpb⟩:=Na (p%128);obtain⟨m,hm⟩:=Na (2 ^ j);have YW:j<8:=Nb
 have hpl:p<128*L.n:=Nb
 have hpe:p=pa*128+pb:=Nb
 have hpan:pa<L.n:=Nb
 have hpbn:pb<128:=Nb
 obtain⟨x,hx⟩:∃x,L.now[p]?=some x:=⟨_,getElem?_eq_getElem (by rw[HH.b.OU];exact hpl)⟩;obtain⟨y,hy⟩:=Na (x ^^^ UInt8.ofNat m);have hyx:y≠x:=by rw[hy,hm];exact Mm x j YW
 have HX:=RV hx hpe hp hj hpa hpb;have HMj:=NZ hm;have HY:=NZ hy
 have k0:Turns (aA d L) ((L.sb,Is (.cells (aw L.now) 43 (0,0)))::((d,Is (jv L.sb L.nb L.n L.chv))::(L.nb,Is (.cells (aw L.now) 43 (0,0)))::bH 110 129 L.chv L.N8.length (bI L.N8))) w w:=by
  refine(Turns.refl HH.a).to ?_;unfold aA jv;rw[HH.x];exact ac
 have HK:=NZ k0;have hk64:k<18446744073709551616:=Nb
 have i1:(pb:Int)<128:=Nb
 have i2:(pa:Int)<(L.n:Int):=Nb
 have hci:pa*128+pb<(aw L.now).size:=by rw[bL,HH.b.OU];omega
 have hset:(aw L.now).setIfInBounds (pa*128+pb) (am y)=aw (L.now.set p y):=by rw[<- HX.b];simp[aw,map_set]
 clear k0 hx hp hj hpa hpb hm hy hpe;refine cH [([0,1,2,3,4,5,6,7,8,9,10,11,12,13,14,15,16,17,18],19,[])] [] HM.o Nc fun W tW=>?_
 simp only[Mix,map_cons,map_nil,nth,QG,QF];have k0:=tW HK.o;clear tW;have g0:W.cell? ⟨d,0,none⟩=some (.slice (some ⟨L.sb,0,none⟩) L.n L.n):=aa (k0.sat.Q7 (b:=d) (o:=jv L.sb L.nb L.n L.chv) Nh) 0 rfl;have g1:W.cell? ⟨L.sb,pa*128+pb,none⟩=some (am x):=aa k0.sat.Q5 _ (by rw[<- HX.b,ex _ p (by rw[HH.b.OU];exact hpl)];exact congrArg some (congrArg am (List.getElem_of_getElem? HX.a).2));iterate 5 still_step
 refine cq rfl (v:=.int .u64 p) (by have q:=sZ (t:=37) k Nb W;rw[<- HX.c]at q;simp[execOp,eqGuard,q,Act.eval]) ?_;simp only[Act.put,QA,QB,QC];refine cq rfl (v:=.int .u64 pa) (by have q:=xw (t:=37) p Nb W;rw[<- HX.e]at q;simp[execOp,eqGuard,q,Act.eval]) ?_;simp only[Act.put,QA,QB,QC];still_step;refine cq rfl (v:=.int .u64 p) (by have q:=sZ (t:=37) k Nb W;rw[<- HX.c]at q;simp[execOp,eqGuard,q,Act.eval]) ?_;simp only[Act.put,QA,QB,QC];refine cq rfl (v:=.int .u64 pb) (by have q:=xB (t:=37) p Nb W;rw[<- HX.v]at q;simp[execOp,eqGuard,q,Act.eval]) ?_;simp only[Act.put,QA,QB,QC];iterate 4 still_step
 refine cq rfl (v:=.int .u64 j) (by have q:=EY (t:=37) k Nb W;rw[<- HX.d]at q;simp[execOp,eqGuard,q,Act.eval]) ?_;simp only[Act.put,QA,QB,QC];refine cq rfl (v:=.int .u8 m) (by have q:=BP (t:=5) j YW W;rw[<- HMj.o]at q;simp[execOp,eqGuard,q,Act.eval]) ?_;simp only[Act.put,QA,QB,QC];refine cq rfl (v:=am y) (by have q:=BQ (t:=5) x j YW W;rw[<- HMj.o,<- HY.o]at q;simp[execOp,eqGuard,q,Act.eval]) ?_;simp only[Act.put,QA,QB,QC];iterate 2 still_step
 refine wpStill_nil (aX 5 (.tmp 37) (.tmp 35) rfl L.sb (pa*128+pb) (aw L.now) 43 (am y) k0 rfl rfl hci Nc rfl rfl fun w2 hT2=>⟨rfl,?_⟩);simp only[Act.put];refine wpStill_nil ?_;rw[hset]at hT2;clear k0 g0 g1;have k1:Turns (aA d L) ((L.nb,Is (.cells (aw L.now) 43 (0,0)))::((d,Is (jv L.sb L.nb L.n L.chv))::(L.sb,Is (.cells (aw (L.now.set p y)) 43 (0,0)))::bH 110 129 L.chv L.N8.length (bI L.N8))) w w2:=hT2.to ac;have HK1:=NZ k1;clear k1 hT2;go_upto_region 4 with(fail);refine cH [([0,1,2,3,4,5,6,7,8,9,10,11,12,13,14,15,16,17,18],19,[])] [] HM.o Nc fun W tW=>?_
 simp only[Mix,map_cons,map_nil,nth,QG,QF];have k0:=tW HK1.o;clear tW;have g0:W.cell? ⟨d,1,none⟩=some (.slice (some ⟨L.nb,0,none⟩) L.n L.n):=aa (k0.sat.Q7 (b:=d) (o:=jv L.sb L.nb L.n L.chv) Nh) 1 rfl;have g1:W.cell? ⟨L.nb,pa*128+pb,none⟩=some (am x):=aa k0.sat.Q5 _ (by rw[<- HX.b,ex _ p (by rw[HH.b.OU];exact hpl)];exact congrArg some (congrArg am (List.getElem_of_getElem? HX.a).2));iterate 5 still_step
 refine cq rfl (v:=.int .u64 p) (by have q:=sZ (t:=37) k Nb W;rw[<- HX.c]at q;simp[execOp,eqGuard,q,Act.eval]) ?_;simp only[Act.put,QA,QB,QC];refine cq rfl (v:=.int .u64 pa) (by have q:=xw (t:=37) p Nb W;rw[<- HX.e]at q;simp[execOp,eqGuard,q,Act.eval]) ?_;simp only[Act.put,QA,QB,QC];still_step;refine cq rfl (v:=.int .u64 p) (by have q:=sZ (t:=37) k Nb W;rw[<- HX.c]at q;simp[execOp,eqGuard,q,Act.eval]) ?_;simp only[Act.put,QA,QB,QC];refine cq rfl (v:=.int .u64 pb) (by have q:=xB (t:=37) p Nb W;rw[<- HX.v]at q;simp[execOp,eqGuard,q,Act.eval]) ?_;simp only[Act.put,QA,QB,QC];iterate 4 still_step
 refine cq rfl (v:=.int .u64 j) (by have q:=EY (t:=37) k Nb W;rw[<- HX.d]at q;simp[execOp,eqGuard,q,Act.eval]) ?_;simp only[Act.put,QA,QB,QC];refine cq rfl (v:=.int .u8 m) (by have q:=BP (t:=5) j YW W;rw[<- HMj.o]at q;simp[execOp,eqGuard,q,Act.eval]) ?_;simp only[Act.put,QA,QB,QC];refine cq rfl (v:=am y) (by have q:=BQ (t:=5) x j YW W;rw[<- HMj.o,<- HY.o]at q;simp[execOp,eqGuard,q,Act.eval]) ?_;simp only[Act.put,QA,QB,QC];iterate 2 still_step
 refine wpStill_nil (aX 5 (.tmp 56) (.tmp 54) rfl L.nb (pa*128+pb) (aw L.now) 43 (am y) k0 rfl rfl hci Nc rfl rfl fun w3 Oa=>⟨rfl,?_⟩);simp only[Act.put];refine wpStill_nil ?_;rw[hset]at Oa;have HT3:=NZ Oa;clear k0 g0 g1 Oa;refine bodyPost_end (results_none rfl _ _ _) rfl ⟨{ L with now:=L.now.set p y,safe:=L.now.set p y },p,y,rfl,?_,⟨HH.b.hn,by simpa using HH.b.OU,by simpa using HH.b.OU,HH.b.row,HH.b.N8,?_⟩,rfl,hpl,?_,rfl,rfl,HH.c⟩
 ·refine HT3.o.to ?_;unfold aA jv;exact ac
 ·show jh (L.now.set p y) L.N8=L.now.set p y;rw[HH.c];rfl
 ·rw[HX.a];exact fun e=>hyx (Option.some.inj e).symm
def aH(b:Nat):Value:=.pointer (some ⟨b,0,none⟩)
def F6(v:Value)(safe:Int):Obj:=.cells #[v,.int .i64 safe] 98 (0,0)
def gf(b:Nat)(v:Value)(ps:List Nat)(safe:Int):HF:=(b,Is (F6 v safe))::bH 56 1 v ps.length (ps.map aH)
def mV(v:Value)(ps:List Nat):Prop:=ei 1 v ps.length (ps.map aH)
def br(d a:Value)(q:Int)(h:Nat):Obj:=.cells #[d,a,.int .i64 q,aH h] 35 (0,0)
theorem Jf:(prog.info? 56).map (fun i=>(i.zero,i.size,i.bytes))=some (some (.pointer none),1,8):=Nc
theorem zj{o:Oper}{a:Act}{w a0:World}{K:Act->World->Prop}{Q:Exit->Act->World->Prop}{F G:HF}(s x:Operand)(hop:o.op=.call { callee:=.builtin .append,args:=#[s,x],argTypes:=#[96,96] })(v:Value)(l:List Nat)(hs:a.eval s=v)(hT:Turns F (bH 56 1 v l.length (l.map aH)++G) a0 w)(hok:mV v l)(n q:Nat)(hx:a.eval x=.slice (some ⟨n,0,none⟩) 1 1)(hc:w.cell? ⟨n,0,none⟩=some (aH q))(hb:l.length<=1000000)(hk:∀v' w',mV v' (l++[q])->Turns F (bH 56 1 v' (l++[q]).length ((l++[q]).map aH)++G) a0 w'->K (a.put o.dst v') w'):o.wp prog a w K Q:=by
 obtain⟨i0,hi0,hz1,hz2,hz3⟩:=info_parts Jf;refine cL s x 96 56 i0 (.pointer none) 1 8 hop underlying96 hi0 hz1 hz2 hz3 rfl Nk v l.length (l.map aH) hs hT hok (some ⟨n,0,none⟩) 1 1 hx [aH q] rfl (fun _=>⟨_,rfl,fun j y hj=>?_⟩) (fun y hy=>by simp at hy;subst hy;rfl) (by unfold maxLen;omega) Nb (fun v' w' h1 h2 _=>?_)
 ·cases j with
  | zero=>simp only[getElem?_cons_zero,NY]at hj;subst hj;rw[Addr.add_lit,Nat.zero_add];exact hc
  | succ j=>simp at hj
 ·exact hk v' w' (by unfold mV;rw[NM,NW];exact h1) (by rw[NM,NW];exact h2)
def Cs(b:Nat)(v:Value)(ps:List Nat)(safe:Int)(q:Nat)(w:World)(e:Ending)(w':World):Prop :=
 e=.returned (.tuple #[])/\∃v',mV v' (ps++[q])/\Turns (gf b v ps safe) (gf b v' (ps++[q]) safe) w w'
theorem qq(b:Nat)(v:Value)(ps:List Nat)(safe:Int)(q:Nat)(w:World)(h:Sat w (gf b v ps safe))(hok:mV v ps)(hl:ps.length<=1000000):
  Calls prog 42 #[.pointer (some ⟨b,0,none⟩),.pointer (some ⟨q,0,none⟩)] w (Cs b v ps safe q w):=by
 have hb:=h.Q5;have c0:w.cell? ⟨b,0,none⟩=some v:=aa hb 0 rfl;have hbl:=ae hb;obtain⟨-,-,sl,cap,hv,-,-⟩:=cT h.tail hok;have HH:=Oz h hok hv;clear h hok hb;rw[hv]at c0;go_enter func42,ntmps42;clear hv;have k0:Turns (gf b v ps safe) (bH 56 1 v ps.length (ps.map aH)++[(b,Is (F6 v safe))]) w w:=(Turns.refl HH.a).to (by unfold gf;exact ac);have HK:=NZ k0;clear k0;go_wp2_with (first|(at_builtin;refine ai rfl ?_;refine zj (.tmp 8) (.tmp 10) rfl v ps HH.y.symm (HK.o.alloc _) HH.b _ q rfl (aa (aM _ _) 0 rfl) hl ?_;intro v2 w2 hok2 hT2;have H2:=Ob hok2 hT2;have b2:=ae (hT2.sat.Q7 (b:=b) (o:=F6 v safe) Nh);obtain⟨e1,e2,-⟩:=cT hT2.sat.left hok2;have H3:=Ob e1 e2;clear e1 e2;clear hok2 hT2)|(refine ai rfl (aX 96 (.tmp 15) (.tmp 13) rfl b 0 #[v,.int .i64 safe] 98 v2 (H2.z.to (H:=(b,Is (F6 v safe))::bH 56 1 v2 (ps++[q]).length ((ps++[q]).map aH)) ac) rfl rfl Nh Nc H3.a H3.z ?_);intro w3 Oa;have HT3:=NZ Oa;clear Oa;simp only[Act.put])|fail);refine bodyPost_end (results_none rfl _ _ _) rfl ⟨rfl,v2,H2.a,?_⟩;exact HT3.o
theorem yI(b:Nat)(v:Value)(ps:List Nat)(safe:Int)(q:Nat)(w:World)(h:Sat w (gf b v (ps++[q]) safe))(hok:mV v (ps++[q])):
  Calls prog 36 #[.pointer (some ⟨b,0,none⟩)] w (fun e w'=>e=.returned (.pointer (some ⟨q,0,none⟩))/\aV w w'):=by
 obtain⟨m,hm⟩:=Na ps.length;have hl:(ps++[q]).length=m+1:=by simp[hm]
 obtain⟨sl,cap,hv,hn1,hn2,hc,-⟩:=bb h.tail hok Nk;obtain⟨g,off,rfl,-⟩:=hc Nh;have s1:IntKind.i64.wrap (m:Int)=(m:Int):=ny Nb Nb
 have key:∀W,Sat W (gf b v (ps++[q]) safe)->W.cell? ⟨b,0,none⟩=some (.slice (some ⟨g,off,none⟩) (m+1) cap)/\W.cell? ⟨g,off+m,none⟩=some (.pointer (some ⟨q,0,none⟩))/\b<W.heap.size:=fun W hW=>by
  obtain⟨sl',cap',hv',-,-,hc',-⟩:=bb hW.tail hok Nk;rw[hv]at hv';simp only[Value.slice.injEq]at hv';obtain⟨rfl,-,rfl⟩:=hv';obtain⟨g',off',hg,hcc⟩:=hc' Nh;simp only[NY,Addr.mk.injEq,and_true]at hg;obtain⟨rfl,rfl⟩:=hg;refine⟨by rw[<- hl,<- hv];exact aa hW.Q5 0 rfl,?_,ae hW.Q5⟩;rw[hcc m Nj];simp[hm,aH]
 have HH:=Ob h key;obtain⟨-,-,hbl⟩:=key w h;clear h hok hc hm hl hv key;go_enter func36,ntmps36;have i1:((m:Int)+1)-1=(m:Int):=Nb
 have i2:(m:Int)<(m:Int)+1:=Nb
 go_upto_region 1 with(fail);have k0:=Turns.refl (Sat.nil w);have HK:=NZ k0;clear k0;refine cH [] [0,1,2,3,4,5,6,7,8,9,10,11,12] HM.o Nc fun W tW=>?_
 simp only[Mix,map_cons,map_nil,nth,QG,QF];have k0:=tW HK.o;clear tW;have HS:=NZ k0.news;obtain⟨c0,c1,-⟩:=HH.z W (HH.a.same HS.o);iterate 9 still_step
 refine cq rfl (v:=.int .i64 m) (by simp[execOp,eqGuard,binOp,Op.intArith,Act.eval,i1,s1]) ?_;simp only[Act.put,QA,QB,QC];repeat still_step
 refine wpStill_nil ?_;clear k0 c0 c1;go_wp2_with fail;go_ret;exact ⟨rfl,HS.o⟩
def vN(o:Pj):Bool:=decide (o.kind=1) || decide (o.kind=9) || decide (o.kind=10) || decide (o.kind=11) || decide (o.kind=12)
theorem vM(o:Pj)(hd:o.dv.oneCell'=true)(w:World):
  Calls prog 35 #[.agg (QI o).toArray] w (fun e w'=>e=.returned (.bool (vN o))/\aV w w'):=by
 have HH:=NZ hd;unfold QI;obtain⟨k,hk⟩:=Na o.kind;have HC:Hid (vN o=(decide (k=1) || decide (k=9) || decide (k=10) || decide (k=11) || decide (k=12))):=NZ (by rw[hk];rfl);rw[<- hk];clear hk hd;go_enter func35,ntmps35;go_wp2_with fail;all_goals go_ret;refine ⟨?_,(N7.refl _ _).alloc _⟩
 all_goals rw[HC.o]
 all_goals first
  | (simp[*];done)
  | (congr 3;simp[Bool.beq_eq_decide_eq])
  | (simp only[Ending.returned.injEq];simp[BEq.beq])
def qx(Q:Int):Nat:=(IntKind.u64.wrap Q).toNat%1000000
def kn(r:Nat)(q:Int):Oh:=⟨r,.slice none 0 0,[],.slice none 0 0,[],q,false⟩
def Ih(n:Nat)(Q:Int)(w:World)(e:Ending)(w':World):Prop :=
 ∃x b v r d L,e=.returned (aH x)/\mV v [r]/\Ou L/\L.n=n/\L.now=an (128*n)/\L.N8=[]/\Turns [] ((x,Is (br (aH d) (.pointer none) (qx Q) b))::(gf b v [r] 0++((r,Is (fL (kn r (qx Q))))::aA d L))) w w'
theorem sC(Q:Int):0<=IntKind.u64.wrap Q/\IntKind.u64.wrap Q<18446744073709551616:=by
 unfold IntKind.wrap;simp[show IntKind.u64.bits=64 from rfl,show IntKind.u64.signed=false from rfl];omega
theorem D5(n:Nat)(Q:Int)(hn:n<=1099511627776)(w:World):Calls prog 29 #[.int .i64 n,.int .i64 Q] w (Ih n Q w):=by
 obtain⟨h1,h2⟩:=sC Q;obtain⟨c,hc⟩:=Na ((IntKind.u64.wrap Q).toNat:Nat);obtain⟨q,hq⟩:=Na (qx Q:Nat);have hqc:q=c%1000000:=by rw[hq,hc];rfl
 have s0:IntKind.u64.wrap Q=(c:Int):=Nb
 have s1:(c:Int).tmod 1000000=(q:Int):=by rw[Int.tmod_eq_emod_of_nonneg Nb,hqc];omega
 have s2:IntKind.u64.wrap (q:Int)=(q:Int):=iQ Nb Nb;have s3:IntKind.i64.wrap (q:Int)=(q:Int):=ny Nb Nb;have HQ:=NZ hq;clear h1 h2 hc hq hqc;go_enter func29,ntmps29;go_wp2_with fail;have e0:(w.alloc (F6 (.slice none 0 0) 0)).heap.size=w.heap.size+1:=Nh
 have hT0:=((Turns.refl (Sat.nil w)).Q9 (F6 (.slice none 0 0) 0)).Q9 (fL (kn (w.heap.size+1) q));rw[e0]at hT0;have HA:=NZ (qq w.heap.size (.slice none 0 0) [] 0 (w.heap.size+1) _ (show Sat _ (gf w.heap.size (.slice none 0 0) [] 0)from hT0.sat.tail) ⟨rfl,fun _=>⟨rfl,rfl⟩⟩ Nh);obtain⟨b,hb⟩:=Na w.heap.size;have HT0:=NZ hT0;clear hT0 e0;refine HA.o.mono ?_;rintro e w1 ⟨rfl,v1,hok1,hT1⟩;simp only[nil_append]at hok1 hT1;rw[<- hb]at hT1 HT0 ⊢;have hT1:=HT0.o.step (F:=gf b (.slice none 0 0) [] 0) (R:=[(b+1,Is (fL (kn (b+1) q)))]) (Perm.swap _ _ _) hT1;have HN:=NZ (jC n hn w1);have H1:=Ob hok1 hT1;clear hok1 hT1 hb HA HT0;go_wp2_with fail;refine HN.o.mono ?_;rintro e w2 ⟨d,L,rfl,hT2,hL,hLn,OY,hch⟩;have hT2:=H1.z.Qb hT2;have H2:=PD hT2 hL hLn OY hch;clear hT2 hL hLn OY hch;go_wp2_with fail;have Oa:=H2.a.Q9 (br (aH d) (.pointer none) q b);go_ret;refine ⟨w2.heap.size,b,v1,b+1,d,L,rfl,H1.a,H2.b,H2.c,H2.d,H2.w,?_⟩;rw[<- HQ.o];exact Oa.to ac
def yc(good:Nat->Prop)(least m:Nat)(r:Int):Prop:=-1<=r/\r<m/\(r=-1->∀n,least<=n->n<m->¬good n)
theorem I7{W:World}{b:Nat}{v:Value}{ps:List Nat}{safe:Int}(h:Sat W (gf b v ps safe))(hok:mV v ps):∃sl cap,v=.slice sl ps.length cap/\ps.length<=cap/\cap<=9223372036854775807/\W.cell? ⟨b,0,none⟩=some v/\W.cell? ⟨b,1,none⟩=some (.int .i64 safe)/\b<W.heap.size /\
  ∀n p,ps[n]?=some p->∃g off,sl=some ⟨g,off,none⟩/\W.cell? ⟨g,off+n,none⟩=some (.pointer (some ⟨p,0,none⟩)):=by
 obtain⟨sl,cap,hv,h1,h2,hc,-⟩:=bb h.tail hok Nk;refine⟨sl,cap,hv,h1,h2,aa h.Q5 0 rfl,aa h.Q5 1 rfl,ae h.Q5,fun n p hp=>?_⟩;obtain⟨hn,hp⟩:=List.getElem?_eq_some_iff.1 hp;obtain⟨g,off,hg,hcc⟩:=hc Np;refine⟨g,off,hg,?_⟩;rw[hcc n (by rw[NP];exact hn)];simp[aH,hp]
theorem yU(b:Nat)(v:Value)(ps:List Nat)(safe:Int)(a:Value)(least:Nat)(corrupt:Bool)(I:World->Prop)(good:Nat->Prop)(hI:∀W,I W->Sat W (gf b v ps safe))(hok:mV v ps)(hL:∀W n p,I W->ps[n]?=some p->Calls prog 40 #[a,.pointer (some ⟨p,0,none⟩),.bool corrupt] W (fun e w'=>∃z,e=.returned (.bool z)/\(good n->z=true)/\I w'))(w:World)(h:I w)(hl:ps.length<=1000000)(hl2:least<=1000000):
  Calls prog 45 #[.pointer (some ⟨b,0,none⟩),a,.int .i64 least,.bool corrupt] w (fun e w'=>∃r,e=.returned (.int .i64 r)/\yc good least ps.length r/\I w'):=by
 obtain⟨sl,cap,hv,-,-,c0,-,hbl,-⟩:=I7 (hI w h) hok;rw[hv]at c0;obtain⟨m,hm⟩:=Na ps.length;have HH:=PD hI hok hL hm hv;have HI:=NZ h;rw[<- hm]at c0 hl ⊢;clear hI hok hL h hm hv;have s1:IntKind.i64.wrap ((m:Int)-1)=(m:Int)-1:=ny Nb Nb;go_enter func45,ntmps45;go_wp2_with fail;go_loopw [9] (fun i wr=>∃k:Nat,k<=m/\i=.int .i64 ((k:Int)-1)/\(∀n,least<=n->k<=n->n<m->¬good n)/\I wr) (fun i _=>(intOf i+1).toNat)
 case atStart=>exact⟨m,Nat.le_refl _,by go_num,fun n _ h1 h2=>by omega,HI.o⟩
 case round =>
  obtain⟨k,hk,rfl,hpre,Zk⟩:=hrel;by_cases hlt:k<=least
  ·have i1:¬((k:Int)-1≥(least:Int)):=Nb
   have HE:=Ob (show yc good least m (-1)from⟨Nb,Nb,fun _ n h1 h2=>hpre n h1 Nb h2⟩) Zk;clear hpre Zk hlt;go_wp2_with fail;go_ret;refine ⟨-1,rfl,HE.a,HE.z⟩
  ·obtain⟨n,rfl⟩:∃n,k=n+1:=⟨k-1,Nb⟩;have e1:((n+1:Nat):Int)-1=(n:Int):=Nb
   rw[e1];have i1:(n:Int)≥(least:Int):=Nb
   obtain⟨p,hp⟩:∃p,ps[n]?=some p:=⟨_,getElem?_eq_getElem (by rw[<- HH.d];omega)⟩;obtain⟨sl2,cap2,hv2,-,-,c0,-,Vf,hcc⟩:=I7 (HH.a wr Zk) HH.b;rw[HH.w]at hv2;simp only[Value.slice.injEq,true_and]at hv2;obtain⟨rfl,rfl⟩:=hv2;rw[HH.w,<- HH.d]at c0;obtain⟨g,off,rfl,c1⟩:=hcc n p hp;have i2:(n:Int)<(m:Int):=Nb
   have s2:IntKind.i64.wrap ((n:Int)-1)=(n:Int)-1:=ny Nb Nb;have HL:=NZ (HH.c wr n p Zk hp);have HP:=NZ hpre;clear hpre Zk hcc hp e1;go_wp2_with fail;refine HL.o.mono ?_;rintro e w2 ⟨z,rfl,hgz,hI2⟩;have HI2:=Ob hI2 hgz;clear hI2 hgz
   cases z with
   | true =>
    go_wp2_with fail;go_ret;refine ⟨(n:Int),rfl,⟨Nb,Nb,fun h=>by omega⟩,HI2.a⟩
   | false =>
    have HP2:=NZ (show ∀j,least<=j->n<=j->j<m->¬good j from fun j h1 h2 h3 hg=>by
     rcases Nat.eq_or_lt_of_le h2 with h4|h4
     ·subst h4;exact absurd (HI2.z hg) Nk
     ·exact HP.o j h1 h4 h3 hg)
    go_wp2_with fail;go_roundw
    case rel=>exact⟨n,Nb,by go_num,HP2.o,HI2.a⟩
    case measure=>simp[intOf]
end
section
end
section
open Go.RowKit Go.Maps
end
section
open Go.RowKit Go.Maps
def LN(R:Oh)(P:cU)(Ψ:Int->Oh->cU->Prop)(W:World)(n:Int)(w':World):Prop:=∃R' P',Ψ n R' P'/\Turns (aC R++ay P) (aC R'++ay P') W w'
def pK(w0:World)(R:Oh)(P:cU)(Ψ:Int->Oh->cU->Prop)(f:FuncId)(args:Array Value)(two:Bool):Prop :=
 ∀W G,Turns [] ((aC R++ay P)++G) w0 W->Calls prog f args W (fun e w'=>∃k n,e=.returned (if two then .tuple #[.int .i64 k,.int .i64 n]else .int .i64 n)/\LN R P Ψ W n w')
theorem ze(R:Oh)(P:cU)(o:Pj)(G:HF)(w0 W:World)(h:Turns [] ((aC R++ay P)++G) w0 W)(hdv:o.dv.oneCell'=true)(hdc:o.dv.cells=#[o.dv])(Ψ:Int->Oh->cU->Prop)(h1:o.kind=1->pK w0 R P Ψ 60 #[.pointer (some ⟨R.blk,0,none⟩),str o.s,o.dv] true)(h9:o.kind=9->pK w0 R P Ψ 63 #[.pointer (some ⟨R.blk,0,none⟩),str o.s,.int .i64 o.a] false)(h10:o.kind=10->pK w0 R P Ψ 65 #[.pointer (some ⟨R.blk,0,none⟩),str o.s,.int .i64 o.a] true)(h11:o.kind=11->pK w0 R P Ψ 67 #[.pointer (some ⟨R.blk,0,none⟩),str o.t,str o.s,.int .i64 o.a] false)(h12:o.kind=12->pK w0 R P Ψ 69 #[.pointer (some ⟨R.blk,0,none⟩),str o.t] false)(h0:¬o.kind=1->¬o.kind=9->¬o.kind=10->¬o.kind=11->¬o.kind=12->Ψ 0 R P):
  Calls prog 38 #[.pointer (some ⟨R.blk,0,none⟩),PG o] W (fun e w'=>∃n R' P',e=.returned (.int .i64 n)/\Ψ n R' P'/\Turns [] ((aC R'++ay P')++G) w0 w'):=by
 have HH:=Ry h h1 h9 h10 h11 h12 h0;have HD:=Ob hdv hdc;obtain⟨ok,oa,Ot,oc,os,ot,OA,od⟩:=o;clear h h1 h9 h10 h11 h12 h0;unfold PG QI;simp only at hdv hdc ⊢;go_enter func38,ntmps38;by_cases q1:ok=1
 ·subst q1;have hT1:Turns [] ((aC R++ay P)++((W.heap.size,Is (oO ⟨1,oa,Ot,oc,os,ot,OA,od⟩))::G)) w0 (W.alloc (.cells #[.int .i64 1,.int .i64 oa,.int .i64 Ot,.int .i64 oc,str os,str ot,OA] 65)):=(HH.a.Q9 (oO ⟨1,oa,Ot,oc,os,ot,OA,od⟩)).to ac;have HC:=NZ (HH.b rfl _ _ hT1);have HT1:=NZ hT1;clear hT1;go_wp2_with fail;refine HC.o.mono ?_;rintro e W2 ⟨k,n,he,R',P',P8,hG⟩;have he:e=.returned (.tuple #[.int .i64 k,.int .i64 n]):=he;subst he;have hT2:=HT1.o.step (Perm.refl _) hG;have H2:=Ob P8 (hT2.drop (H:=(aC R'++ay P')++G) (fun x=>by simp only[af,ao];omega));clear hT2 P8 hG;go_wp2_with fail;go_ret;exact⟨n,R',P',rfl,H2.a,H2.z⟩
 by_cases q9:ok=9
 ·subst q9;have hT1:Turns [] ((aC R++ay P)++((W.heap.size,Is (oO ⟨9,oa,Ot,oc,os,ot,OA,od⟩))::G)) w0 (W.alloc (.cells #[.int .i64 9,.int .i64 oa,.int .i64 Ot,.int .i64 oc,str os,str ot,OA] 65)):=(HH.a.Q9 (oO ⟨9,oa,Ot,oc,os,ot,OA,od⟩)).to ac;have HC:=NZ (HH.c rfl _ _ hT1);have HT1:=NZ hT1;clear hT1;go_wp2_with fail;refine HC.o.mono ?_;rintro e W2 ⟨k,n,he,R',P',P8,hG⟩;have he:e=.returned (.int .i64 n):=he;subst he;have hT2:=HT1.o.step (Perm.refl _) hG;have H2:=Ob P8 (hT2.drop (H:=(aC R'++ay P')++G) (fun x=>by simp only[af,ao];omega));clear hT2 P8 hG;go_wp2_with fail;go_ret;exact⟨n,R',P',rfl,H2.a,H2.z⟩
 by_cases q10:ok=10
 ·subst q10;have hT1:Turns [] ((aC R++ay P)++((W.heap.size,Is (oO ⟨10,oa,Ot,oc,os,ot,OA,od⟩))::G)) w0 (W.alloc (.cells #[.int .i64 10,.int .i64 oa,.int .i64 Ot,.int .i64 oc,str os,str ot,OA] 65)):=(HH.a.Q9 (oO ⟨10,oa,Ot,oc,os,ot,OA,od⟩)).to ac;have HC:=NZ (HH.d rfl _ _ hT1);have HT1:=NZ hT1;clear hT1;go_wp2_with fail;refine HC.o.mono ?_;rintro e W2 ⟨k,n,he,R',P',P8,hG⟩;have he:e=.returned (.tuple #[.int .i64 k,.int .i64 n]):=he;subst he;have hT2:=HT1.o.step (Perm.refl _) hG;have H2:=Ob P8 (hT2.drop (H:=(aC R'++ay P')++G) (fun x=>by simp only[af,ao];omega));clear hT2 P8 hG;go_wp2_with fail;go_ret;exact⟨n,R',P',rfl,H2.a,H2.z⟩
 by_cases q11:ok=11
 ·subst q11;have hT1:Turns [] ((aC R++ay P)++((W.heap.size,Is (oO ⟨11,oa,Ot,oc,os,ot,OA,od⟩))::G)) w0 (W.alloc (.cells #[.int .i64 11,.int .i64 oa,.int .i64 Ot,.int .i64 oc,str os,str ot,OA] 65)):=(HH.a.Q9 (oO ⟨11,oa,Ot,oc,os,ot,OA,od⟩)).to ac;have HC:=NZ (HH.e rfl _ _ hT1);have HT1:=NZ hT1;clear hT1;go_wp2_with fail;refine HC.o.mono ?_;rintro e W2 ⟨k,n,he,R',P',P8,hG⟩;have he:e=.returned (.int .i64 n):=he;subst he;have hT2:=HT1.o.step (Perm.refl _) hG;have H2:=Ob P8 (hT2.drop (H:=(aC R'++ay P')++G) (fun x=>by simp only[af,ao];omega));clear hT2 P8 hG;go_wp2_with fail;go_ret;exact⟨n,R',P',rfl,H2.a,H2.z⟩
 by_cases q12:ok=12
 ·subst q12;have hT1:Turns [] ((aC R++ay P)++((W.heap.size,Is (oO ⟨12,oa,Ot,oc,os,ot,OA,od⟩))::G)) w0 (W.alloc (.cells #[.int .i64 12,.int .i64 oa,.int .i64 Ot,.int .i64 oc,str os,str ot,OA] 65)):=(HH.a.Q9 (oO ⟨12,oa,Ot,oc,os,ot,OA,od⟩)).to ac;have HC:=NZ (HH.f rfl _ _ hT1);have HT1:=NZ hT1;clear hT1;go_wp2_with fail;refine HC.o.mono ?_;rintro e W2 ⟨k,n,he,R',P',P8,hG⟩;have he:e=.returned (.int .i64 n):=he;subst he;have hT2:=HT1.o.step (Perm.refl _) hG;have H2:=Ob P8 (hT2.drop (H:=(aC R'++ay P')++G) (fun x=>by simp only[af,ao];omega));clear hT2 P8 hG;go_wp2_with fail;go_ret;exact⟨n,R',P',rfl,H2.a,H2.z⟩
 have hT1:Turns [] ((aC R++ay P)++G) w0 (W.alloc (.cells #[.int .i64 ok,.int .i64 oa,.int .i64 Ot,.int .i64 oc,str os,str ot,OA] 65)):=HH.a.alloc _;have H1:=Ob (HH.u q1 q9 q10 q11 q12) hT1;clear hT1;go_wp2_with fail;go_ret;exact⟨0,rfl,R,P,H1.a,by have:=H1.z;rw[NV]at this;exact this⟩
def ir(w0:World)(S:AS)(Φ:Int->AS->Prop)(f:FuncId)(args:Array Value)(two:Bool):Prop :=
 ∀W G,Turns [] (N9 S++G) w0 W->Calls prog f args W (fun e w'=>∃k ev n S',e=.returned (if two then .tuple #[.int .i64 k,ev]else ev)/\oP ev n/\Φ n S'/\Turns (N9 S) (N9 S') W w')
def MR(w0:World)(S:AS)(o:Pj)(Φ:Int->AS->Prop):Prop :=
 (o.kind=1->ir w0 S Φ 25 #[.pointer (some ⟨S.a,0,none⟩),str o.s,o.dv] true) /\
 (o.kind=9->ir w0 S Φ 62 #[.pointer (some ⟨S.a,0,none⟩),str o.s,.int .i64 o.a] false) /\
 (o.kind=10->ir w0 S Φ 64 #[.pointer (some ⟨S.a,0,none⟩),str o.s,.int .i64 o.a] true) /\
 (o.kind=11->ir w0 S Φ 66 #[.pointer (some ⟨S.a,0,none⟩),str o.t,str o.s,.int .i64 o.a] false) /\
 (o.kind=12->ir w0 S Φ 68 #[.pointer (some ⟨S.a,0,none⟩),str o.t] false) /\
 (o.kind=6->ir w0 S Φ 47 #[.pointer (some ⟨S.a,0,none⟩)] false) /\
 (o.kind=14->ir w0 S Φ 71 #[.pointer (some ⟨S.a,0,none⟩)] false) /\
 (¬o.kind=1->¬o.kind=9->¬o.kind=10->¬o.kind=11->¬o.kind=12->¬o.kind=6->¬o.kind=14->Φ 0 S)
def kW(w0:World)(Φ:Int->AS->Prop)(x:Nat)(so:Obj)(G:HF)(e:Ending)(w':World):Prop :=
 ∃n S',e=.returned (.int .i64 n)/\Φ n S'/\Turns [] (N9 S'++((x,Is so)::G)) w0 w'
theorem Aw(S:AS)(x:Nat)(dp:Value)(q:Int)(hb:Nat)(o:Pj)(G:HF)(w0 W:World)(hk:o.kind=1)(h:Turns [] (N9 S++((x,Is (br dp (aH S.a) q hb))::G)) w0 W)(hdv:o.dv.oneCell'=true)(hdc:o.dv.cells=#[o.dv])(Φ:Int->AS->Prop)(hE:bh w0)(hD:ir w0 S Φ 25 #[.pointer (some ⟨S.a,0,none⟩),str o.s,o.dv] true):
  Calls prog 39 #[.pointer (some ⟨x,0,none⟩),PG o] W (kW w0 Φ x (br dp (aH S.a) q hb) G):=by
 obtain⟨ok,oa,Ot,oc,os,ot,OA,od⟩:=o;simp only at hk hdv hdc hD;subst hk;have HH:=Oz h hE hD;have HD:=Ob hdv hdc;clear h hE hD;unfold PG QI;go_enter func39,ntmps39;go_upto_region 4 with(fail);obtain⟨ob,hob⟩:=Na W.heap.size
 have hT1:Turns [] (N9 S++((ob,Is (oO ⟨1,oa,Ot,oc,os,ot,OA,od⟩))::(x,Is (br dp (aH S.a) q hb))::G)) w0 (W.alloc (.cells #[.int .i64 1,.int .i64 oa,.int .i64 Ot,.int .i64 oc,str os,str ot,OA] 65)):=by
  rw[hob];exact(HH.a.Q9 (oO ⟨1,oa,Ot,oc,os,ot,OA,od⟩)).to (H:=N9 S++((W.heap.size,Is (oO ⟨1,oa,Ot,oc,os,ot,OA,od⟩))::(x,Is (br dp (aH S.a) q hb))::G)) ac
 rw[<- hob];generalize W.alloc (.cells #[.int .i64 1,.int .i64 oa,.int .i64 Ot,.int .i64 oc,str os,str ot,OA] 65)=W1 at hT1 ⊢;have hx:W1.heap[x]?=some (br dp (aH S.a) q hb):=hT1.sat.Q7 Nh;have ho:W1.heap[ob]?=some (oO ⟨1,oa,Ot,oc,os,ot,OA,od⟩):=hT1.sat.Q7 Nh;have u1:W1.cell? ⟨x,1,none⟩=some (.pointer (some ⟨S.a,0,none⟩)):=aa hx 1 rfl;have o1:W1.cell? ⟨ob,1,none⟩=some (.int .i64 oa):=aa ho 1 rfl;have o4:W1.cell? ⟨ob,4,none⟩=some (str os):=aa ho 4 rfl;have o5:W1.cell? ⟨ob,5,none⟩=some (str ot):=aa ho 5 rfl;have o6:W1.cell? ⟨ob,6,none⟩=some OA:=aa ho 6 rfl;have xl:=ae hx;have ol:=ae ho;have HT1:=NZ hT1;clear hT1 hob hx ho;refine aF 8 HM.o Nc rfl ?_;simp only[QE,take_zero];repeat still_step
 refine wpStill_nil ?_;have HO:=NZ (HH.y W1.drew _ HT1.o.drew);refine aO Nc HO.o ?_;rintro e W3 ⟨k,ev,n,S',he,hev,Rf,hG⟩;have he:e=.returned (.tuple #[.int .i64 k,ev]):=he;subst he;refine⟨_,rfl,?_⟩;simp only[Act.put,QA,QB,QC,QD,drop_zero];repeat still_step
 refine wpStill_nil ?_;have Oa:=HT1.o.drew.step (Perm.refl _) hG;have PX:=NZ (bc ev n W3 (HH.b.keep Oa.mods (fun h=>by simp at h)) (hev.is W3));have HT3:=Ob Oa Rf;clear Oa Rf hev hG u1 o1 o4 o5 o6;go_wp2_with fail;refine PX.o.mono ?_;rintro e W4 ⟨rfl,hs4⟩;have Oj:=((HT3.a.Q8 hs4).drop (H:=N9 S'++((x,Is (br dp (aH S.a) q hb))::G)) (fun y=>by simp only[af,ao];omega));have HT4:=NZ Oj;clear Oj hs4;go_wp2_with fail;go_ret;exact⟨n,S',rfl,HT3.z,HT4.o⟩
theorem uf(S:AS)(x:Nat)(dp:Value)(q:Int)(hb:Nat)(o:Pj)(G:HF)(w0 W:World)(hk:o.kind=9)(h:Turns [] (N9 S++((x,Is (br dp (aH S.a) q hb))::G)) w0 W)(hdv:o.dv.oneCell'=true)(hdc:o.dv.cells=#[o.dv])(Φ:Int->AS->Prop)(hE:bh w0)(hD:ir w0 S Φ 62 #[.pointer (some ⟨S.a,0,none⟩),str o.s,.int .i64 o.a] false):
  Calls prog 39 #[.pointer (some ⟨x,0,none⟩),PG o] W (kW w0 Φ x (br dp (aH S.a) q hb) G):=by
 obtain⟨ok,oa,Ot,oc,os,ot,OA,od⟩:=o;simp only at hk hdv hdc hD;subst hk;have HH:=Oz h hE hD;have HD:=Ob hdv hdc;clear h hE hD;unfold PG QI;go_enter func39,ntmps39;go_upto_region 6 with(fail);obtain⟨ob,hob⟩:=Na W.heap.size
 have hT1:Turns [] (N9 S++((ob,Is (oO ⟨9,oa,Ot,oc,os,ot,OA,od⟩))::(x,Is (br dp (aH S.a) q hb))::G)) w0 (W.alloc (.cells #[.int .i64 9,.int .i64 oa,.int .i64 Ot,.int .i64 oc,str os,str ot,OA] 65)):=by
  rw[hob];exact(HH.a.Q9 (oO ⟨9,oa,Ot,oc,os,ot,OA,od⟩)).to (H:=N9 S++((W.heap.size,Is (oO ⟨9,oa,Ot,oc,os,ot,OA,od⟩))::(x,Is (br dp (aH S.a) q hb))::G)) ac
 rw[<- hob];generalize W.alloc (.cells #[.int .i64 9,.int .i64 oa,.int .i64 Ot,.int .i64 oc,str os,str ot,OA] 65)=W1 at hT1 ⊢;have hx:W1.heap[x]?=some (br dp (aH S.a) q hb):=hT1.sat.Q7 Nh;have ho:W1.heap[ob]?=some (oO ⟨9,oa,Ot,oc,os,ot,OA,od⟩):=hT1.sat.Q7 Nh;have u1:W1.cell? ⟨x,1,none⟩=some (.pointer (some ⟨S.a,0,none⟩)):=aa hx 1 rfl;have o1:W1.cell? ⟨ob,1,none⟩=some (.int .i64 oa):=aa ho 1 rfl;have o4:W1.cell? ⟨ob,4,none⟩=some (str os):=aa ho 4 rfl;have o5:W1.cell? ⟨ob,5,none⟩=some (str ot):=aa ho 5 rfl;have o6:W1.cell? ⟨ob,6,none⟩=some OA:=aa ho 6 rfl;have xl:=ae hx;have ol:=ae ho;have HT1:=NZ hT1;clear hT1 hob hx ho;refine wp_region_still_tail 8 HM.o Nc ?_;simp only[QE,take_zero,QD,drop_zero];repeat still_step
 refine wpStill_nil ?_;change wpList _ _ _ _ _ W1.drew;have HO:=NZ (HH.y W1.drew _ HT1.o.drew);go_wp2_with fail;refine HO.o.mono ?_;rintro e W3 ⟨k,ev,n,S',he,hev,Rf,hG⟩;have he:e=.returned ev:=he;subst he;have Oa:=HT1.o.drew.step (Perm.refl _) hG;have PX:=NZ (bc ev n W3 (HH.b.keep Oa.mods (fun h=>by simp at h)) (hev.is W3));have HT3:=Ob Oa Rf;clear Oa Rf hev hG u1 o1 o4 o5 o6;go_wp2_with fail;refine PX.o.mono ?_;rintro e W4 ⟨rfl,hs4⟩;have Oj:=((HT3.a.Q8 hs4).drop (H:=N9 S'++((x,Is (br dp (aH S.a) q hb))::G)) (fun y=>by simp only[af,ao];omega));have HT4:=NZ Oj;clear Oj hs4;go_wp2_with fail;go_ret;exact⟨n,S',rfl,HT3.z,HT4.o⟩
theorem vP(S:AS)(x:Nat)(dp:Value)(q:Int)(hb:Nat)(o:Pj)(G:HF)(w0 W:World)(hk:o.kind=10)(h:Turns [] (N9 S++((x,Is (br dp (aH S.a) q hb))::G)) w0 W)(hdv:o.dv.oneCell'=true)(hdc:o.dv.cells=#[o.dv])(Φ:Int->AS->Prop)(hE:bh w0)(hD:ir w0 S Φ 64 #[.pointer (some ⟨S.a,0,none⟩),str o.s,.int .i64 o.a] true):
  Calls prog 39 #[.pointer (some ⟨x,0,none⟩),PG o] W (kW w0 Φ x (br dp (aH S.a) q hb) G):=by
 obtain⟨ok,oa,Ot,oc,os,ot,OA,od⟩:=o;simp only at hk hdv hdc hD;subst hk;have HH:=Oz h hE hD;have HD:=Ob hdv hdc;clear h hE hD;unfold PG QI;go_enter func39,ntmps39;go_upto_region 8 with(fail);obtain⟨ob,hob⟩:=Na W.heap.size
 have hT1:Turns [] (N9 S++((ob,Is (oO ⟨10,oa,Ot,oc,os,ot,OA,od⟩))::(x,Is (br dp (aH S.a) q hb))::G)) w0 (W.alloc (.cells #[.int .i64 10,.int .i64 oa,.int .i64 Ot,.int .i64 oc,str os,str ot,OA] 65)):=by
  rw[hob];exact(HH.a.Q9 (oO ⟨10,oa,Ot,oc,os,ot,OA,od⟩)).to (H:=N9 S++((W.heap.size,Is (oO ⟨10,oa,Ot,oc,os,ot,OA,od⟩))::(x,Is (br dp (aH S.a) q hb))::G)) ac
 rw[<- hob];generalize W.alloc (.cells #[.int .i64 10,.int .i64 oa,.int .i64 Ot,.int .i64 oc,str os,str ot,OA] 65)=W1 at hT1 ⊢;have hx:W1.heap[x]?=some (br dp (aH S.a) q hb):=hT1.sat.Q7 Nh;have ho:W1.heap[ob]?=some (oO ⟨10,oa,Ot,oc,os,ot,OA,od⟩):=hT1.sat.Q7 Nh;have u1:W1.cell? ⟨x,1,none⟩=some (.pointer (some ⟨S.a,0,none⟩)):=aa hx 1 rfl;have o1:W1.cell? ⟨ob,1,none⟩=some (.int .i64 oa):=aa ho 1 rfl;have o4:W1.cell? ⟨ob,4,none⟩=some (str os):=aa ho 4 rfl;have o5:W1.cell? ⟨ob,5,none⟩=some (str ot):=aa ho 5 rfl;have o6:W1.cell? ⟨ob,6,none⟩=some OA:=aa ho 6 rfl;have xl:=ae hx;have ol:=ae ho;have HT1:=NZ hT1;clear hT1 hob hx ho;refine aF 8 HM.o Nc rfl ?_;simp only[QE,take_zero];repeat still_step
 refine wpStill_nil ?_;have HO:=NZ (HH.y W1.drew _ HT1.o.drew);refine aO Nc HO.o ?_;rintro e W3 ⟨k,ev,n,S',he,hev,Rf,hG⟩;have he:e=.returned (.tuple #[.int .i64 k,ev]):=he;subst he;refine⟨_,rfl,?_⟩;simp only[Act.put,QA,QB,QC,QD,drop_zero];repeat still_step
 refine wpStill_nil ?_;have Oa:=HT1.o.drew.step (Perm.refl _) hG;have PX:=NZ (bc ev n W3 (HH.b.keep Oa.mods (fun h=>by simp at h)) (hev.is W3));have HT3:=Ob Oa Rf;clear Oa Rf hev hG u1 o1 o4 o5 o6;go_wp2_with fail;refine PX.o.mono ?_;rintro e W4 ⟨rfl,hs4⟩;have Oj:=((HT3.a.Q8 hs4).drop (H:=N9 S'++((x,Is (br dp (aH S.a) q hb))::G)) (fun y=>by simp only[af,ao];omega));have HT4:=NZ Oj;clear Oj hs4;go_wp2_with fail;go_ret;exact⟨n,S',rfl,HT3.z,HT4.o⟩
theorem Ax(S:AS)(x:Nat)(dp:Value)(q:Int)(hb:Nat)(o:Pj)(G:HF)(w0 W:World)(hk:o.kind=11)(h:Turns [] (N9 S++((x,Is (br dp (aH S.a) q hb))::G)) w0 W)(hdv:o.dv.oneCell'=true)(hdc:o.dv.cells=#[o.dv])(Φ:Int->AS->Prop)(hE:bh w0)(hD:ir w0 S Φ 66 #[.pointer (some ⟨S.a,0,none⟩),str o.t,str o.s,.int .i64 o.a] false):
  Calls prog 39 #[.pointer (some ⟨x,0,none⟩),PG o] W (kW w0 Φ x (br dp (aH S.a) q hb) G):=by
 obtain⟨ok,oa,Ot,oc,os,ot,OA,od⟩:=o;simp only at hk hdv hdc hD;subst hk;have HH:=Oz h hE hD;have HD:=Ob hdv hdc;clear h hE hD;unfold PG QI;go_enter func39,ntmps39;go_upto_region 10 with(fail);obtain⟨ob,hob⟩:=Na W.heap.size
 have hT1:Turns [] (N9 S++((ob,Is (oO ⟨11,oa,Ot,oc,os,ot,OA,od⟩))::(x,Is (br dp (aH S.a) q hb))::G)) w0 (W.alloc (.cells #[.int .i64 11,.int .i64 oa,.int .i64 Ot,.int .i64 oc,str os,str ot,OA] 65)):=by
  rw[hob];exact(HH.a.Q9 (oO ⟨11,oa,Ot,oc,os,ot,OA,od⟩)).to (H:=N9 S++((W.heap.size,Is (oO ⟨11,oa,Ot,oc,os,ot,OA,od⟩))::(x,Is (br dp (aH S.a) q hb))::G)) ac
 rw[<- hob];generalize W.alloc (.cells #[.int .i64 11,.int .i64 oa,.int .i64 Ot,.int .i64 oc,str os,str ot,OA] 65)=W1 at hT1 ⊢;have hx:W1.heap[x]?=some (br dp (aH S.a) q hb):=hT1.sat.Q7 Nh;have ho:W1.heap[ob]?=some (oO ⟨11,oa,Ot,oc,os,ot,OA,od⟩):=hT1.sat.Q7 Nh;have u1:W1.cell? ⟨x,1,none⟩=some (.pointer (some ⟨S.a,0,none⟩)):=aa hx 1 rfl;have o1:W1.cell? ⟨ob,1,none⟩=some (.int .i64 oa):=aa ho 1 rfl;have o4:W1.cell? ⟨ob,4,none⟩=some (str os):=aa ho 4 rfl;have o5:W1.cell? ⟨ob,5,none⟩=some (str ot):=aa ho 5 rfl;have o6:W1.cell? ⟨ob,6,none⟩=some OA:=aa ho 6 rfl;have xl:=ae hx;have ol:=ae ho;have HT1:=NZ hT1;clear hT1 hob hx ho;refine wp_region_still_tail 10 HM.o Nc ?_;simp only[QE,take_zero,QD,drop_zero];repeat still_step
 refine wpStill_nil ?_;change wpList _ _ _ _ _ W1.drew;have HO:=NZ (HH.y W1.drew _ HT1.o.drew);go_wp2_with fail;refine HO.o.mono ?_;rintro e W3 ⟨k,ev,n,S',he,hev,Rf,hG⟩;have he:e=.returned ev:=he;subst he;have Oa:=HT1.o.drew.step (Perm.refl _) hG;have PX:=NZ (bc ev n W3 (HH.b.keep Oa.mods (fun h=>by simp at h)) (hev.is W3));have HT3:=Ob Oa Rf;clear Oa Rf hev hG u1 o1 o4 o5 o6;go_wp2_with fail;refine PX.o.mono ?_;rintro e W4 ⟨rfl,hs4⟩;have Oj:=((HT3.a.Q8 hs4).drop (H:=N9 S'++((x,Is (br dp (aH S.a) q hb))::G)) (fun y=>by simp only[af,ao];omega));have HT4:=NZ Oj;clear Oj hs4;go_wp2_with fail;go_ret;exact⟨n,S',rfl,HT3.z,HT4.o⟩
theorem vQ(S:AS)(x:Nat)(dp:Value)(q:Int)(hb:Nat)(o:Pj)(G:HF)(w0 W:World)(hk:o.kind=12)(h:Turns [] (N9 S++((x,Is (br dp (aH S.a) q hb))::G)) w0 W)(hdv:o.dv.oneCell'=true)(hdc:o.dv.cells=#[o.dv])(Φ:Int->AS->Prop)(hE:bh w0)(hD:ir w0 S Φ 68 #[.pointer (some ⟨S.a,0,none⟩),str o.t] false):
  Calls prog 39 #[.pointer (some ⟨x,0,none⟩),PG o] W (kW w0 Φ x (br dp (aH S.a) q hb) G):=by
 obtain⟨ok,oa,Ot,oc,os,ot,OA,od⟩:=o;simp only at hk hdv hdc hD;subst hk;have HH:=Oz h hE hD;have HD:=Ob hdv hdc;clear h hE hD;unfold PG QI;go_enter func39,ntmps39;go_upto_region 12 with(fail);obtain⟨ob,hob⟩:=Na W.heap.size
 have hT1:Turns [] (N9 S++((ob,Is (oO ⟨12,oa,Ot,oc,os,ot,OA,od⟩))::(x,Is (br dp (aH S.a) q hb))::G)) w0 (W.alloc (.cells #[.int .i64 12,.int .i64 oa,.int .i64 Ot,.int .i64 oc,str os,str ot,OA] 65)):=by
  rw[hob];exact(HH.a.Q9 (oO ⟨12,oa,Ot,oc,os,ot,OA,od⟩)).to (H:=N9 S++((W.heap.size,Is (oO ⟨12,oa,Ot,oc,os,ot,OA,od⟩))::(x,Is (br dp (aH S.a) q hb))::G)) ac
 rw[<- hob];generalize W.alloc (.cells #[.int .i64 12,.int .i64 oa,.int .i64 Ot,.int .i64 oc,str os,str ot,OA] 65)=W1 at hT1 ⊢;have hx:W1.heap[x]?=some (br dp (aH S.a) q hb):=hT1.sat.Q7 Nh;have ho:W1.heap[ob]?=some (oO ⟨12,oa,Ot,oc,os,ot,OA,od⟩):=hT1.sat.Q7 Nh;have u1:W1.cell? ⟨x,1,none⟩=some (.pointer (some ⟨S.a,0,none⟩)):=aa hx 1 rfl;have o1:W1.cell? ⟨ob,1,none⟩=some (.int .i64 oa):=aa ho 1 rfl;have o4:W1.cell? ⟨ob,4,none⟩=some (str os):=aa ho 4 rfl;have o5:W1.cell? ⟨ob,5,none⟩=some (str ot):=aa ho 5 rfl;have o6:W1.cell? ⟨ob,6,none⟩=some OA:=aa ho 6 rfl;have xl:=ae hx;have ol:=ae ho;have HT1:=NZ hT1;clear hT1 hob hx ho;refine wp_region_still_tail 6 HM.o Nc ?_;simp only[QE,take_zero,QD,drop_zero];repeat still_step
 refine wpStill_nil ?_;change wpList _ _ _ _ _ W1.drew;have HO:=NZ (HH.y W1.drew _ HT1.o.drew);go_wp2_with fail;refine HO.o.mono ?_;rintro e W3 ⟨k,ev,n,S',he,hev,Rf,hG⟩;have he:e=.returned ev:=he;subst he;have Oa:=HT1.o.drew.step (Perm.refl _) hG;have PX:=NZ (bc ev n W3 (HH.b.keep Oa.mods (fun h=>by simp at h)) (hev.is W3));have HT3:=Ob Oa Rf;clear Oa Rf hev hG u1 o1 o4 o5 o6;go_wp2_with fail;refine PX.o.mono ?_;rintro e W4 ⟨rfl,hs4⟩;have Oj:=((HT3.a.Q8 hs4).drop (H:=N9 S'++((x,Is (br dp (aH S.a) q hb))::G)) (fun y=>by simp only[af,ao];omega));have HT4:=NZ Oj;clear Oj hs4;go_wp2_with fail;go_ret;exact⟨n,S',rfl,HT3.z,HT4.o⟩
theorem yz(S:AS)(x:Nat)(dp:Value)(q:Int)(hb:Nat)(o:Pj)(G:HF)(w0 W:World)(hk:o.kind=6)(h:Turns [] (N9 S++((x,Is (br dp (aH S.a) q hb))::G)) w0 W)(hdv:o.dv.oneCell'=true)(hdc:o.dv.cells=#[o.dv])(Φ:Int->AS->Prop)(hE:bh w0)(hD:ir w0 S Φ 47 #[.pointer (some ⟨S.a,0,none⟩)] false):
  Calls prog 39 #[.pointer (some ⟨x,0,none⟩),PG o] W (kW w0 Φ x (br dp (aH S.a) q hb) G):=by
 obtain⟨ok,oa,Ot,oc,os,ot,OA,od⟩:=o;simp only at hk hdv hdc hD;subst hk;have HH:=Oz h hE hD;have HD:=Ob hdv hdc;clear h hE hD;unfold PG QI;go_enter func39,ntmps39;go_upto_region 14 with(fail);obtain⟨ob,hob⟩:=Na W.heap.size
 have hT1:Turns [] (N9 S++((ob,Is (oO ⟨6,oa,Ot,oc,os,ot,OA,od⟩))::(x,Is (br dp (aH S.a) q hb))::G)) w0 (W.alloc (.cells #[.int .i64 6,.int .i64 oa,.int .i64 Ot,.int .i64 oc,str os,str ot,OA] 65)):=by
  rw[hob];exact(HH.a.Q9 (oO ⟨6,oa,Ot,oc,os,ot,OA,od⟩)).to (H:=N9 S++((W.heap.size,Is (oO ⟨6,oa,Ot,oc,os,ot,OA,od⟩))::(x,Is (br dp (aH S.a) q hb))::G)) ac
 rw[<- hob];generalize W.alloc (.cells #[.int .i64 6,.int .i64 oa,.int .i64 Ot,.int .i64 oc,str os,str ot,OA] 65)=W1 at hT1 ⊢;have hx:W1.heap[x]?=some (br dp (aH S.a) q hb):=hT1.sat.Q7 Nh;have ho:W1.heap[ob]?=some (oO ⟨6,oa,Ot,oc,os,ot,OA,od⟩):=hT1.sat.Q7 Nh;have u1:W1.cell? ⟨x,1,none⟩=some (.pointer (some ⟨S.a,0,none⟩)):=aa hx 1 rfl;have o1:W1.cell? ⟨ob,1,none⟩=some (.int .i64 oa):=aa ho 1 rfl;have o4:W1.cell? ⟨ob,4,none⟩=some (str os):=aa ho 4 rfl;have o5:W1.cell? ⟨ob,5,none⟩=some (str ot):=aa ho 5 rfl;have o6:W1.cell? ⟨ob,6,none⟩=some OA:=aa ho 6 rfl;have xl:=ae hx;have ol:=ae ho;have HT1:=NZ hT1;clear hT1 hob hx ho;have HO:=NZ (HH.y W1 _ HT1.o);go_wp2_with fail;refine HO.o.mono ?_;rintro e W3 ⟨k,ev,n,S',he,hev,Rf,hG⟩;have he:e=.returned ev:=he;subst he;have Oa:=HT1.o.step (Perm.refl _) hG;have PX:=NZ (bc ev n W3 (HH.b.keep Oa.mods (fun h=>by simp at h)) (hev.is W3));have HT3:=Ob Oa Rf;clear Oa Rf hev hG u1 o1 o4 o5 o6;go_wp2_with fail;refine PX.o.mono ?_;rintro e W4 ⟨rfl,hs4⟩;have Oj:=((HT3.a.Q8 hs4).drop (H:=N9 S'++((x,Is (br dp (aH S.a) q hb))::G)) (fun y=>by simp only[af,ao];omega));have HT4:=NZ Oj;clear Oj hs4;go_wp2_with fail;go_ret;exact⟨n,S',rfl,HT3.z,HT4.o⟩
theorem sH(S:AS)(x:Nat)(dp:Value)(q:Int)(hb:Nat)(o:Pj)(G:HF)(w0 W:World)(hk:o.kind=14)(h:Turns [] (N9 S++((x,Is (br dp (aH S.a) q hb))::G)) w0 W)(hdv:o.dv.oneCell'=true)(hdc:o.dv.cells=#[o.dv])(Φ:Int->AS->Prop)(hE:bh w0)(hD:ir w0 S Φ 71 #[.pointer (some ⟨S.a,0,none⟩)] false):
  Calls prog 39 #[.pointer (some ⟨x,0,none⟩),PG o] W (kW w0 Φ x (br dp (aH S.a) q hb) G):=by
 obtain⟨ok,oa,Ot,oc,os,ot,OA,od⟩:=o;simp only at hk hdv hdc hD;subst hk;have HH:=Oz h hE hD;have HD:=Ob hdv hdc;clear h hE hD;unfold PG QI;go_enter func39,ntmps39;go_upto_region 16 with(fail);obtain⟨ob,hob⟩:=Na W.heap.size
 have hT1:Turns [] (N9 S++((ob,Is (oO ⟨14,oa,Ot,oc,os,ot,OA,od⟩))::(x,Is (br dp (aH S.a) q hb))::G)) w0 (W.alloc (.cells #[.int .i64 14,.int .i64 oa,.int .i64 Ot,.int .i64 oc,str os,str ot,OA] 65)):=by
  rw[hob];exact(HH.a.Q9 (oO ⟨14,oa,Ot,oc,os,ot,OA,od⟩)).to (H:=N9 S++((W.heap.size,Is (oO ⟨14,oa,Ot,oc,os,ot,OA,od⟩))::(x,Is (br dp (aH S.a) q hb))::G)) ac
 rw[<- hob];generalize W.alloc (.cells #[.int .i64 14,.int .i64 oa,.int .i64 Ot,.int .i64 oc,str os,str ot,OA] 65)=W1 at hT1 ⊢;have hx:W1.heap[x]?=some (br dp (aH S.a) q hb):=hT1.sat.Q7 Nh;have ho:W1.heap[ob]?=some (oO ⟨14,oa,Ot,oc,os,ot,OA,od⟩):=hT1.sat.Q7 Nh;have u1:W1.cell? ⟨x,1,none⟩=some (.pointer (some ⟨S.a,0,none⟩)):=aa hx 1 rfl;have o1:W1.cell? ⟨ob,1,none⟩=some (.int .i64 oa):=aa ho 1 rfl;have o4:W1.cell? ⟨ob,4,none⟩=some (str os):=aa ho 4 rfl;have o5:W1.cell? ⟨ob,5,none⟩=some (str ot):=aa ho 5 rfl;have o6:W1.cell? ⟨ob,6,none⟩=some OA:=aa ho 6 rfl;have xl:=ae hx;have ol:=ae ho;have HT1:=NZ hT1;clear hT1 hob hx ho;have HO:=NZ (HH.y W1 _ HT1.o);go_wp2_with fail;refine HO.o.mono ?_;rintro e W3 ⟨k,ev,n,S',he,hev,Rf,hG⟩;have he:e=.returned ev:=he;subst he;have Oa:=HT1.o.step (Perm.refl _) hG;have PX:=NZ (bc ev n W3 (HH.b.keep Oa.mods (fun h=>by simp at h)) (hev.is W3));have HT3:=Ob Oa Rf;clear Oa Rf hev hG u1 o1 o4 o5 o6;go_wp2_with fail;refine PX.o.mono ?_;rintro e W4 ⟨rfl,hs4⟩;have Oj:=((HT3.a.Q8 hs4).drop (H:=N9 S'++((x,Is (br dp (aH S.a) q hb))::G)) (fun y=>by simp only[af,ao];omega));have HT4:=NZ Oj;clear Oj hs4;go_wp2_with fail;go_ret;exact⟨n,S',rfl,HT3.z,HT4.o⟩
theorem IL(S:AS)(x:Nat)(dp:Value)(q:Int)(hb:Nat)(o:Pj)(G:HF)(w0 W:World)(h:Turns [] (N9 S++((x,Is (br dp (aH S.a) q hb))::G)) w0 W)(hdv:o.dv.oneCell'=true)(hdc:o.dv.cells=#[o.dv])(Φ:Int->AS->Prop)(hE:bh w0)(hD:MR w0 S o Φ):
  Calls prog 39 #[.pointer (some ⟨x,0,none⟩),PG o] W (kW w0 Φ x (br dp (aH S.a) q hb) G):=by
 by_cases q1:o.kind=1
 ·exact Aw S x dp q hb o G w0 W q1 h hdv hdc Φ hE (hD.1 q1)
 by_cases q9:o.kind=9
 ·exact uf S x dp q hb o G w0 W q9 h hdv hdc Φ hE (hD.2.1 q9)
 by_cases q10:o.kind=10
 ·exact vP S x dp q hb o G w0 W q10 h hdv hdc Φ hE (hD.2.2.1 q10)
 by_cases q11:o.kind=11
 ·exact Ax S x dp q hb o G w0 W q11 h hdv hdc Φ hE (hD.2.2.2.1 q11)
 by_cases q12:o.kind=12
 ·exact vQ S x dp q hb o G w0 W q12 h hdv hdc Φ hE (hD.2.2.2.2.1 q12)
 by_cases q6:o.kind=6
 ·exact yz S x dp q hb o G w0 W q6 h hdv hdc Φ hE (hD.2.2.2.2.2.1 q6)
 by_cases Y1:o.kind=14
 ·exact sH S x dp q hb o G w0 W Y1 h hdv hdc Φ hE (hD.2.2.2.2.2.2.1 Y1)
 have HF:=hD.2.2.2.2.2.2.2 q1 q9 q10 q11 q12 q6 Y1;obtain⟨ok,oa,Ot,oc,os,ot,OA,od⟩:=o;simp only at hdv hdc q1 q9 q10 q11 q12 q6 Y1;have HH:=Oz h hE HF;have HD:=Ob hdv hdc;clear h hE hD HF;unfold PG QI;go_enter func39,ntmps39;have hT1:Turns [] (N9 S++((x,Is (br dp (aH S.a) q hb))::G)) w0 (W.alloc (.cells #[.int .i64 ok,.int .i64 oa,.int .i64 Ot,.int .i64 oc,str os,str ot,OA] 65)):=HH.a.alloc _;have PX:=NZ (bc .nilIface 0 _ (HH.b.keep hT1.mods (fun h=>by simp at h)) (.inl ⟨rfl,rfl⟩));have HT1:=NZ hT1;clear hT1;go_wp2_with fail;refine PX.o.mono ?_;rintro e W4 ⟨rfl,hs4⟩;have HT4:=NZ (HT1.o.Q8 hs4);clear hs4;go_wp2_with fail;go_ret;exact⟨0,S,rfl,HH.y,HT4.o⟩
theorem A6(S:AS)(R:Oh)(P:cU)(b:Nat)(G:HF)(corrupt:Bool)(w0 w:World)(h:Turns [] (N9 S++G) w0 w)(hok:Oo S)(hB:QU S b)(hb:b<=90000)(hc:S.X.closed=false)(hcR:R.closed=false)(htl:R.ts.length<=100000)(hR:∀W,Sat W G->OD R P W)(hE:bh w0)(hv0:R.vs=[]):
  Calls prog 40 #[.pointer (some ⟨S.a,0,none⟩),.pointer (some ⟨R.blk,0,none⟩),.bool corrupt] w (fun e w'=>∃z,e=.returned (.bool z)/\Turns [] (N9 S++G) w0 w'):=by
 have HV0:=NZ hv0;clear hv0;have HH:=WQ h hok hB hb hc hcR htl hR hE;have HL1:=NZ (tw S [] b w h.sat.left hok hB hb);clear h hok hB hb hc hcR htl hR hE;go_enter func40,ntmps40;go_wp2_with fail;refine HL1.o.mono ?_;rintro e w1 (⟨hcl,-⟩|⟨-,v1,es,rfl,hso,heo,hT⟩)
 ·rw[HH.e]at hcl;cases hcl
 have hT1:=HH.a.step (Perm.refl _) hT;have HL2:=NZ (sn R P [] w1 (HH.h w1 hT1.sat.right));have H1:=Oz hT1 hso heo;clear hT hT1 hso heo HL1;go_wp2_with fail;refine HL2.o.mono ?_;rintro e w2 (⟨hcl,-⟩|⟨-,v2,rfl,hro,hT⟩)
 ·rw[HH.f]at hcl;cases hcl
 have hT2:=H1.a.Qb hT;have HL3:=NZ (tG S b w2 (hT2.sat.right.left.right) HH.b HH.c HH.d);have H2:=Ob hT2 hro;clear hT hT2 hro HL2;go_wp2_with fail;refine HL3.o.mono ?_;rintro e w3 (⟨hcl,-⟩|⟨-,v3,rfl,hpo,hT⟩)
 ·rw[HH.e]at hcl;cases hcl
 have Oa:=H2.a.step (F:=N9 S) (R:=ew v2 (gd [] R.vs)++(ek v1 es++G)) ac hT;have H3:=Ob Oa hpo;clear hT Oa hpo HL3;have Oa:=H3.a
 have hel:es.length<=1000000:=by
  have h1:=H1.b.1.length_eq;have h2:(eY [] S.ps).length<=S.ps.length:=by unfold eY;rw[NP];exact length_filter_le _ _
  have:=HH.c.np;have:=HH.d;omega
 have hrl:(gd [] R.vs).length<=1000000:=by
  have h1:=rf [] R.vs;have:=(HH.h w3 Oa.sat.right.right.right).len;omega
 obtain⟨la,lc,hlv,-,-,hlc,-⟩:=bb (v:=v1) (xs:=es.flatMap cz) (n:=es.length) (size:=4) (show Sat w3 (ek v1 es)from Oa.sat.right.right.left) H1.y Nk;obtain⟨ra,rc,RX,-,-,hrc,-⟩:=bb (show Sat w3 (ew v2 (gd [] R.vs))from Oa.sat.right.left) H2.z Nk;have Ug:=NZ (kQ es (gd [] R.vs) la ra lc rc w3 hlc hrc hel hrl);have HV:=Ob hlv RX;clear Oa hel hrl hlc hrc;obtain⟨n1,hn1⟩:=Na es.length;obtain⟨n2,hn2⟩:=Na ((gd [] R.vs).length);rw[<- hn1]at Ug hlv;rw[<- hn2]at Ug RX;have HN:=Ob hn1 hn2;clear hn1 hn2;subst hlv;subst RX;go_wp2_with fail;refine Ug.o.mono ?_;rintro e w4 ⟨z1,rfl,hz1,hs4⟩;have Oj:=(H3.a.Q8 hs4).drop (H:=py v3 (dg S.ts (e8 S.ts))++(N9 S++G)) (fun x=>by simp only[af];omega);have hra:=HH.h w4 Oj.sat.right.right;have ct:w4.cell? ⟨R.blk,1,none⟩=some R.tv:=aa hra.ref.Q5 1 rfl;have hrb:=ae hra.ref.Q5;obtain⟨ta,tc,htv,-,-,htc,-⟩:=bb hra.ref.tail.right hra.ok.ts Nk;obtain⟨pa,pc,hpv,-,-,hpc,-⟩:=bb Oj.sat.left H3.z Nk;rw[sr]at htc
 have hpl:(dg S.ts (e8 S.ts)).length<=1000000:=by
  have:=HH.c.nt;have:=HH.d;unfold dg e8;simp;omega
 have hsc:=ng (dg S.ts (e8 S.ts)) (R.ts.map Qy) pa ta pc tc w4 hpc htc hpl (by rw[NP];have:=HH.g;omega);rw[NP]at hsc;rw[htv]at ct;have HS2:=NZ hsc;have H4:=NZ Oj;have HT0:=Ob htv hpv;clear Oj hz1 hra htc hpc hpl hsc hs4 Ug;obtain⟨n3,hn3⟩:=Na ((dg S.ts (e8 S.ts)).length);rw[<- hn3]at HS2 hpv;clear hn3 htv;subst hpv;go_wp2_with fail;refine HS2.o.mono ?_;rintro e w5 ⟨z2,rfl,hz2,hs5⟩;have Og:=(H4.o.Q8 hs5).drop (H:=N9 S++G) (fun x=>by simp only[af];omega);have WX:bh w5:=HH.q.o.keep Og.mods (fun h=>by simp at h);have PX:=NZ (bc .nilIface 0 w5 WX (.inl ⟨rfl,rfl⟩));have H5:=NZ Og;clear Og hz2 hs5 WX H4 H3 H2 H1 HS2
 cases z1 with
 | false =>
  go_wp2_with fail;go_ret;exact⟨false,rfl,H5.o⟩
 | true =>
 cases z2 with
 | false =>
  go_wp2_with fail;go_ret;exact⟨false,rfl,H5.o⟩
 | true =>
 go_wp2_with fail;refine PX.o.mono ?_;rintro e w6 ⟨rfl,hs6⟩;have Ox:=H5.o.Q8 hs6;have hE6:bh w6:=HH.q.o.keep Ox.mods (fun h=>by simp at h);have PX:=NZ (bc .nilIface 0 w6 hE6 (.inl ⟨rfl,rfl⟩));have H6:=NZ Ox;clear Ox hE6 hs6;go_wp2_with fail;refine PX.o.mono ?_;rintro e w7 ⟨rfl,hs7⟩;have H7:=NZ (H6.o.Q8 hs7);clear hs7 H6;go_wp2_with fail;go_loopw [15] (fun i wr=>i=.int .i64 0/\Turns [] (N9 S++G) w0 wr) (fun _ _=>0)
 case atStart=>exact⟨rfl,H7.o⟩
 case round =>
  obtain⟨rfl,hTr⟩:=hrel;obtain⟨sl,cap,e1,e2,e3,hb,-⟩:=(HH.h wr hTr.sat.right).row
  have c0:wr.cell? ⟨R.blk,0,none⟩=some (.slice sl 0 cap):=by
   rw[HV0.o]at e1;rw[show(Value.slice sl 0 cap)=R.vv from e1.symm];exact aa hb 0 rfl
  have hbl:=ae hb;have HE:=NZ hTr;clear hTr hb e1;go_wp2_with fail;go_ret;exact⟨true,rfl,HE.o⟩
def En(x b:Nat)(v:Value)(d0 d n:Nat)(q:Nat)(R:Oh)(w0:World)(e:Ending)(w':World):Prop :=
 ∃S z,e=.returned (.int .i64 z)/\sU n q d S/\Turns [] ((x,Is (br (aH d0) (aH S.a) q b))::(gf b v [R.blk] 0++(aC R++N9 S))) w0 w'
theorem vS(x b:Nat)(v:Value)(d0 d:Nat)(av:Value)(q r:Nat)(L:Ol)(w0 w:World)(h:Turns [] ((x,Is (br (aH d0) av q b))::(gf b v [r] 0++(aC (kn r q)++aA d L))) w0 w)(hok:mV v [r])(hq:q<1000000)(hL:Ou L)(hn:16<=L.n)(hn2:L.n<=1073741824)(hch:L.N8.length<=137438953472)(hz:∀k,k<2->aN L.now k=an 128)(hE:bh w0):
  Calls prog 34 #[.pointer (some ⟨x,0,none⟩),.pointer (some ⟨d,0,none⟩)] w (En x b v d0 d L.n q (kn r q) w0):=by
 have hx:=h.sat.Q5;have c2:w.cell? ⟨x,2,none⟩=some (.int .i64 q):=aa hx 2 rfl;have hxl:=ae hx;have HO:=NZ (oS d L q w (h.sat.tail.right.right) hL hn hn2 hch hz Nb);have HH:=OW h hok hq hE;clear h hok hL hn hn2 hch hz hE hx;go_enter func34,ntmps34;go_wp2_with fail;refine HO.o.mono ?_;rintro e w1 ⟨S,rfl,hst,hT⟩;have hT1:=HH.a.step (F:=aA d L) (R:=(x,Is (br (aH d0) av q b))::(gf b v [r] 0++aC (kn r q))) ac hT;have PX:=NZ (bc .nilIface 0 w1 (HH.x.keep hT1.mods (fun h=>by simp at h)) (.inl ⟨rfl,rfl⟩));have H1:=Ob hT1 hst;clear hT hT1 hst;go_wp2_with fail;refine PX.o.mono ?_;rintro e w2 ⟨rfl,hs2⟩;have hT2:=(H1.a.Q8 hs2).to (H:=(x,Is (.cells #[aH d0,av,.int .i64 q,aH b] 35 (0,0)))::(gf b v [r] 0++(aC (kn r q)++N9 S))) (by unfold br;exact ac);have hxl2:=ae hT2.sat.Q5;have H2:=NZ hT2;clear hT2 hs2;go_upto_region 5 with(first|(refine ai rfl (aX 32 (.tmp 26) (.tmp 24) rfl x 1 #[aH d0,av,.int .i64 q,aH b] 35 (aH S.a) H2.o rfl rfl Nh Nc rfl rfl ?_);intro w3 Oa;have H3:=NZ Oa;clear Oa;simp only[Act.put])|fail);obtain⟨I,hI⟩:=Na (fun W=>Turns [] ((x,Is (br (aH d0) (aH S.a) q b))::(gf b v [r] 0++(aC (kn r q)++N9 S))) w0 W:World->Prop)
 have HP:∀W,I W->Calls prog 45 #[.pointer (some ⟨b,0,none⟩),.pointer (some ⟨S.a,0,none⟩),.int .i64 (0:Nat),.bool false] W (fun e w'=>∃r',e=.returned (.int .i64 r')/\yc (fun _=>False) 0 [r].length r'/\I w'):=fun W hW=>by
  refine yU b v [r] 0 (.pointer (some ⟨S.a,0,none⟩)) 0 false I (fun _=>False) (fun W hW=>by rw[hI]at hW;exact hW.sat.tail.left) HH.b (fun W n p hW hp=>?_) W hW Nh Nb
  obtain rfl:p=r:=by
   cases n with
   | zero=>simp at hp;exact hp.symm
   | succ n=>simp at hp
  rw[hI]at hW
  refine(A6 S (kn p q) [] 0 ((x,Is (br (aH d0) (aH S.a) q b))::(gf b v [p] 0++aC (kn p q))) false w0 W (hW.to ac) H1.b H1.c Nb H1.d rfl (by simp[kn])
   (fun W hW=>⟨hW.tail.right,⟨⟨rfl,fun _=>⟨rfl,rfl⟩⟩,⟨rfl,fun _=>⟨rfl,rfl⟩⟩⟩,Sat.nil W,(fun p hp=>by cases hp),(fun v hv=>by cases hv),by simp[kn],(fun v hv=>by cases hv)⟩) HH.x rfl).mono ?_
  rintro e w' ⟨z,rfl,h3⟩;refine⟨z,rfl,fun h=>h.elim,?_⟩;rw[hI];exact h3.to ac
 have HP:=Ob HP hI;clear hI;refine cH [([0,1,2,3,4,5,6,7,8,9,10,11],12,[])] [13] HM.o Nc fun W tW=>?_
 simp only[Mix,map_cons,map_nil,nth,QG,QF];have k0:=tW H3.o;clear tW;have g3:W.cell? ⟨x,3,none⟩=some (.pointer (some ⟨b,0,none⟩)):=aa k0.sat.Q5 3 rfl;have g1:W.cell? ⟨b,1,none⟩=some (.int .i64 0):=aa (k0.sat.tail.left (G:=aC (kn r q)++N9 S)).Q5 1 rfl;repeat still_step
 refine wpStill_nil (aO Nc (HP.a W (by rw[HP.z];exact k0)) ?_);rintro e w4 ⟨r',rfl,hpre,VR⟩;rw[HP.z]at VR;have HF:En x b v d0 d L.n q (kn r q) w0 (.returned (.int .i64 r')) w4:=⟨S,r',rfl,H1.z,VR⟩;have hcs:w4.cell? ⟨x,3,none⟩=some (.pointer (some ⟨b,0,none⟩))/\w4.cell? ⟨b,1,none⟩=some (.int .i64 0):=⟨aa VR.sat.Q5 3 rfl,aa (VR.sat.tail.left (G:=aC (kn r q)++N9 S)).Q5 1 rfl⟩;obtain⟨g3',g1'⟩:=hcs;have XD:=NZ HF;clear HF VR hpre k0 g3 g1;refine⟨_,rfl,by((repeat still_step);exact rfl),?_⟩;simp only[Act.put,QA,QB,QC];clear g3' g1';repeat still_step
 refine wpStill_nil ?_;go_wp2_with fail;go_ret;exact XD.o
theorem O8.to{R R':Oh}{P:cU}{k d:Nat}(h:O8 R R' P k):O8 R R' P k d:={ h with used:=by have:=h.used;omega }
theorem KD{R:Oh}{P:cU}{k:Nat}(h:RB R P k)(hb:k<=1000){o:Pj}{G:HF}{w0 W:World}(hT:Turns [] ((aC R++ay P)++G) w0 W)(ho:Qs w0 o)(hd:o.d.length<=60000):
  Calls prog 38 #[.pointer (some ⟨R.blk,0,none⟩),PG o] W (fun e w'=>∃n R' P',e=.returned (.int .i64 n)/\(O8 R R' P' (k+1) o.d.length/\jZ P'/\∀p∈P,p∈P')/\Turns [] ((aC R'++ay P')++G) w0 w'):=by
 obtain⟨sl,cap,e,-,-,hc⟩:=ho.dv;have hs:O8 R R P (k+1) o.d.length:=ef h.inv h.ok h.inp h.vs h.ts h.nums;refine ze R P o G w0 W hT (by rw[e];rfl) (by rw[e];rfl) (fun _ R' P'=>O8 R R' P' (k+1) o.d.length/\jZ P'/\∀p∈P,p∈P') (fun _ W G hT=>?_) (fun _ W G hT=>?_) (fun _ W G hT=>?_) (fun _ W G hT=>?_) (fun _ W G hT=>?_) (fun _ _ _ _ _=>⟨hs,h.Ru,fun _=>id⟩)
 ·rw[e];refine(uO R P o.s o.d sl cap W (h.at hb hT.sat.left) (fun v hv=>by have h1:=h.nums v hv;have h2:=(h.inv.each v hv).1;omega) (hc.Qc hT (fun x _ h=>by simp at h)) Nb).mono ?_;rintro e w' (⟨n,rfl,hs2,hn⟩|⟨a1,a2,a3,a4,VK,cv,rfl,hcv,hro,hG⟩)
  ·exact⟨0,n,rfl,R,P,⟨hs,h.Ru,fun _=>id⟩,(Turns.refl hT.sat.left).Q8 hs2⟩
  ·refine⟨_,0,rfl,_,P++[(cv,o.d)],⟨xC h.inv h.ok h.inp h.vs h.ts h.nums (l:=o.s) (D:=o.d) (n:=0) (.inr ⟨rfl,a1,a2,a3,a4,VK,cv,hcv,hro,rfl,rfl⟩),fun p hp=>?_,fun _ hp=>mem_append_left _ hp⟩,?_⟩
   ·rcases mem_append.1 hp with hp|hp
    ·exact h.Ru p hp
    ·obtain rfl:=mem_singleton.1 hp;exact hcv
   ·rw[xv];exact(hG.frame (R:=ay P) hT.sat.left).to ac
 ·refine(Lx h hb hT.sat.left o.s o.a).mono ?_;rintro e w' ⟨n,R',rfl,hr,hG⟩;exact⟨0,n,rfl,R',P,⟨hr.to,h.Ru,fun _=>id⟩,hG⟩
 ·refine(Ly h hb hT.sat.left o.s o.a ho.a).mono ?_;rintro e w' ⟨c,n,R',rfl,hr,hG⟩;exact⟨c,n,rfl,R',P,⟨hr.to,h.Ru,fun _=>id⟩,hG⟩
 ·refine(Lz h hb hT.sat.left o.t o.s o.a).mono ?_;rintro e w' ⟨n,R',rfl,hr,hG⟩;exact⟨0,n,rfl,R',P,⟨hr.to,h.Ru,fun _=>id⟩,hG⟩
 ·refine(LA h hb hT.sat.left o.t).mono ?_;rintro e w' ⟨n,R',rfl,hr,hG⟩;exact⟨0,n,rfl,R',P,⟨hr.to,h.Ru,fun _=>id⟩,hG⟩
theorem gdo{S:AS}{k:Nat}(h:GB S k)(hb:k<=1000)(hcl:S.X.closed=false){o:Pj}{x hb':Nat}{dp:Value}{q:Int}{G:HF}{w0 W:World}(hT:Turns [] (N9 S++((x,Is (br dp (aH S.a) q hb'))::G)) w0 W)(hE:bh w0)(ho:Qs w0 o)(hd:o.d.length<=60000):
  Calls prog 39 #[.pointer (some ⟨x,0,none⟩),PG o] W (kW w0 (fun _ S'=>kC S k S') x (br dp (aH S.a) q hb') G):=by
 obtain⟨sl,cap,e,hcap,-,hc⟩:=ho.dv;refine IL S x dp q hb' o G w0 W hT (by rw[e];rfl) (by rw[e];rfl) _ hE ⟨fun _ W G hT=>?_,fun _ W G hT=>?_,fun _ W G hT=>?_,fun _ W G hT=>?_,fun _ W G hT=>?_,fun _ W G hT=>?_,fun _ W G hT=>?_,fun _ _ _ _ _ _ _=>h.same⟩
 ·rw[e];have hs:=ho.s;refine(qS S o.s o.d sl cap 70000 W hT.sat.left h.ok (h.b hb) Nb (hc.Qc hT (fun x _ h=>by simp at h)) hcap Nb (fun hne y hy hd=>?_) Nb (by have:=h.quota;omega)).mono (fun e w' hp=>Bu h hp);obtain⟨g,off,e1,hcc⟩:=hc (by rw[NP];exact length_pos_iff.2 hne);rw[hy]at e1;obtain rfl:=Option.some.inj e1;have h1:=World.block_lt_of_cell? w0 _ (hcc 0 (by rw[NP];exact length_pos_iff.2 hne));have h2:=hT.Xx (b:=g) (by rw[cM];exact mem_append_left _ hd);simp only[]at h1;omega
 ·exact(Mu h hb hT.sat.left o.s o.a).mono (fun e w' ⟨ev,n,S',q⟩=>⟨0,ev,n,S',q⟩)
 ·exact Mv h hb hT.sat.left o.s o.a
 ·exact(Mw h hb hT.sat.left o.t o.s o.a).mono (fun e w' ⟨ev,n,S',q⟩=>⟨0,ev,n,S',q⟩)
 ·exact(Mx h hb hT.sat.left o.t).mono (fun e w' ⟨ev,n,S',q⟩=>⟨0,ev,n,S',q⟩)
 ·refine(lN S 70000 W hT.sat.left h.ok (h.b hb) Nb).mono ?_;rintro e w' (⟨hc,-⟩|⟨-,rfl,L',hf,hG⟩)
  ·rw[hcl]at hc;cases hc
  ·exact⟨0,_,0,gI S L',rfl,.inl ⟨rfl,rfl⟩,⟨rfl,⟨rfl,rfl⟩,(h.flush hf).mono Nb⟩,hG⟩
 ·refine(nY (E:=False) S W hT.sat.left (h.col hb) 70000 (h.b hb) Nb).mono ?_;rintro e w' (⟨hc,-⟩|⟨-,rfl,S',hci,hG⟩)
  ·rw[hcl]at hc;cases hc
  ·exact⟨0,_,0,S',rfl,.inl ⟨rfl,rfl⟩,⟨hci.a,⟨hci.closed,hci.d⟩,h.collected hci⟩,hG⟩
theorem ID{o:Pj}(h:o.kind=6\/o.kind=14):vN o=false:=by
 unfold vN;simp only[Bool.or_eq_false_iff,decide_eq_false_iff_not];omega
def YQ(x b q:Nat)(hv:Value)(bl:List Nat)(R:Oh)(P:cU)(S:AS):HF :=
 (x,Is (br (aH S.X.d) (aH S.a) q b))::(gf b hv (bl++[R.blk]) 0++(aC R++(ay P++N9 S)))
structure Rx (w W:World) (x b q:Nat) (hv:Value) (bl:List Nat) (R:Oh) (P:cU) (S:AS) (k:Nat):Prop where
 turns:Turns [] (YQ x b q hv bl R P S) w W
 his:mV hv (bl++[R.blk])
 gb:GB S k
 cl:S.X.closed=false
 rb:RB R P k
 len:bl.length<=k
theorem Rx.mono{w W:World}{x b q:Nat}{hv:Value}{bl:List Nat}{R:Oh}{P:cU}{S:AS}{k k':Nat}(h:Rx w W x b q hv bl R P S k)(hk:k<=k'):Rx w W x b q hv bl R P S k' :=
 ⟨h.turns,h.his,h.gb.mono hk,h.cl,⟨h.rb.inv,h.rb.ok,h.rb.Ru,h.rb.inp,by have:=h.rb.vs;omega,by have:=h.rb.ts;omega,fun v hv=>by have:=h.rb.nums v hv;omega⟩,by have:=h.len;omega⟩
def Em(w:World)(e:Ending)(w':World):Prop :=
 ∃(x d:Nat) (L:Ol) (z:Bool) (av bv qv:Value),e=.returned (.tuple #[aH x,.bool z])/\Ou L/\L.n=648/\Turns [] ((x,Is (.cells #[aH d,av,qv,bv] 35 (0,0)))::aA d L) w w'
theorem Rx.done{w W:World}{x b q:Nat}{hv:Value}{bl:List Nat}{R:Oh}{P:cU}{S:AS}{k:Nat}(z:Bool)(hg:GB S k)(hT:Turns [] (YQ x b q hv bl R P S) w W):Em w (.returned (.tuple #[aH x,.bool z])) W :=
 ⟨x,S.X.d,S.L,z,aH S.a,aH b,.int .i64 q,rfl,hg.ok.dev,hg.n,hT.drop (fun y=>by unfold YQ br N9;simp only[af,ao];omega)⟩
def J3(w:World)(l:List Pj)(x b q:Nat)(v:Value)(W:World):Prop :=
 ∃(k:Nat) (hv:Value) (bl:List Nat) (R:Oh) (P:cU) (S:AS),k<=l.length/\v=.int .i64 k/\Rx w W x b q hv bl R P S k
theorem vR(l:List Pj)(sl:Option Addr)(cap:Nat)(Q:Int)(w:World)(h:ak w sl (sQ l))(hok:∀o∈l,Qs w o)(hlen:l.length<=400/\fK l<=60000)(hE:bh w):
  Calls prog 14 #[.slice sl l.length cap,.int .i64 Q] w (Em w):=by
 have HSi:=NZ (D5 648 Q Nb w);have HH:=OW h hok hE hlen;clear h hok hE;have hl4:l.length<=400:=hlen.1;clear hlen;go_enter func14,ntmps14;go_wp2_with fail;refine HSi.o.mono ?_;rintro e w1 ⟨x,b,hv,r,d,L,he,hho,hL,hn,OY,hch,hT⟩;have he:e=.returned (.pointer (some ⟨x,0,none⟩)):=he;subst he;obtain⟨q,hq⟩:=Na (qx Q);have hq6:q<1000000:=by rw[hq];unfold qx;exact Nat.mod_lt _ Nb
 rw[<- hq]at hT;have x0:w1.cell? ⟨x,0,none⟩=some (.pointer (some ⟨d,0,none⟩)):=aa hT.sat.Q5 0 rfl;have xl:=ae hT.sat.Q5;have HO:=NZ (vS x b hv d d (.pointer none) q r L w w1 hT hho hq6 hL Nb Nb (by rw[hch];simp) (fun k hk=>by rw[OY];simp only[aN,an,drop_replicate,take_replicate];congr 1;omega) HH.c);have H1:=Oz hho hq6 hn;clear hT hho hL hn OY hch hq hq6;go_wp2_with fail;refine HO.o.mono ?_;rintro e w2 ⟨S,z,rfl,hst,hT⟩;rw[H1.y]at hst
 have hF:Rx w w2 x b q hv [] (kn r q) [] S 0:=by
  refine⟨?_,H1.a,GB.start hst (by have:=H1.b;omega),hst.2.2.1,⟨⟨Pairwise.nil,fun p=>Pairwise.nil,(fun v hv=>by cases hv),Pairwise.nil,(fun t ht=>by cases ht),(fun v hv=>by cases hv)⟩,⟨⟨rfl,fun _=>⟨rfl,rfl⟩⟩,⟨rfl,fun _=>⟨rfl,rfl⟩⟩⟩,(fun p hp=>by cases hp),(fun v hv=>by cases hv),Nat.le_refl _,Nat.le_refl _,(fun v hv=>by cases hv)⟩,Nat.le_refl _⟩;have s13:S.X.d=d:=hst.2.2.2.2.2.2.2.2.2.2.2.2.1;have h1:Turns [] ((x,Is (br (aH S.X.d) (aH S.a) q b))::(gf b hv [(kn r q).blk] 0++(aC (kn r q)++([]++N9 S)))) w w2:=by rw[s13];exact hT.to ac
  exact h1
 have H2:=NZ hF;clear hT hst hF x0 xl HO;by_cases hz2:z<0
 ·go_wp2_with fail;go_ret2;exact Rx.done false H2.o.gb H2.o.turns
 go_wp2_with fail;go_loopw [8] (fun v wr=>J3 w l x b q v wr) (fun v _=>l.length-(intOf v).toNat)
 case atStart=>exact⟨0,hv,[],_,[],S,Nat.zero_le _,rfl,H2.o⟩
 case round =>
  obtain⟨k,hv2,bl,R,P,Z,hk,rfl,hZ⟩:=hrel;by_cases hlt:k<l.length
  ·obtain⟨g,off,hg,c0,c1,c2,c3,c4,c5,c6⟩:=Jn (HH.a.keep hZ.turns.news (fun _ _ _=>id)) hlt;have TV:=HH.b l[k] (getElem_mem hlt);obtain⟨dsl,OC,hdv,-,-,-⟩:=TV.dv;have hnx:=mX hlt;have hle:=rt l (k+1);subst hg;obtain⟨o,hod⟩:=Na (l[k]);rw[<- hod]at c0 c1 c2 c3 c4 c5 c6 TV hdv hnx;obtain⟨ok,oa,Ot,oc,os,ot,OA,od⟩:=o;simp only at c0 c1 c2 c3 c4 c5 c6 hdv;subst hdv;have hgl:=World.block_lt_of_cell? wr _ c0;have HZ:=OW hZ TV hnx hle;clear hZ TV hnx hle hod;go_upto_region 9 with(fail);obtain⟨ob,hob⟩:=Na wr.heap.size
   have hT1:Turns [] ((ob,Is (oO ⟨ok,oa,Ot,oc,os,ot,.slice dsl od.length OC,od⟩))::YQ x b q hv2 bl R P Z) w (wr.alloc (.cells #[.int .i64 ok,.int .i64 oa,.int .i64 Ot,.int .i64 oc,.string ⟨os.toArray⟩,.string ⟨ot.toArray⟩,.slice dsl od.length OC] 65)):=by
    rw[hob];exact HZ.a.turns.Q9 (oO ⟨ok,oa,Ot,oc,os,ot,.slice dsl od.length OC,od⟩)
   rw[<- hob];generalize wr.alloc (.cells #[.int .i64 ok,.int .i64 oa,.int .i64 Ot,.int .i64 oc,.string ⟨os.toArray⟩,.string ⟨ot.toArray⟩,.slice dsl od.length OC] 65)=W1 at hT1 ⊢
   have okey:∀W:World,W.heap[ob]?=some (oO ⟨ok,oa,Ot,oc,os,ot,.slice dsl od.length OC,od⟩)->W.cell? ⟨ob,0,none⟩=some (.int .i64 ok)/\W.cell? ⟨ob,1,none⟩=some (.int .i64 oa)/\W.cell? ⟨ob,2,none⟩=some (.int .i64 Ot)/\W.cell? ⟨ob,3,none⟩=some (.int .i64 oc)/\W.cell? ⟨ob,4,none⟩=some (str os)/\W.cell? ⟨ob,5,none⟩=some (str ot)/\W.cell? ⟨ob,6,none⟩=some (.slice dsl od.length OC)/\ob<W.heap.size:=fun W ho =>
    ⟨aa ho 0 rfl,aa ho 1 rfl,aa ho 2 rfl,aa ho 3 rfl,aa ho 4 rfl,aa ho 5 rfl,aa ho 6 rfl,ae ho⟩
   have qaE:∀(W:World),W.heap[x]?=some (br (aH Z.X.d) (aH Z.a) q b)->W.cell? ⟨x,1,none⟩=some (.pointer (some ⟨Z.a,0,none⟩))/\W.cell? ⟨x,2,none⟩=some (.int .i64 q)/\W.cell? ⟨x,3,none⟩=some (.pointer (some ⟨b,0,none⟩))/\x<W.heap.size:=fun W ho =>
    ⟨aa ho 1 rfl,aa ho 2 rfl,aa ho 3 rfl,ae ho⟩
   obtain⟨o0,o1,o2,o3,o4,o5,o6,ol⟩:=okey W1 hT1.sat.Q5;have HK:=Ob okey qaE;have HC:Hid (Calls prog 35 #[.agg #[.int .i64 ok,.int .i64 oa,.int .i64 Ot,.int .i64 oc,str os,str ot,.slice dsl od.length OC]] W1 (fun e w'=>e=.returned (.bool (vN ⟨ok,oa,Ot,oc,os,ot,.slice dsl od.length OC,od⟩))/\aV W1 w')):=NZ (vM ⟨ok,oa,Ot,oc,os,ot,.slice dsl od.length OC,od⟩ rfl W1);have HT1:=NZ hT1;clear hT1 hob okey qaE c0 c1 c2 c3 c4 c5 c6;go_wp2_with fail;refine HC.o.mono ?_;rintro e W2 ⟨rfl,hs2⟩;have hT2:=HT1.o.Q8 hs2;clear o0 o1 o2 o3 o4 o5 o6 ol;obtain⟨o0,o1,o2,o3,o4,o5,o6,ol⟩:=HK.a W2 hT2.sat.Q5;have HT2:=NZ hT2;clear hT2 hs2;by_cases hgo:vN ⟨ok,oa,Ot,oc,os,ot,.slice dsl od.length OC,od⟩=true\/ok=6\/ok=14
   ·have Oa:Turns [] (gf b hv2 (bl++[R.blk]) 0++((ob,Is (oO ⟨ok,oa,Ot,oc,os,ot,.slice dsl od.length OC,od⟩))::(x,Is (br (aH Z.X.d) (aH Z.a) q b))::(aC R++(ay P++N9 Z)))) w W2:=by
     have:=HT2.o;unfold YQ at this;exact this.to ac
    have HN:=NZ (yI b hv2 bl 0 R.blk W2 Oa.sat.left HZ.a.his);have HT3:=NZ Oa;obtain⟨x1,x2,x3,xl⟩:=HK.z W2 (HT2.o.sat.tail.Q5);obtain⟨cg,hcg⟩:=Na (vN ⟨ok,oa,Ot,oc,os,ot,.slice dsl od.length OC,od⟩);have HCG:=NZ hcg
    have hcase:cg=true\/(cg=false/\(ok != 6)=false)\/(cg=false/\(ok != 6)=true/\(ok != 14)=false):=by
     rw[hcg];rcases hgo with h|h|h
     ·exact .inl h
     ·exact .inr (.inl ⟨ID (.inl h),by simp[h]⟩)
     ·exact .inr (.inr ⟨ID (.inr h),by simp[h],by simp[h]⟩)
    rw[<- hcg];clear Oa hgo hcg;rcases hcase with rfl|⟨rfl,n6⟩|⟨rfl,n6,n14⟩
    all_goals
     go_wp2_with fail;refine HN.o.mono ?_;rintro e W3 ⟨rfl,hs3⟩;have Oj:Turns [] ((aC R++ay P)++((ob,Is (oO ⟨ok,oa,Ot,oc,os,ot,.slice dsl od.length OC,od⟩))::(x,Is (br (aH Z.X.d) (aH Z.a) q b))::(gf b hv2 (bl++[R.blk]) 0++N9 Z))) w W3:=(HT3.o.Q8 hs3).to ac;have hra:=HZ.a.rb.at Nb Oj.sat.left;have HCp:=NZ (vI R W3 Oj.sat.left.left HZ.a.rb.ok hra.one ⟨by have:=HZ.a.rb.vs;omega,by have:=HZ.a.rb.ts;omega⟩);have HT4:=NZ Oj;clear hs3 hra Oj x1 x2 x3 xl o0 o1 o2 o3 o4 o5 o6 ol;go_wp2_with fail;refine HCp.o.mono ?_;rintro e W4 ⟨b2,UN,tv2,rfl,hro,hT⟩;have Og:Turns [] ((b2,Is (.cells #[UN,tv2,.int .i64 R.quota,.bool false] 60 (0,0)))::(eh UN R.vs++eH tv2 R.ts++(aC R++(ay P++((ob,Is (oO ⟨ok,oa,Ot,oc,os,ot,.slice dsl od.length OC,od⟩))::(x,Is (br (aH Z.X.d) (aH Z.a) q b))::(gf b hv2 (bl++[R.blk]) 0++N9 Z)))))) w W4:=((HT4.o.to (H:=aC R++(ay P++((ob,Is (oO ⟨ok,oa,Ot,oc,os,ot,.slice dsl od.length OC,od⟩))::(x,Is (br (aH Z.X.d) (aH Z.a) q b))::(gf b hv2 (bl++[R.blk]) 0++N9 Z)))) ac).step (Perm.refl _) hT).to (Perm.of_eq (by simp[aC,fL,da]));obtain⟨x1,x2,x3,xl⟩:=HK.z W4 (Og.sat.Q7 Nh);have b2l:=ae Og.sat.Q5;have H5:=Ob Og hro;clear hT Og hro;go_upto_region 13 with(first|(refine ai rfl (aX 3 (.tmp 62) (.tmp 60) rfl b2 2 #[UN,tv2,.int .i64 R.quota,.bool false] 60 (.int .i64 q) H5.a rfl rfl Nh Nc rfl rfl ?_);intro W5 Ox;have H6:=NZ Ox;clear Ox;simp only[Act.put])|fail);obtain⟨R2,hR2⟩:=Na ({ R with blk:=b2,vv:=UN,tv:=tv2,quota:=(q:Int),closed:=false }:Oh);have hb2:R2.blk=b2:=by rw[hR2]
     have hrb:RB R2 P k:=by
      rw[hR2];have I:=HZ.a.rb;exact⟨⟨I.inv.sorted,I.inv.UR,I.inv.each,I.inv.QT,I.inv.P9,I.inv.held⟩,⟨H5.z.vs,H5.z.ts⟩,I.Ru,I.inp,I.vs,I.ts,I.nums⟩
     have OH:Turns [] ((aC R2++ay P)++((ob,Is (oO ⟨ok,oa,Ot,oc,os,ot,.slice dsl od.length OC,od⟩))::(x,Is (br (aH Z.X.d) (aH Z.a) q b))::(aC R++(gf b hv2 (bl++[R.blk]) 0++N9 Z)))) w W5:=by
      have h1:Turns [] (aC R2++(aC R++(ay P++((ob,Is (oO ⟨ok,oa,Ot,oc,os,ot,.slice dsl od.length OC,od⟩))::(x,Is (br (aH Z.X.d) (aH Z.a) q b))::(gf b hv2 (bl++[R.blk]) 0++N9 Z))))) w W5:=by
       have:=H6.o;rw[hR2];exact this.to (Perm.of_eq (by simp[aC,fL,da]))
      exact h1.to ac
     obtain⟨o0,o1,o2,o3,o4,o5,o6,ol⟩:=HK.a W5 (OH.sat.right.Q5)
     have hmm:od.length<=60000/\k+1<=400:=by
      have h1:=HZ.c;have h2:=HZ.x;have h3:=HH.w;unfold qu at h1;simp only at h1;omega
     have HTh:Hid (Calls prog 38 #[.pointer (some ⟨b2,0,none⟩),.agg #[.int .i64 ok,.int .i64 oa,.int .i64 Ot,.int .i64 oc,str os,str ot,.slice dsl od.length OC]] W5 (fun e w'=>∃n R' P',e=.returned (.int .i64 n)/\(O8 R2 R' P' (k+1) od.length/\jZ P'/\∀p∈P,p∈P')/\Turns [] ((aC R'++ay P')++((ob,Is (oO ⟨ok,oa,Ot,oc,os,ot,.slice dsl od.length OC,od⟩))::(x,Is (br (aH Z.X.d) (aH Z.a) q b))::(aC R++(gf b hv2 (bl++[R.blk]) 0++N9 Z)))) w w')):=by
      rw[<- hb2];exact NZ (KD hrb Nb OH HZ.b hmm.1)
     have H7:=Oz OH hb2 hmm;clear hR2 OH hb2 hrb hmm x1 x2 x3 xl b2l;go_wp2_with fail;refine HTh.o.mono ?_;rintro e W6 ⟨f,R',P',rfl,hth,hT⟩;have OX:=hT.to (H:=N9 Z++((x,Is (br (aH Z.X.d) (aH Z.a) q b))::((aC R'++ay P')++((ob,Is (oO ⟨ok,oa,Ot,oc,os,ot,.slice dsl od.length OC,od⟩))::(aC R++gf b hv2 (bl++[R.blk]) 0))))) ac;clear o0 o1 o2 o3 o4 o5 o6 ol;obtain⟨o0,o1,o2,o3,o4,o5,o6,ol⟩:=HK.a W6 (OX.sat.Q7 Nh)
     have HDo:Hid (Calls prog 39 #[.pointer (some ⟨x,0,none⟩),.agg #[.int .i64 ok,.int .i64 oa,.int .i64 Ot,.int .i64 oc,str os,str ot,.slice dsl od.length OC]] W6 (kW w (fun _ S'=>kC Z k S') x (br (aH Z.X.d) (aH Z.a) q b) ((aC R'++ay P')++((ob,Is (oO ⟨ok,oa,Ot,oc,os,ot,.slice dsl od.length OC,od⟩))::(aC R++gf b hv2 (bl++[R.blk]) 0))))) :=
      NZ (gdo (S:=Z) (k:=k) (o:=⟨ok,oa,Ot,oc,os,ot,.slice dsl od.length OC,od⟩) (x:=x) (hb':=b) (dp:=aH Z.X.d) (q:=(q:Int)) (G:=((aC R'++ay P')++((ob,Is (oO ⟨ok,oa,Ot,oc,os,ot,.slice dsl od.length OC,od⟩))::(aC R++gf b hv2 (bl++[R.blk]) 0)))) (w0:=w) (W:=W6) HZ.a.gb Nb HZ.a.cl OX HH.c HZ.b H7.c)
     have H8:=NZ hth;clear hT OX hth;go_wp2_with fail;refine HDo.o.mono ?_;rintro e W7 ⟨n,S',rfl,hda,hT⟩;have hsi:br (aH S'.X.d) (aH S'.a) q b=br (aH Z.X.d) (aH Z.a) q b:=by rw[hda.1,hda.2.1.2]
     have hcl:S'.X.closed=false:=hda.2.1.1.trans HZ.a.cl
     have Xt:Rx w W7 x b q hv2 bl R P' S' (k+1):=by
      have I:=(HZ.a.mono (Nat.le_succ k)).rb;refine⟨?_,HZ.a.his,hda.2.2,hcl,⟨I.inv,I.ok,H8.b,fun v hv=>H8.y _ (I.inp v hv),I.vs,I.ts,I.nums⟩,by have:=HZ.a.len;omega⟩;show Turns [] ((x,Is (br (aH S'.X.d) (aH S'.a) q b))::(gf b hv2 (bl++[R.blk]) 0++(aC R++(ay P'++N9 S')))) w W7;rw[hsi];exact hT.drop (fun y=>by simp only[af,ao];omega)
     have H9:=PD hT hda hsi hcl Xt;clear hT hda hsi hcl Xt o0 o1 o2 o3 o4 o5 o6 ol;by_cases n8:n=8
     ·subst n8;go_wp2_with fail;go_roundw
      case rel=>exact⟨k+1,hv2,bl,R,P',S',Nb,by go_num,H9.w⟩
      case measure=>simp[intOf];omega
     ·have n8b:(n != 8)=true:=by simpa using n8
      by_cases nf:n=f
      ·subst nf;by_cases n0:n=0
       ·subst n0
        first
         | (
          have hcg:vN ⟨ok,oa,Ot,oc,os,ot,.slice dsl od.length OC,od⟩=false:=HCG.o.symm;go_wp2_with (go_at_call 41;refine(bC _ _).mono ?_;rintro e w' ⟨rfl,rfl⟩);go_roundw
          case rel=>exact⟨k+1,hv2,bl,R,P',S',Nb,by go_num,H9.w⟩
          case measure=>simp[intOf];omega)
         | (
          skip;have hTh:=H9.a.to (H:=gf b hv2 (bl++[R.blk]) 0++(N9 S'++((x,Is (br (aH Z.X.d) (aH Z.a) q b))::((aC R'++ay P')++((ob,Is (oO ⟨ok,oa,Ot,oc,os,ot,.slice dsl od.length OC,od⟩))::aC R))))) ac;have HA:=NZ (qq b hv2 (bl++[R.blk]) 0 b2 W7 hTh.sat.left HZ.a.his (by have:=HZ.a.len;simp;omega));obtain⟨x1,x2,x3,xl⟩:=HK.z W7 (hTh.sat.Q7 Nh);have HT:=NZ hTh;clear hTh;go_wp2_with (go_at_call 41;refine(bC _ _).mono ?_;rintro e w' ⟨rfl,rfl⟩);refine HA.o.mono ?_;rintro e W8 ⟨rfl,v',hv',hT⟩;have hbb:R'.blk=b2:=H8.a.blk.trans H7.b
          have hF8:Rx w W8 x b q v' (bl++[R.blk]) R' P' S' (k+1):=by
           have I:=H8.a;refine⟨?_,by rw[hbb];exact hv',H9.b.2.2,H9.d,⟨I.inv,I.ok,H8.b,I.inp,I.vs,I.ts,I.nums⟩,by have:=HZ.a.len;simp;omega⟩;show Turns [] ((x,Is (br (aH S'.X.d) (aH S'.a) q b))::(gf b v' ((bl++[R.blk])++[R'.blk]) 0++(aC R'++(ay P'++N9 S')))) w W8;rw[H9.c,hbb];exact(HT.o.step (Perm.refl _) hT).drop (fun y=>by simp only[af,ao];omega)
          have HF8:=NZ hF8;clear hF8 hT hv' hbb x1 x2 x3 xl;go_wp2_with fail;go_roundw
          case rel=>exact⟨k+1,v',bl++[R.blk],R',P',S',Nb,by go_num,HF8.o⟩
          case measure=>simp[intOf];omega)
       ·have n0b:(n==0)=false:=by simpa using n0
        go_wp2_with (go_at_call 41;refine(bC _ _).mono ?_;rintro e w' ⟨rfl,rfl⟩);go_roundw
        case rel=>exact⟨k+1,hv2,bl,R,P',S',Nb,by go_num,H9.w⟩
        case measure=>simp[intOf];omega
      ·have nfb:(n != f)=true:=by simpa using nf
       go_wp2_with (go_at_call 41;refine(bC _ _).mono ?_;rintro e w' ⟨rfl,rfl⟩);go_ret2;exact Rx.done false H9.w.gb H9.w.turns
   ·have hgc:vN ⟨ok,oa,Ot,oc,os,ot,.slice dsl od.length OC,od⟩=false:=by
     cases hc:vN ⟨ok,oa,Ot,oc,os,ot,.slice dsl od.length OC,od⟩with
     | false=>rfl
     | true=>exact absurd (.inl hc) hgo
    have q6:¬ok=6:=fun e=>hgo (.inr (.inl e))
    have Y1:¬ok=14:=fun e=>hgo (.inr (.inr e))
    rw[hgc];have hF2:Rx w W2 x b q hv2 bl R P Z (k+1):={ HZ.a.mono (Nat.le_succ k)with turns:=HT2.o.drop (fun y=>by simp only[ao];omega) };have HF2:=NZ hF2;clear hF2;have n6:(ok != 6)=true:=by simpa using q6
    have n14:(ok != 14)=true:=by simpa using Y1
    go_wp2_with fail;go_roundw
    case rel=>exact⟨k+1,hv2,bl,R,P,Z,Nb,by go_num,HF2.o⟩
    case measure=>simp[intOf];omega
  ·obtain rfl:k=l.length:=Nb
   have hx:wr.heap[x]?=some (br (aH Z.X.d) (aH Z.a) q b):=hZ.turns.sat.Q5;have x1:wr.cell? ⟨x,1,none⟩=some (.pointer (some ⟨Z.a,0,none⟩)):=aa hx 1 rfl;have xl:=ae hx
   have hTc:Turns [] (N9 Z++((x,Is (br (aH Z.X.d) (aH Z.a) q b))::(gf b hv2 (bl++[R.blk]) 0++(aC R++ay P)))) w wr:=by
    have:=hZ.turns;unfold YQ at this;exact this.to ac
   have HCl:=NZ (rL Z 70000 wr hTc.sat.left hZ.gb.ok (hZ.gb.b Nb) Nb);have HZ:=Ob hZ hTc;clear hZ hTc hx hk hlt;go_wp2_with fail;refine HCl.o.mono ?_;rintro e w3 (⟨hc,-⟩|⟨-,rfl,L',hf,hT⟩)
   ·rw[HZ.a.cl]at hc;cases hc
   have Oa:=HZ.z.step (Perm.refl _) hT;have PX:=NZ (bc .nilIface 0 w3 (HH.c.keep Oa.mods (fun h=>by simp at h)) (.inl ⟨rfl,rfl⟩));have H3:=Ob Oa hf;clear hT Oa hf x1 xl;go_wp2_with fail;refine PX.o.mono ?_;rintro e w4 ⟨rfl,hs4⟩;have HT4:=NZ (H3.a.Q8 hs4);clear hs4;go_wp2_with fail;go_ret2;refine Rx.done (b:=b) (q:=q) (hv:=hv2) (bl:=bl) (R:=R) (P:=P) true (HZ.a.gb.flush H3.z).close ?_;show Turns [] ((x,Is (br (aH Z.X.d) (aH Z.a) q b))::(gf b hv2 (bl++[R.blk]) 0++(aC R++(ay P++N9 { Z with L:=L',X:={ Z.X with closed:=true } })))) w w4;exact HT4.o.to ac
end
section
open Go.RowKit
def wx(d:Nat)(L:Ol)(w:World)(e:Ending)(w':World):Prop :=
 ∃L',e=.returned (.tuple #[])/\Turns (aA d L) (aA d L') w w'/\Ou L'/\L'.n=L.n/\L'.now=L.now/\L'.safe=L.now/\L'.N8=[]
theorem zr(d:Nat)(L:Ol)(keep:Nat)(w:World)(h:Sat w (aA d L))(hL:Ou L)(hc:L.N8=[])(hs:L.safe=L.now):
  Calls prog 31 #[.pointer (some ⟨d,0,none⟩),.int .u64 keep] w (wx d L w):=by
 have hd:=h.Q5;have hrow:Sat w (bH 110 129 L.chv L.N8.length (bI L.N8)):=h.tail.tail.tail;obtain⟨-,-,sl,cap,hv,-,-⟩:=cT hrow hL.row;rw[hc]at hv;have hv:L.chv=.slice sl 0 cap:=hv;have c2:w.cell? ⟨d,2,none⟩=some (.slice sl 0 cap):=by rw[<- hv];exact aa hd 2 rfl
 have hdl:=ae hd;have HH:=PD h hL hc hs hv;clear h hL hc hs hd hrow hv;go_enter func31,ntmps31;go_wp2_with fail;go_loopw [11] (fun i wr=>i=.int .i64 0/\wr=w) (fun _ _=>0)
 case atStart=>exact⟨rfl,rfl⟩
 case round =>
  obtain⟨rfl,rfl⟩:=hrel;go_upto_region 6 with(fail)
  have k0:Turns (aA d L) ((L.nb,Is (.cells (aw L.now) 43 (0,0)))::((d,Is (jv L.sb L.nb L.n L.chv))::(L.sb,Is (.cells (aw L.safe) 43 (0,0)))::bH 110 129 L.chv L.N8.length (bI L.N8))) wr wr:=by
   refine(Turns.refl HH.a).to ?_;unfold aA jv;exact ac
  have HK:=NZ k0;clear k0;refine cH [([0,1,2,3,4,5,6,7],8,[])] [] HM.o Nc fun W tW=>?_
  simp only[Mix,map_cons,map_nil,nth,QG,QF];have k0:=tW HK.o;clear tW;have g0:W.cell? ⟨d,0,none⟩=some (.slice (some ⟨L.sb,0,none⟩) L.n L.n):=aa (k0.sat.Q7 (b:=d) (o:=jv L.sb L.nb L.n L.chv) Nh) 0 rfl;have g1:W.cell? ⟨d,1,none⟩=some (.slice (some ⟨L.nb,0,none⟩) L.n L.n):=aa (k0.sat.Q7 (b:=d) (o:=jv L.sb L.nb L.n L.chv) Nh) 1 rfl;repeat still_step
  have hl1:(L.safe.map am).length=L.n*128:=by rw[NP,HH.b.Ut];omega
  have hl2:(L.now.map am).length=L.n*128:=by rw[NP,HH.b.OU];omega
  refine wpStill_nil (rK (.tmp 35) (.tmp 39) 102 102 rfl 43 underlying102 128 qF L.nb L.n L.n L.sb L.n (L.now.map am) (L.safe.map am) 43 43 rfl rfl k0 (k0.sat.Q7 (b:=L.sb) (o:=.cells (aw L.safe) 43 (0,0)) Nh) hl1 hl2 (dF _) fun w2 hT2=>⟨rfl,?_⟩);simp only[Act.put,QA,QB,QC];refine wpStill_nil ?_
  have hT2:Turns (aA d L) ((d,Is (.cells #[.slice (some ⟨L.sb,0,none⟩) L.n L.n,.slice (some ⟨L.nb,0,none⟩) L.n L.n,L.chv,.int .i64 (-1)] 105 (0,0)))::((L.nb,Is (.cells (aw L.safe) 43 (0,0)))::(L.sb,Is (.cells (aw L.safe) 43 (0,0)))::bH 110 129 L.chv L.N8.length (bI L.N8))) wr w2:=by
   have hT2:Turns (aA d L) ((L.nb,Is (.cells (aw L.safe) 43 (0,0)))::((d,Is (jv L.sb L.nb L.n L.chv))::(L.sb,Is (.cells (aw L.safe) 43 (0,0)))::bH 110 129 L.chv L.N8.length (bI L.N8))) wr w2:=hT2;refine hT2.to ?_;unfold jv;exact ac
  clear k0 g0 g1 hl1 hl2;have V8:=ae hT2.sat.Q5;have HT2:=NZ hT2;clear hT2;go_upto_region 7 with(fail);go_wp2_with (first|(refine ai rfl (aX 103 (.tmp 43) (.const (.slice none 0 0)) rfl d 2 #[.slice (some ⟨L.sb,0,none⟩) L.n L.n,.slice (some ⟨L.nb,0,none⟩) L.n L.n,L.chv,.int .i64 (-1)] 105 (.slice none 0 0) HT2.o rfl rfl Nh Nc rfl rfl ?_);intro w3 Oa;have HT3:=NZ Oa;clear Oa;simp only[Act.put])|(refine ai rfl (aX 3 (.tmp 46) (.const (.int .i64 (-1))) rfl d 3 #[.slice (some ⟨L.sb,0,none⟩) L.n L.n,.slice (some ⟨L.nb,0,none⟩) L.n L.n,.slice none 0 0,.int .i64 (-1)] 105 (.int .i64 (-1)) HT3.o rfl rfl Nh Nc rfl rfl ?_);intro w4 Oj;have HT4:=NZ Oj;clear Oj;simp only[Act.put])|fail);refine bodyPost_end (results_none rfl _ _ _) rfl ⟨{ L with now:=L.now,safe:=L.now,chv:=.slice none 0 0,N8:=[] },rfl,?_,⟨HH.b.hn,HH.b.OU,HH.b.OU,⟨rfl,fun _=>⟨rfl,rfl⟩⟩,(fun _ hc=>by cases hc),rfl⟩,rfl,rfl,rfl,rfl⟩;have Oj:=HT4.o;rw[HH.d]at Oj;exact Turns.left (H:=bH 110 129 L.chv L.N8.length (bI L.N8)) Oj
end
section
open Go.RowKit Go.Maps
def uF:Bs:=[97,47,98]
def qt:Bs:=[99,111,110,116,101,110,116]
theorem A7(w:World)(hE:bh w):Calls prog 12 #[] w (fun e w'=>e=.returned (.bool true)/\aV w w'):=by
 have HN:=NZ (jC 200 Nb w);have HE:=NZ hE;clear hE;go_enter func12,ntmps12;go_wp2_with fail;refine HN.o.mono ?_;rintro e w1 ⟨d,L,rfl,hT,hL,hn,OY,hch⟩;have HO:=NZ (oS d L 1000 w1 hT.sat hL Nb Nb (by rw[hch];simp) (fun k hk=>by rw[OY];simp only[aN,an,drop_replicate,take_replicate];congr 1;omega) Nb);have H1:=Ob hT hn;clear hT hL hn OY hch;go_wp2_with fail;refine HO.o.mono ?_;rintro e w2 ⟨S,rfl,hst,hT⟩;rw[H1.z]at hst;have hT2:=H1.a.trans hT;have PX:=NZ (bc .nilIface 0 w2 (HE.o.keep hT2.mods (fun h=>by simp at h)) (.inl ⟨rfl,rfl⟩));have H2:=Ob hT2 hst;clear hT hT2 hst;go_wp2_with fail;refine PX.o.mono ?_;rintro e w3 ⟨rfl,hs3⟩;have H3:=NZ (H2.a.Q8 hs3);clear hs3
 have hcv:Sem.run prog (convert 38 38 (.slice (some ⟨w3.heap.size,0,none⟩) 7 7)) (w3.alloc (.cells #[.int .u8 99,.int .u8 111,.int .u8 110,.int .u8 116,.int .u8 101,.int .u8 110,.int .u8 116] 5))=.ok (.slice (some ⟨w3.heap.size,0,none⟩) 7 7) (w3.alloc (.cells #[.int .u8 99,.int .u8 111,.int .u8 110,.int .u8 116,.int .u8 101,.int .u8 110,.int .u8 116] 5 (7,8))) :=
  Go.Lib.run_convert_bytes_const w3 38 5 _ 7 7 underlying38 underlying5
 go_wp2_with fail;clear hcv;have Oj:Turns [] (N9 S) w (w3.alloc (.cells #[.int .u8 99,.int .u8 111,.int .u8 110,.int .u8 116,.int .u8 101,.int .u8 110,.int .u8 116] 5 (7,8))):=H3.o.alloc _;have hA:(#[.int .u8 99,.int .u8 111,.int .u8 110,.int .u8 116,.int .u8 101,.int .u8 110,.int .u8 116]:Array Value)=(qt.map am).toArray:=rfl
 have hc4:ak (w3.alloc (.cells #[.int .u8 99,.int .u8 111,.int .u8 110,.int .u8 116,.int .u8 101,.int .u8 110,.int .u8 116] 5 (7,8))) (some ⟨w3.heap.size,0,none⟩) (qt.map am):=fun _=>⟨_,0,rfl,fun j hj=>by
  rw[Nat.zero_add];refine aa (aM _ _) j ?_;rw[hA,getElem?_toArray];exact getElem?_eq_getElem hj⟩
 have hnd:w3.heap.size∉dom (N9 S):=fun h=>by have:=H3.o.sat.lt h;omega
 generalize w3.alloc (.cells #[.int .u8 99,.int .u8 111,.int .u8 110,.int .u8 116,.int .u8 101,.int .u8 110,.int .u8 116] 5 (7,8))=w4 at Oj hc4 ⊢;generalize w3.heap.size=B at hc4 hnd ⊢
 have HP:Hid (Calls prog 25 #[.pointer (some ⟨S.a,0,none⟩),.string ⟨#[97,47,98]⟩,.slice (some ⟨B,0,none⟩) 7 7] w4 (sS S uF qt 0 w4)):=by
  obtain⟨s1,s2,s3,s4,-⟩:=H2.z;exact NZ (qS S uF qt (some ⟨B,0,none⟩) 7 0 w4 Oj.sat s1 s2 Nb hc4 Nk Nk (fun _ x hx=>by obtain rfl:=Option.some.inj hx;exact hnd) Nk (by rw[s4];decide))
 have H4:=NZ Oj;clear Oj hA hc4 hnd;refine HP.o.mono ?_;intro e w5 hp
 obtain⟨S1,V,he,hcd,hps,hok1,hpb,hT⟩:∃S1 V,e=.returned (.tuple #[.int .i64 1,.nilIface])/\(S1.X.closed=false/\S1.X.d=d)/\PW S S1 uF qt V/\Oo S1/\Cv S qt 0 S1/\Turns (N9 S) (N9 S1) w4 w5:=by
  obtain⟨s1,s2,s3,s4,s5,s6,s7,s8,s9,s10,s11,s12,s13,s14,-⟩:=H2.z;rcases hp with⟨n,-,-,hn⟩|⟨-,-,-,-,⟨sp,N8,-,-,-,hfull,Td⟩|⟨S1,V,rfl,hps,hok1,hpb,hT⟩⟩
  ·exfalso;rcases hn with⟨a,-⟩|⟨-,a,-⟩|⟨-,-,a,-⟩|⟨-,-,-,a,-⟩
   ·rw[s3]at a;cases a
   ·revert a;decide
   ·revert a;decide
   ·rw[s4,s5]at a;revert a;decide
  ·exfalso;have h1:=Bw (S:=S) (l:=uF) (D:=qt) Nk (n:=(eM (ah S.ps uF):Int)+1) (s:=(qt.length:Int)) Td;have h2:=s1.count;rw[s12]at h2;rw[s11,h2]at hfull;have h3:qt.length=7:=rfl;have h4:au 200=99:=rfl;rw[h4]at hfull;simp only[length_nil]at hfull;omega
  ·refine⟨S1,V,?_,⟨hps.closed.trans s3,hps.d.trans s13⟩,hps,hok1,hpb,hT⟩;rw[s8];rfl
 subst he;have Og:=H4.o.trans hT
 obtain⟨t,hvs,hn1⟩:(∃rs H,Told S1 rs H)/\ah S1.ps uF=[V]/\S1.L.n=200:=by
  have hst:=H2.z;obtain⟨s1,s2,s3,s4,s5,s6,s7,s8,s9,s10,s11,s12,s13,s14,-⟩:=hst;have hnum:V.num=1:=by rw[hps.num,s8];rfl
  have hn1:S1.L.n=200:=hps.n.trans s12;have h1:=hok1.dat.2;have h2:=hok1.count;rw[hn1]at h2;have h4:au 200=99:=rfl;rw[h2,h4]at h1;exact⟨⟨_,_,(Ea H2.z).put s1 hok1 hps Nk Nk Nb Nb⟩,by rw[hps.vers,NR rfl,s8];rfl,hn1⟩
 have hcv1:gB S1 V=qt:=IJ hok1 hps.YE hps.N8
 have Xn:V.num=1:=by
  obtain⟨-,-,-,-,-,-,-,s8,-⟩:=H2.z;rw[hps.num,s8];rfl
 have HSy:Hid (Calls prog 47 #[.pointer (some ⟨S.a,0,none⟩)] w5 (zM S1 w5)):=by
  rw[<- hps.a];exact NZ (lN S1 (0+qt.length+2) w5 Og.sat hok1 (Mj hpb) Nk)
 have HCD:=NZ hcd;clear hcd;have H5:=Ry Og hok1 t hvs hn1 hcv1 Xn;clear hT hp hps hpb hok1 Og t hvs hn1 hcv1 Xn HP;go_wp2_with fail;refine HSy.o.mono ?_;rintro e w6 (⟨hc,-⟩|⟨-,rfl,L2,hf,hT⟩)
 ·rw[HCD.a]at hc;cases hc
 have hd1:S1.X.d=d:=HCD.z
 have Ox:Turns [] (aA d L2++((S1.a,Is (aL S1.X))::(aq S1.X.ab S1.X.d S1.A++(aG S1.X.pm S1.ps S1.pc++(bX S1.X.tm S1.ts S1.tc++aQ S1.X.cm S1.cs S1.cc))))) w w6:=by
  have h1:Turns [] ((S1.a,Is (aL S1.X))::(aq S1.X.ab S1.X.d S1.A++(aA S1.X.d L2++(aG S1.X.pm S1.ps S1.pc++(bX S1.X.tm S1.ts S1.tc++aQ S1.X.cm S1.cs S1.cc))))) w w6:=H5.a.trans hT;rw[<- hd1];generalize aL S1.X=q1 at h1 ⊢;generalize aq S1.X.ab S1.X.d S1.A=q2 at h1 ⊢;generalize aG S1.X.pm S1.ps S1.pc=q3 at h1 ⊢;generalize bX S1.X.tm S1.ts S1.tc=q4 at h1 ⊢;generalize aQ S1.X.cm S1.cs S1.cc=q5 at h1 ⊢;exact h1.to ac
 have HCr:Hid (Calls prog 31 #[.pointer (some ⟨d,0,none⟩),.int .u64 0] w6 (wx d L2 w6)):=NZ (zr d L2 0 w6 Ox.sat.left hf.1 hf.2.2.2.2 (by rw[hf.2.2.2.1,hf.2.2.1]));have H6:=Oz Ox hf hd1;clear hT Ox hf hd1;go_wp2_with fail;refine HCr.o.mono ?_;rintro e w7 ⟨L3,rfl,hT,c1,c2,c3,c4,c5⟩;have OH:=H6.a.step (Perm.refl _) hT;have hcp:Cp (gI S1 L2).L L3:=⟨c1,c2,c3,c4,c5⟩;have hok2:Oo (gI S1 L2):=H5.b.flush H6.b;obtain⟨rs,H,t0⟩:=H5.c;have t:Told (gI S1 L2) rs H:=t0.flush H6.b.2.2.1;have hn2:(gI S1 L2).L.n=200:=H6.b.2.1.trans H5.e
 have hdd:(gI S1 L2).data.length<=810000:=by
  have h1:=hok2.dat.2;have h2:=hok2.count;rw[hn2]at h2;have h4:au 200=99:=rfl;rw[h2,h4]at h1;omega
 have UQ:=NZ (t.YH hok2 (by rw[hn2];omega) hdd d L3 1000 w7 hcp OH.sat.left);have H7:=PD OH hcp hok2 hn2 t;clear hT c1 c2 c3 c4 c5 OH hcp hok2 t0 t hn2 hdd;go_wp2_with fail;refine UQ.o.mono ?_;rintro e w8 ⟨S3,rfl,ho3,hT⟩;obtain⟨OZ,hv,-⟩:=H7.w.Qp H7.c H7.b ho3;obtain⟨-,-,q3,q4,-⟩:=ho3.eX
 have hB3:QU S3 90000:=ho3.bound (by
  unfold aB;rw[NS,H7.b.2.1,H7.d];have h4:au 200=99:=rfl;rw[h4];omega) (by rw[q3];decide)
 obtain⟨V3,hV3,ZP⟩:∃V3,iU S3 uF 1 V3/\gB S3 V3=qt:=by
  have h1:=hv.1 uF;rw[show ah (gI S1 L2).ps uF=[V]from H5.d,map_cons,map_nil]at h1;obtain⟨V3,h2,h3⟩:=map_eq_singleton_iff.1 h1;unfold bu at h3;simp only[Prod.mk.injEq]at h3;refine⟨V3,⟨q4,Nk,?_⟩,?_⟩
  ·rw[h2];unfold iW;rw[NR (.inl (by rw[h3.1,H5.u];rfl))]
  ·rw[<- H5.f];unfold gB;rw[h3.2.2.1,hv.2.1];rfl
 have OX:=H7.a.step (Perm.refl _) hT;have HT1:=NZ (bc .nilIface 0 w8 (HE.o.keep OX.mods (fun h=>by simp at h)) (.inl ⟨rfl,rfl⟩));have H8:=PD OX OZ hB3 hV3 ZP;clear hT ho3 OZ hv q3 q4 hB3 hV3 ZP OX;go_wp2_with fail;refine HT1.o.mono ?_;rintro e w9 ⟨rfl,hs9⟩;have O4:=H8.a.Q8 hs9;have HT2:=NZ (bc .nilIface 0 w9 (HE.o.keep O4.mods (fun h=>by simp at h)) (.inl ⟨rfl,rfl⟩));have H9:=NZ O4;clear hs9 O4;go_wp2_with fail;refine HT2.o.mono ?_;rintro e w10 ⟨rfl,hs10⟩;have OM:=H9.o.Q8 hs10;have HT3:=NZ (bc .nilIface 0 w10 (HE.o.keep OM.mods (fun h=>by simp at h)) (.inl ⟨rfl,rfl⟩));have QW:=NZ OM;clear hs10 OM;go_wp2_with fail;refine HT3.o.mono ?_;rintro e w11 ⟨rfl,hs11⟩;have Rj:=QW.o.Q8 hs11;have HG:Hid (Calls prog 27 #[.pointer (some ⟨S3.a,0,none⟩),.string ⟨#[97,47,98]⟩,.int .i64 1] w11 (Eo S3 uF 1 w11)):=NZ (wz S3 uF 1 90000 w11 Rj.sat.left H8.b H8.c Nk Nk);have YN:=NZ Rj;clear hs11 Rj;go_wp2_with fail;refine HG.o.mono ?_;rintro e w12 (⟨k,hk,-⟩|⟨V4,v,sp,hf4,rfl,hbv,-,hT⟩)
 ·exact(FU H8.d hk).elim
 obtain rfl:=hf4.uniq H8.d;rw[H8.w]at hbv hT;have Rn:=YN.o.step (Perm.refl _) hT;obtain⟨sl,cap,rfl,-,-,hcl,-⟩:=bb Rn.sat.left.left hbv Nk;have hstr:Sem.run prog (convert 38 9 (.slice sl 7 cap)) w12=.ok (.string ⟨#[99,111,110,116,101,110,116]⟩) w12:=i5 (l:=qt) cap hcl;have HT4:=NZ (bc .nilIface 0 w12 (HE.o.keep Rn.mods (fun h=>by simp at h)) (.inl ⟨rfl,rfl⟩));have Uu:=NZ Rn;have hlen:qt.length=7:=rfl;rw[hlen];clear hT hbv Rn hcl hf4 hlen;go_wp2_with fail;refine HT4.o.mono ?_;rintro e w13 ⟨rfl,qao⟩;have Sl:=NZ (Uu.o.Q8 qao);clear qao;go_wp2_with fail;go_ret;exact ⟨rfl,Sl.o.news⟩
theorem Qs.YG{w W:World}{o:Pj}(h:Qs w o)(hs:aV w W):Qs W o where
 a:=h.a
 b:=h.b
 c:=h.c
 s:=h.s
 t:=h.t
 d:=h.d
 dv:=by obtain⟨sl,cap,e,h1,h2,hc⟩:=h.dv;exact⟨sl,cap,e,h1,h2,hc.keep hs (fun _ _ _=>id)⟩
def r8(ub d2 r:Nat)(Q:Int)(S:AS):WS:=⟨⟨ub,d2,some S.a,r,.slice none 0 0,.slice none 0 0,.slice none 0 0⟩,S,kn r Q,[],[],[],[]⟩
theorem Dk{w w8:World}{S:AS}{d2:Nat}{Q:Int}(hT:Turns [] (N9 S) w w8)(hg:GB S 0)(hc:S.X.closed=false):
  PV w ((w8.alloc (fL (kn w8.heap.size Q))).alloc (bw (r8 (w8.heap.size+1) d2 w8.heap.size Q S).U)) (r8 (w8.heap.size+1) d2 w8.heap.size Q S)/\GP (r8 (w8.heap.size+1) d2 w8.heap.size Q S) 0 0:=by
 have h1:=hT.Q9 (fL (kn w8.heap.size Q));have h2:=h1.Q9 (bw (r8 (w8.heap.size+1) d2 w8.heap.size Q S).U);have e0:(w8.alloc (fL (kn w8.heap.size Q))).heap.size=w8.heap.size+1:=Nh
 rw[e0]at h2;refine⟨⟨?_,rfl,rfl,⟨⟨rfl,fun _=>⟨rfl,rfl⟩⟩,⟨rfl,fun _=>⟨rfl,rfl⟩⟩⟩,(fun p hp=>by cases hp),(fun v hv=>by cases hv),⟨rfl,fun _=>⟨rfl,rfl⟩⟩,(fun x hx=>by cases hx),hc.symm,⟨Pairwise.nil,fun p=>Pairwise.nil,(fun v hv=>by cases hv),Pairwise.nil,(fun t ht=>by cases ht),(fun v hv=>by cases hv)⟩⟩,⟨hg,Nat.le_refl _,Nat.le_refl _,(fun v hv=>by cases hv),Nat.le_refl _,Nat.le_refl _,(fun x hx=>by cases hx)⟩⟩;have e1:gF (r8 (w8.heap.size+1) d2 w8.heap.size Q S)=(w8.heap.size+1,Is (bw (r8 (w8.heap.size+1) d2 w8.heap.size Q S).U))::(N9 S++([(w8.heap.size,Is (fL (kn w8.heap.size Q)))]++([]++[]))):=rfl;rw[e1];exact h2.to ac
theorem NH{p:Prop}(h:p:=by rw[append_nil]):p:=h
theorem vF(l:List Pj)(sl:Option Addr)(cap:Nat)(Q:Int)(ys:List Si)(sl2:Option Addr)(cap2:Nat)(l3:List Pj)(sl3:Option Addr)(cap3:Nat)(w:World)(h:ak w sl (sQ l))(hok:∀o∈l,Qs w o)(hcap:l.length<=1125899906842624)(h2:ak w sl2 (oB ys))(hok2:∀y∈ys,SK w y)(hcap2:ys.length<=1125899906842624)(h3:ak w sl3 (sQ l3))(OZ:∀o∈l3,Qs w o)(Uj:l3.length<=1125899906842624)(hE:bh w)(hQ:Q<=9223372036854775807):
  Calls prog 4 #[.slice sl l.length cap,.int .i64 Q,.slice sl2 ys.length cap2,.slice sl3 l3.length cap3] w (fun e w'=>e=.returned (.bool true)/\aV w w'):=by
 have HL:=NZ (A7 w hE);have HH:=PD h hok hE hQ hcap;have HY:=Oz h2 hok2 hcap2;have HB:=Oz h3 OZ Uj;clear h hok hE hQ hcap h2 hok2 hcap2 h3 OZ Uj;go_enter func4,ntmps4;go_wp2_with fail;refine HL.o.mono ?_;rintro e w1 ⟨rfl,hs1⟩;have hc1:=HH.a.keep hs1 (fun _ _ _=>id);have ho1:∀o∈l,Qs w1 o:=fun o ho=>(HH.b o ho).YG hs1
 have HS:=NZ (sv l sl cap w1 hc1 ho1 HH.w);have H1:=Oz hs1 hc1 ho1;clear hs1 hc1 ho1 HL;go_wp2_with fail;refine HS.o.mono ?_;rintro e w2 ⟨rfl,hs2⟩;have hs2:=H1.a.trans hs2;have hc3:=HB.a.keep hs2 (fun _ _ _=>id);have ho3:∀o∈l3,Qs w2 o:=fun o ho=>(HB.b o ho).YG hs2
 have Y6:=NZ (sv l3 sl3 cap3 w2 hc3 ho3 HB.y);have H2:=NZ hs2;clear hs2 hc3 ho3 HS H1;go_wp2_with fail;refine Y6.o.mono ?_;rintro e w3 ⟨rfl,hs3⟩;have H3:=NZ (H2.o.trans hs3);clear hs3 Y6 H2;obtain⟨i1,hi1⟩:=Na (kr l);obtain⟨i2,hi2⟩:=Na (kr l3);rw[<- hi1,<- hi2];have HI:=Ob hi1 hi2;clear hi1 hi2
 cases i1 with
 | false =>
  go_wp2_with fail;go_ret;exact ⟨rfl,H3.o⟩
 | true =>
 cases i2 with
 | false =>
  go_wp2_with fail;go_ret;exact ⟨rfl,H3.o⟩
 | true =>
 by_cases hy:400<ys.length
 ·go_wp2_with fail;go_ret;exact ⟨rfl,H3.o⟩
 ·have hlen:l.length<=400/\fK l<=60000:=by have:=HI.a;unfold kr at this;simpa using this.symm
  have hlen3:l3.length<=400/\fK l3<=60000:=by have:=HI.z;unfold kr at this;simpa using this.symm
  have HF:=NZ (vR l sl cap Q w3 (HH.a.keep H3.o (fun _ _ _=>id)) (fun o ho=>(HH.b o ho).YG H3.o) hlen (HH.c.keep H3.o (fun h=>h)));have H4:=Ob hlen3 hy;clear hlen hlen3 HI;go_wp2_with fail;refine HF.o.mono ?_;rintro e w4 ⟨x,dd,Y,z0,av,bv,qv,he,har,Xl,hT⟩;have he:e=.returned (.tuple #[.pointer (some ⟨x,0,none⟩),.bool z0]):=he;subst he;have x0:w4.cell? ⟨x,0,none⟩=some (.pointer (some ⟨dd,0,none⟩)):=aa hT.sat.Q5 0 rfl;have xl:=ae hT.sat.Q5;have Oa:Turns [] (aA dd Y) w3 w4:=hT.drop (fun y=>by simp only[ao];omega);have Oa:=Turns.Qg (Sat.nil w) H3.o Oa;have HC:=NZ (nZ dd Y w4 Oa.sat har);have HT3:=Ob Oa Xl;clear hT Oa har Xl HF;go_wp2_with fail;refine HC.o.mono ?_;rintro e w5 ⟨d,L2,rfl,hT,hL2,hn2,OQ,Pg,Xg⟩;have Og:Turns [] (aA d L2) w w5:=(HT3.a.step (F:=aA dd Y) (R:=[]) NH hT).drop (fun y=>by simp only[af,cW];omega);have H5:=OW Og hL2 (hn2.trans HT3.z) Xg;clear hT Og hL2 hn2 OQ Pg Xg HC x0 xl HT3;have hy4:ys.length<=400:=Nb
  go_wp2_with fail;go_loopw [15] (fun i wr=>∃(k:Nat) (L:Ol),k<=ys.length/\i=.int .i64 k/\Ou L/\L.n=648/\L.N8.length<=k/\Turns [] (aA d L) w wr) (fun i _=>ys.length-(intOf i).toNat)
  case atStart=>exact⟨0,L2,Nat.zero_le _,rfl,H5.b,H5.c,by rw[H5.x];simp,H5.a⟩
  case round =>
   obtain⟨k,L,hk,rfl,hL,hn,hch,hT⟩:=hrel;have HT:=OW hL hn hch hT;clear hL hn hch hT;by_cases hlt:k<ys.length
   ·obtain⟨g,off,rfl,c0,c1,c2⟩:=Jh (HY.a.turns HT.x) hlt;obtain⟨y,hyk⟩:=Na (ys[k]);rw[<- hyk]at c0 c1 c2;have hyo:SK w y:=HY.b y (by rw[hyk];exact getElem_mem hlt);obtain⟨Qu,O1,hbv,hbc,hbc9,Ve⟩:=hyo.dv;rw[hbv]at c1;obtain⟨z1,z2⟩:=sC y.sec;obtain⟨c,hc⟩:=Na ((IntKind.u64.wrap y.sec).toNat:Nat);obtain⟨r,hr⟩:=Na (c%648:Nat);have s0:IntKind.u64.wrap y.sec=(c:Int):=Nb
    have s1:(c:Int).tmod 648=(r:Int):=by rw[Int.tmod_eq_emod_of_nonneg Nb,hr];omega
    have s2:IntKind.u64.wrap (r:Int)=(r:Int):=iQ Nb Nb;have s3:IntKind.i64.wrap (r:Int)=(r:Int):=ny Nb Nb;have s4:IntKind.u64.wrap 648=648:=iQ Nb Nb;have hr6:r<648:=Nb
    have hcell:∀(W:World) (F:HF),Turns [] F w W->W.cell? ⟨g,off+k*3,none⟩=some (.int .i64 y.sec)/\W.cell? ⟨g,off+k*3+1,none⟩=some (.slice Qu y.d.length O1)/\W.cell? ⟨g,off+k*3+2,none⟩=some (.int .u64 y.turn)/\ak W Qu (y.d.map am)/\g<W.heap.size:=by
     intro W F hW;obtain⟨g',off',e',c0',c1',c2'⟩:=Jh (HY.a.turns hW) hlt;simp only[NY,Addr.mk.injEq,and_true]at e';obtain⟨rfl,rfl⟩:=e';rw[<- hyk]at c0' c1' c2';rw[hbv]at c1';exact⟨c0',c1',c2',Ve.turns hW,World.block_lt_of_cell? W _ c0'⟩
    have PL:=NZ hcell;have hturn:=hyo.turn;clear hyk hyo Ve z1 z2 hc hr hcell c0 c1 c2;go_upto_region 11 with(fail);refine cH [([0,1,2,3,4,5,6],7,[0,1,2,3,4,5])] [8,9,10,11] HM.o Nc fun W tW=>?_
    simp only[Mix,map_cons,map_nil,nth,QG,QF];have hTW:=tW HT.x;clear tW;obtain⟨c0,-,-,-,hgl⟩:=PL.o _ _ hTW;have hse:=jg d L W hTW.sat;rw[HT.b]at hse;repeat still_step
    refine wpStill_nil (aO Nc hse ?_);rintro e W5 ⟨rfl,hw5⟩;subst hw5;refine⟨_,rfl,by(repeat still_step);exact rfl,?_⟩;simp only[Act.put,QA,QB,QC];repeat still_step
    refine wpStill_nil ?_;have HTW:=NZ hTW;clear hTW hse;have HR:=NZ (j5 d L r W HTW.o.sat HT.a (by rw[HT.b];exact hr6));clear c0 s0 s1 s2 s3 s4;go_wp2_with fail;refine HR.o.mono ?_;rintro e w6 ⟨rfl,hs6⟩;obtain⟨s,hs⟩:=Na (aN L.now r);have hsl:s.length=128:=by rw[hs];exact gz HT.a.OU (by rw[HT.b];exact hr6)
    rw[<- hs];have hb:=aM w6 (.cells (aw (an 128)) 43);obtain⟨q1,q2⟩:=dr hb (s:=s) (by rw[hsl,ap]);have hTs:Turns [] ((w6.heap.size,Is (.cells (aw s) 43 (0,0)))::aA d L) w ((w6.alloc (.cells (aw (an 128)) 43)).setCells w6.heap.size 0 (s.map am)):=((HTW.o.Q8 hs6).Q9 (.cells (aw (an 128)) 43)).Qa q2 q1;have hth:(w6.alloc (.cells (aw (an 128)) 43)).there w6.heap.size 0 (aw s).size:=by rw[bL,hsl];exact eT hb 0 128 ND
    obtain⟨W7,hW7⟩:∃W,(w6.alloc (.cells (aw (an 128)) 43)).setCells w6.heap.size 0 (s.map am)=W:=⟨_,rfl⟩;rw[hW7]at hTs;obtain⟨sb,hsb⟩:=Na w6.heap.size;rw[<- hsb]at hTs;have HTh:=NZ hth;have HW:=NZ hW7;have HTs:=Ob hTs hsl;have HSL:=NZ hsl;have HSB:=NZ hsb;clear q1 q2 hb hTs hs6 hth hW7 HR hs hsl hsb;have hz:=mx;go_wp2_with (first|(refine wpList_store_mid rfl 43 (.tmp 17) (.tmp 79) rfl w6.heap.size 0 (aw s) rfl rfl HTh.o (gU HSL.o) (cS _) ?_;change wpList _ _ _ _ _ (World.setCells (w6.alloc (.cells (aw (an 128)) 43)) w6.heap.size 0 (s.map am));rw[HW.o]));rw[<- HSB.o];clear HTh HW HSB;go_loopw [19] (fun i wr2=>∃(j:Nat) (s':Bs),j<=y.d.length/\j<=128/\i=.int .i64 j/\s'.length=128/\Turns [] ((sb,Is (.cells (aw s') 43 (0,0)))::aA d L) w wr2) (fun i _=>128-(intOf i).toNat)
    case atStart=>exact⟨0,s,Nat.zero_le _,Nb,rfl,HTs.z,HTs.a⟩
    case round =>
     obtain⟨j,s',hj,YW,rfl,Yv,hT2⟩:=hrel;obtain⟨-,c1,c2,hbc,Vl⟩:=PL.o _ _ hT2;have HT2:=Ob hT2 Yv;clear hT2;by_cases hjd:j<y.d.length/\j<128
     ·obtain⟨hjd1,hjd2⟩:=hjd;obtain⟨bg,boff,rfl,ZF⟩:=hbc Np;have b0:=ZF j (by rw[NP];exact hjd1);rw[getElem_map]at b0;obtain⟨x,hx⟩:=Na (y.d[j]);rw[<- hx]at b0;have b1:=aa HT2.a.sat.Q5 j (ex s' j Nb);have b2:=aY HT2.a.sat.Q5 j;have b3:=ae HT2.a.sat.Q5;obtain⟨z,hz2⟩:=Na (s'[j]'Nb);rw[<- hz2]at b1;have hset:Turns [] ((sb,Is (.cells (aw (s'.set j x)) 43 (0,0)))::aA d L) w (wr.setCell ⟨sb,j,none⟩ (am x)):=HT2.a.Qa ((N7.refl (fun k=>k=sb) wr).set1 _) (by rw[<- qD];exact bq HT2.a.sat.Q5 j _);have HSt:=NZ hset;unfold am at b0 b1;clear hbc ZF hx hz2 hset;go_wp2_with fail;go_roundw
      case rel=>exact⟨j+1,s'.set j x,Nb,Nb,by go_num,by rw[length_set];exact HT2.z,HSt.o⟩
      case measure=>simp[intOf];omega
     ·have hjn:¬(j:Int)<(y.d.length:Int)\/((j:Int)<(y.d.length:Int)/\¬(j:Int)<128):=Nb
      have hrg:wr.rangeAt sb 0 (s'.map am):=by
       have:=dX HT2.a.sat.Q5 0 128;rwa [drop_zero,take_of_length_le Nb]at this
      have HRg:=NZ hrg;have hsbl:=ae HT2.a.sat.Q5;clear hrg hbc;rcases hjn with hjn|⟨hjn,hjn2⟩
      all_goals
       go_wp2_with (refine wpList_load_mid rfl 43 (.tmp 17) rfl sb 0 rfl (s'.map am) _ HRg.o underlying43 rfl (gT Yv) ?_);refine(ie d L r s' wr HT2.a.sat.tail HT.a (by rw[HT.b];exact hr6) Yv (by have:=HT.c;omega)).mono ?_;rintro e w8 ⟨rfl,L3,Oa,hL3,hn3,-,QZ⟩;have OX:Turns [] (aA d L3) w w8:=((HT2.a.to (H:=aA d L++[(sb,Is (.cells (aw s') 43 (0,0)))]) ac).step (Perm.refl _) Oa).drop (fun z=>by simp only[af];omega);have H8:=OW OX hL3 (hn3.trans HT.b) QZ;have hE8:bh w8:=HH.c.keep OX.mods (fun h=>by simp at h);have PX:=NZ (bc .nilIface 0 w8 hE8 (.inl ⟨rfl,rfl⟩));clear Oa hL3 hn3 QZ OX hE8 HRg hsbl c1 c2 Vl;go_wp2_with fail;refine PX.o.mono ?_;rintro e w9 ⟨rfl,hs9⟩;have O4:=H8.a.Q8 hs9;obtain⟨-,-,c2,-,Vl⟩:=PL.o _ _ O4;have H9:=NZ O4;clear hs9 O4;by_cases ht:0<y.turn
       ·have VN:=NZ (ib d L3 w9 H9.o.sat H8.b (by rw[H8.x];have:=HT.c;omega));go_wp2_with fail;refine VN.o.mono ?_;rintro e w10 ⟨rfl,L4,Oj,hL4,hn4,Ti,RQ,UE⟩;have OM:Turns [] (aA d L4) w w10:=(H9.o.step (F:=aA d L3) (R:=[]) NH Oj).drop (fun z=>by simp only[af,cW];omega);have HFp:=NZ (Cr d L4 y.turn w10 OM.sat hL4 UE (RQ.trans Ti.symm) hturn (by rw[hn4,H8.c];omega));obtain⟨-,-,c2,-,Vl⟩:=PL.o _ _ OM;have QW:=Oz OM hn4 UE;clear Oj hL4 hn4 Ti RQ UE OM;go_wp2_with fail;refine HFp.o.mono ?_;rintro e w11 ⟨L5,p,z,rfl,Og,hL5,hn5,-,-,-,-,ZN⟩;have Rj:Turns [] (aA d L5) w w11:=(QW.a.step (F:=aA d L4) (R:=[]) NH Og).drop (fun z=>by simp only[af,cW];omega);have YN:=OW Rj hL5 ((hn5.trans QW.b).trans H8.c) ZN;clear Og hL5 hn5 ZN Rj;go_wp2_with fail;go_roundw
        case rel=>exact⟨k+1,L5,Nb,by go_num,YN.b,YN.c,by rw[YN.x];simp,YN.a⟩
        case measure=>simp[intOf];omega
       ·have ht0:y.turn=0:=Nb
        go_wp2_with fail;go_roundw
        case rel=>exact⟨k+1,L3,Nb,by go_num,H8.b,H8.c,by rw[H8.x];have:=HT.c;omega,H9.o⟩
        case measure=>simp[intOf];omega
   ·obtain rfl:k=ys.length:=Nb
    have HC2:=NZ (nZ d L wr HT.x.sat HT.a);go_wp2_with fail;refine HC2.o.mono ?_;rintro e w6 ⟨d2,L3,rfl,hT,hL3,hn3,-,-,QZ⟩;have Ox:Turns [] (aA d2 L3) w w6:=(HT.x.step (F:=aA d L) (R:=[]) NH hT).drop (fun y=>by simp only[af,cW];omega);have HO:=NZ (Fi d2 L3 Q w6 Ox.sat hL3 (hn3.trans HT.b) QZ HH.d);have H6:=NZ Ox;clear hT Ox hL3 hn3 QZ HC2 hlt;go_wp2_with fail;refine HO.o.mono ?_;rintro e w7 (⟨S,rfl,hg,hcl,hT⟩|⟨F,rfl,hT⟩)
    ·have OH:Turns [] (N9 S) w w7:=(H6.o.step (F:=aA d2 L3) (R:=[]) NH hT).drop (fun y=>by simp only[af,cW];omega);have PX:=NZ (bc .nilIface 0 w7 (HH.c.keep OH.mods (fun h=>by simp at h)) (.inl ⟨rfl,rfl⟩));have H7:=Oz OH hg hcl;clear hT OH hg hcl HO;go_wp2_with fail;refine PX.o.mono ?_;rintro e w8 ⟨rfl,hs8⟩;have H8:=NZ (H7.a.Q8 hs8);clear hs8;go_wp2_with fail;obtain⟨hW,hP⟩:=Dk (d2:=d2) (Q:=Q) H8.o H7.b H7.y;have HW:=NZ (show PV w ((w8.alloc (.cells #[.slice none 0 0,.slice none 0 0,.int .i64 Q,.bool false] 60)).alloc (.cells #[.pointer (some ⟨d2,0,none⟩),.pointer (some ⟨S.a,0,none⟩),.pointer (some ⟨w8.heap.size,0,none⟩),.slice none 0 0,.slice none 0 0,.slice none 0 0] 63)) (r8 (w8.heap.size+1) d2 w8.heap.size Q S)/\GP (r8 (w8.heap.size+1) d2 w8.heap.size Q S) 0 0 from⟨hW,hP⟩);obtain⟨ub,hub⟩:=Na (w8.heap.size+1);have HU:=NZ hub;rw[<- hub];clear hW hP hub;go_loopw [25] (fun v wr=>∃(k:Nat) (X:WS),k<=l3.length/\v=.int .i64 k/\X.U.blk=ub/\PV w wr X/\GP X k (fK (l3.take k))) (fun v _=>l3.length-(intOf v).toNat)
     case atStart=>exact⟨0,_,Nat.zero_le _,rfl,HU.o.symm,HW.a,by simpa[fK]using HW.z⟩
     case round =>
      obtain⟨k,Y,hk,rfl,hYu,hY,hYP⟩:=hrel;have hl3:l3.length<=400:=H4.a.1;by_cases hlt:k<l3.length
      ·obtain⟨g,off,hg,c0,c1,c2,c3,c4,c5,c6⟩:=Jn (HB.a.keep hY.turns.news (fun _ _ _=>id)) hlt;have TV:=HB.b l3[k] (getElem_mem hlt);obtain⟨dsl,OC,hdv,-,-,-⟩:=TV.dv;have hnx:=mX hlt;have hle:=rt l3 (k+1);subst hg;obtain⟨o,hod⟩:=Na (l3[k]);rw[<- hod]at c0 c1 c2 c3 c4 c5 c6 TV hdv hnx;obtain⟨ok,oa,Ot,oc,os,ot,OA,od⟩:=o;simp only at c0 c1 c2 c3 c4 c5 c6 hdv;subst hdv;have hgl:=World.block_lt_of_cell? wr _ c0;have HY:=RV hY hYP hYu TV hnx hle;clear hY hYP hYu TV hnx hle hod;by_cases hk8:ok=8
       ·subst hk8;go_wp2_with fail;go_roundw
        case rel=>exact⟨k+1,Y,Nb,by go_num,HY.c,HY.a,HY.b.mono Nb (by have:=HY.e;omega)⟩
        case measure=>simp[intOf];omega
       ·have hk81:(ok != 8)=true:=by simpa using hk8
        have HC:=NZ (AL w wr Y ⟨ok,oa,Ot,oc,os,ot,.slice dsl od.length OC,od⟩ k (fK (l3.take k)) HY.a HY.b (by have:=H4.a.1;omega) (by have:=HY.e;have:=HY.v;have:=H4.a.2;unfold qu at *;simp only at *;omega) HH.c HY.d hk8);rw[HY.c]at HC;clear hk8;go_wp2_with fail;refine HC.o.mono ?_;rintro e w9 ⟨z,X',rfl,hw',hp',hu'⟩;rw[HY.c]at hu';have HX:=Oz hw' hp' hu';clear hw' hp' hu';go_wp2_with fail;go_roundw
        case rel=>exact⟨k+1,X',Nb,by go_num,HX.y,HX.a,HX.b.mono (Nat.le_refl _) (by have:=HY.e;unfold qu at this;simp only at this ⊢;omega)⟩
        case measure=>simp[intOf];omega
      ·obtain rfl:k=l3.length:=Nb
       have HE:=NZ hY.turns.news;clear hY hYP;go_wp2_with fail;go_ret;exact ⟨rfl,HE.o⟩
    ·have OH:Turns [] F w w7:=(H6.o.step (F:=aA d2 L3) (R:=[]) NH hT).drop (fun y=>by simp only[af,cW];omega);have PX:=NZ (bc (cr 10) 10 w7 (HH.c.keep OH.mods (fun h=>by simp at h)) (.inr (.inl rfl)));have H7:=NZ OH;clear hT OH HO;unfold cr;go_wp2_with fail;refine PX.o.mono ?_;rintro e w8 ⟨rfl,hs8⟩;have H8:=NZ (H7.o.Q8 hs8);clear hs8;go_wp2_with fail;go_ret;exact ⟨rfl,H8.o.news⟩
end
section
open Go.ChangeShapes Go.WideShapes Go.ChangeAt Go.RowKit
def Er(k:IntKind)(w:World)(a:Option Addr)(len cap:Nat)(zs:List Int):Prop :=
 (a=none/\len=0/\cap=0/\zs=[]) \/
 ∃x,a=some x/\len<=cap/\cap<=maxLen/\zs.length=cap/\(∀i,i<zs.length->w.cell? (x.add i)=some (.int k (zs.getD i 0)))/\∀n∈zs,(Lit.int k n).wf=true
theorem MK{n:Int}(h:(Lit.int .u8 n).wf=true):0<=n/\n<=255:=by
 have:=bounds_u8 h;omega
theorem Er.bytes{w:World}{a:Option Addr}{len cap:Nat}{zs:List Int}(h:Er .u8 w a len cap zs):
  ∃l:List UInt8,l.length=len/\ak w a (l.map am)/\len<=cap/\cap<=maxLen:=by
 rcases h with⟨rfl,rfl,rfl,rfl⟩|⟨x,rfl,hl,hm,hz,hcell,hwf⟩
 ·exact⟨[],rfl,fun hp=>by simp at hp,Nb,by unfold maxLen;omega⟩
 ·refine⟨(zs.take len).map fun z=>UInt8.ofNat z.toNat,Nj,fun hp=>?_,hl,hm⟩;have hlen:0<len:=by simp at hp;omega
  obtain⟨b,off,spot⟩:=x;have h0:=hcell 0 Nb;have hspot:spot=none:=by simpa[Addr.add]using World.cell?_spot h0
  subst hspot;refine⟨b,off,rfl,fun j hj=>?_⟩;have hj':j<zs.length:=by simp at hj;omega
  have hc:=hcell j hj';rw[Addr.add_lit]at hc;rw[hc];have hb:=MK (hwf _ (getElem_mem hj'));simp only[getElem_map,getElem_take,am,NY,Value.int.injEq,true_and];rw[getD_eq_getElem?_getD,getElem?_eq_getElem hj']
  have e:(UInt8.ofNat zs[j].toNat).toNat=zs[j].toNat:=by
   rw[UInt8.toNat_ofNat'];omega
  rw[e];simp;omega
theorem BW(s:ByteArray):str s.data.toList=.string s:=by
 unfold str;congr 1
theorem km{H:Type}{P:Program}{e:TypeId}{k:Nat}:∀{ds:List (DataW H)} {d:DataW H},d∈ds->k∈d.weights P e->k∈DataW.weightsAll P e ds
 | [],_,h,_=>by simp at h
 | x::r,d,h,hk=>by
  simp only[DataW.weightsAll,mem_append]
  rcases mem_cons.1 h with rfl|h
  ·exact .inl hk
  ·exact .inr (km h hk)
theorem yM{α:Type}(Q:Nat->α->Prop):∀n:Nat,(∀i,i<n->∃o,Q i o)->∃l:List α,l.length=n/\∀(i:Nat) (o:α),l[i]?=some o->Q i o
 | 0,_=>⟨[],rfl,fun i o h=>by simp at h⟩
 | n+1,h=>by
  obtain⟨l,h1,h2⟩:=yM Q n (fun i hi=>h i Nb)
  obtain⟨o,ho⟩:=h n Nb
  refine⟨l++[o],by simp[h1],fun i o' hi=>?_⟩
  by_cases hlt:i<n
  ·rw[getElem?_append_left Nb]at hi
   exact h2 i o' hi
  ·have hb:=(List.getElem?_eq_some_iff.1 hi).1
   simp only[NM,length_cons,length_nil]at hb
   obtain rfl:i=n:=Nb
   rw[<- h1,getElem?_append_right (Nat.le_refl _),Nat.sub_self]at hi
   simp only[getElem?_cons_zero,NY]at hi
   subst hi
   exact ho
theorem fG{α:Type}{n:Nat}:∀{l:List α},l.length=n+1->∃a r,l=a::r/\r.length=n
 | [],h=>by simp at h
 | a::r,h=>⟨a,r,rfl,by simpa using h⟩
theorem uD{α:Type}(l:List α)(h:l.length=7):∃a b c d e f g,l=[a,b,c,d,e,f,g]:=by
 obtain⟨a,r1,rfl,h1⟩:=fG h;obtain⟨b,r2,rfl,h2⟩:=fG h1;obtain⟨c,r3,rfl,h3⟩:=fG h2;obtain⟨d,r4,rfl,h4⟩:=fG h3;obtain⟨e,r5,rfl,h5⟩:=fG h4;obtain⟨f,r6,rfl,h6⟩:=fG h5;obtain⟨g,r7,rfl,h7⟩:=fG h6;exact⟨a,b,c,d,e,f,g,by rw[length_eq_zero_iff.1 h7]⟩
theorem tY{H:Type}{enc:TypeId×Value->H}{W:World}{n:Nat}{cs:List Value}{x:DataW H×List MemPlace}(h:DataW.trod enc prog W 0 (fun _=>true) true n 38 cs=some x)(hz:∀k∈x.1.weights prog 38,k<=reachBytes):
  ∃(l:Bs) (sl:Option Addr) (cap:Nat),cs=[.slice sl l.length cap]/\ak W sl (l.map am)/\l.length<=cap/\cap<=9223372036854775807/\l.length<=1125899906842624:=by
 rcases open_ints underlying38 underlying5 Nc h with⟨rfl,rfl⟩|⟨a,len,cap,zs,rfl,_,hl,hm,hzl,rfl,hcell,hwz⟩
 ·exact⟨[],none,0,rfl,fun hp=>by simp at hp,Nh,Nb,Nh⟩
 ·have hzl':zs.length=cap:=by simpa using hzl
  obtain⟨l,h1,h2,h3,_⟩:=Er.bytes (.inr ⟨_,rfl,hl,hm,hzl',hcell,hwz⟩:Er .u8 W (some a) len cap zs);subst h1;refine⟨l,some a,cap,rfl,h2,h3,by unfold maxLen at hm;omega,?_⟩;have h4:=hz (((lits (H:=H) .u8 (zs.take l.length)).length+(lits (H:=H) .u8 (zs.drop l.length)).length)*prog.bytesOf 5) (by simp only[DataW.weights,underlying38];exact mem_cons_self);rw[show prog.bytesOf 5=1 from by kernel_rfl,Nat.mul_one]at h4;simp only[lits,NP,NS,NT]at h4;have:=reachBytes_lt;omega
theorem eF{H:Type}{enc:TypeId×Value->H}{W:World}{m:Nat}{cs:List Value}{fs:Array Field}{xs:List (DataW H×List MemPlace)}{P:Program}(hf:∀(i:Nat) (f:Field),fs[i]?=some f->DataW.trod enc P W 0 (fun _=>true) true m f.type ((cs.drop f.offset).take (P.cellsOf f.type))=xs[i]?){i:Nat}{f:Field}(hi:fs[i]?=some f){t:TypeId}{off n:Nat}(ht:f.type=t)(ho:f.offset=off)(hc:P.cellsOf t=n):DataW.trod enc P W 0 (fun _=>true) true m t ((cs.drop off).take n)=xs[i]?:=by
 subst ht ho hc;exact hf i f hi
theorem KT{H:Type}{enc:TypeId×Value->H}{W:World}{n:Nat}{cs:List Value}{x:DataW H×List MemPlace}(h:DataW.trod enc prog W 0 (fun _=>true) true n 65 cs=some x)(hz:∀k∈x.1.weights prog 65,k<=reachBytes):
  ∃o:Pj,cs=QI o/\Qs W o:=by
 obtain⟨xs,m,rfl,rfl,hl,hlen,hf⟩:=DataW.trod_struct underlying65 h;rw[show prog.cellsOf 65=7 from by kernel_rfl]at hl;have ci:prog.cellsOf 3=1:=Nc
 have ct:prog.cellsOf 9=1:=Nc
 have cb:prog.cellsOf 38=1:=Nc
 obtain⟨y0,y1,y2,y3,y4,y5,y6,rfl⟩:=uD xs hlen;obtain⟨c0,c1,c2,c3,c4,c5,c6,rfl⟩:=uD cs hl
 have hzz:∀(j:Nat) (t:TypeId) (d:DataW H),[3,3,3,3,9,9,38][j]?=some t->[y0.1,y1.1,y2.1,y3.1,y4.1,y5.1,y6.1][j]?=some d->∀k∈d.weights prog t,k<=reachBytes:=fun j t d ht hd k hk=>hz k (by
  simp only[DataW.weights,underlying65];exact DataW.weights_mem_each (j:=j) (t:=t) (d:=d) ht hd k hk)
 clear hz h;have f0:DataW.trod enc prog W 0 (fun _=>true) true m 3 [c0]=some y0:=eF hf (i:=0) (f:={ name := "Kind",type:=3,offset:=0,embedded:=false,tag := "",pkgPath := "",byteOffset:=0 }) rfl rfl rfl ci;have f1:DataW.trod enc prog W 0 (fun _=>true) true m 3 [c1]=some y1:=eF hf (i:=1) (f:={ name := "A",type:=3,offset:=1,embedded:=false,tag := "",pkgPath := "",byteOffset:=8 }) rfl rfl rfl ci;have f2:DataW.trod enc prog W 0 (fun _=>true) true m 3 [c2]=some y2:=eF hf (i:=2) (f:={ name := "B",type:=3,offset:=2,embedded:=false,tag := "",pkgPath := "",byteOffset:=16 }) rfl rfl rfl ci;have f3:DataW.trod enc prog W 0 (fun _=>true) true m 3 [c3]=some y3:=eF hf (i:=3) (f:={ name := "C",type:=3,offset:=3,embedded:=false,tag := "",pkgPath := "",byteOffset:=24 }) rfl rfl rfl ci;have f4:DataW.trod enc prog W 0 (fun _=>true) true m 9 [c4]=some y4:=eF hf (i:=4) (f:={ name := "S",type:=9,offset:=4,embedded:=false,tag := "",pkgPath := "",byteOffset:=32 }) rfl rfl rfl ct;have f5:DataW.trod enc prog W 0 (fun _=>true) true m 9 [c5]=some y5:=eF hf (i:=5) (f:={ name := "T",type:=9,offset:=5,embedded:=false,tag := "",pkgPath := "",byteOffset:=48 }) rfl rfl rfl ct;have f6:DataW.trod enc prog W 0 (fun _=>true) true m 38 [c6]=some y6:=eF hf (i:=6) (f:={ name := "D",type:=38,offset:=6,embedded:=false,tag := "",pkgPath := "",byteOffset:=64 }) rfl rfl rfl cb;obtain⟨n0,e0,-,w0⟩:=DataW.trod_int underlying3 f0;obtain⟨n1,e1,-,w1⟩:=DataW.trod_int underlying3 f1;obtain⟨n2,e2,-,w2⟩:=DataW.trod_int underlying3 f2;obtain⟨n3,e3,-,w3⟩:=DataW.trod_int underlying3 f3;obtain⟨s4,e4,rfl,w4⟩:=DataW.trod_string underlying9 f4;obtain⟨s5,e5,rfl,w5⟩:=DataW.trod_string underlying9 f5;obtain⟨l,sl,cap,e6,h1,h2,h3,h4⟩:=tY f6 (hzz 6 _ _ rfl rfl);simp only[List.cons.injEq,and_true]at e0 e1 e2 e3 e4 e5 e6;subst e0 e1 e2 e3 e4 e5 e6;have hr:=reachBytes_lt;have z4:=hzz 4 _ _ rfl rfl s4.data.toList.length (by simp only[DataW.weights];exact mem_singleton.2 rfl);have z5:=hzz 5 _ _ rfl rfl s5.data.toList.length (by simp only[DataW.weights];exact mem_singleton.2 rfl);refine⟨⟨n0,n1,n2,n3,s4.data.toList,s5.data.toList,.slice sl l.length cap,l⟩,by unfold QI;rw[BW,BW],⟨Go.bounds_i64 w1,Go.bounds_i64 w2,Go.bounds_i64 w3,Nat.le_trans z4 Nb,Nat.le_trans z5 Nb,h4,⟨sl,cap,rfl,h2,h3,h1⟩⟩⟩
theorem Jq{H:Type}{enc:TypeId×Value->H}{W:World}{a:Option Addr}{len cap:Nat}{d:DataW H}{p:List MemPlace}(h:DataW.Trod enc prog W 0 (fun _=>true) true 22 (.slice a len cap) d p)(hz:∀k∈d.weights prog 22,k<=reachBytes):
  ∃l:List Pj,l.length=len/\ak W a (sQ l)/\(∀o∈l,Qs W o)/\l.length<=1125899906842624:=by
 obtain⟨fuel,hf⟩:=h;rcases DataW.trod_slice underlying22 hf with⟨hcs,_⟩|⟨x,len',cap',elems,rest,n,_,hcs,hx,hb,hl,hm,hlen,hel,_,_⟩
 ·simp[Value.cells]at hcs;obtain⟨rfl,rfl,rfl⟩:=hcs;exact⟨[],rfl,fun hp=>by simp[sQ]at hp,fun o ho=>by simp at ho,Nh⟩
 ·simp[Value.cells]at hcs;obtain⟨rfl,rfl,rfl⟩:=hcs;simp only[Prod.mk.injEq]at hx;obtain⟨rfl,-⟩:=hx;have c7:prog.cellsOf 65=7:=Nc
  rw[c7]at hel
  have each:∀i,i<elems.length->∃o:Pj,W.cells? 0 (x.add (i*7)) 7=some (QI o)/\Qs W o:=by
   intro i hi;have h1:=hel i Nb;rw[getElem?_eq_getElem hi,Option.bind_eq_some_iff]at h1;obtain⟨cs,hcs,hy⟩:=h1
   obtain⟨o,rfl,ho⟩:=KT hy (fun k hk=>hz k (by
    simp only[DataW.weights,underlying22];exact mem_cons_of_mem _ (mem_append_left _ (km (mem_map_of_mem (getElem_mem hi)) hk))))
   exact⟨o,hcs,ho⟩
  obtain⟨l,hll,hl2⟩:=yM _ _ each;have h80:=hz (((elems.map (·.1)).length+(rest.map (·.1)).length)*prog.bytesOf 65) (by simp only[DataW.weights,underlying22];exact mem_cons_self);rw[show prog.bytesOf 65=88 from by kernel_rfl]at h80;simp only[NP]at h80;have hr:=reachBytes_lt;refine⟨l,Nb,fun hp=>?_,fun o ho=>?_,Nb⟩
  ·rw[jA]at hp;obtain⟨b,off,spot⟩:=x;have h0:=(hl2 0 _ (getElem?_eq_getElem (by omega:0<l.length))).1;have hc0:=(World.cells?_some h0).2.2 0 Nb;have hspot:spot=none:=by simpa[Addr.add]using World.cell?_spot (hc0.trans rfl)
   subst hspot;refine⟨b,off,rfl,fun j hj=>?_⟩;have hj2:=hj;rw[jA]at hj2;have hi:j / 7<l.length:=Nb
   have h1:=(hl2 (j / 7) _ (getElem?_eq_getElem hi)).1;have h2:=(World.cells?_some h1).2.2 (j%7) Nb;rw[Addr.add_lit,Addr.add_lit,show off+j / 7*7+j%7=off+j by omega,<- yQ l (j / 7) hi (j%7) Nb,show j / 7*7+j%7=j by omega,getElem?_eq_getElem hj]at h2;exact h2
  ·obtain⟨i,hi⟩:=getElem?_of_mem ho;exact(hl2 i o hi).2
end
end Go.Proofs.YtdhobpbngkainaaGreatDoor
