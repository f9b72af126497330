/- Ours. A part of the proof, made small by a program. -/
import Derived.Test.YtdhobpbngkainaaGreatDoorCo13
import Derived.Test.YtdhobpbngkainaaGreatDoorCo01
import Derived.Test.YtdhobpbngkainaaGreatDoorCo06
import Derived.Test.YtdhobpbngkainaaGreatDoorCo02
import Derived.Test.YtdhobpbngkainaaGreatDoorCo05
import Derived.Test.YtdhobpbngkainaaGreatDoorCo09
import Derived.ProofKit
import Derived.OpenShut
import Derived.ShutString
import Derived.ChangeOld
set_option maxRecDepth 100000
set_option maxHeartbeats 4000000
namespace Go.Proofs.YtdhobpbngkainaaGreatDoor
open Go.RowKit Go.Maps
theorem q1b {w0 W:World} {X:WS} (h:WsOk w0 W X) {l:Bs} {n a c:Int} {w w':World} {r:Value} (hp:qqi X.S l n a c w (.returned r) w') :
  (∃ k,(k=9∨k=1∨k=3∨k=4)∧r=.tuple #[.slice none 0 0,errV k]∧Turns (arF X.S) (arF X.S) w w'∧∀ u e u',qey X.R l n a c u e u'→Same u u'∧e=.returned (.tuple #[.slice none 0 0,.int .i64 k])) ∨
  (∃ D v sp,r=.tuple #[v,.nilIface]∧D.length≤4000∧bOk v D∧AreaOk { X.S.A with spare:=sp }∧Turns (arF X.S) (bRow v D++arF (qda X.S sp)) w w'∧∀ u e u',qey X.R l n a c u e u'→Same u u'∧∃ cv,e=.returned (.tuple #[cv,.int .i64 0])∧qf7 X.P cv D):=by
 rcases hp with ⟨k,hfe,he,hT⟩ | ⟨V,hf,hr,he,hT⟩ | ⟨V,v,sp,hf,hr,he,hbo,hA,hT⟩
 ·refine .inl ⟨k,?_,Ending.returned.inj he,hT,fun u e u' hq=>?_⟩
  ·have:=hfe.pos;omega
  ·obtain ⟨hs,hm⟩:=hq
   rw [h.link.err hfe] at hm
   exact ⟨hs,hm⟩
 ·obtain ⟨rv,hrv,htr,hrm,-⟩:=h.link.found hf
  have hDr:rv.cont=contV X.S V:=congrArg (fun t:Trip=>t.2.1) htr
  obtain ⟨p,hp1,-,hp2⟩:=qnl hf.2.2
  have hlen:rv.cont.length=V.size:=by rw [hDr];exact qh1 h.ar hp1 hp2
  refine .inl ⟨4,.inr (.inr (.inr rfl)),Ending.returned.inj he,hT,fun u e u' hq=>?_⟩
  obtain ⟨hs,hm⟩:=hq
  rw [hrv] at hm
  obtain ⟨-,hm⟩:=hm
  rw [hlen] at hm
  rcases hm with ⟨-,hm⟩ | ⟨hm,-⟩
  ·exact ⟨hs,hm⟩
  ·exact absurd hr hm
 ·obtain ⟨rv,hrv,htr,hrm,-⟩:=h.link.found hf
  have hDr:rv.cont=contV X.S V:=congrArg (fun t:Trip=>t.2.1) htr
  obtain ⟨p,hp1,-,hp2⟩:=qnl hf.2.2
  have hlen:rv.cont.length=V.size:=by rw [hDr];exact qh1 h.ar hp1 hp2
  have hDl:rv.cont.length≤4000:=(h.link.each rv hrm).2.2
  refine .inr ⟨((contV X.S V).drop a.toNat).take c.toNat,v,sp,Ending.returned.inj he,?_,hbo,hA,hT,fun u e u' hq=>?_⟩
  ·rw [List.length_take,List.length_drop,← hDr];omega
  ·obtain ⟨hs,hm⟩:=hq
   rw [hrv] at hm
   obtain ⟨-,hm⟩:=hm
   rw [hlen,hDr] at hm
   rcases hm with ⟨hm,-⟩ | ⟨-,sl,cap,hm,-,hx⟩
   ·exact absurd hm hr
   ·refine ⟨hs,_,hm,sl,cap,rfl,?_⟩
    by_cases hne:((contV X.S V).drop a.toNat).take c.toNat=[]
    ·exact .inl hne
    ·obtain ⟨g,off,cap',e1,e2⟩:=hx hne
     refine .inr ⟨(rv.cv,rv.cont),h.inp rv hrm,g,off,cap',a.toNat,by simp only;rw [hlen];exact e1,e2,?_⟩
     simp only [hDr]
     rw [List.length_take]
     rcases Nat.le_total c.toNat ((contV X.S V).drop a.toNat).length with hc | hc
     ·rw [Nat.min_eq_left hc]
     ·rw [Nat.min_eq_right hc,List.take_of_length_le hc,List.take_length]
theorem qvi (w0 W:World) (X:WS) (o:OpL) (b:Nat) (h:WsOk w0 W X) (hB:ArB X.S b) (hb:b≤90000) (hl:X.R.vs.length≤100000) (hE:qbi w0) (ho:OpOk w0 o) (hk:o.kind=3) :
  Calls Tryz.prog 57 #[.pointer (some ⟨X.U.blk,0,none⟩),opA o] W (qiy w0 X):=by
 have HM:=Lib.hid (show Tryz.prog.follows .mixedOrders=true by kernel_rfl)
 have HH:=Lib.hid (And.intro h (And.intro hB (And.intro hb (And.intro hl (And.intro hE (And.intro ho hk))))))
 have hk':=hk
 obtain ⟨ok,oa,ob_,oc,os,ot,odv,od⟩:=o
 simp only at hk'
 subst hk'
 clear h hB hb hl hE ho hk
 unfold opA opV
 go_enter Tryz.func57,Tryz.ntmps57
 go_upto_region 11 with (fail)
 obtain ⟨ob,hob⟩:∃ ob,ob=W.heap.size:=⟨_,rfl⟩
 have hT1:Turns [] ((ob,Is (oO ⟨3,oa,ob_,oc,os,ot,odv,od⟩))::wsF X) w0 (W.alloc (.cells #[.int .i64 3,.int .i64 oa,.int .i64 ob_,.int .i64 oc,str os,str ot,odv] 65)):=by
  rw [hob];exact HH.out.1.turns.allocIs _
 have hsame:Same W (W.alloc (.cells #[.int .i64 3,.int .i64 oa,.int .i64 ob_,.int .i64 oc,str os,str ot,odv] 65)):=(Mods.refl _ _).alloc _
 rw [← hob]
 generalize W.alloc (.cells #[.int .i64 3,.int .i64 oa,.int .i64 ob_,.int .i64 oc,str os,str ot,odv] 65)=W1 at hT1 hsame ⊢
 have hcells:∀ (W:World) (G:HF),Turns [] (G++((ob,Is (oO ⟨3,oa,ob_,oc,os,ot,odv,od⟩))::(X.U.blk,Is (qao X.U))::(refF X.R++qay X))) w0 W →
   W.cell? ⟨X.U.blk,1,none⟩=some (.pointer (some ⟨X.S.a,0,none⟩))∧W.cell? ⟨X.U.blk,2,none⟩=some (.pointer (some ⟨X.R.blk,0,none⟩))∧W.cell? ⟨ob,4,none⟩=some (str os)∧W.cell? ⟨ob,1,none⟩=some (.int .i64 oa)∧W.cell? ⟨ob,2,none⟩=some (.int .i64 ob_)∧W.cell? ⟨ob,3,none⟩=some (.int .i64 oc):=by
  intro W G hT
  have hu:W.heap[X.U.blk]?=some (qao X.U):=hT.sat.memIs (by simp)
  have ho:W.heap[ob]?=some (oO ⟨3,oa,ob_,oc,os,ot,odv,od⟩):=hT.sat.memIs (by simp)
  refine ⟨?_,?_,qac ho 4 rfl,qac ho 1 rfl,qac ho 2 rfl,qac ho 3 rfl⟩
  ·have:=qac hu 1 (v:=ptrO X.U.a) rfl
   rw [HH.out.1.a] at this;exact this
  ·have:=qac hu 2 (v:=.pointer (some ⟨X.U.r,0,none⟩)) rfl
   rw [HH.out.1.r] at this;exact this
 have HCE:=Lib.hid hcells
 have hT2:Turns [] (arF X.S++((ob,Is (oO ⟨3,oa,ob_,oc,os,ot,odv,od⟩))::(X.U.blk,Is (qao X.U))::(refF X.R++qay X))) w0 W1:=by
  unfold wsF at hT1;exact hT1.to (qaf fun _=>by simp only [qad,qaa,qah]<;>omega)
 have HT1:=Lib.hid (And.intro hT2 hsame)
 clear hT1 hsame hcells hob hT2
 refine q6n ob X.U.blk X.S.a X.R.blk os ot oa ob_ oc (Post:=fun r W=>qqi X.S os oa ob_ oc W1.drew (.returned r) W) ?c0 ?c1 ?pt ?call ?_
 case c0=>obtain ⟨h1,-,h4,h5,h6,h7⟩:=HCE.out W1 _ HT1.out.1;exact ⟨h1,h4,h5,h6,h7⟩
 case c1 =>
  intro r W hp
  obtain ⟨G,hG⟩:∃ G,Turns (arF X.S) G W1.drew W:=by
   rcases hp with ⟨_,_,_,hG⟩ | ⟨_,_,_,_,hG⟩ | ⟨_,_,_,_,_,_,_,_,hG⟩<;>exact ⟨_,hG⟩
  obtain ⟨h1,-,h4,h5,h6,h7⟩:=HCE.out W _ (HT1.out.1.drew.step (List.Perm.refl _) hG);exact ⟨h1,h4,h5,h6,h7⟩
 case pt =>
  intro r W hp
  rcases hp with ⟨_,_,he,_⟩ | ⟨_,_,_,he,_⟩ | ⟨_,_,_,_,_,he,_⟩<;>(simp only [Ending.returned.injEq] at he;exact ⟨_,_,he⟩)
 case call =>
  refine (qvu X.S os oa ob_ oc b W1.drew (HT1.out.1.drew.sat.left) HH.out.1.ar HH.out.2.1 HH.out.2.2.1 (by have:=HH.out.2.2.2.2.2.1.s;simp only at this;omega) (by have:=HH.out.2.2.2.2.2.1.c.2;exact this)).mono ?_
  intro e w' hp
  rcases hp with ⟨k,h1,rfl,h3⟩ | ⟨V,h1,h2,rfl,h3⟩ | ⟨V,v,sp,h1,h2,rfl,h3⟩
  ·exact ⟨_,rfl,.inl ⟨k,h1,rfl,h3⟩⟩
  ·exact ⟨_,rfl,.inr (.inl ⟨V,h1,h2,rfl,h3⟩)⟩
  ·exact ⟨_,rfl,.inr (.inr ⟨V,v,sp,h1,h2,rfl,h3⟩)⟩
 intro bv ev W3 hp
 rcases q1b HH.out.1 hp with ⟨k,hfe,he,hG,hq⟩ | ⟨D,v,sp,he,hDl,hbo,hA,hG,hq⟩
 ·simp only [Value.tuple.injEq,Array.mk.injEq,List.cons.injEq,and_true] at he
  obtain ⟨rfl,rfl⟩:=he
  have hT3:=HT1.out.1.drew.step (List.Perm.refl _) hG
  have hE3:qbi W3:=HH.out.2.2.2.2.1.keep hT3.mods (fun h=>by simp at h)
  have HT3:=Lib.hid (And.intro hT3 (And.intro hE3 (And.intro hfe hq)))
  clear hG hT3 hE3 hfe hq hp
  go_upto_region 12 with (fail)
  refine qx6 ob X.U.blk X.S.a X.R.blk os ot oa ob_ oc (Post:=fun r W=>Same W3.drew W∧r=.tuple #[.slice none 0 0,.int .i64 k]) ?c0 ?c1 ?pt ?call ?_
  case c0=>obtain ⟨-,h2,h4,h5,h6,h7⟩:=HCE.out W3 _ HT3.out.1;exact ⟨h2,h4,h5,h6,h7⟩
  case c1 =>
   rintro r W ⟨hs,rfl⟩
   obtain ⟨-,h2,h4,h5,h6,h7⟩:=HCE.out W _ (HT3.out.1.drew.thenSame hs);exact ⟨h2,h4,h5,h6,h7⟩
  case pt=>rintro r W ⟨_,rfl⟩;exact ⟨_,_,rfl⟩
  case call =>
   refine (ql1 X.R X.P os oa ob_ oc W3.drew (HH.out.1.refAt' HH.out.2.2.2.1 (HT3.out.1.drew.sat.right.tail.tail)) (HH.out.2.2.2.2.2.1.c.2)).mono ?_
   intro e w' hq
   obtain ⟨hs,hm⟩:=HT3.out.2.2.2 _ _ _ hq
   exact ⟨_,hm,hs,rfl⟩
  rintro cv fv W4 ⟨hs4,he⟩
  simp only [Value.tuple.injEq,Array.mk.injEq,List.cons.injEq,and_true] at he
  obtain ⟨rfl,rfl⟩:=he
  have hT4:=HT3.out.1.drew.thenSame hs4
  have hE4:qbi W4:=HH.out.2.2.2.2.1.keep hT4.mods (fun h=>by simp at h)
  have HT4:=Lib.hid (And.intro hT4 hE4)
  clear hs4 hT4 hE4
  go_wp2_with fail
  refine (qcl (errV k) k W4 HT4.out.2 (.inr (.inl rfl))).mono ?_
  rintro e W5 ⟨rfl,hs5⟩
  have HS5:=Lib.hid hs5
  clear hs5
  go_wp2_with fail
  refine (qfy none none 0 0 [] [] W5 (qbr _ _) (qbr _ _) (by simp) (by simp)).mono ?_
  rintro e W6 ⟨rfl,hs6⟩
  have hT6:Turns [] ((X.U.blk,Is (qao X.U))::(arF X.S++(refF X.R++(qay X++[(ob,Is (oO ⟨3,oa,ob_,oc,os,ot,odv,od⟩))])))) w0 W6:=((HT4.out.1.thenSame HS5.out).thenSame hs6.same).to (qaf fun _=>by simp only [qad,qaa,qah]<;>omega)
  obtain ⟨Z,hZ⟩:∃ Z,Z=arF X.S++(refF X.R++(qay X++[(ob,Is (oO ⟨3,oa,ob_,oc,os,ot,odv,od⟩))])):=⟨_,rfl⟩
  rw [← hZ] at hT6
  have HT6:=Lib.hid hT6
  have HZ:=Lib.hid hZ
  clear hT6 hs6 hZ
  have hkp:k=9∨k=1∨k=3∨k=4:=HT3.out.2.2.1
  rw [show (decide (([]:List UInt8)=[]))=true from rfl]
  have hk0:(k==0)=false:=by simp;omega
  clear hkp
  have heq:∀ W,(binOp .eql 38 (.slice none 0 0) (.slice none 0 0)).run Tryz.prog W=.ok (.bool true) W:=fun W=>by kernel_rfl
  go_wp2_with (first
   | (refine qak rfl (qa0 38 (.tmp 100) (.tmp 98) rfl X.U.blk 3 (qar X.U) 63 (.slice none 0 0) HT6.out rfl rfl (by simp [qar]) (by kernel_rfl) rfl rfl ?_);intro w15 hT15;have HT15:=Lib.hid (show Turns [] ((X.U.blk,Is (qao { X.U with out:=.slice none 0 0 }))::Z) w0 w15 from hT15);clear hT15;simp only [Act.put])
   | (refine qak rfl (qa0 38 (.tmp 104) (.tmp 102) rfl X.U.blk 4 (qar { X.U with out:=.slice none 0 0 }) 63 (.slice none 0 0) HT15.out rfl rfl (by simp [qar]) (by kernel_rfl) rfl rfl ?_);intro w16 hT16;have HT16:=Lib.hid (show Turns [] ((X.U.blk,Is (qao { X.U with out:=.slice none 0 0,want:=.slice none 0 0 }))::Z) w0 w16 from hT16);clear hT16;simp only [Act.put])
   | (refine qak rfl (qa0 38 (.tmp 111) (.const (.slice none 0 0)) rfl X.U.blk 3 (qar { X.U with out:=.slice none 0 0,want:=.slice none 0 0 }) 63 (.slice none 0 0) HT16.out rfl rfl (by simp [qar]) (by kernel_rfl) rfl rfl ?_);intro w18 hT18;have HT18:=Lib.hid (show Turns [] ((X.U.blk,Is (qao { X.U with out:=.slice none 0 0,want:=.slice none 0 0 }))::Z) w0 w18 from hT18);clear hT18;simp only [Act.put])
   | (refine qak rfl (qa0 38 (.tmp 114) (.const (.slice none 0 0)) rfl X.U.blk 4 (qar { X.U with out:=.slice none 0 0,want:=.slice none 0 0 }) 63 (.slice none 0 0) HT18.out rfl rfl (by simp [qar]) (by kernel_rfl) rfl rfl ?_);intro w19 hT19;have HT19:=Lib.hid (show Turns [] ((X.U.blk,Is (qao { X.U with out:=.slice none 0 0,want:=.slice none 0 0 }))::Z) w0 w19 from hT19);clear hT19;simp only [Act.put]))
  go_loopw [11] (fun i W'=>i=.int .i64 0∧W'=w19) (fun _ _=>0)
  case atStart=>exact ⟨rfl,rfl⟩
  case round =>
   obtain ⟨rfl,rfl⟩:=hrel
   go_wp2_with (go_at_call 41;refine (qcr _ _).mono ?_;rintro e w' ⟨rfl,rfl⟩)
   refine bodyPost_ret (results_tmp rfl _ _ _) rfl ⟨X.S.A.spare,.slice none 0 0,.slice none 0 0,[],rfl,HH.out.1.outTo HH.out.1.ar.area qdh (qhg _) (by simp) ?_⟩
   have h19:=HT19.out
   rw [HZ.out] at h19
   refine h19.drop (fun x=>?_)
   unfold wsF outX qay
   rw [show qda X.S X.S.A.spare=X.S from rfl,qfh]
   simp only [qad,qaa,qah]<;>omega
 ·simp only [Value.tuple.injEq,Array.mk.injEq,List.cons.injEq,and_true] at he
  obtain ⟨rfl,rfl⟩:=he
  have hT3:=HT1.out.1.drew.step (List.Perm.refl _) hG
  have hE3:qbi W3:=HH.out.2.2.2.2.1.keep hT3.mods (fun h=>by simp at h)
  have HT3:=Lib.hid (And.intro hT3 (And.intro hE3 (And.intro hbo (And.intro hA hq))))
  clear hG hT3 hE3 hbo hA hq hp
  have hT3':Turns [] ((bRow bv D++arF (qda X.S sp))++((ob,Is (oO ⟨3,oa,ob_,oc,os,ot,odv,od⟩))::(X.U.blk,Is (qao X.U))::(refF X.R++qay X))) w0 W3:=HT3.out.1
  have HT3':=Lib.hid hT3'
  clear hT3'
  go_upto_region 12 with (fail)
  refine qx6 ob X.U.blk X.S.a X.R.blk os ot oa ob_ oc (Post:=fun r W=>Same W3.drew W∧∃ cv,r=.tuple #[cv,.int .i64 0]∧qf7 X.P cv D) ?c0 ?c1 ?pt ?call ?_
  case c0=>obtain ⟨-,h2,h4,h5,h6,h7⟩:=HCE.out W3 _ HT3'.out;exact ⟨h2,h4,h5,h6,h7⟩
  case c1 =>
   rintro r W ⟨hs,_⟩
   obtain ⟨-,h2,h4,h5,h6,h7⟩:=HCE.out W _ (HT3'.out.drew.thenSame hs);exact ⟨h2,h4,h5,h6,h7⟩
  case pt=>rintro r W ⟨_,cv,rfl,_⟩;exact ⟨_,_,rfl⟩
  case call =>
   refine (ql1 X.R X.P os oa ob_ oc W3.drew (HH.out.1.refAt' HH.out.2.2.2.1 (HT3'.out.drew.sat.right.tail.tail)) (HH.out.2.2.2.2.2.1.c.2)).mono ?_
   intro e w' hq
   obtain ⟨hs,cv,hm,hw⟩:=HT3.out.2.2.2.2 _ _ _ hq
   exact ⟨_,hm,hs,cv,rfl,hw⟩
  rintro cv fv W4 ⟨hs4,cv',he,hwt⟩
  simp only [Value.tuple.injEq,Array.mk.injEq,List.cons.injEq,and_true] at he
  obtain ⟨rfl,rfl⟩:=he
  have HWT:=Lib.hid hwt
  clear hwt
  have hT4:=HT3'.out.drew.thenSame hs4
  have hE4:qbi W4:=HH.out.2.2.2.2.1.keep hT4.mods (fun h=>by simp at h)
  have HT4:=Lib.hid (And.intro hT4 hE4)
  clear hs4 hT4 hE4
  go_wp2_with fail
  refine (qcl .nilIface 0 W4 HT4.out.2 (.inl ⟨rfl,rfl⟩)).mono ?_
  rintro e W5 ⟨rfl,hs5⟩
  have hT5:=HT4.out.1.thenSame hs5
  obtain ⟨va,vc,hbv,-,hvcap,hvc,-⟩:=qbk (bOwns hT5.sat.left.left HT3.out.2.2.1)
  obtain ⟨csl,ccap,hcv,hcc⟩:=HWT.out.at (hT5.sat.right.tail.tail.right.left) HH.out.1.pok
  have HW:=Lib.hid (And.intro HWT.out hT5)
  have HBV:=Lib.hid (And.intro hbv hcv)
  rw [hbv,hcv]
  have HSC:=Lib.hid (qfy va csl vc ccap D D W5 hvc hcc (by omega) (by omega))
  clear hs5 hT5 hbv hcv hvc hcc
  go_wp2_with fail
  refine HSC.out.mono ?_
  rintro e W6 ⟨rfl,hs6⟩
  rw [decide_eq_true trivial]
  have hT6:Turns [] ((X.U.blk,Is (qao X.U))::(bRow (.slice va D.length vc) D++(arF (qda X.S sp)++(refF X.R++(qay X++[(ob,Is (oO ⟨3,oa,ob_,oc,os,ot,odv,od⟩))]))))) w0 W6:=by
   have:=HW.out.2.thenSame hs6.same
   rw [HBV.out.1] at this
   exact this.to (qaf fun _=>by simp only [qad,qaa,qah]<;>omega)
  obtain ⟨Z,hZ⟩:∃ Z,Z=bRow (.slice va D.length vc) D++(arF (qda X.S sp)++(refF X.R++(qay X++[(ob,Is (oO ⟨3,oa,ob_,oc,os,ot,odv,od⟩))]))):=⟨_,rfl⟩
  rw [← hZ] at hT6
  have HT6:=Lib.hid hT6
  have HZ:=Lib.hid hZ
  clear hT6 hs6 hZ
  by_cases hev:D.length%2=0
  ·have hev1:((D.length:Int).tmod 2==0)=true:=by rw [Int.tmod_eq_emod_of_nonneg (by omega)];simp;omega
   have hev2:((D.length:Int)%2==0)=true:=by simp;omega
   go_wp2_with (first
    | (refine qak rfl (qa0 38 (.tmp 100) (.tmp 98) rfl X.U.blk 3 (qar X.U) 63 (.slice va D.length vc) HT6.out rfl rfl (by simp [qar]) (by kernel_rfl) rfl rfl ?_);intro w15 hT15;have HT15:=Lib.hid (show Turns [] ((X.U.blk,Is (qao { X.U with out:=.slice va D.length vc }))::Z) w0 w15 from hT15);clear hT15;simp only [Act.put])
    | (refine qak rfl (qa0 38 (.tmp 104) (.tmp 102) rfl X.U.blk 4 (qar { X.U with out:=.slice va D.length vc }) 63 (.slice csl D.length ccap) HT15.out rfl rfl (by simp [qar]) (by kernel_rfl) rfl rfl ?_);intro w16 hT16;have HT16:=Lib.hid (show Turns [] ((X.U.blk,Is (qao { X.U with out:=.slice va D.length vc,want:=.slice csl D.length ccap }))::Z) w0 w16 from hT16);clear hT16;simp only [Act.put])
    | (refine qak rfl (qa0 38 (.tmp 111) (.const (.slice none 0 0)) rfl X.U.blk 3 (qar { X.U with out:=.slice va D.length vc,want:=.slice csl D.length ccap }) 63 (.slice none 0 0) HT16.out rfl rfl (by simp [qar]) (by kernel_rfl) rfl rfl ?_);intro w18 hT18;have HT18:=Lib.hid (show Turns [] ((X.U.blk,Is (qao { X.U with out:=.slice none 0 0,want:=.slice csl D.length ccap }))::Z) w0 w18 from hT18);clear hT18;simp only [Act.put])
    | (refine qak rfl (qa0 38 (.tmp 114) (.const (.slice none 0 0)) rfl X.U.blk 4 (qar { X.U with out:=.slice none 0 0,want:=.slice csl D.length ccap }) 63 (.slice none 0 0) HT18.out rfl rfl (by simp [qar]) (by kernel_rfl) rfl rfl ?_);intro w19 hT19;have HT19:=Lib.hid (show Turns [] ((X.U.blk,Is (qao { X.U with out:=.slice none 0 0,want:=.slice none 0 0 }))::Z) w0 w19 from hT19);clear hT19;simp only [Act.put]))
   by_cases hD0:D=[]
   ·have hDz:D.length=0:=by rw [hD0];rfl
    have HD0:=Lib.hid hD0
    clear hD0
    rw [hDz]
    go_loopw [11] (fun i W'=>i=.int .i64 0∧W'=w19) (fun _ _=>0)
    case atStart=>exact ⟨rfl,rfl⟩
    case round =>
     obtain ⟨rfl,rfl⟩:=hrel
     go_wp2_with (go_at_call 41;refine (qcr _ _).mono ?_;rintro e w' ⟨rfl,rfl⟩)
     refine bodyPost_ret (results_tmp rfl _ _ _) rfl ⟨sp,.slice none 0 0,.slice none 0 0,[],rfl,HH.out.1.outTo HT3.out.2.2.2.1 qdh (qhg _) (by simp) ?_⟩
     have h19:=HT19.out
     rw [HZ.out] at h19
     refine h19.drop (fun x=>?_)
     unfold wsF outX qay
     rw [qfh]
     simp only [qad,qaa,qah]<;>omega
   ·have h19:=HT19.out
    rw [HZ.out] at h19
    obtain ⟨g,cap,hg,hT⟩:=qxm (h19.to (H:=bRow (.slice va D.length vc) D++((X.U.blk,Is (qao { X.U with out:=.slice none 0 0,want:=.slice none 0 0 }))::(arF (qda X.S sp)++(refF X.R++(qay X++[(ob,Is (oO ⟨3,oa,ob_,oc,os,ot,odv,od⟩))]))))) (qaf fun _=>by simp only [qad,qaa,qah]<;>omega)) (HBV.out.1 ▸ HT3.out.2.2.1) hD0
    simp only [Value.slice.injEq,true_and] at hg
    obtain ⟨rfl,rfl⟩:=hg
    have HT:=Lib.hid hT
    clear hT h19 hD0
    go_loopw [11] (fun i W'=>∃ k:Nat,k≤D.length∧i=.int .i64 k∧Turns [] ((g,AnyP D.length)::((X.U.blk,Is (qao { X.U with out:=.slice none 0 0,want:=.slice none 0 0 }))::(arF (qda X.S sp)++(refF X.R++(qay X++[(ob,Is (oO ⟨3,oa,ob_,oc,os,ot,odv,od⟩))]))))) w0 W') (fun i _=>D.length-(intOf i).toNat)
    case atStart=>exact ⟨0,Nat.zero_le _,rfl,HT.out⟩
    case round =>
     obtain ⟨k,hk,rfl,hTk⟩:=hrel
     by_cases hlt:k<D.length
     ·obtain ⟨x,hx,hfz,hgl⟩:=quh hTk hlt
      have HTk:=Lib.hid hTk
      clear hTk
      go_wp2_with fail
      go_roundw
      case rel=>exact ⟨k+1,by omega,by go_num,qx0 HTk.out _ _⟩
      case measure=>simp [intOf];omega
     ·obtain rfl:k=D.length:=by omega
      have HTk:=Lib.hid hTk
      clear hTk
      go_wp2_with (go_at_call 41;refine (qcr _ _).mono ?_;rintro e w' ⟨rfl,rfl⟩)
      refine bodyPost_ret (results_tmp rfl _ _ _) rfl ⟨sp,.slice none 0 0,.slice none 0 0,[],rfl,HH.out.1.outTo HT3.out.2.2.2.1 qdh (qhg _) (by simp) ?_⟩
      refine HTk.out.drop (fun x=>?_)
      unfold wsF outX qay
      rw [qfh]
      simp only [qad,qaa,qah]<;>omega
  ·have hev1:((D.length:Int).tmod 2==0)=false:=by rw [Int.tmod_eq_emod_of_nonneg (by omega)];simp;omega
   have hev2:((D.length:Int)%2==0)=false:=by simp;omega
   go_wp2_with (first
    | (refine qak rfl (qa0 38 (.tmp 100) (.tmp 98) rfl X.U.blk 3 (qar X.U) 63 (.slice va D.length vc) HT6.out rfl rfl (by simp [qar]) (by kernel_rfl) rfl rfl ?_);intro w15 hT15;have HT15:=Lib.hid (show Turns [] ((X.U.blk,Is (qao { X.U with out:=.slice va D.length vc }))::Z) w0 w15 from hT15);clear hT15;simp only [Act.put])
    | (refine qak rfl (qa0 38 (.tmp 104) (.tmp 102) rfl X.U.blk 4 (qar { X.U with out:=.slice va D.length vc }) 63 (.slice csl D.length ccap) HT15.out rfl rfl (by simp [qar]) (by kernel_rfl) rfl rfl ?_);intro w16 hT16;have HT16:=Lib.hid (show Turns [] ((X.U.blk,Is (qao { X.U with out:=.slice va D.length vc,want:=.slice csl D.length ccap }))::Z) w0 w16 from hT16);clear hT16;simp only [Act.put])
    | (go_at_call 41;refine (qcr _ _).mono ?_;rintro e w' ⟨rfl,rfl⟩))
   refine bodyPost_ret (results_tmp rfl _ _ _) rfl ⟨sp,.slice va D.length vc,.slice csl D.length ccap,D,rfl,HH.out.1.outTo HT3.out.2.2.2.1 (HBV.out.1 ▸ HT3.out.2.2.1) (HBV.out.2 ▸ HW.out.1) (by omega) ?_⟩
   have h16:=HT16.out
   rw [HZ.out] at h16
   refine h16.drop (fun x=>?_)
   unfold wsF outX qay
   simp only [qad,qaa,qah]<;>omega
def qfu (L L':DevL):Prop:=DevOk L'∧L'.n=L.n∧L'.now=L.now∧L'.safe=L.now∧L'.chs=[]
def q3p (S:AS) (w:World) (e:Ending) (w':World):Prop :=
 (S.X.closed=true∧e=.returned (errV 9)∧Turns (arF S) (arF S) w w') ∨
 (S.X.closed=false∧e=.returned .nilIface∧∃ L',qfu S.L L'∧Turns (arF S) (arF { S with L:=L' }) w w')
theorem qww (X:ArchL) (h:X.broken=.nilIface):(qa4 X).setIfInBounds 11 .nilIface=qa4 X:=by
 unfold qa4;rw [h];rfl
theorem qqd (S:AS) (b:Nat) (w:World) (h:Sat w (arF S)) (hok:ArOk S) (hB:ArB S b) (hb:b≤90000) :
  Calls Tryz.prog 47 #[.pointer (some ⟨S.a,0,none⟩)] w (q3p S w):=by
 have ha:=h.headIs
 have hal:=qal ha
 have HH:=Lib.hid (And.intro h hok)
 have hch:S.L.chs.length≤1099511627776:=by have:=hB.chs;omega
 cases hc:S.X.closed with
 | true =>
  have a10:w.cell? ⟨S.a,10,none⟩=some (.bool true):=by rw [← hc];exact qac ha 10 rfl
  have HC:=Lib.hid hc
  clear h hok hB hb ha hc hch
  go_enter Tryz.func47,Tryz.ntmps47
  go_wp2_with fail
  exact bodyPost_ret (results_tmp rfl _ _ _) rfl (.inl ⟨HC.out,rfl,Turns.refl HH.out.1⟩)
 | false =>
  have a10:w.cell? ⟨S.a,10,none⟩=some (.bool false):=by rw [← hc];exact qac ha 10 rfl
  have a6:w.cell? ⟨S.a,6,none⟩=some (.pointer (some ⟨S.X.d,0,none⟩)):=qac ha 6 rfl
  have a11:w.cell? ⟨S.a,11,none⟩=some .nilIface:=by rw [← hok.sound];exact qac ha 11 rfl
  have HF:=Lib.hid (qhw S.X.d S.L w (h.sub (fun x=>by simp only [arF,qad,qaa]<;>omega)) hok.dev hch)
  have HC:=Lib.hid hc
  clear h hok hB hb ha hc hch
  go_enter Tryz.func47,Tryz.ntmps47
  go_wp2_with fail
  refine HF.out.mono ?_
  rintro e w1 ⟨rfl,L',hT,hL⟩
  have hT1:Turns (arF S) (arF { S with L:=L' }) w w1:=((Turns.refl HH.out.1).step (R:=(S.a,Is (archO S.X))::(areaF S.X.ab S.X.d S.A++(qbc S.X.pm S.ps S.pc++(tagsF S.X.tm S.ts S.tc++qbd S.X.cm S.cs S.cc)))) (by unfold arF;exact (qaf fun _=>by simp only [qad,qaa,qah]<;>omega)) hT).to (by unfold arF;exact (qaf fun _=>by simp only [qad,qaa,qah]<;>omega))
  have HT:=Lib.hid (And.intro hL hT1)
  clear hT hL hT1
  go_wp2_with ((refine qak rfl (qa0 45 (.tmp 20) (.tmp 18) rfl S.a 11 (qa4 S.X) 128 .nilIface HT.out.2 rfl rfl (by simp [qa4]) (by kernel_rfl) rfl rfl ?_);rw [qww S.X HH.out.2.sound];intro w2 hT2;have b11:w2.cell? ⟨S.a,11,none⟩=some .nilIface:=(by rw [← HH.out.2.sound];exact qac hT2.sat.headIs 11 rfl);have HT2:=Lib.hid hT2;clear hT2;simp only [Act.put]))
  exact bodyPost_ret (results_tmp rfl _ _ _) rfl (.inr ⟨HC.out,rfl,L',HT.out.1,HT2.out⟩)
def q0w (S:AS) (w:World) (e:Ending) (w':World):Prop :=
 (S.X.closed=true∧e=.returned (errV 9)∧Turns (arF S) (arF S) w w') ∨
 (S.X.closed=false∧e=.returned .nilIface∧∃ L',qfu S.L L'∧Turns (arF S) (arF { S with L:=L',X:={ S.X with closed:=true } }) w w')
theorem qof (S:AS) (b:Nat) (w:World) (h:Sat w (arF S)) (hok:ArOk S) (hB:ArB S b) (hb:b≤90000) :
  Calls Tryz.prog 44 #[.pointer (some ⟨S.a,0,none⟩)] w (q0w S w):=by
 have HS:=Lib.hid (qqd S b w h hok hB hb)
 have HH:=Lib.hid (And.intro h hok)
 clear h hok hB hb
 go_enter Tryz.func44,Tryz.ntmps44
 go_wp2_with fail
 refine HS.out.mono ?_
 rintro e w1 (⟨hc,rfl,hT⟩ | ⟨hc,rfl,L',hL,hT⟩)
 ·have HT:=Lib.hid (And.intro hc hT)
  have hal:=qal hT.sat.headIs
  clear hc hT
  unfold errV
  go_wp2_with ((refine qak rfl (qa0 4 (.tmp 8) (.const (.bool true)) rfl S.a 10 (qa4 S.X) 128 (.bool true) HT.out.2 rfl rfl (by simp [qa4]) (by kernel_rfl) rfl rfl ?_);intro w2 hT2;have HT2:=Lib.hid hT2;clear hT2;simp only [Act.put]))
  refine bodyPost_ret (results_tmp rfl _ _ _) rfl (.inl ⟨HT.out.1,rfl,?_⟩)
  have h2:=HT2.out
  have e1:(qa4 S.X).setIfInBounds 10 (.bool true)=qa4 S.X:=by rw [← HT.out.1];rfl
  rw [e1] at h2
  exact h2
 ·have HT:=Lib.hid (And.intro hc (And.intro hL hT))
  have hal:=qal hT.sat.headIs
  clear hc hT hL
  go_wp2_with ((refine qak rfl (qa0 4 (.tmp 8) (.const (.bool true)) rfl S.a 10 (qa4 S.X) 128 (.bool true) HT.out.2.2 rfl rfl (by simp [qa4]) (by kernel_rfl) rfl rfl ?_);intro w2 hT2;have HT2:=Lib.hid hT2;clear hT2;simp only [Act.put]))
  exact bodyPost_ret (results_tmp rfl _ _ _) rfl (.inr ⟨HT.out.1,rfl,L',HT.out.2.1,HT2.out⟩)
theorem qlg (ub:Nat) (U:WorldL) (R:RefL) (ev:Value) (w:World) (hu:w.heap[ub]?=some (qao U)) (hr:U.r=R.blk) (hR:w.heap[R.blk]?=some (refO R)) (hE:qbi w) (hev:(R.closed=false∧ev=.nilIface)∨(R.closed=true∧ev=errV 9)) :
  Calls Tryz.prog 70 #[.pointer (some ⟨ub,0,none⟩),ev] w (fun e w'=>e=.returned (.bool true)∧Same w w'):=by
 have HH:=Lib.hid (And.intro hu (And.intro hr (And.intro hR hE)))
 rcases hev with ⟨hc,rfl⟩ | ⟨hc,rfl⟩
 ·have HC:=Lib.hid hc
  have HT:=Lib.hid (qcl .nilIface 0 w hE (.inl ⟨rfl,rfl⟩))
  clear hu hr hR hE hc
  go_enter Tryz.func70,Tryz.ntmps70
  go_wp2_with fail
  refine HT.out.mono ?_
  rintro e w1 ⟨rfl,hs1⟩
  have u2:w1.cell? ⟨ub,2,none⟩=some (.pointer (some ⟨R.blk,0,none⟩)):=by
   have:=qac (hs1.at HH.out.1 id) 2 (v:=.pointer (some ⟨U.r,0,none⟩)) rfl
   rw [HH.out.2.1] at this;exact this
  have r3:w1.cell? ⟨R.blk,3,none⟩=some (.bool false):=by
   have:=qac (hs1.at HH.out.2.2.1 id) 3 (v:=.bool R.closed) rfl
   rw [HC.out] at this;exact this
  have HS:=Lib.hid hs1
  clear hs1
  go_wp2_with fail
  exact bodyPost_ret (results_tmp rfl _ _ _) rfl ⟨rfl,HS.out⟩
 ·have HC:=Lib.hid hc
  have HT:=Lib.hid (qcl (errV 9) 9 w hE (.inr (.inl rfl)))
  clear hu hr hR hE hc
  go_enter Tryz.func70,Tryz.ntmps70
  go_wp2_with fail
  refine HT.out.mono ?_
  rintro e w1 ⟨rfl,hs1⟩
  have u2:w1.cell? ⟨ub,2,none⟩=some (.pointer (some ⟨R.blk,0,none⟩)):=by
   have:=qac (hs1.at HH.out.1 id) 2 (v:=.pointer (some ⟨U.r,0,none⟩)) rfl
   rw [HH.out.2.1] at this;exact this
  have r3:w1.cell? ⟨R.blk,3,none⟩=some (.bool true):=by
   have:=qac (hs1.at HH.out.2.2.1 id) 3 (v:=.bool R.closed) rfl
   rw [HC.out] at this;exact this
  have HS:=Lib.hid hs1
  clear hs1
  go_wp2_with fail
  exact bodyPost_ret (results_tmp rfl _ _ _) rfl ⟨rfl,HS.out⟩
theorem qft (w0 W:World) (X:WS) (o:OpL) (h:WsOk w0 W X) (hk:o.kind=2∨o.kind=3∨o.kind=4∨o.kind=5∨o.kind=13)
  (hR:∀ W',WsOk w0 W' X→Calls Tryz.prog 57 #[.pointer (some ⟨X.U.blk,0,none⟩),opA o] W' (qiy w0 X)) :
  Calls Tryz.prog 23 #[.pointer (some ⟨X.U.blk,0,none⟩),opA o] W (qiy w0 X):=by
 have HH:=Lib.hid (And.intro h hR)
 obtain ⟨ok,oa,ob_,oc,os,ot,odv,od⟩:=o
 simp only at hk
 clear h hR
 unfold opA opV at *
 have hal:WsOk w0 (W.alloc (.cells #[.int .i64 ok,.int .i64 oa,.int .i64 ob_,.int .i64 oc,str os,str ot,odv] 65)) X:=HH.out.1.back (HH.out.1.turns.alloc _)
 have HA:=Lib.hid (HH.out.2 _ hal)
 clear hal
 rcases hk with rfl | rfl | rfl | rfl | rfl
 all_goals
  go_enter Tryz.func23,Tryz.ntmps23
  go_wp2_with fail
  refine HA.out.mono ?_
  rintro e w1 ⟨sp,ov,wv,D,rfl,hw⟩
  have HW:=Lib.hid hw
  clear hw
  go_wp2_with fail
  exact bodyPost_ret (results_tmp rfl _ _ _) rfl ⟨sp,ov,wv,D,rfl,HW.out⟩
def qej (S:AS) (L':DevL):AS:={ S with L:=L' }
def qiu (S:AS):AS:={ S with X:={ S.X with closed:=true } }
theorem ArOk.flush {S:AS} {L':DevL} (h:ArOk S) (hf:qfu S.L L'):ArOk (qej S L') where
 dev:=hf.1
 n16:=by show 16≤L'.n;rw [hf.2.1];exact h.n16
 nmax:=by show L'.n≤_;rw [hf.2.1];exact h.nmax
 area:=h.area
 first:=by show S.A.first=_;rw [h.first];show _=2+S.X.ep%2*halfN L'.n;rw [hf.2.1]
 count:=by show S.A.count=halfN L'.n;rw [hf.2.1];exact h.count
 end_:=h.end_
 tail:=h.tail
 dat:=by show qdt L'.now S.A.first S.A.count S.data;rw [hf.2.2.1];exact h.dat
 paths:=h.paths
 tags:=h.tags
 chunks:=h.chunks
 kin:=h.kin
 kat:=h.kat
 vers:=h.vers
 some:=h.some
 sound:=h.sound
 ep:=h.ep
theorem ArOk.close {S:AS} (h:ArOk S):ArOk (qiu S) where
 dev:=h.dev
 n16:=h.n16
 nmax:=h.nmax
 area:=h.area
 first:=h.first
 count:=h.count
 end_:=h.end_
 tail:=h.tail
 dat:=h.dat
 paths:=h.paths
 tags:=h.tags
 chunks:=h.chunks
 kin:=h.kin
 kat:=h.kat
 vers:=h.vers
 some:=h.some
 sound:=h.sound
 ep:=h.ep
theorem ArB.flush {S:AS} {L':DevL} {b:Nat} (h:ArB S b) (hf:qfu S.L L'):ArB (qej S L') b where
 K:=h.K
 np:=h.np
 nt:=h.nt
 vers:=h.vers
 tags:=h.tags
 used:=h.used
 sc:=h.sc
 sb:=h.sb
 quota:=h.quota
 chs:=by show L'.chs.length≤_;rw [hf.2.2.2.2];simp
theorem ArB.close {S:AS} {b:Nat} (h:ArB S b):ArB (qiu S) b where
 K:=h.K
 np:=h.np
 nt:=h.nt
 vers:=h.vers
 tags:=h.tags
 used:=h.used
 sc:=h.sc
 sb:=h.sb
 quota:=h.quota
 chs:=h.chs
theorem Link.flush {S:AS} {R:RefL} (L:Link S R) (L':DevL):Link (qej S L') R where
 closed:=L.closed
 quota:=L.quota
 used:=L.used
 vers:=L.vers
 sorted:=L.sorted
 asc:=L.asc
 each:=L.each
 tags:=L.tags
 tsort:=L.tsort
 teach:=L.teach
 held:=L.held
theorem Link.close {S:AS} {R:RefL} (L:Link S R):Link (qiu S) { R with closed:=true } where
 closed:=rfl
 quota:=L.quota
 used:=L.used
 vers:=L.vers
 sorted:=L.sorted
 asc:=L.asc
 each:=L.each
 tags:=L.tags
 tsort:=L.tsort
 teach:=L.teach
 held:=L.held
def q59 (w0:World) (X:WS) (e:Ending) (W':World):Prop :=
 e=.returned (.bool true)∧(WsOk w0 W' X∨∃ L',qfu X.S.L L'∧WsOk w0 W' { X with S:=qej X.S L' })
theorem WsOk.flush {w0 W W':World} {X:WS} (h:WsOk w0 W X) {L':DevL} (hf:qfu X.S.L L') (hT:Turns [] (wsF { X with S:=qej X.S L' }) w0 W'):WsOk w0 W' { X with S:=qej X.S L' } where
 turns:=hT
 a:=h.a
 r:=h.r
 d:=h.d
 ar:=h.ar.flush hf
 ref:=h.ref
 pok:=h.pok
 inp:=h.inp
 out:=h.out
 want:=h.want
 most:=h.most
 ms:=h.ms
 link:=h.link.flush L'
 olen:=h.olen
theorem qqv (w0 W:World) (X:WS) (o:OpL) (b:Nat) (h:WsOk w0 W X) (hB:ArB X.S b) (hb:b≤90000) (hE:qbi w0) (hk:o.kind=6) :
  Calls Tryz.prog 23 #[.pointer (some ⟨X.U.blk,0,none⟩),opA o] W (q59 w0 X):=by
 obtain ⟨ok,oa,ob_,oc,os,ot,odv,od⟩:=o
 simp only at hk
 subst hk
 have HH:=Lib.hid (And.intro h (And.intro hB (And.intro hb hE)))
 clear h hB hb hE
 unfold opA opV
 go_enter Tryz.func23,Tryz.ntmps23
 go_upto_region 38 with (fail)
 have hT1:=HH.out.1.turns.alloc (.cells #[.int .i64 6,.int .i64 oa,.int .i64 ob_,.int .i64 oc,str os,str ot,odv] 65)
 generalize W.alloc (.cells #[.int .i64 6,.int .i64 oa,.int .i64 ob_,.int .i64 oc,str os,str ot,odv] 65)=W1 at hT1 ⊢
 have u1:W1.cell? ⟨X.U.blk,1,none⟩=some (.pointer (some ⟨X.S.a,0,none⟩)):=by
  have:=qac hT1.sat.headIs 1 (v:=ptrO X.U.a) rfl
  rw [HH.out.1.a] at this;exact this
 have HT1:=Lib.hid hT1
 clear hT1
 go_wp2_with fail
 refine (qqd X.S b W1 HT1.out.sat.tail.left HH.out.1.ar HH.out.2.1 HH.out.2.2.1).mono ?_
 intro e W2 hp
 have key:∃ (S':AS) (ev:Value),e=.returned ev∧((X.R.closed=false∧ev=.nilIface)∨(X.R.closed=true∧ev=errV 9))∧Turns (arF X.S) (arF S') W1 W2∧(S'=X.S∨∃ L',qfu X.S.L L'∧S'=qej X.S L'):=by
  rcases hp with ⟨hc,rfl,hG⟩ | ⟨hc,rfl,L',hf,hG⟩
  ·exact ⟨X.S,_,rfl,.inr ⟨by rw [HH.out.1.link.closed];exact hc,rfl⟩,hG,.inl rfl⟩
  ·exact ⟨qej X.S L',_,rfl,.inl ⟨by rw [HH.out.1.link.closed];exact hc,rfl⟩,hG,.inr ⟨L',hf,rfl⟩⟩
 obtain ⟨S',ev,rfl,hev,hG,hS⟩:=key
 have hT2:Turns [] ((X.U.blk,Is (qao X.U))::(arF S'++(refF X.R++qay X))) w0 W2:=by
  have:=HT1.out
  unfold wsF at this
  exact ((this.to (H:=arF X.S++((X.U.blk,Is (qao X.U))::(refF X.R++qay X))) (qaf fun _=>by simp only [qad,qaa,qah]<;>omega)).step (List.Perm.refl _) hG).to (qaf fun _=>by simp only [qad,qaa,qah]<;>omega)
 have HEn:=Lib.hid (qlg X.U.blk X.U X.R ev W2 hT2.sat.headIs HH.out.1.r (hT2.sat.memIs (by unfold refF;simp)) (HH.out.2.2.2.keep hT2.mods (fun h=>by simp at h)) hev)
 have HT2:=Lib.hid (And.intro hT2 hS)
 clear hp hev hG hS hT2
 go_wp2_with fail
 refine HEn.out.mono ?_
 rintro e W3 ⟨rfl,hs3⟩
 have HT3:=Lib.hid (HT2.out.1.thenSame hs3)
 clear hs3
 go_wp2_with fail
 refine bodyPost_ret (results_tmp rfl _ _ _) rfl ⟨rfl,?_⟩
 rcases HT2.out.2 with hS | ⟨L',hf,hS⟩
 ·have h3:=HT3.out
  rw [hS] at h3
  exact .inl (HH.out.1.back h3)
 ·have h3:=HT3.out
  rw [hS] at h3
  exact .inr ⟨L',hf,HH.out.1.flush hf h3⟩
end Go.Proofs.YtdhobpbngkainaaGreatDoor
namespace Go.Proofs.YtdhobpbngkainaaGreatDoor
open Go.RowKit
theorem qu8 {P:Program} (w:World) (dT sT ty elem:TypeId) (k g n dCap:Nat) (s:Nat) (sCap:Nat) (cur cs:List Value) (t u:TypeId)
  (hu:P.underlying dT=some (.slice elem)) (hs:(P.info? elem).map (·.size)=some k)
  (hg:w.heap[g]?=some (.cells cur.toArray t (0,0))) (hsr:w.heap[s]?=some (.cells cs.toArray u (0,0))) (hn:cs.length=n*k) (hc:cur.length=n*k) (h1:∀ v∈cs,v.oneCell'=true) :
  (Builtin.copy_ #[dT,sT] ty #[.slice (some ⟨g,0,none⟩) n dCap,.slice (some ⟨s,0,none⟩) n sCap]).run P w=.ok (goInt n) (w.setCells g 0 cs):=by
 have hl:=run_loadCells_list (P:=P) w ⟨s,0,none⟩ cs (fun j v hj=>by
  rw [Addr.add_lit,Nat.zero_add]
  exact qac hsr j (by simpa using hj))
 have hth:=qcx hg 0 cs.length (by simp;omega)
 have hst:=run_storeCells_cells (P:=P) g 0 cs 0 w (fun j hj=>by have:=(hth j hj).1;simpa using this) (fun j hj=>by have:=(hth j hj).2;simpa using this) h1
 cases hq:P.info? elem with
 | none=>simp [hq] at hs
 | some i =>
  have hi:i.size=k:=by simpa [hq] using hs
  rw [hn] at hl
  simp [Builtin.copy_,run_underlying hu,Builtin.lenOf,Builtin.firstCells,sizeOf,typeInfo,hq,hi,hl,hst]
theorem qrg {P:Program} {w a0:World} {o:Oper} {a:Act} {K:Act→World→Prop} {Q:Exit→Act→World→Prop} {F G:HF} (d s:Operand) (dT sT:TypeId)
  (ho:o.op=.call { callee:=.builtin .copy,args:=#[d,s],argTypes:=#[dT,sT] }) (elem:TypeId) (hu:P.underlying dT=some (.slice elem)) (k:Nat) (hsz:(P.info? elem).map (·.size)=some k)
  (g n dCap sb sCap:Nat) (cur cs:List Value) (t u:TypeId) (hd:a.eval d=.slice (some ⟨g,0,none⟩) n dCap) (hs:a.eval s=.slice (some ⟨sb,0,none⟩) n sCap)
  (hT:Turns F ((g,Is (.cells cur.toArray t (0,0)))::G) a0 w) (hsr:w.heap[sb]?=some (.cells cs.toArray u (0,0))) (hn:cs.length=n*k) (hc:cur.length=n*k) (h1:∀ v∈cs,v.oneCell'=true)
  (h:∀ w',Turns F ((g,Is (.cells cs.toArray t (0,0)))::G) a0 w'→K (a.put o.dst (goInt n)) w'):Oper.wp P o a w K Q:=by
 have hrun:=qu8 (P:=P) w dT sT o.type elem k g n dCap sb sCap cur cs t u hu hsz hT.sat.headIs hsr hn hc h1
 have hq:=qc2 (C:=cur.toArray) hT.sat.headIs cs (by simp;omega)
 unfold Oper.wp
 simp [execOp,ho,resolve,invoke,builtin,hd,hs,hrun,Result.andThen]
 exact h _ (hT.putIs hq.2 hq.1)
theorem q67 (F1 Z:HF) (A:World) (c d sb nb b n:Nat) (CC CA:Array Value) (X now:Bs) {Q:Exit→Act→World→Prop} {w:World} {u1 u2 u4 u5 u6 u7 u8 u9 u10 u11 u12 u13 u14 u15 u16 u17 u18 u19 u20 u21 u22 u23 u24 u25 u26 u27 u28:Value} {ds:List Deferred} (hT:Turns F1 ((b,Is (.cells (row8 X) 43 (0,0)))::(c,Is (.cells CC 105 (0,0)))::(d,Is (.cells CA 105 (0,0)))::(nb,Is (.cells (row8 now) 43 (0,0)))::Z) A w) (hcc:CC[0]?=some (.slice (some ⟨b,0,none⟩) n n)) (hca:CA[1]?=some (.slice (some ⟨nb,0,none⟩) n n)) (hX:X.length=128*n) (hnw:now.length=128*n)
  (hk:∀ (y10 y11 y12 y13 y14 y15 y16 y17 y18:Value) (w':World),Turns F1 ((b,Is (.cells (row8 now) 43 (0,0)))::(c,Is (.cells CC 105 (0,0)))::(d,Is (.cells CA 105 (0,0)))::(nb,Is (.cells (row8 now) 43 (0,0)))::Z) A w'→Q .normal { tmps:=#[.pointer (some ⟨d,0,none⟩),u1,u2,.pointer (some ⟨c,0,none⟩),u4,u5,u6,u7,u8,u9,y10,y11,y12,y13,y14,y15,y16,y17,y18,u19,u20,u21,u22,u23,u24,u25,u26,u27,u28],defers:=ds } w') :
  (regOf 2 Tryz.f15).wp Tryz.prog Q { tmps:=#[.pointer (some ⟨d,0,none⟩),u1,u2,.pointer (some ⟨c,0,none⟩),u4,u5,u6,u7,u8,u9,u10,u11,u12,u13,u14,u15,u16,u17,u18,u19,u20,u21,u22,u23,u24,u25,u26,u27,u28],defers:=ds } w:=by
 have HM:=Lib.hid (show Tryz.prog.follows .mixedOrders=true by kernel_rfl)
 conv=>arg 2;whnf
 refine qbt (A:=?A) (hA:=?hA) HM.out (phiL [fun v=>v=.pointer (some ⟨c,0,none⟩),fun v=>v=.pointer (some ⟨c,0,none⟩),fun v=>v=.pointer (some ⟨c,0,none⟩),fun v=>v=.slice (some ⟨b,0,none⟩) n n,fun v=>v=.pointer (some ⟨d,0,none⟩),fun v=>v=.pointer (some ⟨d,0,none⟩),fun v=>v=.pointer (some ⟨d,1,none⟩),fun v=>v=.slice (some ⟨nb,0,none⟩) n n,fun _=>True])
  (fun vs1 W=>match vs1 with
  | []=>Turns F1 ((b,Is (.cells (row8 X) 43 (0,0)))::(c,Is (.cells CC 105 (0,0)))::(d,Is (.cells CA 105 (0,0)))::(nb,Is (.cells (row8 now) 43 (0,0)))::Z) A W
  | [_]=>Turns F1 ((b,Is (.cells (row8 now) 43 (0,0)))::(c,Is (.cells CC 105 (0,0)))::(d,Is (.cells CA 105 (0,0)))::(nb,Is (.cells (row8 now) 43 (0,0)))::Z) A W
  | _=>False)
  (fun W=>W.heap[c]?=some (.cells CC 105 (0,0))∧W.heap[d]?=some (.cells CA 105 (0,0))) [8] ?hC (by kernel_rfl) (by kernel_rfl) (by decide) (by decide) ?h0 ?hs ?he
 case hA=>intro x;simp only [qam,Act.put,List.setIfInBounds_toArray,List.set_cons_zero,List.set_cons_succ,Nat.reduceAdd];rfl
 case hs =>
  refine ⟨qab rfl rfl (fun x wq hd hC K hK hKw=>?_),qab rfl rfl (fun x wq hd hC K hK hKw=>?_),qab rfl rfl (fun x wq hd hC K hK hKw=>?_),qab rfl rfl (fun x wq hd hC K hK hKw=>?_),qab rfl rfl (fun x wq hd hC K hK hKw=>?_),qab rfl rfl (fun x wq hd hC K hK hKw=>?_),qab rfl rfl (fun x wq hd hC K hK hKw=>?_),qab rfl rfl (fun x wq hd hC K hK hKw=>?_),qap 0 rfl rfl (fun x wq hd hS K hK=>?_),trivial⟩
  ·exact qag (by kernel_rfl) (hK _ rfl)
  ·have h0:x 0=.pointer (some ⟨c,0,none⟩):=qae hd 0 (by kernel_rfl)
   exact qag (by rw [h0];kernel_rfl) (hK _ rfl)
  ·have h1:x 1=.pointer (some ⟨c,0,none⟩):=qae hd 1 (by kernel_rfl)
   exact qag (by rw [h1];kernel_rfl) (hK _ rfl)
  ·have h2:x 2=.pointer (some ⟨c,0,none⟩):=qae hd 2 (by kernel_rfl)
   exact qat Tryz.underlying102 rfl rfl (by rw [h2];rfl) (qac hC.1 0 hcc) (hK _ rfl)
  ·exact qag (by kernel_rfl) (hK _ rfl)
  ·have h4:x 4=.pointer (some ⟨d,0,none⟩):=qae hd 4 (by kernel_rfl)
   exact qag (by rw [h4];kernel_rfl) (hK _ rfl)
  ·have h5:x 5=.pointer (some ⟨d,0,none⟩):=qae hd 5 (by kernel_rfl)
   exact qag (by rw [h5];kernel_rfl) (hK _ rfl)
  ·have h6:x 6=.pointer (some ⟨d,1,none⟩):=qae hd 6 (by kernel_rfl)
   exact qat Tryz.underlying102 rfl rfl (by rw [h6];rfl) (qac hC.2 1 hca) (hK _ rfl)
  ·have h3:x 3=.slice (some ⟨b,0,none⟩) n n:=qae hd 3 (by kernel_rfl)
   have h7:x 7=.slice (some ⟨nb,0,none⟩) n n:=qae hd 7 (by kernel_rfl)
   exact qrg (.tmp 13) (.tmp 17) 102 102 rfl 43 Tryz.underlying102 128 qni b n n nb n (X.map enc8) (now.map enc8) 43 43 (by rw [h3];rfl) (by rw [h7];rfl) hS (hS.sat.memIs (o:=.cells (row8 now) 43 (0,0)) (by simp)) (by rw [List.length_map];omega) (by rw [List.length_map];omega) (qc3 _) (fun w1 k1=>hK _ _ trivial k1)
 case hC =>
  intro vs1 W hS
  match vs1,hS with
  | [],hT=>exact ⟨hT.sat.memIs (by simp),hT.sat.memIs (by simp)⟩
  | [_],hT=>exact ⟨hT.sat.memIs (by simp),hT.sat.memIs (by simp)⟩
 case h0 =>
  exact (show Turns F1 ((b,Is (.cells (row8 X) 43 (0,0)))::(c,Is (.cells CC 105 (0,0)))::(d,Is (.cells CA 105 (0,0)))::(nb,Is (.cells (row8 now) 43 (0,0)))::Z) A w from hT).drew
 case he =>
  intro x w3 hφ hS
  exact hk (x 0) (x 1) (x 2) (x 3) (x 4) (x 5) (x 6) (x 7) (x 8) w3 hS
theorem q6w (F1 Z:HF) (A:World) (c d sb nb b n:Nat) (CC CA:Array Value) (X now:Bs) {Q:Exit→Act→World→Prop} {w:World} {u1 u2 u4 u5 u6 u7 u8 u9 u10 u11 u12 u13 u14 u15 u16 u17 u18 u19 u20 u21 u22 u23 u24 u25 u26 u27 u28:Value} {ds:List Deferred} (hT:Turns F1 ((b,Is (.cells (row8 X) 43 (0,0)))::(c,Is (.cells CC 105 (0,0)))::(d,Is (.cells CA 105 (0,0)))::(nb,Is (.cells (row8 now) 43 (0,0)))::Z) A w) (hcc:CC[1]?=some (.slice (some ⟨b,0,none⟩) n n)) (hca:CA[1]?=some (.slice (some ⟨nb,0,none⟩) n n)) (hX:X.length=128*n) (hnw:now.length=128*n)
  (hk:∀ (y19 y20 y21 y22 y23 y24 y25 y26 y27:Value) (w':World),Turns F1 ((b,Is (.cells (row8 now) 43 (0,0)))::(c,Is (.cells CC 105 (0,0)))::(d,Is (.cells CA 105 (0,0)))::(nb,Is (.cells (row8 now) 43 (0,0)))::Z) A w'→Q .normal { tmps:=#[.pointer (some ⟨d,0,none⟩),u1,u2,.pointer (some ⟨c,0,none⟩),u4,u5,u6,u7,u8,u9,u10,u11,u12,u13,u14,u15,u16,u17,u18,y19,y20,y21,y22,y23,y24,y25,y26,y27,u28],defers:=ds } w') :
  (regOf 3 Tryz.f15).wp Tryz.prog Q { tmps:=#[.pointer (some ⟨d,0,none⟩),u1,u2,.pointer (some ⟨c,0,none⟩),u4,u5,u6,u7,u8,u9,u10,u11,u12,u13,u14,u15,u16,u17,u18,u19,u20,u21,u22,u23,u24,u25,u26,u27,u28],defers:=ds } w:=by
 have HM:=Lib.hid (show Tryz.prog.follows .mixedOrders=true by kernel_rfl)
 conv=>arg 2;whnf
 refine qbt (A:=?A) (hA:=?hA) HM.out (phiL [fun v=>v=.pointer (some ⟨c,0,none⟩),fun v=>v=.pointer (some ⟨c,0,none⟩),fun v=>v=.pointer (some ⟨c,1,none⟩),fun v=>v=.slice (some ⟨b,0,none⟩) n n,fun v=>v=.pointer (some ⟨d,0,none⟩),fun v=>v=.pointer (some ⟨d,0,none⟩),fun v=>v=.pointer (some ⟨d,1,none⟩),fun v=>v=.slice (some ⟨nb,0,none⟩) n n,fun _=>True])
  (fun vs1 W=>match vs1 with
  | []=>Turns F1 ((b,Is (.cells (row8 X) 43 (0,0)))::(c,Is (.cells CC 105 (0,0)))::(d,Is (.cells CA 105 (0,0)))::(nb,Is (.cells (row8 now) 43 (0,0)))::Z) A W
  | [_]=>Turns F1 ((b,Is (.cells (row8 now) 43 (0,0)))::(c,Is (.cells CC 105 (0,0)))::(d,Is (.cells CA 105 (0,0)))::(nb,Is (.cells (row8 now) 43 (0,0)))::Z) A W
  | _=>False)
  (fun W=>W.heap[c]?=some (.cells CC 105 (0,0))∧W.heap[d]?=some (.cells CA 105 (0,0))) [8] ?hC (by kernel_rfl) (by kernel_rfl) (by decide) (by decide) ?h0 ?hs ?he
 case hA=>intro x;simp only [qam,Act.put,List.setIfInBounds_toArray,List.set_cons_zero,List.set_cons_succ,Nat.reduceAdd];rfl
 case hs =>
  refine ⟨qab rfl rfl (fun x wq hd hC K hK hKw=>?_),qab rfl rfl (fun x wq hd hC K hK hKw=>?_),qab rfl rfl (fun x wq hd hC K hK hKw=>?_),qab rfl rfl (fun x wq hd hC K hK hKw=>?_),qab rfl rfl (fun x wq hd hC K hK hKw=>?_),qab rfl rfl (fun x wq hd hC K hK hKw=>?_),qab rfl rfl (fun x wq hd hC K hK hKw=>?_),qab rfl rfl (fun x wq hd hC K hK hKw=>?_),qap 0 rfl rfl (fun x wq hd hS K hK=>?_),trivial⟩
  ·exact qag (by kernel_rfl) (hK _ rfl)
  ·have h0:x 0=.pointer (some ⟨c,0,none⟩):=qae hd 0 (by kernel_rfl)
   exact qag (by rw [h0];kernel_rfl) (hK _ rfl)
  ·have h1:x 1=.pointer (some ⟨c,0,none⟩):=qae hd 1 (by kernel_rfl)
   exact qag (by rw [h1];kernel_rfl) (hK _ rfl)
  ·have h2:x 2=.pointer (some ⟨c,1,none⟩):=qae hd 2 (by kernel_rfl)
   exact qat Tryz.underlying102 rfl rfl (by rw [h2];rfl) (qac hC.1 1 hcc) (hK _ rfl)
  ·exact qag (by kernel_rfl) (hK _ rfl)
  ·have h4:x 4=.pointer (some ⟨d,0,none⟩):=qae hd 4 (by kernel_rfl)
   exact qag (by rw [h4];kernel_rfl) (hK _ rfl)
  ·have h5:x 5=.pointer (some ⟨d,0,none⟩):=qae hd 5 (by kernel_rfl)
   exact qag (by rw [h5];kernel_rfl) (hK _ rfl)
  ·have h6:x 6=.pointer (some ⟨d,1,none⟩):=qae hd 6 (by kernel_rfl)
   exact qat Tryz.underlying102 rfl rfl (by rw [h6];rfl) (qac hC.2 1 hca) (hK _ rfl)
  ·have h3:x 3=.slice (some ⟨b,0,none⟩) n n:=qae hd 3 (by kernel_rfl)
   have h7:x 7=.slice (some ⟨nb,0,none⟩) n n:=qae hd 7 (by kernel_rfl)
   exact qrg (.tmp 22) (.tmp 26) 102 102 rfl 43 Tryz.underlying102 128 qni b n n nb n (X.map enc8) (now.map enc8) 43 43 (by rw [h3];rfl) (by rw [h7];rfl) hS (hS.sat.memIs (o:=.cells (row8 now) 43 (0,0)) (by simp)) (by rw [List.length_map];omega) (by rw [List.length_map];omega) (qc3 _) (fun w1 k1=>hK _ _ trivial k1)
 case hC =>
  intro vs1 W hS
  match vs1,hS with
  | [],hT=>exact ⟨hT.sat.memIs (by simp),hT.sat.memIs (by simp)⟩
  | [_],hT=>exact ⟨hT.sat.memIs (by simp),hT.sat.memIs (by simp)⟩
 case h0 =>
  exact (show Turns F1 ((b,Is (.cells (row8 X) 43 (0,0)))::(c,Is (.cells CC 105 (0,0)))::(d,Is (.cells CA 105 (0,0)))::(nb,Is (.cells (row8 now) 43 (0,0)))::Z) A w from hT).drew
 case he =>
  intro x w3 hφ hS
  exact hk (x 0) (x 1) (x 2) (x 3) (x 4) (x 5) (x 6) (x 7) (x 8) w3 hS
def qv3 (d:Nat) (L:DevL) (w:World) (e:Ending) (w':World):Prop :=
 ∃ d' L',e=.returned (.pointer (some ⟨d',0,none⟩))∧Turns (devF d L) (devF d' L'++devF d L) w w'∧DevOk L'∧L'.n=L.n∧L'.now=L.now∧L'.safe=L.now∧L'.chs=[]
theorem qsv (d:Nat) (L:DevL) (w:World) (h:Sat w (devF d L)) (hL:DevOk L) :
  Calls Tryz.prog 15 #[.pointer (some ⟨d,0,none⟩)] w (qv3 d L w):=by
 have hd:=h.headIs
 have c0:=qac hd 0 rfl
 have hdl:=qal hd
 have HN:=Lib.hid (qjk L.n hL.hn w)
 have HH:=Lib.hid (And.intro h hL)
 clear h hL hd
 go_enter Tryz.func15,Tryz.ntmps15
 go_wp2_with fail
 refine HN.out.mono ?_
 rintro e w1 ⟨c,M,rfl,hT,hM,hMn,hnow,hch⟩
 have hd1:=hT.sat.headIs
 have hT1:=(Turns.refl HH.out.1).newIn hT
 have hMs:M.safe.length=128*L.n:=by rw [hM.safeL,hMn]
 have hMw:M.now.length=128*L.n:=by rw [hM.nowL,hMn]
 have H1:=Lib.hid (And.intro hT1 (And.intro hM (And.intro hMn (And.intro hch (And.intro hMs hMw)))))
 clear hT hM hMn hnow hch hd1 hT1 hMs hMw
 go_wp2_with fail
 obtain ⟨Z2,hZ2⟩:∃ Z2:HF,Z2=(M.nb,Is (.cells (row8 M.now) 43 (0,0)))::(rowF 110 129 M.chv M.chs.length (qbq M.chs)++((L.sb,Is (.cells (row8 L.safe) 43 (0,0)))::rowF 110 129 L.chv L.chs.length (qbq L.chs))):=⟨_,rfl⟩
 refine q67 (devF d L) Z2 w c d L.sb L.nb M.sb L.n #[.slice (some ⟨M.sb,0,none⟩) L.n L.n,.slice (some ⟨M.nb,0,none⟩) L.n L.n,M.chv,.int .i64 (-1)] #[.slice (some ⟨L.sb,0,none⟩) L.n L.n,.slice (some ⟨L.nb,0,none⟩) L.n L.n,L.chv,.int .i64 (-1)] M.safe L.now ?_ rfl rfl H1.out.2.2.2.2.1 HH.out.2.nowL ?_
 ·refine H1.out.1.to ?_
  rw [hZ2]
  unfold devF
  rw [H1.out.2.2.1]
  exact (qaf fun _=>by simp only [qad,qaa,qah]<;>omega)
 intro _ _ _ _ _ _ _ _ _ w2 hT2
 have HT2:=Lib.hid hT2
 clear hT2
 go_wp2_with fail
 refine q6w (devF d L) ((M.sb,Is (.cells (row8 L.now) 43 (0,0)))::(rowF 110 129 M.chv M.chs.length (qbq M.chs)++((L.sb,Is (.cells (row8 L.safe) 43 (0,0)))::rowF 110 129 L.chv L.chs.length (qbq L.chs)))) w c d L.sb L.nb M.nb L.n #[.slice (some ⟨M.sb,0,none⟩) L.n L.n,.slice (some ⟨M.nb,0,none⟩) L.n L.n,M.chv,.int .i64 (-1)] #[.slice (some ⟨L.sb,0,none⟩) L.n L.n,.slice (some ⟨L.nb,0,none⟩) L.n L.n,L.chv,.int .i64 (-1)] M.now L.now ?_ rfl rfl H1.out.2.2.2.2.2 HH.out.2.nowL ?_
 ·refine HT2.out.to ?_
  rw [hZ2]
  exact (qaf fun _=>by simp only [qad,qaa,qah]<;>omega)
 intro _ _ _ _ _ _ _ _ _ w3 hT3
 have HT3:=Lib.hid hT3
 clear hT3
 go_wp2_with fail
 have hM:=H1.out.2.1
 have hrow:=hM.row
 rw [H1.out.2.2.2.1] at hrow
 refine bodyPost_ret (results_tmp rfl _ _ _) rfl ⟨c,{ M with n:=L.n,safe:=L.now,now:=L.now,chs:=[] },rfl,?_,⟨HH.out.2.hn,HH.out.2.nowL,HH.out.2.nowL,hrow,(fun _ hc=>by cases hc),rfl⟩,rfl,rfl,rfl,rfl⟩
 have hT4:=HT3.out
 rw [H1.out.2.2.2.1] at hT4
 refine hT4.to ?_
 unfold devF
 exact (qaf fun _=>by simp only [qad,qaa,qah]<;>omega)
end Go.Proofs.YtdhobpbngkainaaGreatDoor
namespace Go.Proofs.YtdhobpbngkainaaGreatDoor
open Go.RowKit Go.Maps
def qjb (L L':DevL):Prop:=DevOk L'∧L'.n=L.n∧L'.now=L.now∧L'.safe=L.now∧L'.chs=[]
def qto (R:RefL) (q:Int) (b':Nat) (vv' tv':Value):RefL:={ R with blk:=b',vv:=vv',tv:=tv',quota:=clip0 q,closed:=false }
def qpz (X:WS) (q:Int) (d':Nat) (S':AS) (b':Nat) (vv' tv':Value):WS:={ X with U:={ X.U with d:=d',a:=some S'.a,r:=b' },S:=S',R:=qto X.R q b' vv' tv' }
theorem oneR {X:WS} {w0 W:World} (h:WsOk w0 W X):∀ v∈X.R.vs,v.cv.oneCell'=true:=fun v hv=>by
 obtain ⟨sl,cap,e,-⟩:=qf2 h.pok h.pool (h.inp v hv)
 rw [e];rfl
def qgm (S S1:AS):Prop:=(S.X.closed=true∧S1=S)∨(S.X.closed=false∧∃ L',qfu S.L L'∧S1=qiu (qej S L'))
theorem qgm.facts {S S1:AS} (h:qgm S S1):S1.L.now=S.L.now∧S1.L.n=S.L.n∧S1.a=S.a∧S1.X.d=S.X.d∧S1.X.closed=true:=by
 rcases h with ⟨h1,rfl⟩ | ⟨_,L',hf,rfl⟩
 ·exact ⟨rfl,rfl,rfl,rfl,h1⟩
 ·exact ⟨hf.2.2.1,hf.2.1,rfl,rfl,rfl⟩
theorem qgm.ok {S S1:AS} (h:qgm S S1) (hok:ArOk S):ArOk S1:=by
 rcases h with ⟨_,rfl⟩ | ⟨_,L',hf,rfl⟩
 ·exact hok
 ·exact (hok.flush hf).close
theorem qgm.b {S S1:AS} (h:qgm S S1) {b:Nat} (hok:ArB S b):ArB S1 b:=by
 rcases h with ⟨_,rfl⟩ | ⟨_,L',hf,rfl⟩
 ·exact hok
 ·exact (hok.flush hf).close
theorem qgm.link {S S1:AS} (h:qgm S S1) {R:RefL} (L:Link S R):Link S1 { R with closed:=true }:=by
 rcases h with ⟨h1,rfl⟩ | ⟨_,L',hf,rfl⟩
 ·have:({ R with closed:=true }:RefL)=R:=by
   have:=L.closed
   rw [h1] at this
   cases R
   simp only at this
   subst this;rfl
  rw [this];exact L
 ·exact (L.flush L').close
def q04 (w0:World) (X:WS) (e:Ending) (W':World):Prop :=
 e=.returned (.bool true)∧∃ S1,qgm X.S S1∧WsOk w0 W' { X with S:=S1,R:={ X.R with closed:=true } }
def q5b (w0:World) (X:WS) (q:Int) (Φ:Nat→DevL→AS→Prop) (e:Ending) (W':World):Prop :=
 e=.returned (.bool true)∧∃ d' L' S' b' vv' tv',qjb X.S.L L'∧Φ d' L' S'∧WsOk w0 W' (qpz X q d' S' b' vv' tv')
theorem qo8 (w0 W:World) (X:WS) (o:OpL) (b:Nat) (h:WsOk w0 W X) (hB:ArB X.S b) (hb:b≤90000) (hE:qbi w0) (hk:o.kind=7) :
  Calls Tryz.prog 23 #[.pointer (some ⟨X.U.blk,0,none⟩),opA o] W (q04 w0 X):=by
 obtain ⟨ok,oa,ob_,oc,os,ot,odv,od⟩:=o
 simp only at hk
 subst hk
 have HH:=Lib.hid (And.intro h (And.intro hB (And.intro hb hE)))
 clear h hB hb hE
 unfold opA opV
 go_enter Tryz.func23,Tryz.ntmps23
 go_upto_region 49 with (fail)
 obtain ⟨ob,hob⟩:∃ ob,ob=W.heap.size:=⟨_,rfl⟩
 have hT1:Turns [] ((ob,Is (oO ⟨7,oa,ob_,oc,os,ot,odv,od⟩))::wsF X) w0 (W.alloc (.cells #[.int .i64 7,.int .i64 oa,.int .i64 ob_,.int .i64 oc,str os,str ot,odv] 65)):=by
  rw [hob];exact HH.out.1.turns.allocIs _
 rw [← hob]
 generalize W.alloc (.cells #[.int .i64 7,.int .i64 oa,.int .i64 ob_,.int .i64 oc,str os,str ot,odv] 65)=W1 at hT1 ⊢
 have u1:W1.cell? ⟨X.U.blk,1,none⟩=some (.pointer (some ⟨X.S.a,0,none⟩)):=by
  have:=qac hT1.sat.tail.headIs 1 (v:=ptrO X.U.a) rfl
  rw [HH.out.1.a] at this;exact this
 have HT1:=Lib.hid hT1
 clear hT1 hob
 go_wp2_with fail
 refine (qof X.S b W1 HT1.out.sat.tail.tail.left HH.out.1.ar HH.out.2.1 HH.out.2.2.1).mono ?_
 intro e W2 hp
 have key:∃ (S1:AS) (ev:Value),e=.returned ev∧((X.R.closed=false∧ev=.nilIface)∨(X.R.closed=true∧ev=errV 9))∧Turns (arF X.S) (arF S1) W1 W2∧qgm X.S S1:=by
  rcases hp with ⟨hc,rfl,hG⟩ | ⟨hc,rfl,L',hf,hG⟩
  ·exact ⟨X.S,_,rfl,.inr ⟨by rw [HH.out.1.link.closed];exact hc,rfl⟩,hG,.inl ⟨hc,rfl⟩⟩
  ·exact ⟨qiu (qej X.S L'),_,rfl,.inl ⟨by rw [HH.out.1.link.closed];exact hc,rfl⟩,hG,.inr ⟨hc,L',hf,rfl⟩⟩
 obtain ⟨S1,ev,rfl,hev,hG,hS⟩:=key
 have hT2:Turns [] ((X.R.blk,Is (refO X.R))::((ob,Is (oO ⟨7,oa,ob_,oc,os,ot,odv,od⟩))::(X.U.blk,Is (qao X.U))::(arF S1++(rvRow X.R.vv X.R.vs++(rtRow X.R.tv X.R.ts++qay X))))) w0 W2:=by
  have:=HT1.out
  unfold wsF at this
  exact ((this.to (H:=arF X.S++((ob,Is (oO ⟨7,oa,ob_,oc,os,ot,odv,od⟩))::(X.U.blk,Is (qao X.U))::(refF X.R++qay X))) (qaf fun _=>by simp only [qad,qaa,qah]<;>omega)).step (List.Perm.refl _) hG).to (by unfold refF;exact (qaf fun _=>by simp only [qad,qaa,qah]<;>omega))
 have HEn:=Lib.hid (qlg X.U.blk X.U X.R ev W2 (hT2.sat.memIs (by simp)) HH.out.1.r hT2.sat.headIs (HH.out.2.2.2.keep hT2.mods (fun h=>by simp at h)) hev)
 have HT2:=Lib.hid (And.intro hT2 hS)
 clear hp hev hG hS hT2 u1
 go_wp2_with fail
 refine HEn.out.mono ?_
 rintro e W3 ⟨rfl,hs3⟩
 have hT3:=HT2.out.1.thenSame hs3
 have u2:W3.cell? ⟨X.U.blk,2,none⟩=some (.pointer (some ⟨X.R.blk,0,none⟩)):=by
  have:=qac (hT3.sat.memIs (b:=X.U.blk) (o:=qao X.U) (by simp)) 2 (v:=.pointer (some ⟨X.U.r,0,none⟩)) rfl
  rw [HH.out.1.r] at this;exact this
 have HT3:=Lib.hid hT3
 clear hs3 hT3
 go_wp2_with (refine qak rfl (qa0 4 (.tmp 270) (.const (.bool true)) rfl X.R.blk 3 (qbw X.R) 60 (.bool true) HT3.out rfl rfl (by simp [qbw]) (by kernel_rfl) rfl rfl ?_);intro W4 hT4;have o0:W4.cell? ⟨ob,0,none⟩=some (.int .i64 7):=qac (hT4.sat.memIs (b:=ob) (o:=oO ⟨7,oa,ob_,oc,os,ot,odv,od⟩) (by simp)) 0 rfl;have HT4:=Lib.hid (show Turns [] ((X.R.blk,Is (refO { X.R with closed:=true }))::((ob,Is (oO ⟨7,oa,ob_,oc,os,ot,odv,od⟩))::(X.U.blk,Is (qao X.U))::(arF S1++(rvRow X.R.vv X.R.vs++(rtRow X.R.tv X.R.ts++qay X))))) w0 W4 from hT4);clear hT4;simp only [Act.put])
 refine bodyPost_ret (results_tmp rfl _ _ _) rfl ⟨rfl,S1,HT2.out.2,?_⟩
 have hf:=HT2.out.2.facts
 refine ⟨HT4.out.drop (fun x=>?_),?_,HH.out.1.r,?_,HT2.out.2.ok HH.out.1.ar,⟨HH.out.1.ref.vs,HH.out.1.ref.ts⟩,HH.out.1.pok,HH.out.1.inp,HH.out.1.out,HH.out.1.want,HH.out.1.most,HH.out.1.ms,HT2.out.2.link HH.out.1.link,HH.out.1.olen⟩
 ·unfold wsF refF qay
  simp only [qad,qaa]<;>omega
 ·show X.U.a=some S1.a
  rw [hf.2.2.1];exact HH.out.1.a
 ·show X.U.d=S1.X.d
  rw [hf.2.2.2.1];exact HH.out.1.d
theorem qq8 (Φ:Nat→DevL→AS→Prop) (w0 W:World) (X:WS) (o:OpL) (b:Nat) (h:WsOk w0 W X) (hB:ArB X.S b) (hb:b≤90000) (hl:X.R.vs.length≤100000∧X.R.ts.length≤100000) (hE:qbi w0) (hk:o.kind=8)
  (hO:∀ d' L' W',qjb X.S.L L'→Sat W' (devF d' L')→Calls Tryz.prog 22 #[.pointer (some ⟨d',0,none⟩),.int .i64 o.a] W' (fun e W''=>∃ S,e=.returned (.tuple #[.pointer (some ⟨S.a,0,none⟩),.nilIface])∧Φ d' L' S∧Turns (devF d' L') (arF S) W' W''))
  (hΦ:∀ d' L' S' b' vv' tv',qjb X.S.L L'→Φ d' L' S'→ArOk S'∧S'.X.d=d'∧Link S' (qto X.R o.a b' vv' tv')) :
  Calls Tryz.prog 23 #[.pointer (some ⟨X.U.blk,0,none⟩),opA o] W (q5b w0 X o.a Φ):=by
 obtain ⟨ok,oa,ob_,oc,os,ot,odv,od⟩:=o
 simp only at hk
 subst hk
 have HH:=Lib.hid (And.intro h (And.intro hB (And.intro hb hE)))
 have HO:=Lib.hid (And.intro hO (And.intro hΦ hl))
 clear h hB hb hE hO hΦ hl
 unfold opA opV
 go_enter Tryz.func23,Tryz.ntmps23
 go_upto_region 49 with (fail)
 obtain ⟨ob,hob⟩:∃ ob,ob=W.heap.size:=⟨_,rfl⟩
 have hT1:Turns [] ((ob,Is (oO ⟨8,oa,ob_,oc,os,ot,odv,od⟩))::wsF X) w0 (W.alloc (.cells #[.int .i64 8,.int .i64 oa,.int .i64 ob_,.int .i64 oc,str os,str ot,odv] 65)):=by
  rw [hob];exact HH.out.1.turns.allocIs _
 rw [← hob]
 generalize W.alloc (.cells #[.int .i64 8,.int .i64 oa,.int .i64 ob_,.int .i64 oc,str os,str ot,odv] 65)=W1 at hT1 ⊢
 have u1:W1.cell? ⟨X.U.blk,1,none⟩=some (.pointer (some ⟨X.S.a,0,none⟩)):=by
  have:=qac hT1.sat.tail.headIs 1 (v:=ptrO X.U.a) rfl
  rw [HH.out.1.a] at this;exact this
 have HT1:=Lib.hid hT1
 clear hT1 hob
 go_wp2_with fail
 refine (qof X.S b W1 HT1.out.sat.tail.tail.left HH.out.1.ar HH.out.2.1 HH.out.2.2.1).mono ?_
 intro e W2 hp
 have key:∃ (S1:AS) (ev:Value),e=.returned ev∧((X.R.closed=false∧ev=.nilIface)∨(X.R.closed=true∧ev=errV 9))∧Turns (arF X.S) (arF S1) W1 W2∧qgm X.S S1:=by
  rcases hp with ⟨hc,rfl,hG⟩ | ⟨hc,rfl,L',hf,hG⟩
  ·exact ⟨X.S,_,rfl,.inr ⟨by rw [HH.out.1.link.closed];exact hc,rfl⟩,hG,.inl ⟨hc,rfl⟩⟩
  ·exact ⟨qiu (qej X.S L'),_,rfl,.inl ⟨by rw [HH.out.1.link.closed];exact hc,rfl⟩,hG,.inr ⟨hc,L',hf,rfl⟩⟩
 obtain ⟨S1,ev,rfl,hev,hG,hS⟩:=key
 have hT2:Turns [] ((X.R.blk,Is (refO X.R))::((ob,Is (oO ⟨8,oa,ob_,oc,os,ot,odv,od⟩))::(X.U.blk,Is (qao X.U))::(arF S1++(rvRow X.R.vv X.R.vs++(rtRow X.R.tv X.R.ts++qay X))))) w0 W2:=by
  have:=HT1.out
  unfold wsF at this
  exact ((this.to (H:=arF X.S++((ob,Is (oO ⟨8,oa,ob_,oc,os,ot,odv,od⟩))::(X.U.blk,Is (qao X.U))::(refF X.R++qay X))) (qaf fun _=>by simp only [qad,qaa,qah]<;>omega)).step (List.Perm.refl _) hG).to (by unfold refF;exact (qaf fun _=>by simp only [qad,qaa,qah]<;>omega))
 have HEn:=Lib.hid (qlg X.U.blk X.U X.R ev W2 (hT2.sat.memIs (by simp)) HH.out.1.r hT2.sat.headIs (HH.out.2.2.2.keep hT2.mods (fun h=>by simp at h)) hev)
 have HT2:=Lib.hid (And.intro hT2 hS)
 clear hp hev hG hS hT2 u1
 go_wp2_with fail
 refine HEn.out.mono ?_
 rintro e W3 ⟨rfl,hs3⟩
 have hT3:=HT2.out.1.thenSame hs3
 have u2:W3.cell? ⟨X.U.blk,2,none⟩=some (.pointer (some ⟨X.R.blk,0,none⟩)):=by
  have:=qac (hT3.sat.memIs (b:=X.U.blk) (o:=qao X.U) (by simp)) 2 (v:=.pointer (some ⟨X.U.r,0,none⟩)) rfl
  rw [HH.out.1.r] at this;exact this
 have HT3:=Lib.hid hT3
 clear hs3 hT3
 go_wp2_with (refine qak rfl (qa0 4 (.tmp 270) (.const (.bool true)) rfl X.R.blk 3 (qbw X.R) 60 (.bool true) HT3.out rfl rfl (by simp [qbw]) (by kernel_rfl) rfl rfl ?_);intro W4 hT4;have o0:W4.cell? ⟨ob,0,none⟩=some (.int .i64 8):=qac (hT4.sat.memIs (b:=ob) (o:=oO ⟨8,oa,ob_,oc,os,ot,odv,od⟩) (by simp)) 0 rfl;have u0:W4.cell? ⟨X.U.blk,0,none⟩=some (.pointer (some ⟨X.U.d,0,none⟩)):=qac (hT4.sat.memIs (b:=X.U.blk) (o:=qao X.U) (by simp)) 0 rfl;have HT4:=Lib.hid (show Turns [] ((X.R.blk,Is (refO { X.R with closed:=true }))::((ob,Is (oO ⟨8,oa,ob_,oc,os,ot,odv,od⟩))::(X.U.blk,Is (qao X.U))::(arF S1++(rvRow X.R.vv X.R.vs++(rtRow X.R.tv X.R.ts++qay X))))) w0 W4 from hT4);clear hT4;simp only [Act.put])
 have hf:=HT2.out.2.facts
 have hud:X.U.d=S1.X.d:=by rw [hf.2.2.2.1];exact HH.out.1.d
 have hsub:Turns [] (devF S1.X.d S1.L++((S1.a,Is (archO S1.X))::(areaF S1.X.ab S1.X.d S1.A++((qbc S1.X.pm S1.ps S1.pc++(tagsF S1.X.tm S1.ts S1.tc++qbd S1.X.cm S1.cs S1.cc))++((X.R.blk,Is (refO { X.R with closed:=true }))::((ob,Is (oO ⟨8,oa,ob_,oc,os,ot,odv,od⟩))::(X.U.blk,Is (qao X.U))::(rvRow X.R.vv X.R.vs++(rtRow X.R.tv X.R.ts++qay X)))))))) w0 W4:=by
  have:=HT4.out
  unfold arF at this
  exact this.to (qaf fun _=>by simp only [qad,qaa,qah]<;>omega)
 rw [hud]
 refine (qsv S1.X.d S1.L W4 hsub.sat.left (HT2.out.2.ok HH.out.1.ar).dev).mono ?_
 rintro e W5 ⟨d',L',rfl,hG,hL1,hL2,hL3,hL4,hL5⟩
 have hT5:Turns [] ((X.U.blk,Is (qao X.U))::(refF { X.R with closed:=true }++(devF d' L'++((ob,Is (oO ⟨8,oa,ob_,oc,os,ot,odv,od⟩))::qay X)))) w0 W5:=by
  have:=hsub.step (List.Perm.refl _) hG
  refine this.drop (fun x=>?_)
  unfold refF
  simp only [qad,qaa]<;>omega
 have hcp:qjb X.S.L L':=⟨hL1,by rw [hL2,hf.2.1],by rw [hL3,hf.1],by rw [hL4,hf.1],hL5⟩
 have HT5:=Lib.hid (And.intro hT5 hcp)
 clear hG hL1 hL2 hL3 hL4 hL5 hT5 hcp hsub hf hud
 go_wp2_with (refine qak rfl (qa0 31 (.tmp 286) (.tmp 284) rfl X.U.blk 0 (qar X.U) 63 (.pointer (some ⟨d',0,none⟩)) HT5.out.1 rfl rfl (by simp [qar]) (by kernel_rfl) rfl rfl ?_);intro W6 hT6;have o1:W6.cell? ⟨ob,1,none⟩=some (.int .i64 oa):=qac (hT6.sat.memIs (b:=ob) (o:=oO ⟨8,oa,ob_,oc,os,ot,odv,od⟩) (by simp)) 1 rfl;have HT6:=Lib.hid (show Turns [] ((X.U.blk,Is (qao { X.U with d:=d' }))::(refF { X.R with closed:=true }++(devF d' L'++((ob,Is (oO ⟨8,oa,ob_,oc,os,ot,odv,od⟩))::qay X)))) w0 W6 from hT6);clear hT6;simp only [Act.put])
 have hb0:0<w0.heap.size:=World.block_lt_of_cell? w0 _ (qjc HH.out.2.2.2)
 have h6:Turns [] (((X.U.blk,Is (qao { X.U with d:=d' }))::(refF { X.R with closed:=true }++devF d' L'))++((ob,Is (oO ⟨8,oa,ob_,oc,os,ot,odv,od⟩))::qay X)) w0 W6:=HT6.out.to (qaf fun _=>by simp only [qad,qaa,qah]<;>omega)
 refine (qnu (Φ d' L') { X.U with d:=d' } { X.R with closed:=true } L' oa W6 HH.out.1.r h6.sat.left ⟨HH.out.1.ref.vs,HH.out.1.ref.ts⟩ (oneR HH.out.1) ⟨by have:=HO.out.2.2.1;show X.R.vs.length≤_;omega,by have:=HO.out.2.2.2;show X.R.ts.length≤_;omega⟩ (HH.out.2.2.2.keep h6.mods (fun h=>by simp at h)) (fun h0=>by have:=h6.newLe (b:=0) (by rw [qcw];exact List.mem_append_left _ h0);omega) (fun W' hW'=>HO.out.1 d' L' W' HT5.out.2 hW')).mono ?_
 rintro e W7 ⟨S',b',vv',tv',rfl,hΦ,hok,hT7⟩
 have hfin:=HO.out.2.1 d' L' S' b' vv' tv' HT5.out.2 hΦ
 have hT8:=h6.step (List.Perm.refl _) hT7
 have HF:=Lib.hid (And.intro hfin (And.intro hT8 (And.intro hΦ hok)))
 clear hfin hT8 hΦ hok hT7 h6
 go_wp2_with fail
 refine bodyPost_ret (results_tmp rfl _ _ _) rfl ⟨rfl,d',L',S',b',vv',tv',HT5.out.2,HF.out.2.2.1,?_⟩
 refine ⟨HF.out.2.1.drop (fun x=>?_),rfl,rfl,HF.out.1.2.1.symm,HF.out.1.1,HF.out.2.2.2,HH.out.1.pok,HH.out.1.inp,HH.out.1.out,HH.out.1.want,HH.out.1.most,HH.out.1.ms,HF.out.1.2.2,HH.out.1.olen⟩
 unfold wsF
 rw [show qay (qpz X oa d' S' b' vv' tv')=qay X from rfl]
 unfold qpz qto
 simp only [qad,qaa]<;>omega
theorem qpi {D z:Bs} {a:Nat} {K:KL} {H:List HV} (h:Reach D a K H):Reach (D++z) a K H:=by
 have up:∀ {at_:Nat} {k:UInt8} {body:Bs} {n:Nat},openR (D.drop at_)=some (k,body,n)→openR ((D++z).drop at_)=some (k,body,n):=by
  intro at_ k body n ho
  have h2:=qez ho
  refine qho ho ?_
  have hle:at_≤D.length:=by
   rcases Nat.lt_or_ge D.length at_ with h' | h'
   ·rw [List.drop_eq_nil_of_le (by omega)] at h2
    have:=h2.2.2.1
    have:=h2.2.1
    simp at *;omega
   ·exact h'
  rw [List.drop_append_of_le_length hle,List.take_append_of_le_length (by have:=h2.2.2.1;omega)]
 induction h with
 | zero=>exact .zero
 | chunk _ ho ih=>exact .chunk ih (up ho)
 | ver _ ho hr hc hm ih=>exact .ver ih (up ho) hr hc hm
theorem qxd {rs:Recs} (h:qnd rs) {z:Nat} {a:Nat} {K:KL} {H:List HV} (hr:Reach (qaz rs++zeros z) a K H):∀ j,j≤rs.length→(qaz (rs.take j)).length<a→∀ {K':KL} {H':List HV},Reach (qaz rs++zeros z) (qaz (rs.take j)).length K' H'→¬ qnh (qaz rs++zeros z) (qaz (rs.take j)).length K':=by
 have stepEq:∀ {b:Nat} {K:KL} {H:List HV} {k:UInt8} {body:Bs} {n:Nat} {j:Nat},Reach (qaz rs++zeros z) b K H→openR ((qaz rs++zeros z).drop b)=some (k,body,n)→j≤rs.length→¬ (qaz (rs.take j)).length<b→(qaz (rs.take j)).length<b+n→(qaz (rs.take j)).length=b:=by
  intro b K H k body n j hb ho hj h1 h2
  obtain ⟨i,hi,e,-⟩:=qhy h hb
  have hilt:i<rs.length:=by
   rcases Nat.lt_or_ge i rs.length with h' | h'
   ·exact h'
   ·obtain rfl:i=rs.length:=by omega
    rw [e,List.take_length,qjp] at ho;cases ho
  rw [e,qll h z hilt] at ho
  simp only [Option.some.injEq,Prod.mk.injEq] at ho
  obtain ⟨-,-,rfl⟩:=ho
  rw [e,← qif hilt] at h2
  have hij:i=j:=by
   rcases Nat.lt_trichotomy i j with h' | h' | h'
   ·have:=qet (rs:=rs) (i:=i+1) (j:=j) (by omega) (by omega);omega
   ·exact h'
   ·have:=qet (rs:=rs) (i:=j) (j:=i) (by omega) (by omega);omega
  rw [e,hij]
 induction hr with
 | zero=>intro j _ h1;omega
 | @chunk at_ K H body n hb ho ih =>
  intro j hj h1 K' H' hr' href
  by_cases h2:(qaz (rs.take j)).length<at_
  ·exact ih j hj h2 hr' href
  ·have e:=stepEq hb ho hj h2 h1
   rcases href with h3 | ⟨body',n',h3,-⟩
   ·rw [e,ho] at h3;cases h3
   ·rw [e,ho] at h3
    simp only [Option.some.injEq,Prod.mk.injEq] at h3
    exact absurd h3.1 (by decide)
 | @ver at_ K H body n p num size ats chs hb ho hrd hc hm ih =>
  intro j hj h1 K' H' hr' href
  by_cases h2:(qaz (rs.take j)).length<at_
  ·exact ih j hj h2 hr' href
  ·have e:=stepEq hb ho hj h2 h1
   rw [← e] at hb
   obtain ⟨rfl,-⟩:=qrd h j hj hb hr'
   rcases href with h3 | ⟨body',n',h3,h4⟩
   ·rw [e,ho] at h3;cases h3
   ·rw [e,ho] at h3
    simp only [Option.some.injEq,Prod.mk.injEq,true_and] at h3
    obtain ⟨rfl,rfl⟩:=h3
    rcases h4 with h4 | ⟨p',num',size',ats',h4,h5⟩
    ·rw [hrd] at h4;cases h4
    ·rw [hrd] at h4
     simp only [Option.some.injEq,RecR.ver.injEq] at h4
     obtain ⟨rfl,rfl,rfl,rfl⟩:=h4
     exact h5 chs hc hm
structure Told (S:AS) (rs:Recs) (H:List HV):Prop where
 ok:qnd rs
 data:S.data=qaz rs
 kinds:∀ r∈rs,r.1=1∨r.1=2
 reach:Reach (qaz rs) (qaz rs).length S.K H
 hist:∀ l,(qaq S.ps l).map qcn=(H.filter (fun h=>decide (h.p=l))).map qj9
 ep:S.X.ep=1
 sec1:secOf S.L.now 1=qcc 1 0
 sec0:secOf S.L.now 0=zeros 128
 ts:S.ts=[]
 used:S.X.used=((H.map (·.size)).sum:Nat)
theorem qfj (l:Bs) (k:Nat):secOf l k=qax l k 1:=by unfold secOf qax;rfl
theorem Told.flush {S:AS} {rs:Recs} {H:List HV} (h:Told S rs H) {L':DevL} (hf:L'.now=S.L.now):Told (qej S L') rs H where
 ok:=h.ok
 data:=h.data
 kinds:=h.kinds
 reach:=h.reach
 hist:=h.hist
 ep:=h.ep
 sec1:=by show secOf L'.now 1=_;rw [hf];exact h.sec1
 sec0:=by show secOf L'.now 0=_;rw [hf];exact h.sec0
 ts:=h.ts
 used:=h.used
theorem Told.close {S:AS} {rs:Recs} {H:List HV} (h:Told S rs H):Told (qiu S) rs H where
 ok:=h.ok
 data:=h.data
 kinds:=h.kinds
 reach:=h.reach
 hist:=h.hist
 ep:=h.ep
 sec1:=h.sec1
 sec0:=h.sec0
 ts:=h.ts
 used:=h.used
theorem Told.spare {S:AS} {rs:Recs} {H:List HV} (h:Told S rs H) (sp:List (Nat×Nat×Nat)):Told (qda S sp) rs H where
 ok:=h.ok
 data:=h.data
 kinds:=h.kinds
 reach:=h.reach
 hist:=h.hist
 ep:=h.ep
 sec1:=h.sec1
 sec0:=h.sec0
 ts:=h.ts
 used:=h.used
theorem Told.open {S:AS} {rs:Recs} {H:List HV} (h:Told S rs H) (hok:ArOk S) {d':Nat} {L':DevL} {q:Int} {S':AS} (hn:L'.n=S.L.n) (hnow:L'.now=S.L.now) (ho:OpenIs d' L' q 1 (qax L'.now (2+1%2*halfN L'.n) (halfN L'.n)) S') :
  ∃ sz szc,CtOk (qaz rs++zeros (128*S.A.count-S.data.length)) S'.X S'.ps S'.pc S'.cs S'.cc sz szc S.data.length S.K H∧S'.K=S.K∧S'.data=S.data:=by
 have hD:qax L'.now (2+1%2*halfN L'.n) (halfN L'.n)=qaz rs++zeros (128*S.A.count-S.data.length):=by
  have h1:=hok.dat.1
  have h2:S.A.first=2+1%2*halfN L'.n:=by rw [hok.first,h.ep,hn]
  have h3:S.A.count=halfN L'.n:=by rw [hok.count,hn]
  rw [hnow,← h2,← h3,h1,h.data]
 obtain ⟨at_,H',sz,szc,hct,href,hdat⟩:=ho.ct
 rw [hD] at hct href hdat
 have hfull:=qpi (z:=zeros (128*S.A.count-S.data.length)) h.reach
 obtain ⟨j,hj,e,-⟩:=qhy h.ok hct.reach
 have hjl:j=rs.length:=by
  rcases Nat.lt_or_ge j rs.length with h' | h'
  ·exfalso
   have h5:=qet (rs:=rs) (i:=j) (j:=rs.length) hj (Nat.le_refl _)
   rw [List.take_length] at h5
   have hr:=hct.reach
   rw [e] at hr href
   exact qxd h.ok hfull j hj (by omega) hr href
  ·omega
 subst hjl
 rw [List.take_length] at e
 subst e
 have hr:=hct.reach
 have hfun:=qrd h.ok (z:=128*S.A.count-S.data.length) rs.length (Nat.le_refl _) (K:=S'.K) (H:=H') (K':=S.K) (H':=H) (by rw [List.take_length];exact hr) (by rw [List.take_length];exact hfull)
 obtain ⟨hK,rfl⟩:=hfun
 rw [hK] at hct
 refine ⟨sz,szc,by rw [h.data] at hct ⊢;exact hct,hK,?_⟩
 rw [hdat,List.take_left,h.data]
theorem Told.views {S:AS} {rs:Recs} {H:List HV} (h:Told S rs H) {D:Bs} {X:ArchL} {ps:List PathL} {pc:Nat} {cs:List ChkL} {cc:Nat} {sz:List (Ent Int)} {szc at_:Nat} {K:KL} (hct:CtOk D X ps pc cs cc sz szc at_ K H) (l:Bs):(qaq ps l).map qcn=(qaq S.ps l).map qcn:=by
 rw [hct.hist,h.hist]
def SameV (S S':AS):Prop:=(∀ l,(qaq S'.ps l).map qcn=(qaq S.ps l).map qcn)∧S'.K=S.K
theorem q5m {l l':List VerL} (h:l'.map qcn=l.map qcn):∀ V'∈l',∃ V∈l,qcn V=qcn V':=fun V' hV'=>by
 have:qcn V'∈l.map qcn:=by rw [← h];exact List.mem_map.2 ⟨V',hV',rfl⟩
 obtain ⟨V,hV,e⟩:=List.mem_map.1 this
 exact ⟨V,hV,e⟩
theorem qrk {S S':AS} (hK:S'.K=S.K):∀ {l l':List VerL},l'.map qcn=l.map qcn→l'.map (tripV S')=l.map (tripV S)
 | [],[],_=>rfl
 | [],_::_,h=>by cases h
 | _::_,[],h=>by cases h
 | V::l,V'::l',h=>by
  simp only [List.map_cons,List.cons.injEq] at h ⊢
  refine ⟨?_,qrk hK h.2⟩
  have h1:=h.1
  unfold qcn at h1
  simp only [Prod.mk.injEq] at h1
  unfold tripV contV
  rw [hK,h1.1,h1.2.2.1,h1.2.2.2]
theorem OpenIs.eX {d:Nat} {L:DevL} {q:Int} {e:Nat} {D:Bs} {S:AS} (h:OpenIs d L q e D S):S.X.d=d∧S.X.ep=e∧S.X.quota=clip0 q∧S.X.closed=false∧S.X.broken=.nilIface:=by
 obtain ⟨us,sc,sb,hX⟩:=h.X
 refine ⟨?_,?_,?_,?_,?_⟩<;>(rw [hX];rfl)
theorem q2r {S S':AS} (hok:ArOk S) {d':Nat} {L':DevL} {q:Int} {D0 D:Bs} (hn:L'.n=S.L.n) (ho:OpenIs d' L' q 1 D0 S') {sz:List (Ent Int)} {szc:Nat} {H:List HV} {rest:Bs} (hD:D=S.data++rest)
  (hct:CtOk D S'.X S'.ps S'.pc S'.cs S'.cc sz szc S.data.length S.K H) (hK:S'.K=S.K) (hdat:S'.data=S.data):ArOk S':=by
 obtain ⟨-,e2,-,-,e5⟩:=ho.eX
 have hversH:∀ p∈S'.ps,∀ V∈p.g,∃ h∈H,qj9 h=qcn V:=fun p hp V hV=>by
  have h1:=hct.hist p.key
  rw [qgw hct.paths hp] at h1
  have h2:qcn V∈p.g.map qcn:=List.mem_map.2 ⟨V,hV,rfl⟩
  rw [h1] at h2
  obtain ⟨h,hh,e⟩:=List.mem_map.1 h2
  exact ⟨h,(List.mem_filter.1 hh).1,e⟩
 refine ⟨ho.dev.1,?_,?_,?_,?_,?_,?_,?_,ho.dat,hct.paths,?_,hct.chunks,?_,?_,?_,hct.nem,e5,?_⟩
 ·rw [ho.dev.2.1,hn];exact hok.n16
 ·rw [ho.dev.2.1,hn];exact hok.nmax
 ·refine ⟨?_,?_,?_⟩
  ·rw [ho.A.2.2.2.1];exact qp2 _
  ·rw [ho.A.2.2.2.2];simp
  ·rw [ho.A.2.2.2.2];intro s hs;cases hs
 ·rw [ho.A.1,e2,ho.dev.2.1]
 ·rw [ho.A.2.1,ho.dev.2.1]
 ·exact ho.A.2.2.1
 ·exact ho.A.2.2.2.1
 ·rw [ho.ts.1,ho.ts.2]
  exact ⟨⟨List.nodup_nil,List.nodup_nil,(fun e he=>by cases he),(fun e he=>by cases he)⟩,(fun p hp=>by cases hp)⟩
 ·intro k;rw [hK];exact hct.kin k
 ·intro e he
  rw [hK] at he
  obtain ⟨h1,-,h3⟩:=hct.kat e he
  refine ⟨h1,?_⟩
  rw [hD,List.take_left] at h3
  rw [hdat];exact h3
 ·intro p hp V hV
  obtain ⟨h,hh,e⟩:=hversH p hp V hV
  obtain ⟨h1,h2⟩:=hct.chsK h hh
  unfold qj9 qcn at e
  simp only [Prod.mk.injEq] at e
  rw [hK,← e.2.1,← e.2.2.1]
  exact ⟨h1,h2⟩
 ·rw [e2];decide
theorem qwl {S S':AS} {R R2:RefL} (L:Link S R) (hv:SameV S S') (hu:S'.X.used=S.X.used) (hts:S'.ts=[]∧S.ts=[]) (hvs:R2.vs=R.vs) (hrt:R2.ts=R.ts) (hq:R2.quota=S'.X.quota) (hc:R2.closed=S'.X.closed):Link S' R2 where
 closed:=hc
 quota:=hq
 used:=by rw [hu,hvs];exact L.used
 vers:=fun p=>by rw [hvs,qrk hv.2 (hv.1 p)];exact L.vers p
 sorted:=by rw [hvs];exact L.sorted
 asc:=fun p=>by rw [hvs];exact L.asc p
 each:=by rw [hvs];exact L.each
 tags:=by rw [hts.1,hrt];have:=L.tags;rw [hts.2] at this;exact this
 tsort:=by rw [hrt];exact L.tsort
 teach:=by rw [hrt,hvs];exact L.teach
 held:=by rw [hrt,hvs];exact L.held
theorem q6m {S S':AS} (hok':ArOk S') (hv:SameV S S'):S'.ps.length≤S.ps.length:=by
 have h1:(S'.ps.map (·.key)) ⊆ (S.ps.map (·.key)):=fun k hk=>by
  obtain ⟨p,hp,rfl⟩:=List.mem_map.1 hk
  have h2:=hv.1 p.key
  rw [qgw hok'.paths hp] at h2
  have hne:qaq S.ps p.key≠[]:=fun e=>by
   rw [e] at h2
   exact hok'.some p hp (List.map_eq_nil_iff.1 h2)
  obtain ⟨q,hq,hk,-⟩:=qcu hne
  exact List.mem_map.2 ⟨q,hq,hk⟩
 have h3:=(qkw hok'.paths).length_le_of_subset h1
 simpa using h3
theorem q4e {S S':AS} {b:Nat} (hB:ArB S b) (hok:ArOk S) (hok':ArOk S') (hv:SameV S S') (hu:S'.X.used=S.X.used) (hsc:S'.X.sc=S'.K.length) (hsb:S'.X.sb=((S'.K.map (·.1.length)).sum:Nat)) (hsb2:(S.K.map (·.1.length)).sum≤65536*b) (hts:S'.ts=[]) (hq:S'.X.quota.natAbs≤9223372036854775807) (hch:S'.L.chs=[]) (hkl:∀ p∈S'.ps,p.key.length≤255):ArB S' b where
 K:=by rw [hv.2];exact hB.K
 np:=Nat.le_trans (q6m hok' hv) hB.np
 nt:=by rw [hts];simp
 vers:=fun p hp=>by
  have h2:=hv.1 p.key
  rw [qgw hok'.paths hp] at h2
  have hne:qaq S.ps p.key≠[]:=fun e=>by
   rw [e] at h2
   exact hok'.some p hp (List.map_eq_nil_iff.1 h2)
  obtain ⟨q,hq,hk,hg⟩:=qcu hne
  have h3:=hB.vers q hq
  rw [← hg] at h2
  refine ⟨hkl p hp,?_,fun V hV=>?_⟩
  ·have:=congrArg List.length h2
   rw [List.length_map,List.length_map] at this
   rw [this];exact h3.2.1
  ·obtain ⟨V0,hV0,e⟩:=q5m h2 V hV
   have h4:=h3.2.2 V0 hV0
   unfold qcn at e
   simp only [Prod.mk.injEq] at e
   rw [← e.1,← e.2.1,← e.2.2.1,← e.2.2.2]
   exact h4
 tags:=by rw [hts];intro p hp;cases hp
 used:=by rw [hu];exact hB.used
 sc:=by rw [hsc,hv.2];have:=hB.K;omega
 sb:=by rw [hsb,hv.2];omega
 quota:=hq
 chs:=by rw [hch];simp
theorem qm4 {D:Bs}:∀ (l:List Bs) {a:Nat} {K:KL} {H:List HV} {pre rest:Bs},(∀ c∈l,c.length<65536)→D=pre++qb4 l++rest→pre.length=a→Reach D a K H→Reach D (a+qa1 l) (K++qbo a l) H
 | [],a,K,H,_,_,_,_,_,h=>by simpa [qa1,qbo] using h
 | c::l,a,K,H,pre,rest,hl,hD,hp,h=>by
  have ho:openR (D.drop a)=some (1,c,c.length+9):=by
   rw [hD,← hp,List.append_assoc,List.drop_left,qgc,List.append_assoc]
   exact qgd 1 c _ (by decide) (hl c (by simp))
  have h1:=Reach.chunk h ho
  have h2:=qm4 l (pre:=pre++frame 1 c) (rest:=rest) (a:=a+(c.length+9)) (fun x hx=>hl x (by simp [hx])) (by rw [hD,qgc];simp) (by rw [List.length_append,qca,hp]) h1
  rw [qeh,qbo]
  rw [show a+(c.length+9+qa1 l)=a+(c.length+9)+qa1 l by omega]
  rw [List.append_assoc] at h2
  rw [show a+c.length+9=a+(c.length+9) by omega]
  exact h2
theorem qwc {D b c:Bs} {a:Nat} (h1:qek D a b) (h2:qek D a c):b=c:=by
 have e1:openR (D.drop a)=some (1,b,b.length+9):=qho h1.2 (by rw [List.take_take,Nat.min_self])
 have e2:openR (D.drop a)=some (1,c,c.length+9):=qho h2.2 (by rw [List.take_take,Nat.min_self])
 rw [e1] at e2
 simp only [Option.some.injEq,Prod.mk.injEq,true_and] at e2
 exact e2.1
theorem q5t {S:AS} (hok:ArOk S) {c:Bs} {q:Nat×Nat} (he:(c,q)∈S.K):szOf S.K (q.1:Int)=some q.2:=by
 unfold szOf
 cases hf:S.K.find? (fun e=>decide ((e.2.1:Int)=q.1)) with
 | none=>exact absurd (List.find?_eq_none.1 hf _ he) (by simp)
 | some x =>
  have hx:=List.mem_of_find?_eq_some hf
  have hx2:=List.find?_some hf
  simp only [decide_eq_true_eq] at hx2
  have h1:=hok.kat x hx
  have h2:=hok.kat _ he
  have hpos:x.2.1=q.1:=by omega
  rw [hpos] at h1
  have:=qwc h1.2 h2.2
  simp only [Option.map_some,Option.some.injEq]
  rw [h1.1,h2.1,this]
theorem qug {S:AS} (hok:ArOk S):∀ {chs:List (Nat×Nat)},(∀ q∈chs,∃ e∈S.K,e.2=q)→chsOf (szOf S.K) (atsOf chs)=some chs
 | [],_=>rfl
 | q::r,h=>by
  obtain ⟨e,he,rfl⟩:=h q (by simp)
  have h1:=q5t hok (c:=e.1) (q:=e.2) he
  have h2:=qug hok (chs:=r) (fun x hx=>h x (by simp [hx]))
  unfold atsOf at h2 ⊢
  simp only [List.map_cons,chsOf,h1,h2,Int.toNat_natCast]
theorem qqg:∀ {l:List Nat} {n:Nat},n∈l→n≤l.sum
 | a::r,n,h=>by
  rw [List.sum_cons]
  rcases List.mem_cons.1 h with rfl | h
  ·omega
  ·have:=qqg h;omega
theorem Told.put {S S':AS} {rs:Recs} {H:List HV} (h:Told S rs H) (hok:ArOk S) (hok':ArOk S') {l D:Bs} {V:VerL} (hp:PutStep S S' l D V) (hl:l.length≤20) (hD:D.length≤4000) (hnum:V.num<4294967296) (hdl:S'.data.length<4294967296) :
  Told S' (rs++(qa8 S D).map (fun c=>(1,c))++[(2,verB l V.num V.size (atsOf V.chs))]) (H++[⟨l,V.num,V.size,V.chs⟩]):=by
 have hfl:∀ c∈qa8 S D,c.length<65536:=fun c hc=>by
  have h1:=qfz S D
  have h2:c.length≤((qa8 S D).map List.length).sum:=qqg (List.mem_map.2 ⟨c,hc,rfl⟩)
  omega
 have hVm:V∈qaq S'.ps l:=by rw [hp.vers,if_pos rfl];simp
 obtain ⟨p,hpm,-,hpg⟩:=qcu (List.ne_nil_of_mem hVm)
 have hV:=hok'.vers p hpm V (hpg ▸ hVm)
 have hframes:qaz ((qa8 S D).map (fun c=>((1:UInt8),c)))=qb4 (qa8 S D):=by
  unfold qaz qb4;rw [List.map_map];rfl
 have hdat:S'.data=qaz (rs++(qa8 S D).map (fun c=>(1,c))++[(2,verB l V.num V.size (atsOf V.chs))]):=by
  rw [hp.data,qgi,qgi,hframes,h.data]
  simp [qaz]
 have hvl:(verB l V.num V.size (atsOf V.chs)).length<65536:=by
  have h1:=qfs l V.num V.size V.chs
  rw [qca] at h1
  have h2:=qph D
  have h3:=hp.nchs
  have h4:(qav D).length=(qas D).length:=by unfold qav;rw [qce]
  omega
 refine ⟨?_,hdat,?_,?_,fun m=>?_,by rw [hp.ep];exact h.ep,?_,?_,by rw [hp.ts];exact h.ts,?_⟩
 ·intro r hr
  rcases List.mem_append.1 hr with hr | hr
  ·rcases List.mem_append.1 hr with hr | hr
   ·exact h.ok r hr
   ·obtain ⟨c,hc,rfl⟩:=List.mem_map.1 hr
    exact ⟨show (1:UInt8)≠0 by decide,hfl c hc⟩
  ·obtain rfl:=List.mem_singleton.1 hr
   exact ⟨show (2:UInt8)≠0 by decide,hvl⟩
 ·intro r hr
  rcases List.mem_append.1 hr with hr | hr
  ·rcases List.mem_append.1 hr with hr | hr
   ·exact h.kinds r hr
   ·obtain ⟨c,hc,rfl⟩:=List.mem_map.1 hr
    exact .inl rfl
  ·obtain rfl:=List.mem_singleton.1 hr
   exact .inr rfl
 ·rw [← hdat]
  have h1:Reach S'.data S.data.length S.K H:=by
   rw [hp.data,List.append_assoc]
   have:=qpi (z:=qb4 (qa8 S D)++frame 2 (verB l V.num V.size (atsOf V.chs))) h.reach
   rw [← h.data] at this;exact this
  have h2:=qm4 (qa8 S D) (pre:=S.data) (rest:=frame 2 (verB l V.num V.size (atsOf V.chs))) hfl hp.data rfl h1
  rw [← hp.K] at h2
  have ho:openR (S'.data.drop (S.data.length+qa1 (qa8 S D)))=some (2,verB l V.num V.size (atsOf V.chs),(verB l V.num V.size (atsOf V.chs)).length+9):=by
   have e1:S.data.length+qa1 (qa8 S D)=(S.data++qb4 (qa8 S D)).length:=by rw [List.length_append,qdi]
   rw [hp.data,e1,List.drop_left]
   have:=qgd 2 (verB l V.num V.size (atsOf V.chs)) [] (by decide) hvl
   rwa [List.append_nil] at this
  have hr:=q1m (p:=l) (num:=V.num) (size:=V.size) (ats:=atsOf V.chs) (by omega) hnum (by rw [hp.size];omega) (fun n hn=>by
   obtain ⟨q,hq,rfl⟩:=List.mem_map.1 hn
   obtain ⟨e,he,rfl⟩:=hV.1 q hq
   have:=(hok'.kat e he).2.1
   omega)
  have h3:=Reach.ver h2 ho hr (qug hok' hV.1) hV.2.symm
  have e2:S.data.length+qa1 (qa8 S D)+((verB l V.num V.size (atsOf V.chs)).length+9)=S'.data.length:=by
   rw [hp.data,List.length_append,List.length_append,qdi,qca]
  rw [e2] at h3
  exact h3
 ·rw [hp.vers,List.filter_append,List.map_append]
  by_cases hm:m=l
  ·subst hm
   rw [if_pos rfl,List.map_append,h.hist]
   congr 1
   simp [qcn,qj9,hp.held]
  ·rw [if_neg hm,h.hist]
   have:¬ l=m:=fun e=>hm e.symm
   simp [this]
 ·rw [qfj,hp.other 1 1 (.inl (by rw [hok.first];omega)),← qfj];exact h.sec1
 ·rw [qfj,hp.other 0 1 (.inl (by rw [hok.first];omega)),← qfj];exact h.sec0
 ·rw [hp.used,h.used,List.map_append,List.sum_append]
  simp [hp.size]
theorem qyv {n:Nat} {q:Int} {d:Nat} {S:AS} (h:qkl n q d S):Told S [] []:=by
 obtain ⟨-,-,-,-,h5,-,-,h8,h9,h10,h11,-,-,h14,-,h16,h17⟩:=h
 refine ⟨(fun r hr=>by cases hr),by rw [h11];rfl,(fun r hr=>by cases hr),?_,fun l=>by rw [h8];rfl,h14,h16,h17,h9,by rw [h5];rfl⟩
 rw [h10];exact .zero
theorem q0c {n:Nat} {q:Int} {d:Nat} {S:AS} (h:qkl n q d S) {R:RefL} (hv:R.vs=[]) (ht:R.ts=[]) (hq:R.quota=clip0 q) (hc:R.closed=false):Link S R:=by
 obtain ⟨-,-,h3,h4,h5,-,-,h8,h9,-⟩:=h
 refine ⟨by rw [hc,h3],by rw [hq,h4],by rw [h5,hv];rfl,fun p=>by rw [h8,hv];rfl,by rw [hv];exact List.Pairwise.nil,fun p=>by rw [hv];exact List.Pairwise.nil,(by rw [hv];intro v hv;cases hv),by rw [h9,ht];exact List.Perm.refl _,by rw [ht];exact List.Pairwise.nil,(by rw [ht];intro v hv;cases hv),(by rw [hv];intro v hv;cases hv)⟩
theorem ArB.mono {S:AS} {b c:Nat} (h:ArB S b) (hbc:b≤c):ArB S c where
 K:=Nat.le_trans h.K hbc
 np:=Nat.le_trans h.np hbc
 nt:=Nat.le_trans h.nt hbc
 vers:=fun p hp=>⟨(h.vers p hp).1,Nat.le_trans (h.vers p hp).2.1 hbc,fun V hV=>by
  obtain ⟨h1,h2,h3,h4⟩:=(h.vers p hp).2.2 V hV
  exact ⟨by omega,by omega,by omega,by omega⟩⟩
 tags:=fun p hp=>by
  obtain ⟨h1,h2,h3⟩:=h.tags p hp
  exact ⟨h1,h2,by omega⟩
 used:=by have:=h.used;omega
 sc:=by have:=h.sc;omega
 sb:=by have:=h.sb;omega
 quota:=h.quota
 chs:=by have:=h.chs;omega
structure PB (X:WS) (k m:Nat):Prop where
 b:ArB X.S (m+2*k)
 vs:X.R.vs.length≤k
 ts:X.R.ts.length≤k
 ml:X.M.length≤m
 nums:∀ v∈X.R.vs,v.num≤k
 data:X.S.data.length≤100*k+2*m
 n:X.S.L.n=20000
 q:0≤X.S.X.quota∧X.S.X.quota≤9223372036854775807
 told:∃ rs H,Told X.S rs H∧rs.length≤k+m
theorem PB.mono {X:WS} {k m k' m':Nat} (h:PB X k m) (hk:k≤k') (hm:m≤m'):PB X k' m' where
 b:=h.b.mono (by omega)
 vs:=Nat.le_trans h.vs hk
 ts:=Nat.le_trans h.ts hk
 ml:=Nat.le_trans h.ml hm
 nums:=fun v hv=>by have:=h.nums v hv;omega
 data:=by have:=h.data;omega
 n:=h.n
 q:=h.q
 told:=by obtain ⟨rs,H,h1,h2⟩:=h.told;exact ⟨rs,H,h1,by omega⟩
theorem PB.out {X:WS} {k m:Nat} (h:PB X k m) (sp:List (Nat×Nat×Nat)) (ov wv:Value) (D:Bs):PB (outX X sp ov wv D) k m where
 b:=h.b.spare sp
 vs:=h.vs
 ts:=h.ts
 ml:=h.ml
 nums:=h.nums
 data:=h.data
 n:=h.n
 q:=h.q
 told:=by obtain ⟨rs,H,h1,h2⟩:=h.told;exact ⟨rs,H,h1.spare sp,h2⟩
theorem PB.flush {X:WS} {k m:Nat} (h:PB X k m) {L':DevL} (hf:qfu X.S.L L'):PB { X with S:=qej X.S L' } k m where
 b:=h.b.flush hf
 vs:=h.vs
 ts:=h.ts
 ml:=h.ml
 nums:=h.nums
 data:=h.data
 n:=by show L'.n=_;rw [hf.2.1];exact h.n
 q:=h.q
 told:=by obtain ⟨rs,H,h1,h2⟩:=h.told;exact ⟨rs,H,h1.flush hf.2.2.1,h2⟩
theorem PB.close {X:WS} {k m:Nat} (h:PB X k m) {S1:AS} (hc:qgm X.S S1):PB { X with S:=S1,R:={ X.R with closed:=true } } k m:=by
 rcases hc with ⟨_,rfl⟩ | ⟨_,L',hf,rfl⟩
 ·exact ⟨h.b,h.vs,h.ts,h.ml,h.nums,h.data,h.n,h.q,h.told⟩
 ·have h2:=h.flush hf
  refine ⟨h2.b.close,h2.vs,h2.ts,h2.ml,h2.nums,h2.data,h2.n,h2.q,?_⟩
  obtain ⟨rs,H,h1,h3⟩:=h2.told
  exact ⟨rs,H,h1.close,h3⟩
theorem qk9 (D:Bs):(qav D).length≤D.length:=by
 unfold qav;rw [qce];exact qcy D
theorem qr9 (S:AS) (D:Bs):(qa8 S D).length≤(qav D).length:=by
 unfold qa8
 have:∀ (has l acc:List Bs),(qbp has acc l).length≤acc.length+l.length:=by
  intro has l
  induction l with
  | nil=>intro acc;simp [qbp]
  | cons c r ih =>
   intro acc
   simp only [qbp]
   split
   ·have:=ih acc;simp only [List.length_cons];omega
   ·have:=ih (acc++[c]);simp only [List.length_append,List.length_cons,List.length_nil] at this ⊢;omega
 simpa using this (S.K.map (·.1)) (qav D) []
theorem PB.put {X:WS} {k m:Nat} (h:PB X k m) {w0 W W':World} (hw:WsOk w0 W X) {o:OpL} {S':AS} {V:VerL} {vv cv mv:Value} {M':List SlB} (hp:PutStep X.S S' o.s o.d V) (hpb:PutB X.S o.d (m+2*k) S') (hD:o.d.length≤4000) (hl:qa6 o.s=true) (hM:M'.map (·.bs)=addBs (X.M.map (·.bs)) (qav o.d))
  (hw':WsOk w0 W' (putX X o S' vv cv mv M')) (hk:k+1≤400) (hm:m+o.d.length≤60000):PB (putX X o S' vv cv mv M') (k+1) (m+o.d.length):=by
 have hnr:nrTo X.R.vs o.s X.R.vs.length≤k+1:=by
  rw [qjo _ _ _ (Nat.le_refl _),List.take_length]
  cases hg:(qbg X.R.vs o.s).getLast? with
  | none=>simp;omega
  | some v =>
   have:=h.nums v (List.mem_filter.1 (List.mem_of_getLast? hg)).1
   simp only [Option.map_some,Option.getD_some];omega
 have hVn:(V.num:Int)=nrTo X.R.vs o.s X.R.vs.length:=by rw [hw.link.nr,hp.num];simp
 have hroom:=qu1 (S:=X.S) (D:=o.d) (qkr hl) (n:=V.num) (s:=V.size) hp.nchs
 have hdl:S'.data.length≤100*(k+1)+2*(m+o.d.length):=by
  have:=h.data
  rw [hp.data,List.length_append,List.length_append]
  omega
 refine ⟨?_,?_,?_,?_,?_,hdl,?_,?_,?_⟩
 ·have h1:=qr9 X.S o.d
  have h2:=qk9 o.d
  exact hpb _ (by omega) (by omega)
 ·show (qch _ _ _).length≤_
  rw [q6p];have:=h.vs;omega
 ·have:=h.ts;show X.R.ts.length≤_;omega
 ·show M'.length≤_
  have h1:=congrArg List.length hM
  have h2:=qsc (X.M.map (·.bs)) (qav o.d)
  have h3:=qk9 o.d
  have h4:=h.ml
  rw [List.length_map] at h1 h2
  omega
 ·intro v hv
  rcases q7m.1 hv with hv | rfl
  ·have:=h.nums v hv;omega
  ·simp only;omega
 ·show S'.L.n=_
  rw [hp.n];exact h.n
 ·show 0≤S'.X.quota∧S'.X.quota≤9223372036854775807
  rw [hp.quota];exact h.q
 ·obtain ⟨rs,H,h1,h2⟩:=h.told
  refine ⟨_,_,h1.put hw.ar hw'.ar hp (qkr hl) hD (by omega) (by show S'.data.length<_;omega),?_⟩
  have h3:=qr9 X.S o.d
  have h4:=qk9 o.d
  simp only [List.length_append,List.length_map,List.length_singleton]
  omega
theorem qtc {S:AS} {rs:Recs} {H:List HV} (h:Told S rs H) (z:Nat) (hr:rs.length≤90000):qlf (qaz rs++zeros z):=fun at_ K H' hrc=>by
 obtain ⟨j,hj,e,hk⟩:=qhy h.ok hrc
 refine ⟨by omega,by omega,fun k body n ho=>?_⟩
 by_cases hlt:j<rs.length
 ·rw [e,qll h.ok z hlt] at ho
  simp only [Option.some.injEq,Prod.mk.injEq] at ho
  rw [← ho.1]
  exact h.kinds _ (List.getElem_mem hlt)
 ·obtain rfl:j=rs.length:=by omega
  rw [e,List.take_length,qjp] at ho;cases ho
def usOne (k:Nat):Option (Nat×Nat):=if k=1 then some (1,0) else none
theorem Told.opens {S:AS} {rs:Recs} {H:List HV} (h:Told S rs H) (hok:ArOk S) (hn:S.L.n=20000) (hr:rs.length≤90000) (d':Nat) (L':DevL) (q:Int) (W:World) (hc:qjb S.L L') (hs:Sat W (devF d' L')) :
  Calls Tryz.prog 22 #[.pointer (some ⟨d',0,none⟩),.int .i64 q] W (fun e W''=>∃ S',e=.returned (.tuple #[.pointer (some ⟨S'.a,0,none⟩),.nilIface])∧OpenIs d' L' q 1 (qax L'.now (2+1%2*halfN L'.n) (halfN L'.n)) S'∧Turns (devF d' L') (arF S') W W''):=by
 have hD:qax L'.now (2+1%2*halfN L'.n) (halfN L'.n)=qaz rs++zeros (128*S.A.count-S.data.length):=by
  have h1:=hok.dat.1
  have h2:S.A.first=2+1%2*halfN L'.n:=by rw [hok.first,h.ep,hc.2.1]
  have h3:S.A.count=halfN L'.n:=by rw [hok.count,hc.2.1]
  rw [hc.2.2.1,← h2,← h3,h1,h.data]
 refine q4r d' L' usOne 1 0 q W hs hc.1 (by rw [hc.2.1,hn];omega) (by rw [hc.2.1,hn];omega) (by rw [hc.2.2.2.2];simp) (fun k hk=>?_) (.inl rfl) rfl ?_ (by omega) ?_ (fun _ _ _ _ _=>Nat.zero_le _) (by omega)
 ·rcases (show k=0∨k=1 by omega) with rfl | rfl
  ·refine .inl ⟨rfl,?_⟩
   rw [hc.2.2.1,h.sec0];exact qm7 128
  ·exact .inr ⟨1,0,rfl,by rw [hc.2.2.1,h.sec1],rfl,by omega,by omega⟩
 ·unfold qcj
  refine decide_eq_false (fun hz=>q06 1 0 ?_)
  have:=hz 1 (by omega)
  rw [hc.2.2.1,h.sec1] at this;exact this
 ·rw [hD];exact qtc h _ hr
theorem Told.reopened {S S':AS} {rs:Recs} {H:List HV} (h:Told S rs H) (hok:ArOk S) {d':Nat} {L':DevL} {q:Int} (hc:qjb S.L L') (ho:OpenIs d' L' q 1 (qax L'.now (2+1%2*halfN L'.n) (halfN L'.n)) S') :
  ArOk S'∧SameV S S'∧S'.X.used=S.X.used∧S'.data=S.data∧Told S' rs H∧S'.X.sc=S'.K.length∧S'.X.sb=((S'.K.map (·.1.length)).sum:Nat)∧(∀ e∈S.K,e.1.length≤65535):=by
 obtain ⟨sz,szc,hct,hK,hdat⟩:=h.open hok hc.2.1 hc.2.2.1 ho
 have hok':ArOk S':=q2r (rest:=zeros (128*S.A.count-S.data.length)) hok hc.2.1 ho (by rw [h.data]) hct hK hdat
 have hv:SameV S S':=⟨fun l=>h.views hct l,hK⟩
 obtain ⟨e1,e2,e3,e4,e5⟩:=ho.eX
 refine ⟨hok',hv,by rw [hct.used,h.used],hdat,?_,by rw [hct.sc,hK],by rw [hct.sb,hK],fun e he=>(hct.kat e he).2.1⟩
 refine ⟨h.ok,by rw [hdat,h.data],h.kinds,by rw [hK];exact h.reach,fun l=>by rw [hv.1];exact h.hist l,e2,?_,?_,ho.ts.1,by rw [hct.used]⟩
 ·rw [qfj,ho.other 1 1 (.inl (by rw [ho.A.1];omega)),← qfj,hc.2.2.1];exact h.sec1
 ·rw [qfj,ho.other 0 1 (.inl (by rw [ho.A.1];omega)),← qfj,hc.2.2.1];exact h.sec0
theorem PB.opened {X:WS} {k m:Nat} (h:PB X k m) (hok:ArOk X.S) {d':Nat} {L':DevL} {q:Int} {S':AS} (hq:q≤9223372036854775807) {b':Nat} {vv' tv':Value} (hc:qjb X.S.L L') (ho:OpenIs d' L' q 1 (qax L'.now (2+1%2*halfN L'.n) (halfN L'.n)) S'):PB (qpz X q d' S' b' vv' tv') k m:=by
 obtain ⟨rs,H,ht,hrl⟩:=h.told
 obtain ⟨hok',hv,hu,hdat,ht',hsc,hsb,hkl⟩:=ht.reopened hok hc ho
 obtain ⟨e1,e2,e3,e4,e5⟩:=ho.eX
 have hclip:0≤clip0 q∧clip0 q≤9223372036854775807:=by unfold clip0;split<;>omega
 refine ⟨?_,h.vs,h.ts,h.ml,h.nums,?_,?_,?_,rs,H,ht',hrl⟩
 ·refine q4e h.b hok hok' hv hu hsc hsb ?_ ho.ts.1 (by show S'.X.quota.natAbs≤_;rw [e3];omega) ho.dev.2.2.2 (fun p hp=>?_)
  ·have h1:=qo6 (l:=X.S.K) (f:=(·.1.length)) (m:=65535) hkl
   have h2:=h.b.K
   have h3:65535*X.S.K.length≤65536*(m+2*k):=Nat.mul_le_mul (by omega) h2
   omega
  ·have h2:=hv.1 p.key
   rw [qgw hok'.paths hp] at h2
   have hne:qaq X.S.ps p.key≠[]:=fun e=>by
    rw [e] at h2
    exact hok'.some p hp (List.map_eq_nil_iff.1 h2)
   obtain ⟨p0,hp0,hk0,-⟩:=qcu hne
   rw [← hk0];exact (h.b.vers p0 hp0).1
 ·show S'.data.length≤_
  rw [hdat];exact h.data
 ·show S'.L.n=_
  rw [ho.dev.2.1,hc.2.1];exact h.n
 ·show 0≤S'.X.quota∧S'.X.quota≤_
  rw [e3];exact hclip
theorem q45 (ub:Nat) (ov wv:Value) {Q:Exit→Act→World→Prop} {w:World} {u0 u1 u2 u3 u4 u5 u6 u7 u9 u10 u11 u12 u13 u14 u15 u16 u17 u18 u19 u20 u21 u22 u23 u24 u25 u26 u27 u28 u29 u30 u31 u32 u33 u34 u35 u36 u37 u38 u39 u40 u41 u42 u43 u44 u45 u46 u47 u48 u49 u50 u51 u52 u53 u54 u55 u56 u57 u58 u59 u60:Value} {ds:List Deferred} {Post:Value→World→Prop}
  (hC0:(fun W=>W.cell? ⟨ub,3,none⟩=some (ov)∧W.cell? ⟨ub,4,none⟩=some (wv)) w) (hC1:∀ r W,Post r W→(fun W=>W.cell? ⟨ub,3,none⟩=some (ov)∧W.cell? ⟨ub,4,none⟩=some (wv)) W)
  (hcall:Calls Tryz.prog 28 #[ov,wv] w.drew (fun e w'=>∃ r,e=.returned r∧Post r w'))
  (hk:∀ (r:Value) (w':World),Post r w'→Q .normal { tmps:=#[u0,u1,u2,u3,u4,u5,u6,u7,.pointer (some ⟨ub,0,none⟩),u9,u10,u11,r,u13,u14,u15,u16,u17,u18,u19,u20,u21,u22,u23,u24,u25,u26,u27,u28,u29,u30,u31,u32,u33,u34,u35,u36,u37,u38,u39,u40,u41,u42,u43,u44,u45,.pointer (some ⟨ub,0,none⟩),.pointer (some ⟨ub,0,none⟩),.pointer (some ⟨ub,3,none⟩),ov,.pointer (some ⟨ub,0,none⟩),.pointer (some ⟨ub,0,none⟩),.pointer (some ⟨ub,4,none⟩),wv,r,u55,u56,u57,u58,u59,u60],defers:=ds } w') :
  (regOf 13 Tryz.f11).wp Tryz.prog Q { tmps:=#[u0,u1,u2,u3,u4,u5,u6,u7,.pointer (some ⟨ub,0,none⟩),u9,u10,u11,u12,u13,u14,u15,u16,u17,u18,u19,u20,u21,u22,u23,u24,u25,u26,u27,u28,u29,u30,u31,u32,u33,u34,u35,u36,u37,u38,u39,u40,u41,u42,u43,u44,u45,u46,u47,u48,u49,u50,u51,u52,u53,u54,u55,u56,u57,u58,u59,u60],defers:=ds } w:=by
 have HM:=Lib.hid (show Tryz.prog.follows .mixedOrders=true by kernel_rfl)
 conv=>arg 2;whnf
 refine qb1 (A:=?A) (hA:=?hA) HM.out 8 (fun i=>([(.pointer (some ⟨ub,0,none⟩):Value),(.pointer (some ⟨ub,0,none⟩):Value),(.pointer (some ⟨ub,3,none⟩):Value),(ov:Value),(.pointer (some ⟨ub,0,none⟩):Value),(.pointer (some ⟨ub,0,none⟩):Value),(.pointer (some ⟨ub,4,none⟩):Value),(wv:Value)]:List Value).getD i undef) (fun i r=>(([(fun r=>r:Value→Value),(fun r=>r:Value→Value)]:List (Value→Value)).getD (i-8) (fun r=>r)) r) (fun W=>W.cell? ⟨ub,3,none⟩=some (ov)∧W.cell? ⟨ub,4,none⟩=some (wv)) Post (by kernel_rfl) (by kernel_rfl) (by decide) hC0 hC1 ?hs ?he
 case hA=>intro x;simp only [qam,Act.put,List.setIfInBounds_toArray,List.set_cons_zero,List.set_cons_succ,Nat.reduceAdd];rfl
 case hs =>
  refine ⟨fun x w hd hC K hK=>?_,fun x w hd hC K hK=>?_,fun x w hd hC K hK=>?_,fun x w hd hC K hK=>?_,fun x w hd hC K hK=>?_,fun x w hd hC K hK=>?_,fun x w hd hC K hK=>?_,fun x w hd hC K hK=>?_,fun x hd K hK=>?_,fun x r w hp hd K hK=>?_,trivial⟩
  ·dsimp only
   exact qag (by kernel_rfl) hK
  ·dsimp only
   have h0:x 0=.pointer (some ⟨ub,0,none⟩):=qai hd 0 (by kernel_rfl)
   exact qag (by rw [h0];kernel_rfl) hK
  ·dsimp only
   have h1:x 1=.pointer (some ⟨ub,0,none⟩):=qai hd 1 (by kernel_rfl)
   exact qag (by rw [h1];kernel_rfl) hK
  ·dsimp only
   have h2:x 2=.pointer (some ⟨ub,3,none⟩):=qai hd 2 (by kernel_rfl)
   exact qat Tryz.underlying38 rfl rfl (by rw [h2];rfl) (hC.1) hK
  ·dsimp only
   exact qag (by kernel_rfl) hK
  ·dsimp only
   have h4:x 4=.pointer (some ⟨ub,0,none⟩):=qai hd 4 (by kernel_rfl)
   exact qag (by rw [h4];kernel_rfl) hK
  ·dsimp only
   have h5:x 5=.pointer (some ⟨ub,0,none⟩):=qai hd 5 (by kernel_rfl)
   exact qag (by rw [h5];kernel_rfl) hK
  ·dsimp only
   have h6:x 6=.pointer (some ⟨ub,4,none⟩):=qai hd 6 (by kernel_rfl)
   exact qat Tryz.underlying38 rfl rfl (by rw [h6];rfl) (hC.2) hK
  ·dsimp only
   have h3:x 3=ov:=qai hd 3 (by kernel_rfl)
   have h7:x 7=wv:=qai hd 7 (by kernel_rfl)
   refine qbe (by rw [h3,h7];kernel_rfl) hcall ?_
   rintro e w' ⟨r,rfl,hp⟩
   exact ⟨r,rfl,hK r w' hp⟩
  ·dsimp only
   have h8:x 8=_:=qai hd 8 (by kernel_rfl)
   change x 8=r at h8
   exact qag (by rw [h8];kernel_rfl) hK
 case he =>
  intro r w3 hp
  exact hk r w3 hp
def q2g (w0:World) (ub k m:Nat) (e:Ending) (W':World):Prop:=∃ X',e=.returned (.bool true)∧WsOk w0 W' X'∧PB X' k m∧X'.U.blk=ub
theorem qwi (w0 W:World) (X:WS) (o:OpL) (k m:Nat) (h:WsOk w0 W X) (hp:PB X k m) (hE:qbi w0) (ho:OpOk w0 o) (hk:1≤o.kind∧o.kind≤8) (hk4:k+1≤400) (hm:m+o.d.length≤60000) :
  Calls Tryz.prog 23 #[.pointer (some ⟨X.U.blk,0,none⟩),opA o] W (q2g w0 X.U.blk (k+1) (m+o.d.length)):=by
 have hb:m+2*k≤90000:=by omega
 have hl:X.R.vs.length≤100000:=by have:=hp.vs;omega
 have hpm:=hp.mono (k':=k+1) (m':=m+o.d.length) (by omega) (by omega)
 have hrd:∀ {e W'},qiy w0 X e W'→q2g w0 X.U.blk (k+1) (m+o.d.length) e W':=by
  rintro e W' ⟨sp,ov,wv,D,rfl,hw⟩
  exact ⟨_,rfl,hw,hpm.out sp ov wv D,rfl⟩
 have hcase:o.kind=1∨o.kind=2∨o.kind=3∨o.kind=4∨o.kind=5∨o.kind=6∨o.kind=7∨o.kind=8:=by omega
 rcases hcase with h1 | h1 | h1 | h1 | h1 | h1 | h1 | h1
 ·refine (qs8 w0 W X o (m+2*k) h hp.b hb hl hE ho h1 (by omega) (by have:=hp.ml;omega) ?_ (by have:=hp.q;omega)).mono ?_
  ·have h2:=h.ar.count
   have h3:=hp.data
   rw [h2,hp.n]
   unfold halfN
   omega
  ·rintro e W' ⟨rfl,hw | ⟨S',V,vv,cv,mv,M',hcl,hps,hpb,hD,hM,hw⟩⟩
   ·exact ⟨X,rfl,hw,hpm,rfl⟩
   ·have hl:qa6 o.s=true:=by
     have hm2:=(hw.link.each ⟨o.s,nrTo X.R.vs o.s X.R.vs.length,o.d,cv,0⟩ (q7m.2 (.inr rfl))).2.1
     exact hm2
    exact ⟨_,rfl,hw,hp.put h hps hpb hD hl hM hw (by omega) (by omega),rfl⟩
 ·exact (qft w0 W X o h (.inl h1) (fun W' hw=>qsn w0 W' X o (m+2*k) hw hp.b hb hl hE ho h1)).mono (fun e W'=>hrd)
 ·exact (qft w0 W X o h (.inr (.inl h1)) (fun W' hw=>qvi w0 W' X o (m+2*k) hw hp.b hb hl hE ho h1)).mono (fun e W'=>hrd)
 ·exact (qft w0 W X o h (.inr (.inr (.inl h1))) (fun W' hw=>qs9 w0 W' X o (m+2*k) hw hp.b hb hl hE ho h1)).mono (fun e W'=>hrd)
 ·exact (qft w0 W X o h (.inr (.inr (.inr (.inl h1)))) (fun W' hw=>qq5 w0 W' X o (m+2*k) hw hp.b hb hl hE ho h1)).mono (fun e W'=>hrd)
 ·refine (qqv w0 W X o (m+2*k) h hp.b hb hE h1).mono ?_
  rintro e W' ⟨rfl,hw | ⟨L',hf,hw⟩⟩
  ·exact ⟨X,rfl,hw,hpm,rfl⟩
  ·exact ⟨_,rfl,hw,hpm.flush hf,rfl⟩
 ·refine (qo8 w0 W X o (m+2*k) h hp.b hb hE h1).mono ?_
  rintro e W' ⟨rfl,S1,hc,hw⟩
  exact ⟨_,rfl,hw,hpm.close hc,rfl⟩
 ·obtain ⟨rs,H,ht,hrl⟩:=hp.told
  refine (qq8 (fun d' L' S'=>OpenIs d' L' o.a 1 (qax L'.now (2+1%2*halfN L'.n) (halfN L'.n)) S') w0 W X o (m+2*k) h hp.b hb ⟨hl,by have:=hp.ts;omega⟩ hE h1
   (fun d' L' W' hc hs=>ht.opens h.ar hp.n (by omega) d' L' o.a W' hc hs) (fun d' L' S' b' vv' tv' hc hi=>?_)).mono ?_
  ·obtain ⟨hok',hv,hu,hdat,ht',-,-,-⟩:=ht.reopened h.ar hc hi
   obtain ⟨e1,e2,e3,e4,e5⟩:=hi.eX
   refine ⟨hok',e1,qwl h.link hv hu ⟨hi.ts.1,ht.ts⟩ rfl rfl ?_ ?_⟩
   ·show clip0 o.a=_;rw [e3]
   ·show false=_;rw [e4]
  ·rintro e W' ⟨rfl,d',L',S',b',vv',tv',hc,hi,hw⟩
   exact ⟨_,rfl,hw,hpm.opened h.ar ho.a.2 hc hi,rfl⟩
theorem OpOk.old {w W:World} {o:OpL} (h:OpOk w o) (hs:Same w W):OpOk W o where
 a:=h.a
 b:=h.b
 c:=h.c
 s:=h.s
 t:=h.t
 d:=h.d
 dv:=by obtain ⟨sl,cap,e,h1,h2,hc⟩:=h.dv;exact ⟨sl,cap,e,h1,h2,hc.keep hs (fun _ _ _=>id)⟩
def qyd (w:World) (l:List OpL) (ub:Nat) (v:Value) (W:World):Prop :=
 ∃ (k:Nat) (X:WS),k≤l.length∧v=.int .i64 k∧X.U.blk=ub∧WsOk w W X∧PB X k (qdn (l.take k))
theorem qua (l:List OpL) (sl:Option Addr) (cap:Nat) (q:Int) (w:World) (h:qaj w sl (opsV l)) (hok:∀ o∈l,OpOk w o) (hcap:l.length≤1125899906842624) (hE:qbi w) (hq:q≤9223372036854775807) :
  Calls Tryz.prog 11 #[.slice sl l.length cap,.int .i64 q,.int .i64 8] w (fun e w'=>e=.returned (.bool true)∧Same w w'):=by
 have HS:=Lib.hid (qwk l sl cap w h hok hcap)
 have HH:=Lib.hid (And.intro h (And.intro hok (And.intro hE hq)))
 clear h hok hE hq
 go_enter Tryz.func11,Tryz.ntmps11
 go_wp2_with fail
 refine HS.out.mono ?_
 rintro e w1 ⟨rfl,hs1⟩
 have HS1:=Lib.hid hs1
 clear hs1
 cases hsm:qg2 l with
 | false =>
  go_wp2_with fail
  exact bodyPost_ret (results_tmp rfl _ _ _) rfl ⟨rfl,HS1.out⟩
 | true =>
  have hlen:l.length≤400∧qdn l≤60000:=by unfold qg2 at hsm;simpa using hsm
  have HB:=Lib.hid (qvq 20000 q w1 (by omega) (by omega) (HH.out.2.2.1.keep HS1.out (fun h=>h)) HH.out.2.2.2)
  clear hsm
  go_wp2_with fail
  refine HB.out.mono ?_
  rintro e w2 ⟨U,S,R,rfl,hst,hUa,hUr,hRf,ho1,ho2,ho3,hT⟩
  have hT2:Turns [] ((U.blk,Is (qao U))::(arF S++refF R)) w w2:=Turns.sameThen (Sat.nil w) HS1.out hT
  obtain ⟨X,hX⟩:∃ X:WS,X=⟨U,S,R,[],[],[]⟩:=⟨_,rfl⟩
  have hst':=hst
  obtain ⟨s1,s2,s3,s4,s5,s6,s7,s8,s9,s10,s11,s12,s13,s14,s15,s16,s17⟩:=hst'
  have hW:WsOk w w2 X:=by
   rw [hX]
   refine ⟨?_,hUa,hUr,s13.symm,s1,hRf.1,(fun p hp=>by cases hp),?_,by show bOk U.out [];rw [ho1];exact qdh,by show qf7 [] U.want [];rw [ho2];exact qhg _,?_,(fun x hx=>by cases hx),q0c hst hRf.2.1 hRf.2.2.1 hRf.2.2.2.1 hRf.2.2.2.2,by simp⟩
   ·refine hT2.to ?_
    unfold wsF qay
    rw [ho1,ho3,qfh,show slRow (.slice none 0 0) []=[] from rfl,show poolF []=[] from rfl]
    exact (qaf fun _=>by simp only [qad,qaa,qah]<;>omega)
   ·intro v hv;rw [hRf.2.1] at hv;cases hv
   ·show slOk U.most [];rw [ho3];exact ⟨rfl,fun _=>⟨rfl,rfl⟩⟩
  have hP:PB X 0 0:=by
   rw [hX]
   refine ⟨s2,by rw [hRf.2.1];simp,by rw [hRf.2.2.1];simp,by simp,(by rw [hRf.2.1];intro v hv;cases hv),by rw [s11];simp,s12,?_,[],[],qyv hst,by simp⟩
   rw [s4];unfold clip0;have:=HH.out.2.2.2;split<;>omega
  have hXu:X.U.blk=U.blk:=by rw [hX]
  obtain ⟨ub,hub⟩:∃ ub,ub=U.blk:=⟨_,rfl⟩
  rw [← hub] at hXu ⊢
  have HW:=Lib.hid (And.intro hW (And.intro hP hXu))
  clear hT hT2 hst hUa hUr hRf ho1 ho2 ho3 hX hW hP hXu s1 s2 s3 s4 s5 s6 s7 s8 s9 s10 s11 s12 s13 s14 s15 s16 s17 hub
  go_wp2_with fail
  go_loopw [10] (fun v wr=>qyd w l ub v wr) (fun v _=>l.length-(intOf v).toNat)
  case atStart=>exact ⟨0,X,Nat.zero_le _,rfl,HW.out.2.2,HW.out.1,by simpa [qdn] using HW.out.2.1⟩
  case round =>
   obtain ⟨k,Y,hk,rfl,hYu,hY,hYP⟩:=hrel
   by_cases hlt:k<l.length
   ·obtain ⟨g,off,hg,c0,c1,c2,c3,c4,c5,c6⟩:=op_at (HH.out.1.keep hY.turns.news (fun _ _ _=>id)) hlt
    have hoo:=HH.out.2.1 l[k] (List.getElem_mem hlt)
    obtain ⟨dsl,dcap,hdv,-,-,-⟩:=hoo.dv
    have hnx:=qny hlt
    have hle:=qr2 l (k+1)
    subst hg
    obtain ⟨o,hod⟩:∃ o,o=l[k]:=⟨_,rfl⟩
    rw [← hod] at c0 c1 c2 c3 c4 c5 c6 hoo hdv hnx
    obtain ⟨ok,oa,ob_,oc,os,ot,odv,od⟩:=o
    simp only at c0 c1 c2 c3 c4 c5 c6 hdv
    subst hdv
    have hgl:=World.block_lt_of_cell? wr _ c0
    have HY:=Lib.hid (And.intro hY (And.intro hYP (And.intro hYu (And.intro hoo (And.intro hnx hle)))))
    clear hY hYP hYu hoo hnx hle hod
    by_cases hkind:1≤ok∧ok≤8
    ·have hk1:decide (ok<1)=false:=by simp;omega
     have hk2:¬ ok<1:=by omega
     have hk3:¬ ok>8:=by omega
     go_upto_region 12 with (fail)
     have hal:WsOk w (wr.alloc (.cells #[.int .i64 ok,.int .i64 oa,.int .i64 ob_,.int .i64 oc,str os,str ot,.slice dsl od.length dcap] 65)) Y:=HY.out.1.back (HY.out.1.turns.alloc _)
     have HC:=Lib.hid (qwi w _ Y ⟨ok,oa,ob_,oc,os,ot,.slice dsl od.length dcap,od⟩ k (qdn (l.take k)) hal HY.out.2.1 HH.out.2.2.1 HY.out.2.2.2.1 hkind (by omega) (by have:=HY.out.2.2.2.2.1;have:=HY.out.2.2.2.2.2;unfold opLen at *;simp only at *;omega))
     rw [HY.out.2.2.1] at HC
     clear hal
     go_wp2_with fail
     refine HC.out.mono ?_
     rintro e w3 ⟨X',rfl,hw',hp',hu'⟩
     have HX:=Lib.hid (And.intro hw' (And.intro hp' hu'))
     clear hw' hp' hu'
     go_upto_region 13 with (fail)
     obtain ⟨oa1,oc1,hov,-,-,-,-⟩:=qbk (bOwns (HX.out.1.turns.sat.tail.right.right.right.right) HX.out.1.out)
     obtain ⟨wa1,wc1,hwv,-⟩:=HX.out.1.want.at HX.out.1.turns.sat.tail.right.right.left HX.out.1.pok
     refine q45 ub (.slice oa1 X'.O.length oc1) (.slice wa1 X'.O.length wc1) (Post:=fun r W=>r=.bool true∧Same w3.drew W) ?c0 ?c1 ?call ?_
     case c0 =>
      have hu:w3.heap[ub]?=some (qao X'.U):=by rw [← HX.out.2.2];exact HX.out.1.turns.sat.headIs
      rw [← hov,← hwv]
      exact ⟨qac hu 3 rfl,qac hu 4 rfl⟩
     case c1 =>
      rintro r W ⟨rfl,hs⟩
      have hu:w3.heap[ub]?=some (qao X'.U):=by rw [← HX.out.2.2];exact HX.out.1.turns.sat.headIs
      have hu2:=hs.at (show w3.drew.heap[ub]?=some (qao X'.U) from hu) id
      rw [← hov,← hwv]
      exact ⟨qac hu2 3 rfl,qac hu2 4 rfl⟩
     case call =>
      have hTd:=HX.out.1.turns.drew
      obtain ⟨oa2,oc2,hov2,-,-,hoc2,-⟩:=qbk (bOwns (hTd.sat.tail.right.right.right.right) HX.out.1.out)
      obtain ⟨wa2,wc2,hwv2,hwc2⟩:=HX.out.1.want.at hTd.sat.tail.right.right.left HX.out.1.pok
      rw [hov] at hov2
      rw [hwv] at hwv2
      simp only [Value.slice.injEq,true_and] at hov2 hwv2
      obtain ⟨rfl,rfl⟩:=hov2
      obtain ⟨rfl,rfl⟩:=hwv2
      have hol:=HX.out.1.olen
      refine (qfy oa1 wa1 oc1 wc1 X'.O X'.O w3.drew hoc2 hwc2 (by omega) (by omega)).mono ?_
      rintro e W ⟨rfl,hs⟩
      exact ⟨_,rfl,by simp,hs.same⟩
     rintro r W4 ⟨rfl,hs4⟩
     have HX4:=Lib.hid (HX.out.1.back (HX.out.1.turns.drew.thenSame hs4))
     clear hs4 hov hwv
     go_wp2_with fail
     go_roundw
     case rel=>exact ⟨k+1,X',by omega,by go_num,HX.out.2.2,HX4.out,by rw [HY.out.2.2.2.2.1];unfold opLen;exact HX.out.2.1.mono (Nat.le_refl _) (by simp only;omega)⟩
     case measure=>simp [intOf];omega
    ·have hfin:∀ W,Same wr W→qyd w l ub (.int .i64 ((k:Int)+1)) W:=fun W hs =>
      ⟨k+1,Y,by omega,by go_num,HY.out.2.2.1,HY.out.1.back (HY.out.1.turns.thenSame hs),HY.out.2.1.mono (by omega) (by rw [HY.out.2.2.2.2.1];omega)⟩
     have HF:=Lib.hid hfin
     clear hfin
     by_cases hk1:ok<1
     ·go_wp2_with fail
      go_roundw
      case rel=>exact HF.out _ ((Mods.refl _ _).alloc _)
      case measure=>simp [intOf];omega
     ·have hk2:(8:Int)<ok:=by omega
      go_wp2_with fail
      go_roundw
      case rel=>exact HF.out _ ((Mods.refl _ _).alloc _)
      case measure=>simp [intOf];omega
   ·obtain rfl:k=l.length:=by omega
    have HY:=Lib.hid hY
    clear hY hYP
    go_wp2_with fail
    exact bodyPost_ret (results_tmp rfl _ _ _) rfl ⟨rfl,HY.out.turns.news⟩
theorem qqt (l:List OpL) (sl:Option Addr) (cap:Nat) (q:Int) (w:World) (h:qaj w sl (opsV l)) (hok:∀ o∈l,OpOk w o) (hcap:l.length≤1125899906842624) (hE:qbi w) (hq:q≤9223372036854775807) :
  Calls Tryz.prog 9 #[.slice sl l.length cap,.int .i64 q] w (fun e w'=>e=.returned (.bool true)∧Same w w'):=by
 have HP:=Lib.hid (qua l sl cap q w h hok hcap hE hq)
 clear h hok hcap hE hq
 go_enter Tryz.func9,Tryz.ntmps9
 go_wp2_with fail
 refine HP.out.mono ?_
 rintro e w1 ⟨rfl,hs1⟩
 go_wp2_with fail
 exact bodyPost_ret (results_tmp rfl _ _ _) rfl ⟨rfl,hs1⟩
end Go.Proofs.YtdhobpbngkainaaGreatDoor
namespace Go.Proofs.YtdhobpbngkainaaGreatDoor
open Go.ChangeShapes Go.WideShapes Go.ChangeAt Go.RowKit
def IsRow (k:IntKind) (w:World) (a:Option Addr) (len cap:Nat) (zs:List Int):Prop :=
 (a=none∧len=0∧cap=0∧zs=[]) ∨
 ∃ x,a=some x∧len≤cap∧cap≤maxLen∧zs.length=cap∧(∀ i,i<zs.length→w.cell? (x.add i)=some (.int k (zs.getD i 0)))∧∀ n∈zs,(Lit.int k n).wf=true
theorem wf_u8 {n:Int} (h:(Lit.int .u8 n).wf=true):0≤n∧n≤255:=by
 have:=bounds_u8 h;omega
theorem IsRow.bytes {w:World} {a:Option Addr} {len cap:Nat} {zs:List Int} (h:IsRow .u8 w a len cap zs) :
  ∃ l:List UInt8,l.length=len∧qaj w a (l.map enc8)∧len≤cap∧cap≤maxLen:=by
 rcases h with ⟨rfl,rfl,rfl,rfl⟩ | ⟨x,rfl,hl,hm,hz,hcell,hwf⟩
 ·exact ⟨[],rfl,fun hp=>by simp at hp,by omega,by unfold maxLen;omega⟩
 ·refine ⟨(zs.take len).map fun z=>UInt8.ofNat z.toNat,by simp;omega,fun hp=>?_,hl,hm⟩
  have hlen:0<len:=by simp at hp;omega
  obtain ⟨b,off,spot⟩:=x
  have h0:=hcell 0 (by omega)
  have hspot:spot=none:=by simpa [Addr.add] using World.cell?_spot h0
  subst hspot
  refine ⟨b,off,rfl,fun j hj=>?_⟩
  have hj':j<zs.length:=by simp at hj;omega
  have hc:=hcell j hj'
  rw [Addr.add_lit] at hc
  rw [hc]
  have hb:=wf_u8 (hwf _ (List.getElem_mem hj'))
  simp only [List.getElem_map,List.getElem_take,enc8,Option.some.injEq,Value.int.injEq,true_and]
  rw [List.getD_eq_getElem?_getD,List.getElem?_eq_getElem hj']
  have e:(UInt8.ofNat zs[j].toNat).toNat=zs[j].toNat:=by
   rw [UInt8.toNat_ofNat'];omega
  rw [e]
  simp;omega
end Go.Proofs.YtdhobpbngkainaaGreatDoor
