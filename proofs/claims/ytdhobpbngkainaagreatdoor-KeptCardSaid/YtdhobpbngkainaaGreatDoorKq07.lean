/- Ours. A part of the proof, made small by a program. -/
import Derived.Test.YtdhobpbngkainaaGreatDoorKq06
set_option maxRecDepth 100000
set_option maxHeartbeats 4000000
namespace Go.Proofs.YtdhobpbngkainaaGreatDoor
section
open Go.RowKit Go.Maps Go.Shelf
theorem I1(S:AS)(l D:Bs)(b:Nat)(w W:World)(B6 B7 B3 a:Nat)(n:Int)(tmps:Array Value)(h6:tmps.getD 6 undef=.pointer (some ⟨B6,0,none⟩))(h7:tmps.getD 7 undef=.pointer (some ⟨B7,0,none⟩))(ev:Value)(hev:ev=cC n)(hT:Turns (arF S) ((B7,Is (eS .nilIface))::(B6,Is (cr 0))::(B3,Is (c9 a))::arF S) w W)(
   hp:((S.X.closed=true/\n=9)\/(S.X.closed=false/\aA l=false/\n=1)\/(S.X.closed=false/\aA l=true/\4000<D.length/\n=2) \/
   (S.X.closed=false/\aA l=true/\D.length<=4000/\S.X.quota<S.X.used+D.length/\n=7))):
  bodyPostM Fence.wide 3 Tryz.prog Tryz.f25 (CY S l D b w) .ret { tmps:=tmps,defers:=[] } ((W.setCell ⟨B6,0,none⟩ (.int .i64 0)).setCell ⟨B7,0,none⟩ ev):=by
 subst hev;have q1:=hT.to (H:=(B6,Is (cr 0))::(B7,Is (eS .nilIface))::(B3,Is (c9 a))::arF S) (List.Perm.swap _ _ _);have q2:=q1.Qa (o:=cr 0) ((Mods.refl (fun k=>k=B6) W).set1 (i:=0) (.int .i64 0)) (bt q1.sat.Q5 0 (.int .i64 0));have q3:=q2.to (H:=(B7,Is (eS .nilIface))::(B6,Is (cr 0))::(B3,Is (c9 a))::arF S) (List.Perm.swap _ _ _);have q4:=q3.Qa (o:=eS (cC n)) ((Mods.refl (fun k=>k=B7) _).set1 (i:=0) (cC n)) (bt q3.sat.Q5 0 (cC n));have c6:=q4.sat.Q7 (b:=B6) (o:=cr 0) (by simp);refine⟨_,mQ rfl tmps _ B6 B7 (.int .i64 0) (cC n) Tryz.underlying3 rfl Tryz.underlying45 rfl h6 h7 (aa c6 0 rfl) (aa q4.sat.Q5 0 rfl),.inl ⟨n,rfl,q4.drop bw,hp⟩⟩
theorem DQ(S:AS)(l D:Bs)(sl:Option Addr)(cap b:Nat)(w:World)(h:Sat w (arF S))(hok:ArOk S)(hB:ArB S b)(hb:b<=90000)(hD:ak w sl (D.map ao))(hcap:D.length<=cap)(hdl:D.length<=1099511627776)(hsl:∀x,sl=some x->x.block∉dom (arF S))(hl:l.length<=9223372036854775807)(hq : -4611686018427387904<=S.X.quota):
  Calls Tryz.prog 25 #[.pointer (some ⟨S.a,0,none⟩),str l,.slice sl D.length cap] w (CY S l D b w):=by
 obtain⟨a,ha⟩:∃a,a=S.a:=⟨_,rfl⟩;obtain⟨X,hX⟩:∃X,X=S.X:=⟨_,rfl⟩;have hao:w.heap[a]?=some (aO X):=by rw[ha,hX];exact h.Q5
 have hal:=ah hao;obtain⟨B3,hB3⟩:∃B3,B3=w.heap.size:=⟨_,rfl⟩;obtain⟨B6,hB6⟩:∃B6,B6=w.heap.size+1:=⟨_,rfl⟩;obtain⟨B7,hB7⟩:∃B7,B7=w.heap.size+2:=⟨_,rfl⟩
 have HB:=qqH (fun W (hW:aX w W) (hc:W.cell? ⟨w.heap.size+3,0,none⟩=some (str l))=>kh a X (some ⟨w.heap.size+3,0,none⟩) 1 [l] W (hW.at hao id) (fun _=>⟨_,_,rfl,fun j hj=>by
  obtain rfl:j=0:=by simp at hj;omega
  exact hc⟩) (by simp))
 have HM:=qqH (show Tryz.prog.follows .mixedOrders=true by kernel_rfl);obtain⟨w0,hw0⟩:∃w0,w0=((w.alloc (c9 a)).alloc (cr 0)).alloc (eS .nilIface):=⟨_,rfl⟩
 have hT0:Turns (arF S) ((B7,Is (eS .nilIface))::(B6,Is (cr 0))::(B3,Is (c9 a))::arF S) w w0:=by
  have:=(((Turns.refl h).Q8 (c9 a)).Q8 (cr 0)).Q8 (eS .nilIface);simp only[World.size_alloc]at this;rw[hB3,hB6,hB7,hw0];exact this
 rw[<- ha];have HH:=qqH (And.intro h (And.intro hok (And.intro hB (And.intro hb (And.intro hD (And.intro hcap (And.intro hdl (And.intro hsl (And.intro hl (And.intro hT0 (And.intro ha (And.intro hX (And.intro hao (And.intro hq hw0))))))))))))));clear h hok hB hb hD hcap hsl hl hT0 ha hX hao hq;refine(callsIn_wide (n:=3)).1 ?_;refine callsIn_of_wp_marks Tryz.func25 rfl trivial ?_ rfl;simp only[Tryz.ntmps25,List.size_toArray,List.length_cons,List.length_nil,Nat.reduceAdd,Nat.reduceSub,Array.replicate_succ,Array.replicate_zero,List.push_toArray,List.append_toArray,List.nil_append,List.cons_append];refine wpIn_wide.2 ?_;go_wp2_with fail
 refine(HB.out _ ((((Mods.refl _ w).alloc _).alloc _).alloc _ |>.alloc _) (by
  have:=aa (aM (((w.alloc (c9 a)).alloc (cr 0)).alloc (eS .nilIface)) (.cells #[str l] 9)) 0 (v:=str l) rfl;simp only[World.size_alloc]at this;exact this)).mono ?_
 rintro e w1 ⟨rfl,hs1⟩;obtain⟨cl,hcl⟩:∃cl,cl=X.closed:=⟨_,rfl⟩;obtain⟨pb,hpb⟩:∃pb,pb=aA l:=⟨_,rfl⟩;have e1:([l].all aA)=pb:=by simp[hpb]
 rw[e1,<- hcl]
 have hT1:Turns (arF S) ((B7,Is (eS .nilIface))::(B6,Is (cr 0))::(B3,Is (c9 a))::arF S) w w1:=by
  have:=(HH.out.2.2.2.2.2.2.2.2.2.1.alloc (.cells #[str l] 9));rw[HH.out.2.2.2.2.2.2.2.2.2.2.2.2.2.2]at this;exact this.Q9 hs1
 have hb6:=hT1.sat.Q7 (b:=B6) (o:=cr 0) (by simp);have hb7:=hT1.sat.Q7 (b:=B7) (o:=eS .nilIface) (by simp);have c6:w1.cell? ⟨B6,0,none⟩=some (.int .i64 0):=aa hb6 0 rfl;have c7:w1.cell? ⟨B7,0,none⟩=some .nilIface:=aa hb7 0 rfl;have f6:=aZ hb6 0;have f7:=aZ hb7 0;rw[show w.heap.size+1+1=w.heap.size+2 from rfl,<- hB7,<- hB6,<- hB3];have h67:¬B6=B7:=by omega
 have h76:¬B7=B6:=by omega
 have HE:=qqH (fun(W:World) (n:Int) (tmps:Array Value) (h6:tmps.getD 6 undef=.pointer (some ⟨B6,0,none⟩)) (h7:tmps.getD 7 undef=.pointer (some ⟨B7,0,none⟩)) (ev:Value) (hev:ev=cC n) (hT:Turns (arF S) ((B7,Is (eS .nilIface))::(B6,Is (cr 0))::(B3,Is (c9 a))::arF S) w W)
   (hp:((S.X.closed=true/\n=9)\/(S.X.closed=false/\aA l=false/\n=1)\/(S.X.closed=false/\aA l=true/\4000<D.length/\n=2) \/
   (S.X.closed=false/\aA l=true/\D.length<=4000/\S.X.quota<S.X.used+D.length/\n=7)))=>I1 S l D b w W B6 B7 B3 a n tmps h6 h7 ev hev hT hp)
 have HD:=Hq3 hcl hpb hT1;clear hcl hpb hT1 hb6 hb7 hs1 e1 hw0 hB3 hB6 hB7 hal
 cases cl with
 | true =>
  simp only[if_true];unfold cC;go_wp2_with fail;refine HE.out _ 9 _ rfl rfl _ rfl HD.y (.inl ⟨?_,rfl⟩);rw[<- HH.out.2.2.2.2.2.2.2.2.2.2.2.1];exact HD.a.symm
 | false =>
  cases pb with
  | false =>
   simp only[Bool.false_eq_true,if_false];unfold cC;go_wp2_with fail;refine HE.out _ 1 _ rfl rfl _ rfl HD.y (.inr (.inl ⟨?_,HD.b.symm,rfl⟩));rw[<- HH.out.2.2.2.2.2.2.2.2.2.2.2.1];exact HD.a.symm
  | true =>
   simp only[Bool.false_eq_true,if_false,if_true];have hcl2:S.X.closed=false:=by rw[<- HH.out.2.2.2.2.2.2.2.2.2.2.2.1];exact HD.a.symm
   have hll:l.length<=20:=by
    have h2:=HD.b.symm;unfold aA at h2;simp only[Bool.and_eq_true,decide_eq_true_eq]at h2;exact h2.1.2
   by_cases hbig:4000<D.length
   ·have HG:=qqH hcl2;clear hcl2;go_wp2_with fail;refine HE.out _ 2 _ rfl rfl _ rfl HD.y (.inr (.inr (.inl ⟨HG.out,HD.b.symm,hbig,rfl⟩)))
   ·have HG:=qqH hcl2;clear hcl2;go_wp2_with fail;obtain⟨w2,hw2⟩:∃w2,w2=w1.drew:=⟨_,rfl⟩;have hT:=HD.y;have hT2':Turns (arF S) ((B7,Is (eS .nilIface))::(B6,Is (cr 0))::(B3,Is (c9 a))::arF S) w w2:=by rw[hw2];exact hT.drew
    have k3:w1.cell? ⟨B3,0,none⟩=some (.pointer (some ⟨a,0,none⟩)):=aa (hT.sat.Q7 (b:=B3) (o:=c9 a) (by simp)) 0 rfl;have ka:=hT.sat.Q7 (b:=S.a) (o:=aO S.X) (by simp[arF]);rw[<- HH.out.2.2.2.2.2.2.2.2.2.2.1,<- HH.out.2.2.2.2.2.2.2.2.2.2.2.1]at ka;have k5:w1.cell? ⟨a,5,none⟩=some (.int .i64 X.used):=aa ka 5 rfl;have k9:w1.cell? ⟨a,9,none⟩=some (.int .i64 X.quota):=aa ka 9 rfl
    have hwr:IntKind.i64.wrap (X.used+D.length)=X.used+D.length:=by
     have h1:=HH.c.used;have h2:=HH.d;rw[<- HH.out.2.2.2.2.2.2.2.2.2.2.2.1]at h1;exact IntWalk.i64_in _ (by omega)
    clear ka;refine wp_region_still_lit HM.out (by kernel_rfl) ?_;repeat still_step
    refine wpStill_nil ?_;rw[show({ w1 with drawn:=w1.drawn+1 }:World)=w2 from hw2.symm];clear hT k3 k5 k9 hwr hw2;have hb6:=hT2'.sat.Q7 (b:=B6) (o:=cr 0) (by simp);have hb7:=hT2'.sat.Q7 (b:=B7) (o:=eS .nilIface) (by simp);have c62:w2.cell? ⟨B6,0,none⟩=some (.int .i64 0):=aa hb6 0 rfl;have c72:w2.cell? ⟨B7,0,none⟩=some .nilIface:=aa hb7 0 rfl;have f62:=aZ hb6 0;have f72:=aZ hb7 0;have HT2:=qqH hT2';clear hT2' hb6 hb7 c6 c7 f6 f7;by_cases hqu:X.quota<X.used+D.length
    ·rw[decide_eq_true hqu];have HQ:=qqH hqu;clear hqu;go_wp2_with fail;refine HE.out _ 7 _ rfl rfl _ rfl HT2.out (.inr (.inr (.inr ⟨HG.out,HD.b.symm,by omega,?_,rfl⟩)));rw[<- HH.out.2.2.2.2.2.2.2.2.2.2.2.1];exact HQ.out
    ·rw[decide_eq_false hqu];have HQ:=qqH hqu;obtain⟨psl,pcap,e1,e2,e3,e4,e5,e6⟩:=gM (w:=w2) (pm:=S.X.pm) (c:=S.pc) (ps:=S.ps) (HT2.out.sat.tail.tail.tail.tail.right.right.left) HH.b.paths l;obtain⟨vs,hvs⟩:∃vs,vs=ai S.ps l:=⟨_,rfl⟩;rw[<- hvs]at e1 e2 e4 e5 e6;have hOl:OkS l:=by unfold OkS;omega
     have ha0:=HT2.out.sat.Q7 (b:=S.a) (o:=aO S.X) (by simp[arF]);rw[<- HH.out.2.2.2.2.2.2.2.2.2.2.1]at ha0;have a0c:w2.cell? ⟨a,0,none⟩=some (.map (some S.X.pm)):=aa ha0 0 rfl;have b3c:w2.cell? ⟨B3,0,none⟩=some (.pointer (some ⟨a,0,none⟩)):=aa (HT2.out.sat.Q7 (b:=B3) (o:=c9 a) (by simp)) 0 rfl;have hal2:=ah ha0;have hb3l:B3<w2.heap.size:=HT2.out.sat.lt (by simp);have hpm:=HT2.out.sat.Q7 (b:=S.X.pm) (o:=aR str (S.ps.map aN) S.pc) (by simp[arF,aU]);have HV:=Hq9 hvs e1 e2 e3 e4 e5 hOl ha0 hpm;clear hqu e1 e2 e3 e4 e5 e6 hvs hOl ha0 hpm;obtain⟨Bv,hBv⟩:∃Bv,Bv=w2.heap.size:=⟨_,rfl⟩;obtain⟨B9,hB9⟩:∃B9,B9=w2.heap.size+1:=⟨_,rfl⟩;have hpm4:=(((Mods.refl (fun _=>False) w2).alloc (.cells #[.int .i64 1,.int .i64 D.length,.slice none 0 0,.int .i64 0] 152)).alloc (.cells #[.pointer (some ⟨w2.heap.size,0,none⟩)] 149)).at HV.out.2.2.2.2.2.2.2.2 id
     have hT4:Turns (arF S) ((Bv,Is (dy ⟨Bv,1,D.length,.slice none 0 0,[],0⟩))::(B9,Is (cg Bv))::(B7,Is (eS .nilIface))::(B6,Is (cr 0))::(B3,Is (c9 S.a))::arF S) w ((w2.alloc (.cells #[.int .i64 1,.int .i64 D.length,.slice none 0 0,.int .i64 0] 152)).alloc (.cells #[.pointer (some ⟨w2.heap.size,0,none⟩)] 149)):=by
      have h:=(HT2.out.Q8 (dy ⟨Bv,1,D.length,.slice none 0 0,[],0⟩)).Q8 (cg Bv);rw[World.size_alloc,<- hB9,HH.out.2.2.2.2.2.2.2.2.2.2.1]at h;have h2:=h.to (List.Perm.swap _ _ _);rw[<- hBv]at h2 ⊢;exact h2
     have hP4:=HV.b;have HW:=Hq4 hpm4 hT4 hBv hB9;clear hpm4 hT4 hP4;by_cases hvn:vs=[]
     ·subst hvn;have hvs0:ai S.ps l=[]:=HV.a.symm;have HN0:=qqH hvs0;clear hvs0 hBv hB9;go_upto_region 13 with(first|(refine fX eB rfl _ _ rfl Tryz.underlying119 HW.a HH.b.paths.map (gd _) l rfl rfl HV.g ?_;rw[de,HV.b])|fail);have HNUM:Hid (1=eJ (ai S.ps l)+1):=qqH (by rw[HN0.out];rfl);have hT5:=HW.b.Q8 (cf (.slice none 0 0));simp only[World.size_alloc]at hT5;rw[<- HW.x,<- HW.c]at hT5 ⊢;rw[HH.out.2.2.2.2.2.2.2.2.2.2.1];refine zL S l D sl cap b HH.b HH.c HH.d HD.b.symm hll (by omega) HH.f B3 B6 B7 B9 (B9+1) Bv 1 HNUM.out w _ hT5 HH.e HH.h _ (fun e w' hp=>?_) (by assumption);refine .inr ⟨HG.out,HD.b.symm,by omega,?_,?_⟩
      ·have:=HQ.out;rw[HH.out.2.2.2.2.2.2.2.2.2.2.2.1]at this;omega
      ·have hnum:=HNUM.out;have hnum2:((1:Nat):Int)=(eJ (ai S.ps l):Int)+1:=by omega
       rcases hp with⟨sp,chs,h1,h2,h3,h4,h5⟩|⟨S',V,h1,h2,h3,h4,h5⟩
       ·exact .inl ⟨sp,chs,h1,h2,h3,by rw[<- hnum2];exact h4,h5⟩
       ·exact .inr ⟨S',V,by rw[<- hnum2];exact h1,h2,h3,h4,h5⟩
     ·obtain⟨g,off,hg,hcell⟩:=HV.e (by rw[List.length_map];exact List.length_pos_iff.2 hvn);subst hg;obtain⟨U,hU⟩:∃U,vs.getLast?=some U:=⟨_,List.getLast?_eq_some_getLast hvn⟩;have hvl:0<vs.length:=List.length_pos_iff.2 hvn
      have hUe:U=vs[vs.length-1]:=by
       rw[List.getLast?_eq_getElem?,List.getElem?_eq_getElem (by omega)]at hU;exact(Option.some.inj hU).symm
      have hUm:U∈vs:=by rw[hUe];exact List.getElem_mem _
      have hc1:w2.cell? ⟨g,off+(vs.length-1),none⟩=some (dz U):=by rw[hcell (vs.length-1) (by rw[List.length_map];omega),List.getElem_map,hUe]
      have hc2:=HV.f U hUm
      have hvb:vs.length<=90000/\U.num<=4294967296+90000:=by
       obtain⟨p',hp',_,h2⟩:=di (ps:=S.ps) (l:=l) (by rw[<- HV.a];exact hvn);rw[<- HV.a]at h2;have h3:=HH.c.vers p' hp';have h4:=HH.d;rw[h2]at h3;have h5:=(h3.2.2 U hUm).1;omega
      have hs4:=((Mods.refl (fun _=>False) w2).alloc (.cells #[.int .i64 1,.int .i64 D.length,.slice none 0 0,.int .i64 0] 152)).alloc (.cells #[.pointer (some ⟨w2.heap.size,0,none⟩)] 149);have hc1':=gP hs4 hc1;have hc2':=hs4.at hc2 id;have HNUM:Hid (U.num+1=eJ (ai S.ps l)+1):=qqH (by rw[<- HV.a];unfold eJ;rw[hU];rfl);obtain⟨m,hm⟩:∃m,m=vs.length:=⟨_,rfl⟩;rw[<- hm]at hc1 hc1' hvl hvb;have hvl2:(0:Int)<(m:Int):=by omega
      have HU:=Hq4 hc1' hc2' hvb hm;clear hcell hU hUe hUm hc2 hs4 hc1 hc1' hc2' hvb hBv hB9;have HV2:=HV.b;rw[<- hm]at HV2;have HVV:=qqH HV2;clear HV2 hm;go_upto_region 11 with(first|(refine fX eB rfl _ _ rfl Tryz.underlying119 HW.a HH.b.paths.map (gd _) l rfl rfl HV.g ?_;rw[de,HVV.out])|fail);rw[<- HW.x,<- HW.c];have h:=HW.b;have q1:=HU.a;have q2:=HU.b;rw[<- HW.c]at h q1 q2;generalize (w2.alloc _).alloc _=W at h q1 q2 ⊢;have k9:=aa h.sat.tail.Q5 0 (v:=.pointer (some ⟨Bv,0,none⟩)) rfl;have kU:=aa q2 0 (v:=.int .i64 U.num) rfl;unfold dz at q1;have hm1:1<=m:=by omega
      have hnu:=HU.c;have g1:IntKind.i64.wrap ((m:Int)-1)=(m:Int)-1:=IntWalk.i64_in _ (by omega);have g2:(0:Int)<=(m:Int)-1:=by omega
      have g3:(m:Int)-1<m:=by omega
      have g4:((m:Int)-1).toNat=m-1:=by omega
      have g6:(1:Int)<=(m:Int):=by omega
      have g7:(0:Int)<(m:Int):=by omega
      have g5:IntKind.i64.wrap ((U.num:Int)+1)=(U.num:Int)+1:=IntWalk.i64_in _ (by omega);have H0:=qqH h;clear h q2;refine wp_region_still_tail 13 HM.out (by kernel_rfl) ?_;simp only[List.take_succ_cons,List.take_zero,List.drop_succ_cons,List.drop_zero];repeat still_step
      refine wpStill_nil ?_;refine al rfl (bi 3 (.tmp 74) (.tmp 72) rfl Bv 0 (fW ⟨Bv,1,D.length,.slice none 0 0,[],0⟩) 152 (.int .i64 (U.num+1)) H0.out.drew rfl rfl (by simp[fW]) (by kernel_rfl) rfl rfl ?_);intro w5 hT5;have HT5:=qqH (show Turns (arF S) ((Bv,Is (dy ⟨Bv,U.num+1,D.length,.slice none 0 0,[],0⟩))::(B9,Is (cg Bv))::(B7,Is (eS .nilIface))::(B6,Is (cr 0))::(B3,Is (c9 S.a))::arF S) w w5 from hT5);clear hT5 k9 kU q1 g1 g2 g3 g4 g5 hnu;simp only[Act.put];go_upto_region 13 with(fail);have hT6:=HT5.out.Q8 (cf (.slice none 0 0));rw[HH.out.2.2.2.2.2.2.2.2.2.2.1];refine zL S l D sl cap b HH.b HH.c HH.d HD.b.symm hll (by omega) HH.f B3 B6 B7 B9 w5.heap.size Bv (U.num+1) HNUM.out w _ hT6 HH.e HH.h _ (fun e w' hp=>?_) (by assumption);refine .inr ⟨HG.out,HD.b.symm,by omega,?_,?_⟩
      ·have:=HQ.out;rw[HH.out.2.2.2.2.2.2.2.2.2.2.2.1]at this;omega
      ·have hnum:=HNUM.out;have hnum2:(((U.num+1):Nat):Int)=(eJ (ai S.ps l):Int)+1:=by omega
       rcases hp with⟨sp,chs,h1,h2,h3,h4,h5⟩|⟨S',V,h1,h2,h3,h4,h5⟩
       ·exact .inl ⟨sp,chs,h1,h2,h3,by rw[<- hnum2];exact h4,h5⟩
       ·exact .inr ⟨S',V,by rw[<- hnum2];exact h1,h2,h3,h4,h5⟩
end
section
theorem Gt{h:Int}{n:Nat}(e:dH h n=true):16<=n:=by
 rcases Nat.lt_or_ge n 16 with h'|h'
 ·rw[Gv h']at e;cases e
 ·exact h'
theorem wV(l:List UInt8):∀h n,n<256->∀i (hi:i<(cM h n l).length),1<=(cM h n l)[i]/\(cM h n l)[i]<=256/\(i+1<(cM h n l).length->16<=(cM h n l)[i]):=by
 induction l with
 | nil=>intro h n _ i hi;simp[cM]at hi
 | cons c cs ih =>
  intro h n hn i
  cases he:dH (cU h c.toNat) (n+1)
  ·by_cases hc:cs=[]
   ·subst hc;rw[ou];intro hi;have hi0:i=0:=by simp at hi;omega
    subst hi0;refine⟨?_,?_,?_⟩
    ·simp
    ·simp;omega
    ·simp
   ·rw[sA _ _ _ _ he hc]
    have hn1:n+1<256:=by
     rcases Nat.lt_or_ge (n+1) 256 with h'|h'
     ·exact h'
     ·rw[pv h']at he;cases he
    exact ih _ _ hn1 i
  ·rw[ql _ _ _ _ he];intro hi
   cases i with
   | zero=>exact⟨by simp,by simp;omega,fun _=>by have:=Gt he;simpa using this⟩
   | succ i =>
    have hi':i<(cM 0 0 cs).length:=by simpa using hi
    have:=ih 0 0 (by omega) i hi';simpa using this
theorem nS(l:List UInt8)(i:Nat)(hi:i<(aF l).length):1<=(aF l)[i]/\(aF l)[i]<=256/\(i+1<(aF l).length->16<=(aF l)[i]) :=
 wV l 0 0 (by omega) i hi
end
section
open Go.RowKit
theorem AK(d:Nat)(L:DevL)(q:Int)(w:World)(h:Sat w (aE d L))(hL:DevOk L)(hn:16<=L.n)(hn2:L.n<=1073741824)(hch:L.chs.length<=137438953472)(hz:∀k,k<2->ba L.now k=aq 128):
  Calls Tryz.prog 22 #[.pointer (some ⟨d,0,none⟩),.int .i64 q] w (qa d L q w):=by
 have HS:=qqH (kC d L w h);have hzt:dQ L.now 2=true:=by unfold dQ;exact decide_eq_true hz
 have hu:=Fj d L w h hL hn (fun k hk=>by rw[hz k hk];exact q7);rw[hzt]at hu;have HU:=qqH hu;have HF:Hid (∀W,Sat W (aE d L)->Calls Tryz.prog 51 #[.pointer (some ⟨d,0,none⟩),.int .i64 q] W (qa d L q W)):=qqH (fun W hW=>zc d L q W hW hL hn hn2 hch);have HH:=qqH h;clear h hL hn2 hch hz hzt hu;have hn':¬(L.n:Int)<16:=by omega
 go_enter Tryz.func22,Tryz.ntmps22;go_wp2_with fail;refine HS.out.mono ?_;rintro e w' ⟨rfl,rfl⟩;go_wp2_with fail;refine HU.out.mono ?_;rintro e w1 ⟨rfl,hs1⟩;have H1:=qqH hs1;clear hs1;go_wp2_with fail;refine(HF.out _ (HH.out.same H1.out)).mono ?_;rintro e w2 ⟨a,ab,pm,tm,cm,ch,L',rfl,hT,hr⟩;have H2:=Hq2 hT hr;clear hT hr;go_wp2_with fail;go_ret2;exact⟨a,ab,pm,tm,cm,ch,L',rfl,Turns.Qg HH.out H1.out H2.a,H2.z⟩
end
section
open Go.RowKit Go.Maps
structure WorldL where
 blk:Nat
 d:Nat
 a:Option Nat
 r:Nat
 out:Value
 want:Value
 most:Value
def qA:Option Nat->Value
 | none=>.pointer none
 | some b=>.pointer (some ⟨b,0,none⟩)
def bn(U:WorldL):Array Value:=#[.pointer (some ⟨U.d,0,none⟩),qA U.a,.pointer (some ⟨U.r,0,none⟩),U.out,U.want,U.most]
def aC(U:WorldL):Obj:=.cells (bn U) 63 (0,0)
def DZ(Φ:AS->Prop)(U:WorldL)(R:RefL)(L:DevL)(q:Int)(w:World)(e:Ending)(w':World):Prop :=
 ∃S b' vv' tv',e=.returned (.bool true)/\Φ S/\RefOk { R with blk:=b',vv:=vv',tv:=tv',quota:=dk q,closed:=false } /\
  Turns ((U.blk,Is (aC U))::(aI R++aE U.d L)) ((U.blk,Is (aC { U with a:=some S.a,r:=b' }))::(arF S++(aI { R with blk:=b',vv:=vv',tv:=tv',quota:=dk q,closed:=false }++aI R))) w w'
theorem rk(Φ:AS->Prop)(U:WorldL)(R:RefL)(L:DevL)(q:Int)(w:World)(hr:U.r=R.blk)(h:Sat w ((U.blk,Is (aC U))::(aI R++aE U.d L)))(hok:RefOk R)(h1:∀v∈R.vs,v.cv.oneCell'=true)(hl:R.vs.length<=1000000/\R.ts.length<=1000000)(hE:bq w)(h0:0∉dom ((U.blk,Is (aC U))::(aI R++aE U.d L)))(hO:∀W,Sat W (aE U.d L)->Calls Tryz.prog 22 #[.pointer (some ⟨U.d,0,none⟩),.int .i64 q] W (fun e W'=>∃S,e=.returned (.tuple #[.pointer (some ⟨S.a,0,none⟩),.nilIface])/\Φ S/\Turns (aE U.d L) (arF S) W W')):
  Calls Tryz.prog 74 #[.pointer (some ⟨U.blk,0,none⟩),.int .i64 q] w (DZ Φ U R L q w):=by
 have c0:w.cell? ⟨U.blk,0,none⟩=some (.pointer (some ⟨U.d,0,none⟩)):=aa h.Q5 0 rfl;have HO:=qqH (hO w h.tail.right);have HH:=Hq7 h hok h1 hl hE h0 hr;clear h hok h1 hl hE h0 hO hr;go_enter Tryz.func74,Tryz.ntmps74;go_wp2_with fail;refine HO.out.mono ?_;rintro e w1 ⟨S,rfl,hΦ,hT⟩
 have hT1:Turns ((U.blk,Is (aC U))::(aI R++aE U.d L)) ((U.blk,Is (aC U))::(arF S++aI R)) w w1:=by
  exact((Turns.refl HH.a).step (R:=(U.blk,Is (aC U))::aI R) af hT).to af
 have HT1:=qqH (cR .nilIface 0 w1 (HH.e.keep hT1.mods HH.f) (.inl ⟨rfl,rfl⟩));have H1:=Hq2 hΦ hT1;clear hΦ hT hT1;go_wp2_with fail;refine HT1.out.mono ?_;rintro e w2 ⟨rfl,hs2⟩;have hT2:=H1.z.Q9 hs2;have HT2:=qqH hT2;clear hs2 hT2;have hne:∀W,(binOp .eql 32 (.pointer (some ⟨S.a,0,none⟩)) (.pointer none)).run Tryz.prog W=.ok (.bool false) W:=fun W=>by kernel_rfl
 go_wp2_with ((refine al rfl (bi 32 (.tmp 28) (.tmp 26) rfl U.blk 1 (bn U) 63 (.pointer (some ⟨S.a,0,none⟩)) HT2.out rfl rfl (by simp[bn]) (by kernel_rfl) rfl rfl ?_);intro w3 hT3;have c2:w3.cell? ⟨U.blk,2,none⟩=some (.pointer (some ⟨U.r,0,none⟩)):=aa hT3.sat.Q5 2 rfl;have HT3:=qqH hT3;clear hT3;simp only[Act.put]));have hrb:U.r=R.blk:=HH.u;rw[hrb]at c2 ⊢;refine(un R w3 HT3.out.sat.tail.right HH.b HH.c HH.d).mono ?_;rintro e w4 ⟨b',vv',tv',rfl,hok4,hT4⟩;obtain⟨R2,hR2⟩:∃R2:RefL,R2={ R with blk:=b',vv:=vv',tv:=tv',closed:=false }:=⟨_,rfl⟩;rw[<- hR2]at hok4 hT4;have hb2:R2.blk=b':=by rw[hR2]
 have hT5:Turns ((U.blk,Is (aC U))::(aI R++aE U.d L)) ((U.blk,Is (.cells ((bn U).setIfInBounds 1 (.pointer (some ⟨S.a,0,none⟩))) 63 (0,0)))::(arF S++(aI R2++aI R))) w w4 :=
  (HT3.out.step (R:=(U.blk,Is (.cells ((bn U).setIfInBounds 1 (.pointer (some ⟨S.a,0,none⟩))) 63 (0,0)))::arF S) af hT4).to af
 have HT5:=Hq3 hok4 hR2 hT5;clear hok4 hR2 hT4 hT5;subst hb2
 go_wp2_with (first
  | (refine al rfl (bi 56 (.tmp 36) (.tmp 34) rfl U.blk 2 ((bn U).setIfInBounds 1 (.pointer (some ⟨S.a,0,none⟩))) 63 (.pointer (some ⟨R2.blk,0,none⟩)) HT5.y rfl rfl (by simp[bn]) (by kernel_rfl) rfl rfl ?_);intro w5 hT6;have d2:w5.cell? ⟨U.blk,2,none⟩=some (.pointer (some ⟨R2.blk,0,none⟩)):=aa hT6.sat.Q5 2 rfl;have HT6:=qqH hT6;clear hT6;simp only[Act.put])
  | (refine al rfl (bi 3 (.tmp 43) (.tmp 41) rfl R2.blk 2 (bE R2) 60 (.int .i64 q) (HT6.out.to (H:=(R2.blk,Is (iA R2))::((U.blk,Is (.cells (((bn U).setIfInBounds 1 (.pointer (some ⟨S.a,0,none⟩))).setIfInBounds 2 (.pointer (some ⟨R2.blk,0,none⟩))) 63 (0,0)))::(arF S++(cH R2.vv R2.vs++(cI R2.tv R2.ts++aI R))))) (by unfold aI;exact af)) rfl rfl (by simp[bE]) (by kernel_rfl) rfl rfl ?_);intro w6 hT7;have d3:w6.cell? ⟨U.blk,2,none⟩=some (.pointer (some ⟨R2.blk,0,none⟩)):=aa (hT7.sat.Q7 (b:=U.blk) (o:=.cells (((bn U).setIfInBounds 1 (.pointer (some ⟨S.a,0,none⟩))).setIfInBounds 2 (.pointer (some ⟨R2.blk,0,none⟩))) 63 (0,0)) (by simp)) 2 rfl;have HT7:=qqH hT7;clear hT7;simp only[Act.put])
  | (refine al rfl (bi 3 (.tmp 51) (.const (.int .i64 0)) rfl R2.blk 2 ((bE R2).setIfInBounds 2 (.int .i64 q)) 60 (.int .i64 0) HT7.out rfl rfl (by simp[bE]) (by kernel_rfl) rfl rfl ?_);intro w7 hT8;have HT8:=qqH hT8;clear hT8;simp only[Act.put]))
 ·rename_i hq;have e1:R2.vv=vv':=by rw[HT5.b]
  have e2:R2.vs=R.vs:=by rw[HT5.b]
  have e3:R2.tv=tv':=by rw[HT5.b]
  have e4:R2.ts=R.ts:=by rw[HT5.b]
  have e5:R2.closed=false:=by rw[HT5.b]
  have eC:((bE R2).setIfInBounds 2 (.int .i64 q)).setIfInBounds 2 (.int .i64 0)=bE { R with blk:=R2.blk,vv:=vv',tv:=tv',quota:=dk q,closed:=false }:=by
   have hc:dk q=0:=by unfold dk;split<;>omega
   unfold bE;rw[e1,e3,e5,hc];rfl
  have eW:((bn U).setIfInBounds 1 (.pointer (some ⟨S.a,0,none⟩))).setIfInBounds 2 (.pointer (some ⟨R2.blk,0,none⟩))=bn { U with a:=some S.a,r:=R2.blk }:=rfl;have hT9:=HT8.out;rw[eC,eW,e1,e2,e3,e4]at hT9;have hok5:=HT5.a;refine bodyPost_ret (results_tmp rfl _ _ _) rfl ⟨S,R2.blk,vv',tv',rfl,H1.a,⟨by have:=hok5.vs;rw[e1,e2]at this;exact this,by have:=hok5.ts;rw[e3,e4]at this;exact this⟩,?_⟩;exact hT9.to (by unfold aI iA aC;exact af)
 ·rename_i hq;have e1:R2.vv=vv':=by rw[HT5.b]
  have e2:R2.vs=R.vs:=by rw[HT5.b]
  have e3:R2.tv=tv':=by rw[HT5.b]
  have e4:R2.ts=R.ts:=by rw[HT5.b]
  have e5:R2.closed=false:=by rw[HT5.b]
  have eC:(bE R2).setIfInBounds 2 (.int .i64 q)=bE { R with blk:=R2.blk,vv:=vv',tv:=tv',quota:=dk q,closed:=false }:=by
   have hc:dk q=q:=by unfold dk;split<;>omega
   unfold bE;rw[e1,e3,e5,hc];rfl
  have eW:((bn U).setIfInBounds 1 (.pointer (some ⟨S.a,0,none⟩))).setIfInBounds 2 (.pointer (some ⟨R2.blk,0,none⟩))=bn { U with a:=some S.a,r:=R2.blk }:=rfl;have hT9:=HT7.out;rw[eC,eW,e1,e2,e3,e4]at hT9;have hok5:=HT5.a;refine bodyPost_ret (results_tmp rfl _ _ _) rfl ⟨S,R2.blk,vv',tv',rfl,H1.a,⟨by have:=hok5.vs;rw[e1,e2]at this;exact this,by have:=hok5.ts;rw[e3,e4]at this;exact this⟩,?_⟩;exact hT9.to (by unfold aI iA aC;exact af)
theorem Dy{l s:Bs}{o k:Nat}(h:128*(k+1)<=o)(hl:o<=l.length):ba (bp l o s) k=ba l k:=by
 unfold ba bp;have h1:(l.take o).length=o:=by rw[List.length_take];omega
 rw[List.append_assoc,List.drop_append_of_le_length (by omega),List.take_append_of_le_length (by rw[List.length_drop,h1];omega),List.drop_take,List.take_take,Nat.min_eq_left (by omega)]
def kM(a pm tm cm d ab ch:Nat)(q:Int)(L:DevL):AS where
 a:=a
 X:=⟨pm,tm,cm,0,0,0,d,ab,1,dk q,false,.nilIface⟩
 A:=⟨2+aD L.n,aD L.n,0,aq 128,ch,[]⟩
 L:=L
 ps:=[]
 pc:=0
 cs:=[]
 cc:=0
 ts:=[]
 tc:=0
 data:=[]
 K:=[]
theorem Fc{L L':DevL}(hL:DevOk L)(hn:16<=L.n)(hnow:L'.now=bp (fK L.now (2+aD L.n) 0 (aq 128) (aD L.n)) 128 (dD 1 0)):gf L'.now (2+aD L.n) (aD L.n) []:=by
 have hh:2+aD L.n+aD L.n<=L.n:=by unfold aD;omega
 have hll:=hL.nowL;have h1:=yR (l:=L.now) (ws:=aq (128*aD L.n)) (first:=2+aD L.n) (count:=aD L.n) (end_:=0) (by omega) rfl (ap _) (by omega);simp only[List.take_zero,Nat.zero_div,Nat.mul_zero,List.drop_nil,List.nil_append,Nat.zero_mod,Nat.sub_zero]at h1;have hcl:(fK L.now (2+aD L.n) 0 (aq 128) (aD L.n)).length=128*L.n:=ju hll (ap _) _ (by omega);have h2:=oH (l:=fK L.now (2+aD L.n) 0 (aq 128) (aD L.n)) (s:=dD 1 0) (first:=1) (count:=1) (q:=0) (f2:=2+aD L.n) (c2:=aD L.n) (by rw[dx];omega) (by rw[hcl];omega) (by omega);refine⟨?_,by simp⟩;rw[hnow,h2];exact h1.1.1
theorem Hb{L L':DevL}(hL:DevOk L)(hL':DevOk L')(hn:16<=L.n)(hn2:L.n<=1073741824)(hnn:L'.n=L.n)(hnow:L'.now=bp (fK L.now (2+aD L.n) 0 (aq 128) (aD L.n)) 128 (dD 1 0))(a pm tm cm d ab ch:Nat)(q:Int):
  ArOk (kM a pm tm cm d ab ch q L') where
 dev:=hL'
 n16:=by show 16<=L'.n;omega
 nmax:=by show L'.n<=_;omega
 area:=⟨ap _,by show([]:List (Nat×Nat×Nat)).length<=2;simp,fun s hs=>by cases hs⟩
 first:=by show 2+aD L'.n=2+1%2*aD L'.n;omega
 count:=rfl
 end_:=rfl
 tail:=by show aq 128=cE [];unfold cE dC;simp
 dat:=by
  show gf L'.now (2+aD L'.n) (aD L'.n) []
  rw[hnn];exact Fc hL hn hnow
 paths:=⟨⟨List.nodup_nil,List.nodup_nil,(fun e he=>by cases he),(fun e he=>by cases he)⟩,(fun p hp=>by cases hp)⟩
 tags:=⟨⟨List.nodup_nil,List.nodup_nil,(fun e he=>by cases he),(fun e he=>by cases he)⟩,(fun p hp=>by cases hp)⟩
 chunks:=⟨⟨List.nodup_nil,List.nodup_nil,(fun e he=>by cases he),(fun e he=>by cases he)⟩,(fun p hp=>by cases hp)⟩
 kin:=fun k=>List.Perm.refl _
 kat:=fun e he=>by cases he
 vers:=fun p hp=>by cases hp
 some:=fun p hp=>by cases hp
 sound:=rfl
 ep:=by show(1:Nat)<4294967296;omega
theorem I8{L':DevL}(hch:L'.chs=[])(a pm tm cm d ab ch:Nat)(q:Int)(hq:q<=9223372036854775807):ArB (kM a pm tm cm d ab ch q L') 0 where
 K:=by simp[kM]
 np:=by simp[kM]
 nt:=by simp[kM]
 vers:=fun p hp=>by cases hp
 tags:=fun p hp=>by cases hp
 used:=by simp[kM]
 sc:=by simp[kM]
 sb:=by simp[kM]
 quota:=by show(dk q).natAbs<=_;unfold dk;split<;>omega
 chs:=by show L'.chs.length<=_;rw[hch];simp
def o9(n:Nat)(q:Int)(d:Nat)(S:AS):Prop :=
 ArOk S/\ArB S 0/\S.X.closed=false/\S.X.quota=dk q/\S.X.used=0/\S.X.sc=0/\S.X.sb=0/\S.ps=[]/\S.ts=[]/\S.K=[]/\S.data=[]/\S.L.n=n/\S.X.d=d/\S.X.ep=1/\S.L.chs=[]/\ba S.L.now 1=dD 1 0/\ba S.L.now 0=aq 128
theorem AL(d:Nat)(L:DevL)(q:Int)(w:World)(h:Sat w (aE d L))(hL:DevOk L)(hn:16<=L.n)(hn2:L.n<=1073741824)(hch:L.chs.length<=137438953472)(hz:∀k,k<2->ba L.now k=aq 128)(hq:q<=9223372036854775807):
  Calls Tryz.prog 22 #[.pointer (some ⟨d,0,none⟩),.int .i64 q] w (fun e w'=>∃S,e=.returned (.tuple #[.pointer (some ⟨S.a,0,none⟩),.nilIface])/\o9 L.n q d S/\Turns (aE d L) (arF S) w w'):=by
 refine(AK d L q w h hL hn hn2 hch hz).mono ?_;rintro e w' ⟨a,ab,pm,tm,cm,ch,L',rfl,hT,hL',hLn,hnow,_,hchs⟩;have hh:2+aD L.n+aD L.n<=L.n:=by unfold aD;omega
 have hcl:(fK L.now (2+aD L.n) 0 (aq 128) (aD L.n)).length=128*L.n:=ju hL.nowL (ap _) _ (by omega);refine⟨kM a pm tm cm d ab ch q L',rfl,⟨Hb hL hL' hn hn2 hLn hnow a pm tm cm d ab ch q,I8 hchs a pm tm cm d ab ch q hq,rfl,rfl,rfl,rfl,rfl,rfl,rfl,rfl,rfl,hLn,rfl,rfl,hchs,?_,?_⟩,?_⟩
 ·show ba L'.now 1=_;rw[hnow];unfold ba bp;have h1:((fK L.now (2+aD L.n) 0 (aq 128) (aD L.n)).take 128).length=128*1:=by rw[List.length_take,hcl];omega
  rw[List.append_assoc,List.drop_left' h1,List.take_left' (dx _ _)]
 ·show ba L'.now 0=_;rw[hnow,Dy (by omega) (by rw[hcl];omega),sy (ap _) (by rw[hL.nowL];omega),Dy (by omega) (by rw[hL.nowL];omega)];exact hz 0 (by omega)
 ·refine hT.to ?_;unfold arF kM aU dm bm fU;rw[<- hLn];simp only[List.map_nil,aR,List.flatMap_nil];exact af
def FT(q:Int)(R:RefL):Prop:=RefOk R/\R.vs=[]/\R.ts=[]/\R.quota=dk q/\R.closed=false
def AE(n:Nat)(q:Int)(w:World)(e:Ending)(w':World):Prop :=
 ∃(U:WorldL) (S:AS) (R:RefL),e=.returned (.tuple #[.pointer (some ⟨U.blk,0,none⟩),.bool true])/\o9 n q U.d S/\U.a=some S.a/\U.r=R.blk/\FT q R/\U.out=.slice none 0 0/\U.want=.slice none 0 0/\U.most=.slice none 0 0 /\
  Turns [] ((U.blk,Is (aC U))::(arF S++aI R)) w w'
theorem wN(n:Nat)(q:Int)(w:World)(hn:16<=n)(hn2:n<=1073741824)(hE:bq w)(hq:q<=9223372036854775807):
  Calls Tryz.prog 24 #[.int .i64 n,.int .i64 q] w (AE n q w):=by
 have HN:=qqH (lX n (by omega) w);have HE:=qqH hE;clear hE;go_enter Tryz.func24,Tryz.ntmps24;go_wp2_with fail;refine HN.out.mono ?_;rintro e w1 ⟨d,L,rfl,hT,hL,hLn,hnow,hch⟩;have H1:=Hq4 hT hL hnow hch;clear hT hL hnow hch;go_wp2_with fail;obtain⟨U,hU⟩:∃U:WorldL,U=⟨w1.heap.size+1,d,none,w1.heap.size,.slice none 0 0,.slice none 0 0,.slice none 0 0⟩:=⟨_,rfl⟩;obtain⟨R,hR⟩:∃R:RefL,R=⟨w1.heap.size,.slice none 0 0,[],.slice none 0 0,[],0,false⟩:=⟨_,rfl⟩;have hUb:U.blk=w1.heap.size+1:=by rw[hU]
 have hUd:U.d=d:=by rw[hU]
 have hRo:iA R=.cells #[.slice none 0 0,.slice none 0 0,.int .i64 0,.bool false] 60 (0,0):=by rw[hR];rfl
 have hUo:aC U=.cells #[.pointer (some ⟨d,0,none⟩),.pointer none,.pointer (some ⟨w1.heap.size,0,none⟩),.slice none 0 0,.slice none 0 0,.slice none 0 0] 63 (0,0):=by rw[hU];rfl
 have hT2:Turns [] ((U.blk,Is (aC U))::(aI R++aE U.d L)) w ((w1.alloc (.cells #[.slice none 0 0,.slice none 0 0,.int .i64 0,.bool false] 60)).alloc (.cells #[.pointer (some ⟨d,0,none⟩),.pointer none,.pointer (some ⟨w1.heap.size,0,none⟩),.slice none 0 0,.slice none 0 0,.slice none 0 0] 63)):=by
  have h:=(H1.a.Q8 (iA R)).Q8 (aC U);rw[World.size_alloc,<- hUb]at h;rw[hUd,<- hRo,<- hUo]
  have h2:Turns [] ((U.blk,Is (aC U))::(aI R++aE d L)) w ((w1.alloc (iA R)).alloc (aC U)):=by
   refine h.to ?_;rw[hR];unfold aI cH cI;simp only[bN,Value.ownBlock];exact af
  exact h2
 have h0:0∉dom ((U.blk,Is (aC U))::(aI R++aE U.d L)):=fun h=>by
  have h3:=hT2.Qo h;have h4:=World.block_lt_of_cell? w _ HE.out;simp only at h4;omega
 have HW:=qqH (rk (o9 n q U.d) U R L q _ (by rw[hU,hR]) hT2.sat (by rw[hR];exact⟨⟨rfl,fun _=>⟨rfl,rfl⟩⟩,⟨rfl,fun _=>⟨rfl,rfl⟩⟩⟩) (by rw[hR];intro v hv;cases hv) (by rw[hR];simp) (HE.out.keep hT2.mods (fun h=>by simp at h)) h0
  (fun W hW=>by
   have:=AL U.d L q W hW H1.b (by omega) (by omega) (by rw[H1.x];simp) (fun k hk=>by rw[H1.c];simp only[ba,aq,List.drop_replicate,List.take_replicate];congr 1;omega) hq;rw[hLn]at this;exact this))
 rw[hUb]at HW;have HT2:=Hq3 hT2 hU hR;clear hT2 h0 hU hR hUb hUd hRo hUo;refine HW.out.mono ?_;rintro e w2 ⟨S,b',vv',tv',rfl,hΦ,hok,hT3⟩;have HT3:=Hq3 hΦ hok hT3;clear hΦ hok hT3;go_wp2_with fail;have eb:U.blk=w1.heap.size+1:=by rw[HT2.b]
 have eR:R.vs=[]/\R.ts=[]:=by rw[HT2.y];exact⟨rfl,rfl⟩
 have eU:U.out=.slice none 0 0/\U.want=.slice none 0 0/\U.most=.slice none 0 0:=by rw[HT2.b];exact⟨rfl,rfl,rfl⟩
 refine bodyPost_ret (results_tmp2 rfl _ _ _) rfl ⟨{ U with a:=some S.a,r:=b' },S,{ R with blk:=b',vv:=vv',tv:=tv',quota:=dk q,closed:=false },by rw[<- eb];rfl,HT3.a,rfl,rfl,⟨HT3.b,eR.1,eR.2,rfl,rfl⟩,eU.1,eU.2.1,eU.2.2,?_⟩;exact(HT2.a.trans HT3.y).drop bw
theorem Hc:∀(l:List Nat),(∀i (h:i<l.length),i+1<l.length->16<=l[i])->16*(l.length-1)<=l.sum
 | [],_=>by simp
 | [a],_=>by simp
 | a::b::r,h=>by
  have h1:=h 0 (by simp) (by simp)
  have h2:=Hc (b::r) (fun i hi hj=>by have:=h (i+1) (by simpa using hi) (by simpa using hj);simpa using this)
  simp only[List.length_cons,List.sum_cons,List.getElem_cons_zero]at h1 h2 ⊢
  omega
theorem s0(D:Bs):(aF D).length<=D.length / 16+1:=by
 have h:=Hc (aF D) (fun i hi hj=>(nS D i hi).2.2 hj);rw[gL]at h;omega
theorem l5:∀(l:List Nat) (d:Bs),(dc l d).flatten=d.take l.sum
 | [],d=>by simp[dc]
 | n::r,d=>by
  simp only[dc,List.flatten_cons,List.sum_cons,l5 r]
  rw[List.take_add]
theorem uq(D:Bs):(aH D).flatten=D:=by
 unfold aH;rw[l5,gL,List.take_length]
theorem vw{S:AS}(hok:ArOk S):∀{l:List Bs} {m:List (Nat×Nat)},m.length=l.length->(∀e∈l.zip m,e∈S.K)->m.flatMap (dA S.K)=l.flatten
 | [],[],_,_=>rfl
 | c::l,q::m,h,hz=>by
  rw[List.flatMap_cons,List.flatten_cons,C5 hok (hz (c,q) (by simp)),vw hok (by simpa using h) (fun e he=>hz e (by simp[he]))]
theorem Gp{S:AS}(hok:ArOk S){D:Bs}{V:VerL}(hl:V.chs.length=(aH D).length)(hz:∀e∈(aH D).zip V.chs,e∈S.K):dG S V=D:=by
 unfold dG;rw[vw hok hl hz,uq]
abbrev kD:=Int×Bs×Int
def ed(S:AS)(V:VerL):kD:=((V.num:Int),dG S V,V.held)
def iG(v:RVer):kD:=(v.num,v.cont,v.held)
def aL(vs:List RVer)(p:Bs):List RVer:=vs.filter (fun v=>decide (v.path=p))
def qH(p:ib):Bs×Bs×Int:=(p.key,p.g.1,p.g.2)
def uS(t:RTag):Bs×Bs×Int:=(t.name,t.path,t.num)
def jl(ts:List RTag)(p:Bs)(n:Int):Int:=(ts.countP (fun t=>decide (t.path=p/\t.num=n)):Nat)
structure Link (S:AS) (R:RefL):Prop where
 closed:R.closed=S.X.closed
 quota:R.quota=S.X.quota
 used:S.X.used=(fB R.vs:Nat)
 vers:∀p,(ai S.ps p).map (ed S)=(aL R.vs p).map iG
 sorted:R.vs.Pairwise (fun a b=>bO b.path a.path=false)
 asc:∀p,((aL R.vs p).map (·.num)).Pairwise (·<·)
 each:∀v∈R.vs,1<=v.num/\aA v.path=true/\v.cont.length<=4000
 tags:(S.ts.map qH).Perm (R.ts.map uS)
 tsort:R.ts.Pairwise (fun a b=>bO a.name b.name=true)
 teach:∀t∈R.ts,aA t.name=true/\∃v∈R.vs,v.path=t.path/\v.num=t.num
 held:∀v∈R.vs,v.held=jl R.ts v.path v.num
def zb:List kD->Int->Option kD
 | [],_=>none
 | v::r,n=>if v.1=n\/(n=0/\r=[])then some v else zb r n
theorem vE(S:AS)(n:Int):∀l:List VerL,zb (l.map (ed S)) n=(ik l n).map (ed S)
 | []=>rfl
 | V::r=>by
  simp only[List.map_cons,zb,ik,vE S n r,List.map_eq_nil_iff]
  have e:(ed S V).1=(V.num:Int):=rfl
  rw[e]
  split<;>rfl
def zz(l:List kD)(n:Int):Option kD:=(l.filter (fun t=>decide (t.1=n\/n=0))).getLast?
theorem vD{n:Int}:∀{l:List kD},(∀t∈l,n<t.1)->n≠0->l.filter (fun t=>decide (t.1=n\/n=0))=[]
 | [],_,_=>rfl
 | t::r,h,h0=>by
  rw[List.filter_cons_of_neg (by have:=h t (by simp);simp;omega)]
  exact vD (fun x hx=>h x (by simp[hx])) h0
theorem oB{n:Int}:∀{l:List kD},(l.map (·.1)).Pairwise (·<·)->(∀t∈l,1<=t.1)->zb l n=zz l n
 | [],_,_=>rfl
 | t::r,hp,h1=>by
  rw[List.map_cons,List.pairwise_cons]at hp
  have ht:=h1 t (by simp)
  simp only[zb,zz]
  by_cases h0:n=0
  ·subst h0
   have hne:¬t.1=0:=by omega
   have hall:∀(x:List kD),x.filter (fun t=>decide (t.1=0\/(0:Int)=0))=x:=fun x=>by rw[List.filter_eq_self];simp
   rw[hall]
   cases r with
   | nil=>simp
   | cons a r' =>
    rw[if_neg (by simp[hne])]
    rw[oB (l:=a::r') hp.2 (fun x hx=>h1 x (by simp[hx]))]
    unfold zz
    rw[hall,List.getLast?_cons_cons]
  ·by_cases hn:t.1=n
   ·rw[if_pos (.inl hn),List.filter_cons_of_pos (by simp[hn])]
    rw[vD (fun x hx=>by rw[<- hn];exact hp.1 x.1 (List.mem_map.2 ⟨x,hx,rfl⟩)) h0]
    rfl
   ·rw[if_neg (by simp[hn,h0]),List.filter_cons_of_neg (by simp[hn,h0])]
    exact oB (n:=n) hp.2 (fun x hx=>h1 x (by simp[hx]))
theorem mo(vs:List RVer)(p:Bs)(n:Int):∀k,k<=vs.length->(if 0<=bR vs p n k then vs[(bR vs p n k).toNat]? else none)=((vs.take k).filter (jX p n)).getLast?
 | 0,_=>by simp[bR]
 | k+1,hk=>by
  rw[qS (by omega),List.take_succ_eq_append_getElem (by omega),List.filter_append]
  by_cases h:jX p n vs[k]=true
  ·rw[if_pos h,if_pos (by omega),List.filter_cons_of_pos h]
   simp
  ·rw[if_neg h,List.filter_cons_of_neg h,List.filter_nil,List.append_nil]
   exact mo vs p n k (by omega)
theorem tw(R:RefL)(p:Bs)(n:Int):nV R p n=(R.vs.filter (jX p n)).getLast?:=by
 unfold nV;rw[mo R.vs p n _ (Nat.le_refl _),List.take_length]
theorem xm(vs:List RVer)(p:Bs)(n:Int):vs.filter (jX p n)=(aL vs p).filter (fun v=>decide (v.num=n\/n=0)):=by
 unfold aL;rw[List.filter_filter];congr 1;funext v;unfold jX;by_cases h1:v.path=p<;>by_cases h2:v.num=n<;>by_cases h3:n=0<;>simp[h1,h2,h3]
theorem EF(l:List RVer)(n:Int):zz (l.map iG) n=((l.filter (fun v=>decide (v.num=n\/n=0))).getLast?).map iG:=by
 unfold zz;rw[List.filter_map,List.getLast?_map];rfl
theorem Link.find{S:AS}{R:RefL}(L:Link S R)(p:Bs)(n:Int):(ik (ai S.ps p) n).map (ed S)=(nV R p n).map iG:=by
 rw[<- vE,L.vers,oB,EF,tw,xm]
 ·have:=L.asc p;rw[List.map_map];exact this
 ·intro t ht;obtain⟨v,hv,rfl⟩:=List.mem_map.1 ht;exact(L.each v (List.mem_filter.1 hv).1).1
theorem Link.err{S:AS}{R:RefL}(L:Link S R){l:Bs}{n k:Int}(h:i5 S l n k):cO R l n=.error k:=by
 unfold cO;rw[L.closed];rcases h with⟨h1,rfl⟩|⟨h1,h2,rfl⟩|⟨h1,h2,h3,rfl⟩
 ·rw[if_pos h1]
 ·rw[h1,if_neg (by simp),h2,if_neg (by simp)]
 ·rw[h1,if_neg (by simp),h2,if_pos rfl];have:=L.find l n;rw[h3,Option.map_none]at this;rw[Option.map_eq_none_iff.1 this.symm]
theorem Link.found{S:AS}{R:RefL}(L:Link S R){l:Bs}{n:Int}{V:VerL}(h:iB S l n V):∃v,cO R l n=.ok v/\iG v=ed S V/\v∈R.vs/\v.path=l:=by
 unfold cO;rw[L.closed,h.1,if_neg (by simp),h.2.1,if_pos rfl];have h1:=L.find l n;rw[h.2.2,Option.map_some]at h1;obtain⟨v,hv,hv2⟩:=Option.map_eq_some_iff.1 h1.symm;have h3:=hv;rw[tw]at h3;have h4:=List.mem_filter.1 (List.mem_of_getLast? h3);refine⟨v,by rw[hv],hv2,h4.1,?_⟩;have:=h4.2;unfold jX at this;simp only[Bool.and_eq_true,decide_eq_true_eq]at this;exact this.1
def kL(S:AS)(sp:List (Nat×Nat×Nat)):AS:={ S with A:={ S.A with spare:=sp } }
theorem ArOk.spare{S:AS}(h:ArOk S){sp:List (Nat×Nat×Nat)}(ha:AreaOk { S.A with spare:=sp }):ArOk (kL S sp) where
 dev:=h.dev
 n16:=h.n16
 nmax:=h.nmax
 area:=ha
 first:=h.first
 count:=h.count
 end_:=h.end_
 tail:=h.tail
 dat:=h.dat
 paths:=h.paths
 tags:=h.tags
 chunks:=h.chunks
 kin:=h.kin
 kat:=h.kat
 vers:=h.vers
 some:=h.some
 sound:=h.sound
 ep:=h.ep
theorem ArB.spare{S:AS}{b:Nat}(h:ArB S b)(sp:List (Nat×Nat×Nat)):ArB (kL S sp) b where
 K:=h.K
 np:=h.np
 nt:=h.nt
 vers:=h.vers
 tags:=h.tags
 used:=h.used
 sc:=h.sc
 sb:=h.sb
 quota:=h.quota
 chs:=h.chs
theorem Link.spare{S:AS}{R:RefL}(L:Link S R)(sp:List (Nat×Nat×Nat)):Link (kL S sp) R where
 closed:=L.closed
 quota:=L.quota
 used:=L.used
 vers:=L.vers
 sorted:=L.sorted
 asc:=L.asc
 each:=L.each
 tags:=L.tags
 tsort:=L.tsort
 teach:=L.teach
 held:=L.held
end
section
open Go.RowKit
theorem GF:(Tryz.prog.info? 3).map (fun i=>(i.zero,i.size,i.bytes))=some (some (.int .i64 0),1,8):=by kernel_rfl
def FB(c:Nat)(w:World)(e:Ending)(w':World):Prop:=e=.returned (.int .u32 (nR c))/\w=w'
theorem BJ(c:Nat)(hc:c<256)(w:World):Calls Tryz.prog 144 #[.int .u8 c] w (FB c w):=by
 go_enter Tryz.func144,Tryz.ntmps144;go_wp2;go_ret;exact⟨rfl,rfl⟩
theorem nN(x:Int)(m k:Nat)(hm:m+1=2 ^ k)(hk:k<=32)(h0:0<=x)(h1:x<4294967296):bits BinOp.and IntKind.u32 x m=x%(m+1:Nat):=by
 obtain⟨n,rfl⟩:=Int.eq_ofNat_of_zero_le h0;have hp:(2:Nat) ^ k<=2 ^ 32:=Nat.pow_le_pow_right (by omega) hk;have e1:(BitVec.ofInt 32 (n:Int)).toNat=n:=by rw[BitVec.ofInt_natCast,BitVec.toNat_ofNat];exact Nat.mod_eq_of_lt (by omega)
 have e2:(BitVec.ofInt 32 (m:Int)).toNat=m:=by rw[BitVec.ofInt_natCast,BitVec.toNat_ofNat];exact Nat.mod_eq_of_lt (by omega)
 have e3:n &&& m=n%2 ^ k:=by
  have:=Nat.and_two_pow_sub_one_eq_mod n k;rw[<- hm,Nat.add_sub_cancel]at this;rw[<- hm];exact this
 show IntKind.u32.wrap ((BitVec.ofInt 32 (n:Int) &&& BitVec.ofInt 32 (m:Int)).toNat:Int)=_;rw[BitVec.toNat_and,e1,e2,e3,IntKind.wrap_u32,hm];have:n%2 ^ k<2 ^ k:=Nat.mod_lt _ (Nat.two_pow_pos k);omega
theorem Gu(h:Int)(n:Nat)(h0:0<=h)(h1:h<4294967296):
  dH h n=(decide (256<=n) || (decide (64<=n)&&(h%16==0)) || (decide (16<=n)&&decide (n<64)&&(h%256==0))):=by
 have e1:=nN h 15 4 rfl (by omega) h0 h1;have e2:=nN h 255 8 rfl (by omega) h0 h1;unfold dH;rw[show((15:Int))=((15:Nat):Int)from rfl,show((255:Int))=((255:Nat):Int)from rfl,e1,e2];by_cases a:256<=n
 ·simp[a]
 ·by_cases b:64<=n
  ·have c:¬n<64:=by omega
   simp[a,b,c,bne]
  ·have c:n<64:=by omega
   by_cases d:16<=n<;>simp[a,b,c,d,bne]
def yf(data:List UInt8)(w:World)(e:Ending)(w':World):Prop :=
 ∃v,e=.returned v/\w'.ownsRow w.heap.size 3 1 v (aF data).length ((aF data).map fun n:Nat=>Value.int .i64 n)/\aX w w'
theorem Gw(h c:Int)(n:Nat):dH (cU h c) (n+1)=true↔(256<=(n:Int)+1\/(64<=(n:Int)+1/\(h*2+nR c)%16=0)\/(16<=(n:Int)+1/\(n:Int)+1<64/\(h*2+nR c)%256=0)):=by
 have hr:=qX h c;rw[Gu _ _ hr.1 hr.2];have e1:cU h c%16=(h*2+nR c)%16:=by unfold cU;omega
 have e2:cU h c%256=(h*2+nR c)%256:=by unfold cU;omega
 rw[e1,e2];simp only[Bool.or_eq_true,Bool.and_eq_true,decide_eq_true_eq,beq_iff_eq];omega
def AR(data:List UInt8)(w:World)(out hh nn ii:Value)(wr:World):Prop :=
 ∃(k n:Nat) (h:Int) (os:List Nat),k<=data.length/\ii=.int .i64 k/\nn=.int .i64 n/\hh=.int .u32 h/\0<=h/\h<4294967296/\n<256/\n<=k /\
   os++cM h n (data.drop k)=aF data/\os.length<=k/\wr.ownsRow 0 3 1 out os.length (os.map fun n:Nat=>Value.int .i64 n)/\(∀g,out.ownBlock=some g->w.heap.size<=g)/\aX w wr
theorem Cu{data:List UInt8}{w wr w3:World}{v v':Value}{o:Obj}{k n:Nat}{h:Int}{os:List Nat}{x:UInt8}(hlt:k<data.length)(hx:x=data[k])(hos:os++cM h n (data.drop k)=aF data)(hol:os.length<=k)(hbl:∀g,v.ownBlock=some g->w.heap.size<=g)(hs:aX w wr)(he:k+1=data.length\/dH (cU h x.toNat) (n+1)=true)(hown:w3.ownsRow 0 3 1 v' (os.length+1) ((os.map fun n:Nat=>Value.int .i64 n)++[.int .i64 ((n:Int)+1)]))(hgrow:(wr.alloc o).grownBy w3 v.ownBlock)(hg:∀g,v'.ownBlock=some g->v.ownBlock=some g\/(wr.alloc o).heap.size<=g)(m:Int)(hm:m=(k:Int)+1):
  AR data w v' (.int .u32 0) (.int .i64 0) (.int .i64 m) w3:=by
 have hd:data.drop k=x::data.drop (k+1):=by rw[hx];exact List.drop_eq_getElem_cons hlt
 have hc:cM h n (data.drop k)=(n+1)::cM 0 0 (data.drop (k+1)):=by
  rw[hd];rcases he with he|he
  ·rw[show data.drop (k+1)=[]from List.drop_of_length_le (by omega),ou];rfl
  ·exact ql _ _ _ _ he
 refine⟨k+1,0,0,os++[n+1],by omega,by simp[hm],rfl,rfl,by omega,by omega,by omega,by omega,?_,by simp;omega,?_,?_,?_⟩
 ·rw[<- hos,hc];simp
 ·simpa using hown
 ·intro g h';have:=hs.size;rcases hg g h' with h2|h2
  ·exact hbl g h2
  ·simp at h2;omega
 ·exact(hs.alloc o).grown hgrow (fun k hk=>.inr (hbl k hk))
theorem zY{data:List UInt8}{w wr:World}{v:Value}{k n:Nat}{h m:Int}{os:List Nat}{x:UInt8}(hlt:k<data.length)(hx:x=data[k])(hos:os++cM h n (data.drop k)=aF data)(hol:os.length<=k)(hnk:n<=k)(hown:wr.ownsRow 0 3 1 v os.length (os.map fun n:Nat=>Value.int .i64 n))(hbl:∀g,v.ownBlock=some g->w.heap.size<=g)(hs:aX w wr)(he:¬(k+1=data.length\/dH (cU h x.toNat) (n+1)=true))(hm:m=cU h x.toNat):
  AR data w v (.int .u32 m) (.int .i64 ((n:Int)+1)) (.int .i64 ((k:Int)+1)) wr:=by
 have hd:data.drop k=x::data.drop (k+1):=by rw[hx];exact List.drop_eq_getElem_cons hlt
 have he2:dH (cU h x.toNat) (n+1)=false:=by
  cases hz:dH (cU h x.toNat) (n+1)
  ·rfl
  ·exact absurd (.inr hz) he
 have hr:=qX h x.toNat;refine⟨k+1,n+1,cU h x.toNat,os,by omega,by simp,by simp,by rw[hm],hr.1,hr.2,?_,by omega,?_,by omega,hown,hbl,hs⟩
 ·rcases Nat.lt_or_ge (n+1) 256 with h'|h'
  ·exact h'
  ·rw[pv h']at he2;cases he2
 ·rw[<- hos,hd,sA _ _ _ _ he2];intro hn;have:=List.drop_eq_nil_iff.1 hn;exact he (.inl (by omega))
theorem uJ(a:Option Addr)(cap:Nat)(data:List UInt8)(w:World)(hd:ak w a (data.map ao))(hmax:data.length<=1099511627776):
  Calls Tryz.prog 109 #[.slice a data.length cap] w (yf data w):=by
 go_enter Tryz.func109,Tryz.ntmps109;go_wp2;obtain⟨i0,hi0,hz1,hz2,hz3⟩:=info_parts GF;go_loopw [3,4,5,6] (AR data w) (fun _ _ _ ii _=>data.length-(intOf ii).toNat)
 case atStart=>exact⟨0,0,0,[],by omega,rfl,rfl,rfl,by omega,by omega,by omega,by omega,rfl,by simp,World.ownsRow_nil _ _ _ _,by simp[Value.ownBlock],Mods.refl _ _⟩
 case round =>
  obtain⟨k,n,h,os,hk,rfl,rfl,rfl,hh0,hh1,hn,hnk,hos,hol,hown,hbl,hs⟩:=hrel;have HO:=Hq4 hos hown hbl hs;clear hos hown hbl hs;by_cases hlt:k<data.length
  ·obtain⟨g1,o1,rfl,hc1⟩:=hd (by simp;omega);have hk1:w.cell? ⟨g1,o1+k,none⟩=some (ao data[k]):=by rw[hc1 k (by simpa using hlt)];simp
   have hk2:=(World.cell?_of_block (w:=w) (HO.x.block g1 (World.block_lt_of_cell? w _ hk1) id)).trans hk1;obtain⟨x,hx⟩:∃x,x=data[k]:=⟨_,rfl⟩;rw[<- hx]at hk2;unfold ao at hk2;have HX:=qqH hx;have hxl:=x.toNat_lt;have HE:=qqH (Gw h x.toNat n);clear hx hk1 hc1 hd
   go_wp2_with (first
    | (go_at_call 144;refine(BJ _ hxl _).mono ?_;rintro e w2 ⟨rfl,rfl⟩)
    | (at_builtin;refine gc _ rfl _ _ 171 rfl 3 i0 (.int .i64 0) 1 8 Tryz.underlying171 hi0 hz1 hz2 hz3 rfl (by decide) _ _ _ rfl (HO.b.alloc _) ⟨wr.heap.size,0,none⟩ 1 1 [.int .i64 ((n:Int)+1)] rfl rfl (cell_one_new _ _ _) (by simp[Value.oneCell']) (by unfold maxLen;omega) (by omega) ?_;intro v' A3 hown' hgrow _ hgb))
   all_goals go_roundw
   all_goals
    first
    | (
     refine Cu hlt HX.out HO.a hol HO.c HO.x ?_ hown' hgrow hgb _ ?_
     ·first
      | exact .inl (by omega)
      | exact .inr ((HE.out).2 (.inl (by omega)))
      | exact .inr ((HE.out).2 (.inr (.inl ⟨by omega,eq_of_beq (by assumption)⟩)))
      | exact .inr ((HE.out).2 (.inr (.inr ⟨by omega,by omega,eq_of_beq (by assumption)⟩)))
      | (
       refine .inr ((HE.out).2 (.inl ?_));have hq:((k:Int)==(data.length:Int)-1)=true\/((n:Int)+1==256)=true:=by assumption
       rcases hq with h'|h'<;>(have:=eq_of_beq h';omega))
      | (
       exfalso;have hq:((k:Int)==(data.length:Int)-1)=true\/((n:Int)+1==256)=true:=by assumption
       rcases hq with h'|h'<;>(have:=eq_of_beq h';omega))
     ·omega)
    | (
     refine zY hlt HX.out HO.a hol hnk HO.b HO.c HO.x ?_ rfl
     have key:∀c:Int,0<=c->¬(256<=(n:Int)+1):=fun _ _=>by
      first
      | omega
      | (
       have hq:((k:Int)==(data.length:Int)-1)=false/\((n:Int)+1==256)=false:=by assumption
       have:=ne_of_beq_false hq.2;omega)
     intro hh;rcases hh with hh|hh
     ·omega
     ·rcases(HE.out).1 hh with h1|⟨h1,h2⟩|⟨h1,h2,h3⟩
      ·exact key 0 (by omega) h1
      ·first
       | omega
       | exact ne_of_beq_false (by assumption) h2
      ·first
       | omega
       | exact ne_of_beq_false (by assumption) h3)
    | (simp[intOf];omega)
  ·obtain⟨hos,hown,hbl,hs⟩:=HO.out;have hkk:k=data.length:=by omega
   have hP':os=aF data:=by rw[hkk,List.drop_length]at hos;simpa[cM]using hos
   have hP:=qqH hP';clear hP';have HF:=Hq3 hown hbl hs;clear hos hown hbl hs hkk;go_wp2;go_ret;exact⟨_,rfl,by rw[<- hP.out];exact xr HF.a HF.b,HF.y⟩
end
section
open Go.RowKit Go.Maps
structure SlB where
 val:Value
 bs:Bs
def yj(w:World)(x:SlB):Prop:=∃sl cap,x.val=.slice sl x.bs.length cap/\x.bs.length<=cap/\cap<=9223372036854775807/\ak w sl (x.bs.map ao)
def dl(v:Value)(l:List SlB):HF:=bN 38 1 v l.length (l.map (·.val))
def uL(v:Value)(l:List SlB):Prop:=dj 1 v l.length (l.map (·.val))
def A4(l:List Bs)(c:Bs):List Bs:=if c∈l then l else l++[c]
def nJ(l:List Bs)(cs:List Bs):List Bs:=cs.foldl A4 l
def mj(csl:Option Addr)(ccap:Nat)(c:Bs)(x:SlB):Prop :=
 ∃g off k,csl=some ⟨g,off,none⟩/\x.val=.slice (some ⟨g,off+k,none⟩) x.bs.length (ccap-k)/\x.bs=(c.drop k).take x.bs.length/\k+x.bs.length<=c.length
theorem mj.at{csl:Option Addr}{ccap:Nat}{c:Bs}{x:SlB}(h:mj csl ccap c x){w:World}(hc:ak w csl (c.map ao))(hcap:c.length<=ccap)(hc9:ccap<=9223372036854775807):yj w x:=by
 obtain⟨g,off,k,e1,e2,e3,e4⟩:=h;refine⟨_,_,e2,by omega,by omega,fun hp=>⟨g,off+k,rfl,fun j hj=>?_⟩⟩;rw[List.length_map]at hp hj;obtain⟨g',off',e5,h5⟩:=hc (by rw[List.length_map];omega);rw[e1]at e5;simp only[Option.some.injEq,Addr.mk.injEq,and_true]at e5;obtain⟨rfl,rfl⟩:=e5;rw[Nat.add_assoc,h5 (k+j) (by rw[List.length_map];omega)];simp only[List.getElem_map];congr 2;have:x.bs[j]?=c[k+j]?:=by rw[e3,List.getElem?_take,if_pos hj,List.getElem?_drop]
 rw[List.getElem?_eq_getElem hj,List.getElem?_eq_getElem (by omega)]at this;exact(Option.some.inj this).symm
theorem oP{w:World}{v:Value}{l:List SlB}(hs:Sat w (dl v l))(h:uL v l):∃sl cap,v=.slice sl l.length cap/\l.length<=cap/\cap<=9223372036854775807/\ak w sl (l.map (·.val)):=by
 obtain⟨sl,cap,e,h1,h2,h3,-⟩:=bV hs h (by decide);exact⟨sl,cap,e,h1,h2,h3⟩
theorem uo(a:Option Addr)(cap:Nat)(data:Bs)(w:World)(hd:ak w a (data.map ao))(hmax:data.length<=1099511627776):
  Calls Tryz.prog 109 #[.slice a data.length cap] w (fun e w'=>∃v,e=.returned v/\dj 1 v (aF data).length ((aF data).map fun n:Nat=>Value.int .i64 n)/\Turns [] (bN 3 1 v (aF data).length ((aF data).map fun n:Nat=>Value.int .i64 n)) w w'):=by
 refine(uJ a cap data w hd hmax).mono ?_;rintro e w' ⟨v,rfl,ho,hs⟩;have ho0:w'.ownsRow 0 3 1 v (aF data).length ((aF data).map fun n:Nat=>Value.int .i64 n):=⟨ho.1,ho.2.imp id (fun⟨g,cap,cur,h1,_,h2⟩=>⟨g,cap,cur,h1,Nat.zero_le _,h2⟩)⟩;obtain⟨h1,h2⟩:=fT ho0;refine⟨v,rfl,h2,hs.mods _,h1,fun b hb=>.inr ?_⟩;rw[ga]at hb;rcases ho.2 with⟨rfl,_⟩|⟨g,cap,cur,rfl,hg,_⟩
 ·cases hb
 ·obtain rfl:=Option.some.inj hb;exact hg
theorem I7{P:Program}{t:TypeId}(a b:Bs)(w:World):(binOp .eql t (str a) (str b)).run P w=.ok (.bool (decide (a=b))) w:=by
 unfold str;simp[binOp,Op.stringOp,Lib.toList_data];rw[Bool.eq_iff_iff];simp
theorem pj{w:World}{sl:Option Addr}{l:Bs}(cap:Nat)(h:ak w sl (l.map ao)):(do let v <- convert 38 9 (.slice sl l.length cap);pure (Next.value v)).run Tryz.prog w=.ok (.value (str l)) w:=by
 simp[jE _ h]
theorem Ki(_:Value)(M:List SlB)(q:SlB)(bk:Bs)(rg k rcap:Nat)(bv:Value){Q:Exit->Act->World->Prop}{w:World}{u1 u2 u3 u4 u5 u6 u7 u9 aS aT ab ad ag aj ar av ax a0 a1 a2 a3 a4 a5 a6 a7 a9 bY bg bj bo bx b0 b1 b2 b3 b4 b6 b7 b9 ca cb cc ch ci cj cl cm cp cs ct cu cv cx c0 c1 c2:Value}{ds:List Deferred}(h1:w.cell? ⟨rg,k,none⟩=some q.val)(h2:yj w q)(h3:∃sl cap,bv=.slice sl bk.length cap/\ak w sl (bk.map ao))(hk1:k<M.length)(hk:∀(c3 c4 c5 c6 c7 dO dT df y9:Value) (w':World),y9=.bool (decide (q.bs=bk))/\w'=w.drew->Q .normal { tmps:=#[.slice (some ⟨rg,0,none⟩) M.length rcap,u1,u2,u3,u4,u5,u6,u7,bv,y9,.int .i64 k,aS,aT,ab,ad,ag,aj,ar,av,ax,a0,a1,a2,a3,a4,a5,a6,a7,a9,bY,bg,bj,bo,bx,b0,b1,b2,b3,c3,c4,c5,c6,c7,dO,dT,df,ci,cj,cl,cm,cp,cs,ct,cu,cv,cx,c0,c1,c2],defers:=ds } w'):
  (iq 11 Tryz.f61).wp Tryz.prog Q { tmps:=#[.slice (some ⟨rg,0,none⟩) M.length rcap,u1,u2,u3,u4,u5,u6,u7,bv,u9,.int .i64 k,aS,aT,ab,ad,ag,aj,ar,av,ax,a0,a1,a2,a3,a4,a5,a6,a7,a9,bY,bg,bj,bo,bx,b0,b1,b2,b3,b4,b6,b7,b9,ca,cb,cc,ch,ci,cj,cl,cm,cp,cs,ct,cu,cv,cx,c0,c1,c2],defers:=ds } w:=by
 have HM:=qqH (show Tryz.prog.follows .mixedOrders=true by kernel_rfl);conv=>arg 2;whnf
 refine bK (A:=?A) (hA:=?hA) HM.out (iT [fun v=>v=.slice (some ⟨rg,0,none⟩) M.length rcap,fun v=>v=.int .i64 k,fun v=>v=.pointer (some ⟨rg,k,none⟩),fun v=>v=q.val,fun v=>v=str q.bs,fun v=>v=bv,fun v=>v=str bk,fun v=>v=.bool (decide (q.bs=bk)),fun v=>v=.bool (decide (q.bs=bk))])
  (fun vs1 W=>(W.cell? ⟨rg,k,none⟩=some q.val/\yj W q/\∃sl cap,bv=.slice sl bk.length cap/\ak W sl (bk.map ao))/\W=w.drew)
  (fun W=>W.cell? ⟨rg,k,none⟩=some q.val/\yj W q/\∃sl cap,bv=.slice sl bk.length cap/\ak W sl (bk.map ao)) [] ?hC (by kernel_rfl) (by kernel_rfl) (by decide) (by decide) ?h0 ?hs ?he
 case hA=>intro x;simp only[aw,Act.put,List.setIfInBounds_toArray,List.set_cons_zero,List.set_cons_succ,Nat.reduceAdd];rfl
 case hs =>
  refine⟨ac rfl rfl (fun x wq hd hC K hK hKw=>?_),ac rfl rfl (fun x wq hd hC K hK hKw=>?_),ac rfl rfl (fun x wq hd hC K hK hKw=>?_),ac rfl rfl (fun x wq hd hC K hK hKw=>?_),ac rfl rfl (fun x wq hd hC K hK hKw=>?_),ac rfl rfl (fun x wq hd hC K hK hKw=>?_),ac rfl rfl (fun x wq hd hC K hK hKw=>?_),ac rfl rfl (fun x wq hd hC K hK hKw=>?_),ac rfl rfl (fun x wq hd hC K hK hKw=>?_),trivial⟩
  ·exact am (by kernel_rfl) (hK _ rfl)
  ·exact am (by kernel_rfl) (hK _ rfl)
  ·have h0:x 0=.slice (some ⟨rg,0,none⟩) M.length rcap:=ae hd 0 (by kernel_rfl);have h1:x 1=.int .i64 k:=ae hd 1 (by kernel_rfl);refine Hl (sz:=1) 61 38 (.tmp 38) (.tmp 39) rfl Tryz.underlying61 (by kernel_rfl) (by rw[h0];rfl) (by rw[h1];rfl) (by omega) (by omega) ?_;rw[show 0+((k:Int)).toNat*1=k by omega];exact hK _ rfl
  ·have h2:x 2=.pointer (some ⟨rg,k,none⟩):=ae hd 2 (by kernel_rfl);exact bD Tryz.underlying38 rfl rfl (by rw[h2];rfl) (hC.1) (hK _ rfl)
  ·have h3:x 3=q.val:=ae hd 3 (by kernel_rfl);obtain⟨sl,cap,e,-,-,hc⟩:=hC.2.1;refine am (v:=str q.bs) (w':=wq) ?_ (hK _ rfl);simp only[execOp];rw[h3,e];exact pj _ hc
  ·exact am (by kernel_rfl) (hK _ rfl)
  ·have h5:x 5=bv:=ae hd 5 (by kernel_rfl);obtain⟨sl,cap,e,hc⟩:=hC.2.2;refine am (v:=str bk) (w':=wq) ?_ (hK _ rfl);simp only[execOp];rw[h5,e];exact pj _ hc
  ·have h4:x 4=str q.bs:=ae hd 4 (by kernel_rfl);have h6:x 6=str bk:=ae hd 6 (by kernel_rfl);refine am (v:=.bool (decide (q.bs=bk))) (w':=wq) ?_ (hK _ rfl);simp[execOp,h4,h6,eqGuard,I7,Act.eval]
  ·have h7:x 7=.bool (decide (q.bs=bk)):=ae hd 7 (by kernel_rfl);exact am (by rw[h7];kernel_rfl) (hK _ rfl)
 case hC =>
  intro vs1 W hS;exact hS.1
 case h0 =>
  exact⟨⟨h1,h2,h3⟩,rfl⟩
 case he =>
  intro x w3 hφ hS;have e9:x 8=.bool (decide (q.bs=bk)):=fG hφ 8 (by decide) (by decide);exact hk (x 0) (x 1) (x 2) (x 3) (x 4) (x 5) (x 6) (x 7) (x 8) w3 ⟨e9,hS.2⟩
theorem r8(l:List Bs)(cs:List Bs)(c:Bs):nJ l (cs++[c])=A4 (nJ l cs) c:=by unfold nJ;rw[List.foldl_append];rfl
def FM(csl:Option Addr)(ccap:Nat)(c:Bs)(v0:Value)(M:List SlB)(w:World)(e:Ending)(w':World):Prop :=
 ∃v M',e=.returned v/\uL v M'/\M'.map (·.bs)=nJ (M.map (·.bs)) (aH c)/\(∀x∈M',x∈M\/mj csl ccap c x)/\Turns (dl v0 M) (dl v M') w w'
theorem vg(l cs:List Bs):(nJ l cs).length<=l.length+cs.length:=by
 unfold nJ;induction cs generalizing l with
 | nil=>simp
 | cons c r ih =>
  have h1:=ih (A4 l c);have h2:(A4 l c).length<=l.length+1:=by unfold A4;split<;>simp
  simp only[List.foldl_cons,List.length_cons];omega
theorem Cp(csl:Option Addr)(ccap:Nat)(c:Bs)(v0:Value)(M:List SlB)(w:World)(hs:Sat w (dl v0 M))(hok:uL v0 M)(hM:∀W G,Turns (dl v0 M) G w W->∀x∈M,yj W x)(hc:∀W G,Turns (dl v0 M) G w W->ak W csl (c.map ao))(hcap:c.length<=ccap)(hcap9:ccap<=9223372036854775807)(hcl:c.length<=1000000)(hml:M.length+c.length<=900000):
  Calls Tryz.prog 61 #[v0,.slice csl c.length ccap] w (FM csl ccap c v0 M w):=by
 obtain⟨F1,hF1⟩:∃F1,F1=dl v0 M:=⟨_,rfl⟩;have hT0:Turns F1 (dl v0 M) w w:=by rw[hF1];exact Turns.refl hs
 have hcw:=hc w _ (Turns.refl hs);rw[<- hF1]at hM hc;have HC:=qqH (uo csl ccap c w hcw (by omega));have HH:=Hq5 hM hc hok hT0 hF1;clear hs hM hc hok hT0 hF1 hcw;obtain⟨rs0,rc0,hv0,-,-,-⟩:=oP HH.d.sat HH.c;have HV0:=qqH hv0;go_enter Tryz.func61,Tryz.ntmps61;go_wp2_with fail;refine HC.out.mono ?_;rintro e w1 ⟨lv,rfl,hlok,hT1⟩;obtain⟨ls,hls⟩:∃ls,ls=aF c:=⟨_,rfl⟩;rw[<- hls]at hlok hT1;have hT1':Turns F1 (dl v0 M++(bN 3 1 lv ls.length (ls.map fun n:Nat=>Value.int .i64 n)++[])) w w1:=(HH.d.trans (by have:=hT1.frame (R:=dl v0 M) (by simpa using HH.d.sat);simpa using this)).to af;have hll:ls.length<=c.length:=by rw[hls];exact dh c
 have H1:=Hq3 hlok hT1' hls;clear hlok hT1 hT1' hls;obtain⟨lsl,lcap,hlv,hl2,hl3,-,-⟩:=bV (H1.b.sat.right.left) H1.a (by decide);have HLV:=qqH hlv;rw[hlv];clear hlv;go_wp2_with fail;go_loopw [0,6,7] (fun l a i wr=>∃(k:Nat) (M':List SlB) (J:HF),k<=ls.length/\i=.int .i64 k/\a=.int .i64 ((ls.take k).sum:Nat)/\uL l M'/\M'.map (·.bs)=nJ (M.map (·.bs)) ((aH c).take k)/\(∀x∈M',x∈M\/mj csl ccap c x)/\Turns F1 (dl l M'++(bN 3 1 (.slice lsl ls.length lcap) ls.length (ls.map fun n:Nat=>Value.int .i64 n)++J)) w wr) (fun _ _ i _=>ls.length-(intOf i).toNat)
 case atStart=>exact⟨0,M,[],Nat.zero_le _,rfl,rfl,hv0 ▸ HH.c,rfl,fun x hx=>.inl hx,by rw[<- hv0,<- HLV.out];exact H1.b⟩
 case round =>
  obtain⟨i,M',J,hi,rfl,rfl,hok,hbs,hpo,hT⟩:=hrel;obtain⟨lsl',lcap',hlv',-,-,hlc,-⟩:=bV (hT.sat.right.left) (HLV.out ▸ H1.a) (by decide);simp only[Value.slice.injEq,true_and]at hlv';obtain⟨rfl,rfl⟩:=hlv';obtain⟨rsl,rcap,hrv,hr2,hr3,hrc⟩:=oP hT.sat.left hok;subst hrv
  have hm:M'.length<=M.length+i:=by
   have h1:=congrArg List.length hbs;have h2:=vg (M.map (·.bs)) ((aH c).take i);rw[List.length_map]at h1;rw[List.length_map,List.length_take]at h2;omega
  have hm9:M'.length<=900000:=by omega
  have HR:=Hq4 hok hbs hpo hT;clear hok hbs hpo hT hm;by_cases hlt:i<ls.length
  ·obtain⟨lg,loff,hlg,hlcell⟩:=hlc (by rw[List.length_map];omega);subst hlg;have hci:=hlcell i (by rw[List.length_map];exact hlt);rw[List.getElem_map]at hci;obtain⟨n,hn⟩:∃n,n=ls[i]:=⟨_,rfl⟩;rw[<- hn]at hci;have hsum:(ls.take (i+1)).sum=(ls.take i).sum+n:=by rw[List.take_succ_eq_append_getElem hlt,List.sum_append,hn];simp
   have htot:(ls.take (i+1)).sum<=c.length:=by
    have h1:=gL c;rw[<- H1.y]at h1;have h2:ls.sum=(ls.take (i+1)).sum+(ls.drop (i+1)).sum:=by rw[<- List.sum_append,List.take_append_drop]
    omega
   have hn1:1<=n:=by rw[hn];have h1:=nS c i (by rw[<- H1.y];exact hlt);simp only[<- H1.y]at h1;exact h1.1
   obtain⟨a,ha⟩:∃a,a=(ls.take i).sum:=⟨_,rfl⟩;rw[<- ha]at hsum ⊢
   have hbk:(aH c).take (i+1)=(aH c).take i++[(c.drop a).take n]:=by
    have h1:i<(aH c).length:=by unfold aH;rw[cF,<- H1.y];exact hlt
    have hce:(aH c)[i]=(c.drop a).take n:=by
     have h3:=i6 (aF c) c i (by rw[<- H1.y];exact hlt);simp only[<- H1.y,<- ha,<- hn]at h3;refine Eq.trans ?_ h3;unfold aH;simp only[<- H1.y]
    rw[List.take_succ_eq_append_getElem h1,hce]
   obtain⟨bk,hbkd⟩:∃bk,bk=(c.drop a).take n:=⟨_,rfl⟩;have hbl:bk.length=n:=by rw[hbkd,List.length_take,List.length_drop];omega
   obtain⟨g,off,hg,-⟩:=HH.b _ _ HR.x (by rw[List.length_map];omega);have hpart:mj csl ccap c ⟨.slice (some ⟨g,off+a,none⟩) n (ccap-a),bk⟩:=⟨g,off,a,hg,by simp only[hbl],by simp only[hbl];exact hbkd,by simp only[hbl];omega⟩;rw[<- hbkd]at hbk;subst hg;have hne:¬ccap=a:=by omega
   have han:a+n<=ccap:=by omega
   have hHX:=Hq5 hsum hbk hpart hbkd hbl;have hx1:((a:Int)+n).toNat=a+n:=by omega
   have hx2:a+n-a=n:=by omega
   have ha9:a<=1000000:=by omega
   have hn9:n<=1000000:=by omega
   have HN:=qqH hn;clear hlcell hlc hsum hbk hpart hbkd hbl htot hn ha;rename World=>W0
   go_wp2_with fail;go_loopw [9,10] (fun th kk W2=>∃(k:Nat) (b:Bool),k<=M'.length/\kk=.int .i64 k/\th=.bool b/\(b=true->bk∈M'.map (·.bs))/\(b=false->bk∉(M'.take k).map (·.bs))/\aX W0 W2) (fun _ kk _=>M'.length-(intOf kk).toNat)
   case atStart=>exact⟨0,false,Nat.zero_le _,rfl,rfl,(fun h=>by cases h),(fun _=>by simp),Mods.refl _ _⟩
   case round =>
    obtain⟨k,b,hk,rfl,rfl,hb1,hb2,hsm⟩:=hrel;have hT:=HR.x.Q9 hsm
    have hcl':∀(W:World) (G:HF),Turns F1 (G++(bN 3 1 (.slice (some ⟨lg,loff,none⟩) ls.length lcap) ls.length (ls.map fun n:Nat=>Value.int .i64 n)++J)) w W->W.cell? ⟨lg,loff+i,none⟩=some (.int .i64 n):=by
     intro W G hTW;obtain⟨a',c',e',-,-,hc',-⟩:=bV (hTW.sat.right.left) (HLV.out ▸ H1.a) (by decide);simp only[Value.slice.injEq,true_and]at e';obtain⟨rfl,rfl⟩:=e';obtain⟨g',o',e2,h2⟩:=hc' (by rw[List.length_map];omega);simp only[Option.some.injEq,Addr.mk.injEq,and_true]at e2;obtain⟨rfl,rfl⟩:=e2;rw[h2 i (by rw[List.length_map];exact hlt),List.getElem_map,<- HN.out]
    have hci':=hcl' _ _ hT;have HCL:=qqH hcl';have HB:=Hq4 hb1 hb2 hsm hT;clear hb1 hb2 hsm hT hcl' hci hrc
    cases b with
    | true =>
     go_wp2_with fail;all_goals refine⟨⟨i+1,M',J,by omega,by go_num,by rw[hHX.a];go_num,HR.a,(by rw[hHX.b,r8,HR.b.symm];unfold A4;rw[if_pos (HB.a (by trivial))]),HR.c,HB.x⟩,?_⟩
     all_goals (simp[intOf];omega)
    | false =>
     by_cases hkm:k<M'.length
     ·obtain⟨q,hq⟩:∃q,q=M'[k]:=⟨_,rfl⟩;obtain⟨rsl2,rcap2,hrv2,-,-,hrc2⟩:=oP HB.x.sat.left HR.a;simp only[Value.slice.injEq,true_and]at hrv2;obtain⟨rfl,rfl⟩:=hrv2;have hown:=HR.a.2
      obtain⟨rg,hrg⟩:∃rg,rsl=some ⟨rg,0,none⟩:=by
       rcases(aW HB.x.sat.left HR.a).2 with⟨h1,h2⟩|⟨g1,cap1,cur1,h1,-⟩
       ·omega
       ·simp only[Value.slice.injEq]at h1;exact⟨g1,h1.1⟩
      subst hrg;obtain⟨g',o',e2,h2⟩:=hrc2 (by rw[List.length_map];omega);simp only[Option.some.injEq,Addr.mk.injEq,and_true]at e2;obtain⟨rfl,rfl⟩:=e2;have hqc:=h2 k (by rw[List.length_map];exact hkm);rw[List.getElem_map,<- hq,Nat.zero_add]at hqc
      have hqa:yj wr q:=by
       rcases HR.c q (hq ▸ List.getElem_mem hkm)with h3|h3
       ·exact HH.a _ _ HB.x q h3
       ·exact h3.at (HH.b _ _ HB.x) hcap hcap9
      have hbv:∃sl cap,(.slice (some ⟨g,off+a,none⟩) n (ccap-a):Value)=.slice sl bk.length cap/\ak wr sl (bk.map ao):=by
       obtain⟨sl,cap,e3,-,-,h4⟩:=hHX.c.at (HH.b _ _ HB.x) hcap hcap9;exact⟨sl,cap,e3,h4⟩
      have HQ:=Hq4 hqc hqa hbv hq;clear hqc hqa hbv hq h2 hrc2 hown;go_wp2_with fail;refine Ki (.slice (some ⟨rg,0,none⟩) M'.length rcap) M' q bk rg k rcap _ HQ.a HQ.b HQ.c hkm ?_;intro y38 y39 y40 y41 y42 y43 y44 y45 y9 w2 ⟨hy9,hw2⟩;subst hy9;subst hw2
      have hfin:∃(k':Nat) (b':Bool),k'<=M'.length/\Value.int .i64 ((k:Int)+1)=.int .i64 k'/\Value.bool (decide (q.bs=bk))=.bool b'/\(b'=true->bk∈M'.map (·.bs))/\(b'=false->bk∉(M'.take k').map (·.bs))/\aX W0 wr.drew:=by
       refine⟨k+1,decide (q.bs=bk),by omega,by go_num,rfl,fun h=>?_,fun h=>?_,HB.c.drew⟩
       ·rw[decide_eq_true_eq]at h;exact List.mem_map.2 ⟨q,HQ.x ▸ List.getElem_mem hkm,h⟩
       ·rw[decide_eq_false_iff_not]at h;rw[List.take_succ_eq_append_getElem hkm,List.map_append,List.mem_append];rintro(h5|h5)
        ·exact HB.b (by trivial) h5
        ·simp only[List.map_cons,List.map_nil,List.mem_singleton]at h5;rw[<- HQ.x]at h5;exact h h5.symm
      have HF:=qqH hfin;clear hfin;go_wp2_with fail;go_roundw
      case rel=>exact HF.out
      case measure=>simp[intOf];omega
     ·obtain rfl:k=M'.length:=by omega
      have hnot:bk∉M'.map (·.bs):=by have:=HB.b (by trivial);rwa [List.take_length]at this
      have HN2:=qqH hnot;clear hnot;go_wp2_with ((at_builtin;refine al rfl ?_;(refine lV (.tmp 48) (.tmp 50) rfl (.slice rsl M'.length rcap) (M'.map (·.val)) rfl (G:=bN 3 1 (.slice (some ⟨lg,loff,none⟩) ls.length lcap) ls.length (ls.map fun n:Nat=>Value.int .i64 n)++J) ((by simpa[dl]using HB.x.alloc _):Turns F1 _ w _) (by simpa[uL]using HR.a) _ (.slice (some ⟨g,off+a,none⟩) n (ccap-a)) rfl rfl (aa (aM _ _) 0 rfl) (by rw[List.length_map];omega) ?_);intro v2 w2 hok2 hT2;have hci2:=HCL.out _ _ hT2;have H2:=Hq2 hok2 hT2;clear hok2 hT2))
      have hlast:uL v2 (M'++[⟨.slice (some ⟨g,off+a,none⟩) n (ccap-a),bk⟩])/\Turns F1 (dl v2 (M'++[⟨.slice (some ⟨g,off+a,none⟩) n (ccap-a),bk⟩])++(bN 3 1 (.slice (some ⟨lg,loff,none⟩) ls.length lcap) ls.length (ls.map fun n:Nat=>Value.int .i64 n)++J)) w w2:=by
       have h1:=H2.a;have h2:=H2.z;unfold uL dl;rw[show(M'++[(⟨.slice (some ⟨g,off+a,none⟩) n (ccap-a),bk⟩:SlB)]).map (·.val)=List.map SlB.val M'++[Value.slice (some ⟨g,off+a,none⟩) n (ccap-a)] by simp];rw[show(M'++[(⟨.slice (some ⟨g,off+a,none⟩) n (ccap-a),bk⟩:SlB)]).length=(List.map SlB.val M'++[Value.slice (some ⟨g,off+a,none⟩) n (ccap-a)]).length by simp];exact⟨h1,h2⟩
      refine⟨⟨i+1,M'++[⟨.slice (some ⟨g,off+a,none⟩) n (ccap-a),bk⟩],J,by omega,by go_num,by rw[hHX.a];go_num,hlast.1,(by rw[hHX.b,r8,HR.b.symm];unfold A4;rw[if_neg HN2.out,List.map_append];rfl),(fun x hx=>by rcases List.mem_append.1 hx with h3|h3;exact HR.c x h3;exact .inr (List.mem_singleton.1 h3 ▸ hHX.c)),hlast.2⟩,?_⟩;simp[intOf];omega
  ·obtain rfl:i=ls.length:=by omega
   clear hlc hrc;go_wp2_with fail;refine bodyPost_ret (results_tmp rfl _ _ _) rfl ⟨.slice rsl M'.length rcap,M',rfl,HR.a,?_,HR.c,?_⟩
   ·rw[HR.b,List.take_of_length_le (by unfold aH;rw[cF,<- H1.y];exact Nat.le_refl _)]
   ·rw[<- HV0.out,<- HH.w];exact HR.x.drop (fun x=>by simp only[an];omega)
structure OpL where
 kind:Int
 a:Int
 b:Int
 c:Int
 s:Bs
 t:Bs
 dv:Value
 d:Bs
def opV(o:OpL):List Value:=[.int .i64 o.kind,.int .i64 o.a,.int .i64 o.b,.int .i64 o.c,str o.s,str o.t,o.dv]
def tj(l:List OpL):List Value:=l.flatMap opV
def I63(n:Int):Prop:=-9223372036854775808<=n/\n<=9223372036854775807
structure OpOk (w:World) (o:OpL):Prop where
 a:I63 o.a
 b:I63 o.b
 c:I63 o.c
 s:o.s.length<=1125899906842624
 t:o.t.length<=1125899906842624
 d:o.d.length<=1125899906842624
 dv:∃sl cap,o.dv=.slice sl o.d.length cap/\o.d.length<=cap/\cap<=9223372036854775807/\ak w sl (o.d.map ao)
theorem jn(l:List OpL):(tj l).length=l.length*7:=by
 induction l with
 | nil=>rfl
 | cons a r ih=>simp only[tj,List.flatMap_cons,List.length_append,List.length_cons]at ih ⊢;rw[ih];simp[opV];omega
theorem xq:∀(l:List OpL) (i:Nat) (h:i<l.length) (j:Nat) (_:j<7),(tj l)[i*7+j]?=(opV l[i])[j]?
 | [],i,h,_,_=>by simp at h
 | a::r,0,_,j,hj=>by
  simp only[tj,List.flatMap_cons,Nat.zero_mul,Nat.zero_add,List.getElem_cons_zero]
  rw[List.getElem?_append_left (by simpa[opV]using hj)]
 | a::r,i+1,h,j,hj=>by
  simp only[tj,List.flatMap_cons,List.getElem_cons_succ]
  rw[List.getElem?_append_right (by simp[opV];omega),show(i+1)*7+j-(opV a).length=i*7+j by simp[opV];omega]
  exact xq r i (by simpa using h) j hj
theorem Jp{w:World}{sl:Option Addr}{l:List OpL}(h:ak w sl (tj l)){i:Nat}(hi:i<l.length):∃g off,sl=some ⟨g,off,none⟩ /\
  w.cell? ⟨g,off+i*7,none⟩=some (.int .i64 l[i].kind)/\w.cell? ⟨g,off+i*7+1,none⟩=some (.int .i64 l[i].a)/\w.cell? ⟨g,off+i*7+2,none⟩=some (.int .i64 l[i].b)/\w.cell? ⟨g,off+i*7+3,none⟩=some (.int .i64 l[i].c) /\
  w.cell? ⟨g,off+i*7+4,none⟩=some (str l[i].s)/\w.cell? ⟨g,off+i*7+5,none⟩=some (str l[i].t)/\w.cell? ⟨g,off+i*7+6,none⟩=some l[i].dv:=by
 obtain⟨g,off,e,hc⟩:=h (by rw[jn];omega)
 have key:∀j (hj:j<7) (v:Value),(opV l[i])[j]?=some v->w.cell? ⟨g,off+i*7+j,none⟩=some v:=by
  intro j hj v hv;have h1:=hc (i*7+j) (by rw[jn];omega);rw[<- Nat.add_assoc]at h1;rw[h1];have h2:=xq l i hi j hj;rw[hv,List.getElem?_eq_getElem (by rw[jn];omega)]at h2;exact h2
 exact⟨g,off,e,key 0 (by omega) _ rfl,key 1 (by omega) _ rfl,key 2 (by omega) _ rfl,key 3 (by omega) _ rfl,key 4 (by omega) _ rfl,key 5 (by omega) _ rfl,key 6 (by omega) _ rfl⟩
def q5(o:OpL):Nat:=o.s.length+o.t.length+o.d.length
def gi(l:List OpL):Nat:=(l.map q5).sum
def lO(l:List OpL):Bool:=decide (l.length<=400)&&decide (gi l<=60000)
theorem q8{l:List OpL}{k:Nat}(h:k<l.length):gi (l.take (k+1))=gi (l.take k)+q5 l[k]:=by
 unfold gi;rw[List.take_succ_eq_append_getElem h,List.map_append,List.sum_append];simp
theorem vS(l:List OpL)(k:Nat):gi (l.take k)<=gi l:=by
 unfold gi;have:(l.map q5).sum=((l.take k).map q5).sum+((l.drop k).map q5).sum:=by rw[<- List.sum_append,<- List.map_append,List.take_append_drop]
 omega
theorem Ag(l:List OpL)(sl:Option Addr)(cap:Nat)(w:World)(h:ak w sl (tj l))(hok:∀o∈l,OpOk w o)(hcap:l.length<=1125899906842624):
  Calls Tryz.prog 13 #[.slice sl l.length cap] w (fun e w'=>e=.returned (.bool (lO l))/\aX w w'):=by
 have HH:=Hq2 h hok;clear h hok;go_enter Tryz.func13,Tryz.ntmps13;by_cases h4:400<l.length
 ·have hfin:lO l=false:=by unfold lO;rw[decide_eq_false (by omega)];rfl
  have HF:=qqH hfin;clear hfin;go_wp2_with fail;exact bodyPost_ret (results_tmp rfl _ _ _) rfl ⟨by rw[HF.out];rfl,Mods.refl _ _⟩
 ·go_wp2_with fail;go_loopw [3,4] (fun n i wr=>∃k:Nat,k<=l.length/\i=.int .i64 k/\n=.int .i64 (gi (l.take k):Nat)/\gi (l.take k)<=60000/\aX w wr) (fun _ i _=>l.length-(intOf i).toNat)
  case atStart=>exact⟨0,Nat.zero_le _,rfl,rfl,by simp[gi],Mods.refl _ _⟩
  case round =>
   obtain⟨k,hk,rfl,rfl,hle,hs⟩:=hrel;by_cases hlt:k<l.length
   ·obtain⟨g,off,hg,-,-,-,-,h5,h6,h7⟩:=Jp (HH.a.keep hs (fun _ _ _=>id)) hlt;have hoo:=HH.z l[k] (List.getElem_mem hlt);obtain⟨dsl,dcap,hdv,-,-,-⟩:=hoo.dv;rw[hdv]at h7;have hnx:=q8 hlt;have hb1:=hoo.s;have hb2:=hoo.t;have hb3:=hoo.d;unfold q5 at hnx;subst hg;obtain⟨os,hos⟩:∃os,os=l[k].s:=⟨_,rfl⟩;obtain⟨ot,hot⟩:∃ot,ot=l[k].t:=⟨_,rfl⟩;obtain⟨od,hod⟩:∃od,od=l[k].d:=⟨_,rfl⟩;rw[<- hos]at h5 hnx hb1;rw[<- hot]at h6 hnx hb2;rw[<- hod]at h7 hnx hb3;obtain⟨n,hn⟩:∃n,n=gi (l.take k):=⟨_,rfl⟩;rw[<- hn]at hnx hle ⊢;have hw1:wrap64 ((n:Int)+os.length)=(n:Int)+os.length:=IntWalk.wrap64_in _ (by omega);have hw2:wrap64 ((n:Int)+os.length+ot.length)=(n:Int)+os.length+ot.length:=IntWalk.wrap64_in _ (by omega);have hw3:wrap64 ((n:Int)+os.length+ot.length+od.length)=(n:Int)+os.length+ot.length+od.length:=IntWalk.wrap64_in _ (by omega);have HX:=Hq2 hnx hs;have hk4:k<=400:=by omega
    clear hnx hs hoo hdv hos hot hod hn;by_cases hbig:(60000:Int)<(n:Int)+os.length+ot.length+od.length
    ·have hfin:lO l=false:=by
      unfold lO;have h1:=vS l (k+1);rw[HX.a]at h1;rw[decide_eq_false (p:=gi l<=60000) (by omega),Bool.and_false]
     have HF:=qqH hfin;clear hfin;go_upto_region 7 with(fail);go_quiet (fail);go_wp2_with fail;exact bodyPost_ret (results_tmp rfl _ _ _) rfl ⟨by rw[HF.out];rfl,HX.z.drewN _⟩
    ·have hbig':¬(n:Int)+os.length+ot.length+od.length>60000:=hbig;go_upto_region 7 with(fail);go_quiet (fail);go_wp2_with fail;go_roundw
     case rel=>exact⟨k+1,by omega,by go_num,by rw[HX.a];go_num,by rw[HX.a];omega,HX.z.drewN _⟩
     case measure=>simp[intOf];omega
   ·obtain rfl:k=l.length:=by omega
    rw[List.take_length]at hle;have hfin:lO l=true:=by unfold lO;rw[decide_eq_true (by omega),decide_eq_true hle];rfl
    have HF:=qqH hfin;clear hfin;go_wp2_with fail;exact bodyPost_ret (results_tmp rfl _ _ _) rfl ⟨by rw[HF.out];rfl,hs⟩
theorem Gx{w:World}{sl:Option Addr}{l:List EntL}(h:ak w sl (l.flatMap cq)){i:Nat}(hi:i<l.length):∃g off,sl=some ⟨g,off,none⟩ /\
  w.cell? ⟨g,off+i*4,none⟩=some (str l[i].p)/\w.cell? ⟨g,off+i*4+1,none⟩=some (.int .i64 l[i].latest)/\w.cell? ⟨g,off+i*4+2,none⟩=some (.int .i64 l[i].size)/\w.cell? ⟨g,off+i*4+3,none⟩=some (.int .i64 l[i].n):=by
 obtain⟨g,off,e,hc⟩:=h (by rw[gn];omega)
 have key:∀j (hj:j<4) (v:Value),(cq l[i])[j]?=some v->w.cell? ⟨g,off+i*4+j,none⟩=some v:=by
  intro j hj v hv;have h1:=hc (i*4+j) (by rw[gn];omega);rw[<- Nat.add_assoc]at h1;rw[h1];have h2:=py l (i*4+j) (by omega);rw[show(i*4+j) / 4=i by omega,show(i*4+j)%4=j by omega]at h2;simp only[List.getElem!_toArray,getElem!_pos l i hi]at h2;rw[List.getElem?_eq_getElem (by rw[gn];omega)]at h2;rw[h2]
  have:(cq l[i])[j]! = v := by
   rw[List.getElem!_eq_getElem?_getD,hv];rfl
  rw[this]
 exact⟨g,off,e,key 0 (by omega) _ rfl,key 1 (by omega) _ rfl,key 2 (by omega) _ rfl,key 3 (by omega) _ rfl⟩
def qM(es rs:List EntL)(w:World)(e:Ending)(w':World):Prop:=∃b,e=.returned (.bool b)/\(es=rs->b=true)/\aX w w'
theorem pO(es rs:List EntL)(a1 a2:Option Addr)(c1 c2:Nat)(w:World)(h1:ak w a1 (es.flatMap cq))(h2:ak w a2 (rs.flatMap cq))(hx:es.length<=1000000)(hy:rs.length<=1000000):
  Calls Tryz.prog 91 #[.slice a1 es.length c1,.slice a2 rs.length c2] w (qM es rs w):=by
 have HH:=Hq2 h1 h2;clear h1 h2;go_enter Tryz.func91,Tryz.ntmps91;by_cases hl:es.length=rs.length
 ·have hlI:((es.length:Int) != (rs.length:Int))=false:=by simp[hl]
  have HL:=qqH hl;clear hl;go_wp2_with fail;go_loopw [5] (fun i wr=>∃k:Nat,k<=es.length/\i=.int .i64 k/\aX w wr) (fun i _=>es.length-(intOf i).toNat)
  case atStart=>exact⟨0,Nat.zero_le _,rfl,Mods.refl _ _⟩
  case round =>
   obtain⟨k,hk,rfl,hs⟩:=hrel;by_cases hlt:k<es.length
   ·obtain⟨g,off,hg,p0,p1,p2,p3⟩:=Gx (HH.a.keep hs (fun _ _ _=>id)) hlt;obtain⟨g',off',hg',q0,q1,q2,q3⟩:=Gx (HH.z.keep hs (fun _ _ _=>id)) (i:=k) (by rw[<- HL.out];exact hlt);have hkr:k<rs.length:=by rw[<- HL.out];exact hlt
    subst hg;subst hg';obtain⟨x,hxd⟩:∃x,x=es[k]:=⟨_,rfl⟩;obtain⟨y,hyd⟩:∃y,y=rs[k]:=⟨_,rfl⟩;rw[<- hxd]at p0 p1 p2 p3;rw[<- hyd]at q0 q1 q2 q3;obtain⟨xp,xl,xs,xn⟩:=x;obtain⟨yp,yl,ys,yn⟩:=y;simp only at p0 p1 p2 p3 q0 q1 q2 q3;have HX:=Hq3 hxd hyd hs;clear hxd hyd hs
    have hno:∀(h:¬(⟨xp,xl,xs,xn⟩:EntL)=⟨yp,yl,ys,yn⟩) (W:World),aX w W->qM es rs w (.returned (.bool false)) W:=fun h W hW=>⟨false,rfl,fun he=>by
     exfalso;apply h;have e1:=HX.a;have e2:=HX.b;subst he;rw[e1,e2],hW⟩
    have HNO:=qqH hno;clear hno;by_cases c1:xp=yp
    ·have c1':=c1.symm;clear c1;subst c1';by_cases c2:xl=yl
     ·subst c2;by_cases c3:xs=ys
      ·subst c3;by_cases c4:xn=yn
       ·subst c4;go_upto_region 6 with(fail);go_quiet (fail);go_wp2_with fail;go_roundw
        case rel=>exact⟨k+1,by omega,by go_num,HX.y.drewN _⟩
        case measure=>simp[intOf];omega
       ·have d4:(xn != yn)=true:=by simp[c4]
        go_upto_region 6 with(fail);go_quiet (fail);go_wp2_with fail;refine bodyPost_ret (results_tmp rfl _ _ _) rfl ?_;exact HNO.out (by simp[c4]) _ (HX.y.drewN _)
      ·have d3:(xs != ys)=true:=by simp[c3]
       go_upto_region 6 with(fail);go_quiet (fail);go_wp2_with fail;refine bodyPost_ret (results_tmp rfl _ _ _) rfl ?_;exact HNO.out (by simp[c3]) _ (HX.y.drewN _)
     ·have d2:(xl != yl)=true:=by simp[c2]
      go_upto_region 6 with(fail);go_quiet (fail);go_wp2_with fail;refine bodyPost_ret (results_tmp rfl _ _ _) rfl ?_;exact HNO.out (by simp[c2]) _ (HX.y.drewN _)
    ·have d1:(xp==yp)=false:=by simp[c1]
     go_upto_region 6 with(fail);go_quiet (fail);go_wp2_with fail;refine bodyPost_ret (results_tmp rfl _ _ _) rfl ?_;exact HNO.out (by simp[c1]) _ (HX.y.drewN _)
   ·obtain rfl:k=es.length:=by omega
    go_wp2_with fail;exact bodyPost_ret (results_tmp rfl _ _ _) rfl ⟨true,rfl,fun _=>rfl,hs⟩
 ·have hlI:((es.length:Int) != (rs.length:Int))=true:=by simp;omega
  go_wp2_with fail;exact bodyPost_ret (results_tmp rfl _ _ _) rfl ⟨false,rfl,fun he=>by subst he;exact absurd rfl hl,Mods.refl _ _⟩
structure WS where
 U:WorldL
 S:AS
 R:RefL
 P:fc
 M:List SlB
 O:Bs
def br(X:WS):HF:=bc X.P++(dl X.U.most X.M++aK X.U.out X.O)
def wsF(X:WS):HF:=(X.U.blk,Is (aC X.U))::(arF X.S++(aI X.R++br X))
def DV(w0:World)(P:fc)(x:SlB):Prop:=yj w0 x\/∃p∈P,∃sl cap,p.1=.slice sl p.2.length cap/\p.2.length<=cap/\cap<=9223372036854775807/\mj sl cap p.2 x
def jQ(P:fc)(v:Value)(b:Bs):Prop:=∃sl cap,v=.slice sl b.length cap/\(b=[]\/∃p∈P,∃g off c k,p.1=.slice (some ⟨g,off,none⟩) p.2.length c/\sl=some ⟨g,off+k,none⟩/\b=(p.2.drop k).take b.length)
theorem DV.at{w0 W:World}{P:fc}{G:HF}{x:SlB}(h:DV w0 P x)(hT:Turns [] G w0 W)(hp:Sat W (bc P))(hok:qb P):yj W x:=by
 rcases h with⟨sl,cap,e,h1,h2,hc⟩|⟨p,hm,sl,cap,e,h1,h2,h3⟩
 ·exact⟨sl,cap,e,h1,h2,hc.turns (by exact hT)⟩
 ·obtain⟨sl',cap',e',h1',hc,-⟩:=jZ hok hp (v:=p.1) (l:=p.2) hm;rw[e]at e';simp only[Value.slice.injEq,true_and]at e';obtain⟨rfl,rfl⟩:=e';exact h3.at hc h1 h2
theorem jQ.at{W:World}{P:fc}{v:Value}{b:Bs}(h:jQ P v b)(hp:Sat W (bc P))(hok:qb P):∃sl cap,v=.slice sl b.length cap/\ak W sl (b.map ao):=by
 obtain⟨sl,cap,e,h1⟩:=h;refine⟨sl,cap,e,?_⟩;rcases h1 with rfl|⟨p,hm,g,off,c,k,e1,e2,e3⟩
 ·exact eh _ _
 ·obtain⟨sl',cap',e',h1',hc,-⟩:=jZ hok hp (v:=p.1) (l:=p.2) hm;rw[e1]at e';simp only[Value.slice.injEq,true_and]at e';obtain⟨rfl,rfl⟩:=e'
  have hle:b.length<=p.2.length-k:=by
   have:=congrArg List.length e3;rw[List.length_take,List.length_drop]at this;omega
  intro hpos;rw[List.length_map]at hpos;have hpart:mj (some ⟨g,off,none⟩) (b.length+k) p.2 ⟨.slice (some ⟨g,off+k,none⟩) b.length b.length,b⟩:=⟨g,off,k,rfl,by simp,e3,by simp only;omega⟩;subst e2;refine⟨g,off+k,rfl,fun j hj=>?_⟩;rw[List.length_map]at hj;obtain⟨g',off',e5,h5⟩:=hc (by rw[List.length_map];omega);simp only[Option.some.injEq,Addr.mk.injEq,and_true]at e5;obtain⟨rfl,rfl⟩:=e5;rw[Nat.add_assoc,h5 (k+j) (by rw[List.length_map];omega)];simp only[List.getElem_map];congr 2;have:b[j]?=p.2[k+j]?:=by rw[e3,List.getElem?_take,if_pos hj,List.getElem?_drop]
  rw[List.getElem?_eq_getElem hj,List.getElem?_eq_getElem (by omega)]at this;exact(Option.some.inj this).symm
theorem DV.grow{w0:World}{P P':fc}{x:SlB}(h:DV w0 P x)(hp:∀x∈P,x∈P'):DV w0 P' x:=h.imp id (fun⟨p,hm,r⟩=>⟨p,hp p hm,r⟩)
theorem jQ.grow{P P':fc}{v:Value}{b:Bs}(h:jQ P v b)(hp:∀x∈P,x∈P'):jQ P' v b:=by
 obtain⟨sl,cap,e,h1⟩:=h;exact⟨sl,cap,e,h1.imp id (fun⟨p,hm,r⟩=>⟨p,hp p hm,r⟩)⟩
theorem pZ(P:fc):jQ P (.slice none 0 0) []:=⟨none,0,rfl,.inl rfl⟩
structure WsOk (w0 W:World) (X:WS):Prop where
 turns:Turns [] (wsF X) w0 W
 a:X.U.a=some X.S.a
 r:X.U.r=X.R.blk
 d:X.U.d=X.S.X.d
 ar:ArOk X.S
 ref:RefOk X.R
 pok:qb X.P
 inp:qL X.P X.R
 out:bOk X.U.out X.O
 want:jQ X.P X.U.want X.O
 most:uL X.U.most X.M
 ms:∀x∈X.M,DV w0 X.P x
 link:Link X.S X.R
 olen:X.O.length<=4000
theorem WsOk.pool{w0 W:World}{X:WS}(h:WsOk w0 W X):Sat W (bc X.P):=h.turns.sat.tail.right.right.left
theorem WsOk.refAt'{w0 W W':World}{X:WS}(h:WsOk w0 W X)(hl:X.R.vs.length<=100000)(hs:Sat W' (aI X.R++br X)):RefAt X.R X.P W' :=
 ⟨hs.left,h.ref,hs.right.left,h.pok,h.inp,hl,fun v hv=>by have:=(h.link.each v hv).2.2;omega⟩
def oO(o:OpL):Obj:=.cells (opV o).toArray 65 (0,0)
def opA(o:OpL):Value:=.agg (opV o).toArray
def EN(X:WS)(sp:List (Nat×Nat×Nat))(ov wv:Value)(D:Bs):WS:={ X with U:={ X.U with out:=ov,want:=wv },S:=kL X.S sp,O:=D }
theorem Fo{W:World}{P:fc}(hp:Sat W (bc P))(hok:qb P){v:Value}{l:Bs}(hm:(v,l)∈P):jQ P v l:=by
 obtain⟨sl,cap,e,-,hc,-⟩:=jZ hok hp hm;refine⟨sl,cap,e,?_⟩;by_cases hl:l=[]
 ·exact .inl hl
 ·obtain⟨g,off,e2,-⟩:=hc (by rw[List.length_map];exact List.length_pos_iff.2 hl);exact .inr ⟨_,hm,g,off,cap,0,by rw[e,e2],by rw[e2];rfl,by simp⟩
def Fr(n:Nat)(o:Obj):Prop:=∃cs:Array Value,o=.cells cs 5 (0,0)/\n<=cs.size/\∀j,j<n->∃x:Int,cs[j]?=some (.int .u8 x)
theorem Im{F G:HF}{a w:World}{v:Value}{D:Bs}(h:Turns F (aK v D++G) a w)(hok:bOk v D)(hne:D≠[]):∃g cap,v=.slice (some ⟨g,0,none⟩) D.length cap/\Turns F ((g,Fr D.length)::G) a w:=by
 rcases(dX h.sat.left hok).2 with⟨_,h2⟩|⟨g,cap,cur,rfl,-⟩
 ·exact absurd (List.length_eq_zero_iff.1 h2) hne
 ·have hT':Turns F ((g,fun o=>∃cap' cur,(.slice (some ⟨g,0,none⟩) D.length cap:Value)=.slice (some ⟨g,0,none⟩) D.length cap'/\o=.cells cur 5 (0,0)/\D.length<=cap'/\cap'<=maxLen/\cur.size=cap'*1/\cur.toList.take (D.length*1)=D.map ao)::G) a w:=h;obtain⟨o',⟨cap',cur,hv,rfl,h3,h4,h5,h6⟩,hp⟩:=hT'.pin;refine⟨g,cap,rfl,hp.Qm ⟨cur,rfl,by omega,fun j hj=>?_⟩⟩;have e1:cur[j]?=(D.map ao)[j]?:=by rw[<- h6,List.getElem?_take,if_pos (by omega),Array.getElem?_toList]
  rw[e1,List.getElem?_map,List.getElem?_eq_getElem hj];exact⟨_,rfl⟩
theorem Ip{F G:HF}{a w:World}{g n:Nat}(h:Turns F ((g,Fr n)::G) a w)(k:Nat)(y:Int):Turns F ((g,Fr n)::G) a (w.setCell ⟨g,k,none⟩ (.int .u8 y)):=by
 obtain⟨o,⟨cs,rfl,h1,h2⟩,hp⟩:=h.pin;refine(hp.Qa ((Mods.refl (fun k=>k=g) w).set1 _) (bt hp.sat.Q5 k _)).Qm ⟨_,rfl,by simpa using h1,fun j hj=>?_⟩;obtain⟨x,hx⟩:=h2 j hj;by_cases hjk:j=k
 ·subst hjk;exact⟨y,by rw[Array.getElem?_setIfInBounds_self_of_lt (by omega)]⟩
 ·exact⟨x,by rw[Array.getElem?_setIfInBounds_ne (by omega)];exact hx⟩
theorem Gc{F G:HF}{a w:World}{g n:Nat}(h:Turns F ((g,Fr n)::G) a w){k:Nat}(hk:k<n):∃x:Int,w.cell? ⟨g,k,none⟩=some (.int .u8 x)/\w.frozen? ⟨g,k,none⟩=false/\g<w.heap.size:=by
 obtain⟨o,⟨cs,rfl,h1,h2⟩,hp⟩:=h.pin;obtain⟨x,hx⟩:=h2 k hk;exact⟨x,aa hp.sat.Q5 k hx,aZ hp.sat.Q5 k,ah hp.sat.Q5⟩
theorem WsOk.outTo{w0 W W':World}{X:WS}(h:WsOk w0 W X){sp:List (Nat×Nat×Nat)}(hA:AreaOk { X.S.A with spare:=sp }){ov wv:Value}{D:Bs}(hov:bOk ov D)(hwv:jQ X.P wv D)(hD:D.length<=4000)(hT:Turns [] (wsF (EN X sp ov wv D)) w0 W'):WsOk w0 W' (EN X sp ov wv D) where
 turns:=hT
 a:=h.a
 r:=h.r
 d:=h.d
 ar:=h.ar.spare hA
 ref:=h.ref
 pok:=h.pok
 inp:=h.inp
 out:=hov
 want:=hwv
 most:=h.most
 ms:=h.ms
 link:=h.link.spare sp
 olen:=hD
theorem fp(n:Int)(w:World):Calls Tryz.prog 41 #[.int .i64 n] w (fun e w'=>e=.returned (.int .i64 n)/\w'=w):=by
 go_enter Tryz.func41,Tryz.ntmps41;go_wp2_with fail;exact bodyPost_ret (results_tmp rfl _ _ _) rfl ⟨rfl,rfl⟩
theorem I3(F1 Z:HF)(A:World)(ub ob:Nat)(U:WorldL)(o:OpL)(φ:Value->HF->Prop){Q:Exit->Act->World->Prop}{w:World}{u1 u2 u4 u5 u6 u7 u8 u9 aS aT ab ad ag aj ar av ax a0 a1 a2 a3 a4 a5 a6 a7 a9 bY bg bj bk bo bs bv bx b0 b1 b2 b3 b4 b6 b7 b9 ca cb cc ch ci cj cl cm cp cs ct cu cv cx c0 c1 c2 c3 c4 c5 c6 c7 dO dT df dn dp d0 d1 d2 d3 d4 d5 d6 d7 eA eC eQ eR eU eW eX ea eb ec eg el em en ep es ev e0 e1 e2 e3 fs fv fz f0 f1 f2 f3 f4 f5 f6 f7 f8 f9 gD gb gg gp gs gu gx g0 g1 g2 g3 g4 g5 g6 g7 hB hD hE hF hG hH hI hJ hL hM hN hO hP hQ hR hU hV hW hX hY hZ ha hb hc hf hg hh hi hj hl hm hn ho hq hr ht hu hv hw hx hy hz h7 iF iN iS id ih ii i0 i1 i2 i3 j1 j2 j3 j4 kU ka kc ke kk kl ks kv k0 k1 k2 k3 k4 k5 k6 k7 k8 k9 la lb lc le lg lo ls lt lv lx l1 l2 l3 l4 l9 mb md mk ml mm ms mv m1 m2 m3 m4 m5 m6 m7 nE na nb nc nd ne nk nn no np nq nr ns nt nv nw n0 n1 n2 n3 n4 n6 n7 n8 oF oN oR oa oc od oj ok op os ot ov o0 o1 o2 o3 o4 o5 o6 o7 pb pc pe pk pl pm ps p0 p1 p2 p3 p4 p5 p6 p7:Value}{ds:List Deferred}(hT:Turns F1 ((ub,Is (aC U))::(ob,Is (oO o))::Z) A w)(hcall:∀W,Turns F1 ((ub,Is (aC U))::(ob,Is (oO o))::Z) A W->Calls Tryz.prog 61 #[U.most,o.dv] W (fun e W'=>∃v,e=.returned v/\∃G,φ v G/\Turns F1 ((ub,Is (aC U))::(ob,Is (oO o))::G) A W'))(hone:∀v G W,φ v G->Turns F1 ((ub,Is (aC U))::(ob,Is (oO o))::G) A W->v.oneCell'=true/\v.cells=#[v])(hk:∀(e4 e5 e6 e7 e8 e9 fE fl fn fr:Value) (w':World),(∃G,φ fl G/\Turns F1 ((ub,Is (aC { U with most:=fl }))::(ob,Is (oO o))::G) A w')->Q .normal { tmps:=#[.pointer (some ⟨ub,0,none⟩),u1,u2,.pointer (some ⟨ob,0,none⟩),u4,u5,u6,u7,u8,u9,aS,aT,ab,ad,ag,aj,ar,av,ax,a0,a1,a2,a3,a4,a5,a6,a7,a9,bY,bg,bj,bk,bo,bs,bv,bx,b0,b1,b2,b3,b4,b6,b7,b9,ca,cb,cc,ch,ci,cj,cl,cm,cp,cs,ct,cu,cv,cx,c0,c1,c2,c3,c4,c5,c6,c7,dO,dT,df,dn,dp,d0,d1,d2,d3,d4,d5,e4,e5,e6,e7,e8,e9,fE,fl,fn,fr,eb,ec,eg,el,em,en,ep,es,ev,e0,e1,e2,e3,fs,fv,fz,f0,f1,f2,f3,f4,f5,f6,f7,f8,f9,gD,gb,gg,gp,gs,gu,gx,g0,g1,g2,g3,g4,g5,g6,g7,hB,hD,hE,hF,hG,hH,hI,hJ,hL,hM,hN,hO,hP,hQ,hR,hU,hV,hW,hX,hY,hZ,ha,hb,hc,hf,hg,hh,hi,hj,hl,hm,hn,ho,hq,hr,ht,hu,hv,hw,hx,hy,hz,h7,iF,iN,iS,id,ih,ii,i0,i1,i2,i3,j1,j2,j3,j4,kU,ka,kc,ke,kk,kl,ks,kv,k0,k1,k2,k3,k4,k5,k6,k7,k8,k9,la,lb,lc,le,lg,lo,ls,lt,lv,lx,l1,l2,l3,l4,l9,mb,md,mk,ml,mm,ms,mv,m1,m2,m3,m4,m5,m6,m7,nE,na,nb,nc,nd,ne,nk,nn,no,np,nq,nr,ns,nt,nv,nw,n0,n1,n2,n3,n4,n6,n7,n8,oF,oN,oR,oa,oc,od,oj,ok,op,os,ot,ov,o0,o1,o2,o3,o4,o5,o6,o7,pb,pc,pe,pk,pl,pm,ps,p0,p1,p2,p3,p4,p5,p6,p7],defers:=ds } w'):
  (iq 15 Tryz.f23).wp Tryz.prog Q { tmps:=#[.pointer (some ⟨ub,0,none⟩),u1,u2,.pointer (some ⟨ob,0,none⟩),u4,u5,u6,u7,u8,u9,aS,aT,ab,ad,ag,aj,ar,av,ax,a0,a1,a2,a3,a4,a5,a6,a7,a9,bY,bg,bj,bk,bo,bs,bv,bx,b0,b1,b2,b3,b4,b6,b7,b9,ca,cb,cc,ch,ci,cj,cl,cm,cp,cs,ct,cu,cv,cx,c0,c1,c2,c3,c4,c5,c6,c7,dO,dT,df,dn,dp,d0,d1,d2,d3,d4,d5,d6,d7,eA,eC,eQ,eR,eU,eW,eX,ea,eb,ec,eg,el,em,en,ep,es,ev,e0,e1,e2,e3,fs,fv,fz,f0,f1,f2,f3,f4,f5,f6,f7,f8,f9,gD,gb,gg,gp,gs,gu,gx,g0,g1,g2,g3,g4,g5,g6,g7,hB,hD,hE,hF,hG,hH,hI,hJ,hL,hM,hN,hO,hP,hQ,hR,hU,hV,hW,hX,hY,hZ,ha,hb,hc,hf,hg,hh,hi,hj,hl,hm,hn,ho,hq,hr,ht,hu,hv,hw,hx,hy,hz,h7,iF,iN,iS,id,ih,ii,i0,i1,i2,i3,j1,j2,j3,j4,kU,ka,kc,ke,kk,kl,ks,kv,k0,k1,k2,k3,k4,k5,k6,k7,k8,k9,la,lb,lc,le,lg,lo,ls,lt,lv,lx,l1,l2,l3,l4,l9,mb,md,mk,ml,mm,ms,mv,m1,m2,m3,m4,m5,m6,m7,nE,na,nb,nc,nd,ne,nk,nn,no,np,nq,nr,ns,nt,nv,nw,n0,n1,n2,n3,n4,n6,n7,n8,oF,oN,oR,oa,oc,od,oj,ok,op,os,ot,ov,o0,o1,o2,o3,o4,o5,o6,o7,pb,pc,pe,pk,pl,pm,ps,p0,p1,p2,p3,p4,p5,p6,p7],defers:=ds } w:=by
 have HM:=qqH (show Tryz.prog.follows .mixedOrders=true by kernel_rfl);conv=>arg 2;whnf
 refine cB (A:=?A) (hA:=?hA) HM.out (iT [fun v=>v=.pointer (some ⟨ub,0,none⟩),fun v=>v=.pointer (some ⟨ub,0,none⟩),fun v=>v=.pointer (some ⟨ub,0,none⟩),fun v=>v=.pointer (some ⟨ub,5,none⟩),fun v=>v=U.most,fun v=>v=.pointer (some ⟨ob,6,none⟩),fun v=>v=o.dv,fun _=>True,fun v=>v=.pointer (some ⟨ub,0,none⟩),fun v=>v=.pointer (some ⟨ub,5,none⟩),fun _=>True])
  (fun vs1 W=>match vs1 with
  | []=>Turns F1 ((ub,Is (aC U))::(ob,Is (oO o))::Z) A W
  | [v]=>∃G,φ v G/\Turns F1 ((ub,Is (aC U))::(ob,Is (oO o))::G) A W
  | [v,_]=>∃G,φ v G/\Turns F1 ((ub,Is (aC { U with most:=v }))::(ob,Is (oO o))::G) A W
  | _=>False)
  (fun W=>W.cell? ⟨ub,5,none⟩=some U.most/\W.cell? ⟨ob,6,none⟩=some o.dv) [7,10] ?hC (by kernel_rfl) (by kernel_rfl) (by kernel_rfl) (by decide) (by decide) ?h0 ?hs ?he
 case hA=>intro x;simp only[aw,Act.put,List.setIfInBounds_toArray,List.set_cons_zero,List.set_cons_succ,Nat.reduceAdd];rfl
 case hs =>
  refine⟨ac rfl rfl (fun x wq hd hC K hK hKw=>?_),ac rfl rfl (fun x wq hd hC K hK hKw=>?_),ac rfl rfl (fun x wq hd hC K hK hKw=>?_),ac rfl rfl (fun x wq hd hC K hK hKw=>?_),ac rfl rfl (fun x wq hd hC K hK hKw=>?_),ac rfl rfl (fun x wq hd hC K hK hKw=>?_),ac rfl rfl (fun x wq hd hC K hK hKw=>?_),au 0 rfl rfl (fun x wq hd hS K hK=>?_),ac rfl rfl (fun x wq hd hC K hK hKw=>?_),ac rfl rfl (fun x wq hd hC K hK hKw=>?_),au 1 rfl rfl (fun x wq hd hS K hK=>?_),trivial⟩
  ·exact am (by kernel_rfl) (hK _ rfl)
  ·exact am (by kernel_rfl) (hK _ rfl)
  ·have h1:x 1=.pointer (some ⟨ub,0,none⟩):=ae hd 1 (by kernel_rfl);exact am (by rw[h1];kernel_rfl) (hK _ rfl)
  ·have h2:x 2=.pointer (some ⟨ub,0,none⟩):=ae hd 2 (by kernel_rfl);exact am (by rw[h2];kernel_rfl) (hK _ rfl)
  ·have h3:x 3=.pointer (some ⟨ub,5,none⟩):=ae hd 3 (by kernel_rfl);exact bD Tryz.underlying61 rfl rfl (by rw[h3];rfl) (hC.1) (hK _ rfl)
  ·exact am (by kernel_rfl) (hK _ rfl)
  ·have h5:x 5=.pointer (some ⟨ob,6,none⟩):=ae hd 5 (by kernel_rfl);exact bD Tryz.underlying38 rfl rfl (by rw[h5];rfl) (hC.2) (hK _ rfl)
  ·have h4:x 4=U.most:=ae hd 4 (by kernel_rfl);have h6:x 6=o.dv:=ae hd 6 (by kernel_rfl);refine bd (by rw[h4,h6];kernel_rfl) (hcall wq hS) ?_;rintro e w' ⟨v,rfl,G,hp,hT'⟩;exact⟨v,rfl,hK v w' trivial ⟨G,hp,hT'⟩⟩
  ·have h0:x 0=.pointer (some ⟨ub,0,none⟩):=ae hd 0 (by kernel_rfl);exact am (by rw[h0];kernel_rfl) (hK _ rfl)
  ·have h8:x 8=.pointer (some ⟨ub,0,none⟩):=ae hd 8 (by kernel_rfl);exact am (by rw[h8];kernel_rfl) (hK _ rfl)
  ·have h9:x 9=.pointer (some ⟨ub,5,none⟩):=ae hd 9 (by kernel_rfl);obtain⟨G,hp,hT'⟩:=hS;obtain⟨ho1,ho2⟩:=hone _ _ _ hp hT';refine bi 61 (.tmp 86) (.tmp 84) rfl ub 5 (bn U) 63 (x 7) hT' (by rw[h9];rfl) rfl (by simp[bn]) (by kernel_rfl) ho1 ho2 (fun w' hT2=>hK _ w' trivial ⟨G,hp,hT2⟩)
 case hC =>
  intro vs1 W hlt hS;match vs1,hS,hlt with
  | [],hT,_=>exact⟨aa hT.sat.Q5 5 rfl,aa hT.sat.tail.Q5 6 rfl⟩
  | [_],⟨_,_,hT⟩,_=>exact⟨aa hT.sat.Q5 5 rfl,aa hT.sat.tail.Q5 6 rfl⟩
  | [_,_],_,hlt=>exact absurd hlt (Nat.lt_irrefl _)
 case h0 =>
  exact hT.drew
 case he =>
  intro x w3 hφ hS;exact hk (x 0) (x 1) (x 2) (x 3) (x 4) (x 5) (x 6) (x 7) (x 8) (x 9) w3 hS
end
section
section
variable {P:Program} {w:World}
def Gh(ops:Array Oper)(n:Nat):Bool:=(List.range ops.size).all fun t=>decide (t<=n) || (List.range t).any fun j=>decide (n<=j)&&Region.waitsFor .any ops t j
def Jn(l:List Oper)(n:Nat):Bool :=
 (l.take (n+1)).all (fun o=>o.guard.isNone)&&(List.range (n+1)).all (fun i=>(l[i]?).all fun o=>o.after.toList.all fun e => !Region.binds .any e || decide (e.on<i))&&decide (n<l.length)&&Gh l.toArray n &&
 Region.lexTailB .any (l.take (n+1)).toArray n&&Region.noSelect l.toArray&&Region.lexFrom .any l.toArray (l.length-(n+1)) (n+1) (Array.replicate (n+1) true++Array.replicate (l.length-(n+1)) false)
theorem zg(c:Array Bool)(m k:Nat):(c++Array.replicate m false).getD k false=c.getD k false:=by
 rcases Nat.lt_or_ge k c.size with h|h
 ·simp[Array.getElem?_append,h]
 ·rcases Nat.lt_or_ge (k-c.size) m with h2|h2
  ·simp[Array.getElem?_append,Nat.not_lt.2 h,h2]
  ·have:¬k<c.size+m:=by omega
   simp[Array.getElem?_append,Nat.not_lt.2 h,Nat.not_lt.2 h2]
theorem Gd{c:Array Bool}{m k:Nat}{x:Bool}(h:k<c.size):(c++Array.replicate m false).getD k x=c.getD k x:=by simp[Array.getElem?_append,h]
theorem nz{l:List Oper}{n m:Nat}(_:n<l.length){c:Array Bool}(hc:c.size=n+1){i:Nat}(hi:i<=n):i∈Region.ready .any l.toArray (c++Array.replicate m false)↔i∈Region.ready .any (l.take (n+1)).toArray c:=by
 have e:(l.take (n+1)).toArray[i]?=l.toArray[i]?:=by simp[Nat.lt_succ_of_le hi]
 rw[mem_ready,mem_ready,e,Gd (by omega)];simp only[zg]
theorem vZ{l:List Oper}{n m:Nat}{c:Array Bool}(hc:c.size=n+1)(hb:Gh l.toArray n=true){i:Nat}(hi:n<i)(h:i∈Region.ready .any l.toArray (c++Array.replicate m false)):c.getD n false=true:=by
 obtain⟨-,o,h2,h3⟩:=mem_ready.1 h;have hil:i<l.toArray.size:=(Array.getElem?_eq_some_iff.1 h2).1;have h4:=List.all_eq_true.1 hb i (List.mem_range.2 hil);simp only[Bool.or_eq_true,decide_eq_true_eq,Nat.not_le.2 hi,false_or]at h4;obtain⟨j,hj,hj2⟩:=List.any_eq_true.1 h4;simp only[Bool.and_eq_true,decide_eq_true_eq]at hj2;obtain⟨o',ho',e,he,hbi,rfl⟩:=Region.waitsFor_spec hj2.2;obtain rfl:=Option.some.inj (h2.symm.trans ho');have h5:=h3 e he hbi;rw[zg]at h5
 have:e.on<c.size:=by
  rcases Nat.lt_or_ge e.on c.size with h|h
  ·exact h
  ·simp[Array.getElem?_eq_none h]at h5
 have:e.on=n:=by omega
 rw[<- this];exact h5
theorem DA{c r:Array Bool}{i:Nat}(h:i<c.size):(c++r).setIfInBounds i true=c.setIfInBounds i true++r:=by rw[Array.setIfInBounds_append_left h]
theorem Fb{l:List Oper}{n i:Nat}{K:Act->Prop}{a:Act}(hi:i<=n)(hg:∀o∈l.take (n+1),o.guard=none)(h:stOp P (l.take (n+1)).toArray w i K a):stOp P l.toArray w i K a:=by
 have e:(l.take (n+1)).toArray[i]?=l.toArray[i]?:=by simp[Nat.lt_succ_of_le hi]
 unfold stOp at h ⊢;rw[<- e];split at h
 ·exact h
 ·rename_i o ho
  have hm:o∈l.take (n+1):=by
   have:(l.take (n+1))[i]?=some o:=by simpa using ho
   exact List.mem_of_getElem? this
  have hw:∀y,Region.wanted o y=true:=fun y=>by simp[Region.wanted,hg o hm]
  rw[hw]at h ⊢;exact h
theorem Dg{l:List Oper}{n m g:Nat}{Q:Exit->Act->World->Prop}{L:Array Bool->Act->Prop}(hn:n<l.length)(hb:Gh l.toArray n=true)(hg:∀o∈l.take (n+1),o.guard=none)(hL:∀c a,c.size=n+1->c.getD n false=false->L c a->wpAny P .any l.toArray Q g (c++Array.replicate m false) a w):∀(f:Nat) (c:Array Bool) (a:Act),c.size=n+1->c.getD n false=false->wpAnyL P .any (l.take (n+1)).toArray w n L f c a->wpAny P .any l.toArray Q (f+g) (c++Array.replicate m false) a w
 | 0,c,a,hc,hu,h=>by rw[Nat.zero_add];exact hL c a hc hu h
 | f+1,c,a,hc,hu,h=>by
  rw[show f+1+g=(f+g)+1 by omega]
  obtain⟨i0,hi0⟩:=List.exists_mem_of_ne_nil _ h.1
  refine⟨fun h0=>?_,fun i hi=>?_⟩
  ·have h1:=(nz (m:=m) hn hc (by have:=(h.2 i0 hi0).1;omega)).2 hi0
   rw[h0]at h1;cases h1
  ·rcases Nat.lt_or_ge n i with hlt|hle
   ·have:=vZ hc hb hlt hi
    rw[hu]at this;cases this
   ·obtain⟨h1,h2⟩:=h.2 i ((nz hn hc hle).1 hi)
    refine wpOp_of_stOp (fun a' h'=>?_) (Fb hle hg h2)
    rw[DA (by omega)]
    exact Dg hn hb hg hL f _ a' (by simp[hc]) (by rw[getD_set_ne false (by omega)];exact hu) h'
theorem A5{ops:Array Oper}{c:Array Bool}(hb:∀i o,ops[i]?=some o->∀e∈o.after,Region.binds .any e=true->e.on<i)(h:Region.ready .any ops c=[])(hc:c.size=ops.size):∀i,i<c.size->c.getD i false=true:=by
 intro i;induction i using Nat.strongRecOn with
 | _ i ih =>
  intro hi
  cases hl:c.getD i false with
  | true=>rfl
  | false =>
   exfalso;have ho:ops[i]?=some ops[i]:=Array.getElem?_eq_getElem (by omega);have:i∈Region.ready .any ops c:=mem_ready.2 ⟨getD_in hi hl,_,ho,fun e he hbi=>ih e.on (hb i _ ho e he hbi) (by have:=hb i _ ho e he hbi;omega)⟩;rw[h]at this;cases this
theorem bb{id:Nat}{Q:Exit->Act->World->Prop}{a:Act}{l:List Oper}{o:Oper}(n:Nat)(hm:P.follows .mixedOrders=true)(hB:Jn l n=true)(ho:l[n]?=some o)(h:wpStill P (l.take (n+1)).toArray w.drew (fun a'=>o.wp P a' w.drew (fun a2 w2=>wpStill P l.toArray w2 (fun a3=>Q .normal a3 w2) (l.drop (n+1)) a2) Q) (l.take n) a):(Code.region id l.toArray true).wp P Q a w:=by
 simp only[Jn,Bool.and_eq_true,decide_eq_true_eq]at hB;obtain⟨⟨⟨⟨⟨⟨hgu,hba⟩,hn⟩,hbk⟩,hlt⟩,hns⟩,hlf⟩:=hB;have hg:∀o∈l.take (n+1),o.guard=none:=fun o ho=>by simpa using List.all_eq_true.1 hgu o ho
 simp only[Region.lexTailB,Bool.and_eq_true,decide_eq_true_eq]at hlt;obtain⟨⟨⟨⟨hsel,hn1⟩,hs⟩,hch⟩,hlex⟩:=hlt;have hsz:(l.take (n+1)).toArray.size=n+1:=by simp;omega
 have htl:(l.take n).length=n:=by simp;omega
 rw[hsz]at hlex hn1
 have inv0:HeadInv .any (l.take (n+1)).toArray n (Array.replicate (n+1) false) :=
  ⟨by rw[hsz];simp,fun j oj _ hl=>(by rw[getD_replicate_false]at hl;cases hl),fun t _ ht=>getD_in (by rw[hsz]at ht;simpa using ht) (getD_replicate_false _ _)⟩
 have H:=wpAnyL_lex (P:=P) (md:=.any) (w:=w.drew) (g:=n+1-n) hsel hs hch (by omega) (l.take n) 0 (Array.replicate (n+1) false) a (fun j hj=>by
  rw[htl]at hj;simp[hj,Nat.lt_succ_of_lt hj]) (by simpa using htl) inv0 (by rw[htl];exact hlex) h
 rw[htl,show n+1-n=1 by omega]at H;obtain⟨m,hmm⟩:∃m,m=l.length-(n+1):=⟨_,rfl⟩
 have hrep:Array.replicate l.toArray.size false=Array.replicate (n+1) false++Array.replicate m false:=by
  rw[Array.replicate_append_replicate];congr 1;simp;omega
 refine wp_region_any hm ?_;rw[hrep,show l.toArray.size=n+(1+m) by simp;omega];refine Dg hn hbk hg (fun c a' hc hu hL=>?_) n _ a (by simp) (getD_replicate_false _ _) H;obtain⟨hq,hw⟩:=hL;simp only[Region.seqB,Bool.and_eq_true,decide_eq_true_eq,List.isEmpty_iff]at hq
 have hall:c.setIfInBounds n true=Array.replicate (n+1) true:=by
  have h1:=A5 (ops:=(l.take (n+1)).toArray) (c:=c.setIfInBounds n true) (fun i o' ho' e he hbi=>by
   have hi:i<n+1:=by have:=(Array.getElem?_eq_some_iff.1 ho').1;omega
   have h2:=List.all_eq_true.1 hba i (List.mem_range.2 hi);have h3:l[i]?=some o':=by simpa[List.getElem?_take,hi]using ho'
   rw[h3]at h2;simp only[Option.all_some]at h2;have h4:=List.all_eq_true.1 h2 e (by simpa using he);simpa[hbi]using h4) hq.2 (by rw[hsz];simpa using hc)
  refine Array.ext (by simp[hc]) fun i hi1 hi2=>?_
  have h2:=h1 i hi1;rw[Array.getElem_replicate];rw[Array.getD_eq_getD_getElem?,Array.getElem?_eq_getElem hi1]at h2;exact h2
 have hwn:∀y,Region.wanted o y=true:=fun y=>by
  have:o∈l.take (n+1):=by
   have h1:(l.take (n+1))[n]?=some o:=by simpa[List.getElem?_take]using ho
   exact List.mem_of_getElem? h1
  simp[Region.wanted,hg o this]
 have hon:l.toArray[n]?=some o:=by simpa using ho
 rw[Nat.add_comm 1 m];refine⟨fun h0=>?_,fun i hi=>?_⟩
 ·have:n∈Region.ready .any l.toArray (c++Array.replicate m false):=(nz hn hc (Nat.le_refl n)).2 (by rw[hq.1];simp);rw[h0]at this;cases this
 ·have hin:i=n:=by
   rcases Nat.lt_or_ge n i with hlt|hle
   ·have:=vZ hc hbk hlt hi;rw[hu]at this;cases this
   ·have:=(nz hn hc hle).1 hi;rw[hq.1]at this;simpa using this
  subst hin;unfold wpOp;simp only[hon,hwn,if_true];refine .inl (Oper.wp_mono (fun a2 w2 h2=>?_) hw);rw[DA (by omega),hall];have h3:=wpAnyS_lex (P:=P) (md:=.any) (w:=w2) hns (l.drop (i+1)) (i+1) (Array.replicate (i+1) true++Array.replicate m false) a2 (fun j=>by simp[List.getElem?_drop]) (by rw[List.length_drop,<- hmm];rw[<- hmm]at hlf;exact hlf) h2;rw[List.length_drop,<- hmm]at h3;exact wpAny_of_still (fun _ h=>h) _ _ _ h3
end
end
section
open Go.RowKit Go.Maps
theorem mJ(vs:List RVer)(v:RVer)(p:Bs):aL (vs++[v]) p=aL vs p++(if v.path=p then[v]else[]):=by
 unfold aL;rw[List.filter_append];congr 1;by_cases h:v.path=p<;>simp[h]
def qV(vs:List RVer)(p:Bs):EntL:=⟨p,((aL vs p).getLast?.map (·.num)).getD 0,((aL vs p).getLast?.map (fun v=>(v.cont.length:Int))).getD 0,(aL vs p).length⟩
structure EntInv (pre:Bs) (vs:List RVer) (es:List EntL):Prop where
 asc:es.Pairwise (fun a b=>bO a.p b.p=true)
 ent:∀e∈es,pre.isPrefixOf e.p=true/\(∃v∈vs,v.path=e.p)/\e=qV vs e.p
 all:∀v∈vs,pre.isPrefixOf v.path=true->∃e∈es,e.p=v.path
theorem mz{vs:List RVer}{v:RVer}{p:Bs}(h:¬v.path=p):qV (vs++[v]) p=qV vs p:=by
 unfold qV;rw[mJ,if_neg h,List.append_nil]
theorem oA{vs:List RVer}{v:RVer}:qV (vs++[v]) v.path=⟨v.path,v.num,v.cont.length,(aL vs v.path).length+1⟩:=by
 unfold qV;rw[mJ,if_pos rfl];simp
theorem EntInv.step{pre:Bs}{vs:List RVer}{es:List EntL}(h:EntInv pre vs es){v:RVer}(hs:∀u∈vs,bO v.path u.path=false):EntInv pre (vs++[v]) (gF pre es v):=by
 unfold gF;by_cases hp:pre.isPrefixOf v.path=true
 ·rw[if_pos hp]
  have hle:∀e∈es,bO v.path e.p=false:=fun e he=>by
   obtain⟨u,hu,e1⟩:=(h.ent e he).2.1;rw[<- e1];exact hs u hu
  rcases List.eq_nil_or_concat es with rfl|⟨es0,e,rfl⟩
  ·have hno:aL vs v.path=[]:=by
    unfold aL;rw[List.filter_eq_nil_iff];intro u hu;simp only[decide_eq_true_eq];intro e1;obtain⟨x,hx,-⟩:=h.all u hu (by rw[e1];exact hp)
    cases hx
   have e1:mA (eI [] v.path) v.num v.cont.length=[⟨v.path,v.num,v.cont.length,0+1⟩]:=rfl;rw[e1];refine⟨List.pairwise_singleton _ _,fun e he=>?_,fun u hu hpu=>?_⟩
   ·obtain rfl:=List.mem_singleton.1 he;refine⟨hp,⟨v,by simp,rfl⟩,?_⟩;simp only;rw[oA,hno];rfl
   ·rcases List.mem_append.1 hu with hu|hu
    ·obtain⟨x,hx,-⟩:=h.all u hu hpu;cases hx
    ·obtain rfl:=List.mem_singleton.1 hu;exact⟨_,List.mem_singleton.2 rfl,rfl⟩
  ·rw[List.concat_eq_append]at h hle ⊢;have hpw:=List.pairwise_append.1 h.asc;by_cases hep:e.p=v.path
   ·have e1:eI (es0++[e]) v.path=es0++[e]:=by unfold eI;rw[if_pos (by simp[hep])]
    rw[e1,ko];have hn:=(h.ent e (by simp)).2.2;have hen:e.n=((aL vs v.path).length:Nat):=by rw[hn,<- hep];rfl
    have hlt:∀x∈es0,bO x.p v.path=true:=fun x hx=>by have:=hpw.2.2 x hx e (by simp);rw[hep]at this;exact this
    refine⟨List.pairwise_append.2 ⟨hpw.1,List.pairwise_singleton _ _,fun x hx y hy=>?_⟩,fun x hx=>?_,fun u hu hpu=>?_⟩
    ·obtain rfl:=List.mem_singleton.1 hy;simp only;rw[hep];exact hlt x hx
    ·rcases List.mem_append.1 hx with hx|hx
     ·obtain⟨a1,⟨u,hu,a2⟩,a3⟩:=h.ent x (by simp[hx]);refine⟨a1,⟨u,by simp[hu],a2⟩,?_⟩;rw[mz]
      ·exact a3
      ·intro e2;have:=hlt x hx;rw[e2,cd]at this;cases this
     ·obtain rfl:=List.mem_singleton.1 hx;refine⟨by simp only;rw[hep];exact hp,⟨v,by simp,hep.symm⟩,?_⟩;simp only;rw[hep,oA,hen]
    ·rcases List.mem_append.1 hu with hu|hu
     ·obtain⟨x,hx,a1⟩:=h.all u hu hpu;rcases List.mem_append.1 hx with hx|hx
      ·exact⟨x,by simp[hx],a1⟩
      ·obtain rfl:=List.mem_singleton.1 hx;exact⟨_,List.mem_append_right _ (List.mem_singleton.2 rfl),a1⟩
     ·obtain rfl:=List.mem_singleton.1 hu;exact⟨_,List.mem_append_right _ (List.mem_singleton.2 rfl),hep⟩
   ·have e1:eI (es0++[e]) v.path=es0++[e]++[⟨v.path,0,0,0⟩]:=by unfold eI;rw[if_neg (by simp[hep])]
    rw[e1,ko]
    have hlt:∀x∈es0++[e],bO x.p v.path=true:=fun x hx=>by
     cases hb:bO x.p v.path with
     | true=>rfl
     | false =>
      have hxe:=jS _ _ hb (hle x hx);exfalso;rcases List.mem_append.1 hx with hx2|hx2
      ·have h2:=hpw.2.2 x hx2 e (by simp);rw[hxe]at h2;have:=hle e (by simp);rw[h2]at this;cases this
      ·obtain rfl:=List.mem_singleton.1 hx2;exact hep hxe
    have hno:aL vs v.path=[]:=by
     unfold aL;rw[List.filter_eq_nil_iff];intro u hu;simp only[decide_eq_true_eq];intro e2;obtain⟨x,hx,e3⟩:=h.all u hu (by rw[e2];exact hp);have:=hlt x hx;rw[e3,e2,cd]at this;cases this
    refine⟨List.pairwise_append.2 ⟨h.asc,List.pairwise_singleton _ _,fun x hx y hy=>?_⟩,fun x hx=>?_,fun u hu hpu=>?_⟩
    ·obtain rfl:=List.mem_singleton.1 hy;exact hlt x hx
    ·rcases List.mem_append.1 hx with hx|hx
     ·obtain⟨a1,⟨u,hu,a2⟩,a3⟩:=h.ent x hx;refine⟨a1,⟨u,by simp[hu],a2⟩,?_⟩;rw[mz]
      ·exact a3
      ·intro e2;have:=hlt x hx;rw[e2,cd]at this;cases this
     ·obtain rfl:=List.mem_singleton.1 hx;refine⟨hp,⟨v,by simp,rfl⟩,?_⟩;simp only;rw[oA,hno];rfl
    ·rcases List.mem_append.1 hu with hu|hu
     ·obtain⟨x,hx,a1⟩:=h.all u hu hpu;exact⟨x,List.mem_append_left _ hx,a1⟩
     ·obtain rfl:=List.mem_singleton.1 hu;exact⟨_,List.mem_append_right _ (List.mem_singleton.2 rfl),rfl⟩
 ·rw[if_neg hp];refine⟨h.asc,fun e he=>?_,fun u hu hpu=>?_⟩
  ·obtain⟨a1,⟨u,hu,a2⟩,a3⟩:=h.ent e he;refine⟨a1,⟨u,by simp[hu],a2⟩,?_⟩;rw[mz]
   ·exact a3
   ·intro e2;rw[e2]at hp;exact hp a1
  ·rcases List.mem_append.1 hu with hu|hu
   ·exact h.all u hu hpu
   ·obtain rfl:=List.mem_singleton.1 hu;exact absurd hpu hp
theorem vB(pre:Bs){vs:List RVer}(hs:vs.Pairwise (fun a b=>bO b.path a.path=false)):∀k,k<=vs.length->EntInv pre (vs.take k) (go pre (vs.take k))
 | 0,_=>⟨List.Pairwise.nil,(fun e he=>by cases he),(fun v hv=>by cases hv)⟩
 | k+1,hk=>by
  rw[sG (by omega),List.take_succ_eq_append_getElem (by omega)]
  refine(vB pre hs k (by omega)).step (fun u hu=>?_)
  have h1:=List.pairwise_iff_getElem.1 hs
  obtain⟨i,hi,rfl⟩:=List.getElem_of_mem hu
  rw[List.length_take]at hi
  rw[List.getElem_take]
  exact h1 i k (by omega) (by omega) (by omega)
theorem Em(pre:Bs){vs:List RVer}(hs:vs.Pairwise (fun a b=>bO b.path a.path=false)):EntInv pre vs (go pre vs):=by
 have:=vB pre hs vs.length (Nat.le_refl _);rwa [List.take_length]at this
theorem wb:∀{l m:List EntL},l.Pairwise (fun a b=>bO a.p b.p=true)->m.Pairwise (fun a b=>bO a.p b.p=true)->(∀x,x∈l↔x∈m)->l=m
 | [],[],_,_,_=>rfl
 | [],b::m,_,_,h=>by have:=(h b).2 (by simp);cases this
 | a::l,[],_,_,h=>by have:=(h a).1 (by simp);cases this
 | a::l,b::m,hl,hm,h=>by
  rw[List.pairwise_cons]at hl hm
  have hirr:∀x y:EntL,bO x.p y.p=true->x≠y:=fun x y hxy e=>by rw[e,cd]at hxy;cases hxy
  have hab:a=b:=by
   rcases List.mem_cons.1 ((h a).1 (by simp))with h1|h1
   ·exact h1
   ·rcases List.mem_cons.1 ((h b).2 (by simp))with h2|h2
    ·exact h2.symm
    ·have h3:=hm.1 a h1;have h4:=hl.1 b h2;rw[ly h3]at h4;cases h4
  subst hab;congr 1;refine wb hl.2 hm.2 (fun x=>⟨fun hx=>?_,fun hx=>?_⟩)
  ·rcases List.mem_cons.1 ((h x).1 (by simp[hx]))with h1|h1
   ·exact absurd h1.symm (hirr _ _ (hl.1 x hx))
   ·exact h1
  ·rcases List.mem_cons.1 ((h x).2 (by simp[hx]))with h1|h1
   ·exact absurd h1.symm (hirr _ _ (hm.1 x hx))
   ·exact h1
theorem Gy{ps:List bl}(hn:(ps.map (·.key)).Nodup):∀{p:bl},p∈ps->ps.find? (fun q=>decide (q.key=p.key))=some p:=by
 induction ps with
 | nil=>intro p hp;cases hp
 | cons a r ih =>
  intro p hp;rw[List.map_cons,List.nodup_cons]at hn;rcases List.mem_cons.1 hp with rfl|hp
  ·rw[List.find?_cons_of_pos (by simp)]
  ·rw[List.find?_cons_of_neg (by
    simp only[decide_eq_true_eq];intro e;exact hn.1 (e ▸ List.mem_map.2 ⟨p,hp,rfl⟩))]
   exact ih hn.2 hp
theorem oI{ps:List bl}{c:Nat}(h:PathsOk ps c):(ps.map (·.key)).Nodup:=by
 have:=h.map.nodup;rw[List.map_map]at this;exact this
theorem iX{ps:List bl}{c:Nat}(h:PathsOk ps c){p:bl}(hp:p∈ps):ai ps p.key=p.g:=by
 unfold ai gOf;rw[Gy (oI h) hp]
theorem Link.pEnt{S:AS}{R:RefL}(L:Link S R)(hok:ArOk S){p:bl}(hp:p∈S.ps):pEnt p=qV R.vs p.key/\aL R.vs p.key≠[]:=by
 have hv:=L.vers p.key;rw[iX hok.paths hp]at hv;have hne:=hok.some p hp;have hlen:=congrArg List.length hv;rw[List.length_map,List.length_map]at hlen;have hne2:aL R.vs p.key≠[]:=fun e=>by rw[e]at hlen;exact hne (List.length_eq_zero_iff.1 hlen)
 refine⟨?_,hne2⟩;have hl:=congrArg List.getLast? hv;rw[List.getLast?_map,List.getLast?_map]at hl;unfold Go.Proofs.YtdhobpbngkainaaGreatDoor.pEnt qV zA
 obtain⟨V,hV⟩:∃V,p.g.getLast?=some V:=by
  cases h:p.g.getLast? with
  | none=>exact absurd (List.getLast?_eq_none_iff.1 h) hne
  | some V=>exact⟨V,rfl⟩
 obtain⟨v,hv2⟩:∃v,(aL R.vs p.key).getLast?=some v:=by
  cases h:(aL R.vs p.key).getLast? with
  | none=>exact absurd (List.getLast?_eq_none_iff.1 h) hne2
  | some v=>exact⟨v,rfl⟩
 rw[hV,hv2]at hl;simp only[Option.map_some,Option.some.injEq]at hl;rw[hV,hv2];have h1:(V.num:Int)=v.num:=congrArg (fun t:kD=>t.1) hl;have h2:dG S V=v.cont:=congrArg (fun t:kD=>t.2.1) hl;have h3:(dG S V).length=V.size:=kV hok hp (List.mem_of_getLast? hV);simp only[Option.getD_some,Option.map_some,h1,EntL.mk.injEq,true_and];exact⟨by rw[<- h3,h2],by rw[hlen]⟩
theorem Link.list{S:AS}{R:RefL}(L:Link S R)(hok:ArOk S)(pre:Bs){es:List EntL}(h:AW (eT pre S.ps) es):es=go pre R.vs:=by
 have hI:=Em pre L.sorted
 have hmem:∀x,x∈es↔∃p∈S.ps,pre.isPrefixOf p.key=true/\x=Go.Proofs.YtdhobpbngkainaaGreatDoor.pEnt p:=fun x=>by
  rw[h.1.mem_iff];unfold eT;simp only[List.mem_map,List.mem_filter];exact⟨fun⟨p,⟨h1,h2⟩,h3⟩=>⟨p,h1,h2,h3.symm⟩,fun⟨p,h1,h2,h3⟩=>⟨p,⟨h1,h2⟩,h3.symm⟩⟩
 refine wb ?_ hI.asc (fun x=>?_)
 ·have hnd:(es.map (·.p)).Nodup:=by
   have h1:(es.map (·.p)).Perm ((eT pre S.ps).map (·.p)):=h.1.map _;rw[h1.nodup_iff];unfold eT;rw[List.map_map];have h2:=oI hok.paths;have h3:(S.ps.filter (fun p=>pre.isPrefixOf p.key)).map (fun p=>p.key)=((S.ps.filter (fun p=>pre.isPrefixOf p.key)).map ((·.p) ∘ Go.Proofs.YtdhobpbngkainaaGreatDoor.pEnt)):=rfl;rw[<- h3];exact List.Nodup.sublist (List.filter_sublist.map _) h2
  rw[List.pairwise_iff_getElem];intro i j hi hj hij;have h2:=h.2 i j hij hj hi
  cases hb:bO es[i].p es[j].p with
  | true=>rfl
  | false =>
   exfalso;have he:=jS _ _ hb h2;have h3:=(List.pairwise_iff_getElem.1 hnd) i j (by simpa using hi) (by simpa using hj) hij;simp only[List.getElem_map]at h3;exact h3 he
 ·rw[hmem];refine⟨fun⟨p,hp,hpre,he⟩=>?_,fun hx=>?_⟩
  ·obtain⟨h1,h2⟩:=L.pEnt hok hp;obtain⟨v,hv⟩:=List.exists_mem_of_ne_nil _ h2;obtain⟨hv1,hv2⟩:=List.mem_filter.1 hv;simp only[decide_eq_true_eq]at hv2;obtain⟨e,he2,he3⟩:=hI.all v hv1 (by rw[hv2];exact hpre);have h3:=(hI.ent e he2).2.2;rw[he3,hv2]at h3;rw[he,h1,<- h3];exact he2
  ·obtain⟨h1,⟨v,hv1,hv2⟩,h3⟩:=hI.ent x hx
   have hne:ai S.ps x.p≠[]:=fun e=>by
    have h4:=L.vers x.p;rw[e]at h4;have h5:v∈aL R.vs x.p:=List.mem_filter.2 ⟨hv1,by simpa using hv2⟩;have h6:=congrArg List.length h4;rw[List.length_map,List.length_map]at h6;have:=List.length_pos_of_mem h5;simp only[List.length_nil]at h6;omega
   obtain⟨p,hp,hk,-⟩:=di hne;refine⟨p,hp,by rw[hk];exact h1,?_⟩;rw[(L.pEnt hok hp).1,hk];exact h3
theorem yH{K K':List (Bs×Nat×Nat)}{q:Nat×Nat}(h:∃e∈K,e.2=q):dA (K++K') q=dA K q:=by
 unfold dA;rw[List.find?_append];obtain⟨e,he,hq⟩:=h
 cases hf:K.find? (fun e=>decide (e.2=q))with
 | some x=>simp
 | none=>exact absurd hq (by simpa using List.find?_eq_none.1 hf e he)
theorem px{α β:Type}{f g:α->List β}:∀{l:List α},(∀x∈l,f x=g x)->l.flatMap f=l.flatMap g
 | [],_=>rfl
 | a::r,h=>by rw[List.flatMap_cons,List.flatMap_cons,h a (by simp),px (fun x hx=>h x (by simp[hx]))]
theorem Bp{S S':AS}{K':List (Bs×Nat×Nat)}(hK:S'.K=S.K++K'){V:VerL}(h:∀q∈V.chs,∃e∈S.K,e.2=q):dG S' V=dG S V:=by
 unfold dG;rw[hK];exact px (fun q hq=>yH (h q hq))
theorem si{vs:List RVer}(hs:vs.Pairwise (fun a b=>bO b.path a.path=false))(p:Bs):∀k,k<=vs.length->(∀i (h:i<vs.length),i<ie vs p k->bO p vs[i].path=false)/\(∀i (h:i<vs.length),ie vs p k<=i->i<k->bO p vs[i].path=true)
 | 0,_=>⟨fun i _ h=>by simp[ie]at h,fun i _ _ h=>by omega⟩
 | k+1,hk=>by
  obtain⟨h1,h2⟩:=si hs p k (by omega)
  rw[vn (by omega)]
  cases hb:bO p vs[k].path with
  | true =>
   rw[if_pos rfl]
   refine⟨h1,fun i hi h3 h4=>?_⟩
   by_cases hik:i=k
   ·subst hik;exact hb
   ·exact h2 i hi h3 (by omega)
  | false =>
   rw[if_neg (by simp)]
   refine⟨fun i hi h3=>?_,fun i hi h3 h4=>by omega⟩
   by_cases hik:i=k
   ·subst hik;exact hb
   ·have h5:=List.pairwise_iff_getElem.1 hs i k hi (by omega) (by omega)
    cases hb2:bO p vs[i].path with
    | false=>rfl
    | true =>
     exfalso
     cases h6:bO vs[k].path p with
     | true=>rw[gI h6 hb2]at h5;cases h5
     | false =>
      have:=jS _ _ hb h6
      rw[this]at hb2
      rw[h5]at hb2;cases hb2
theorem zt{vs:List RVer}(hs:vs.Pairwise (fun a b=>bO b.path a.path=false))(p:Bs):(∀v∈vs.take (ie vs p vs.length),bO p v.path=false)/\(∀v∈vs.drop (ie vs p vs.length),bO p v.path=true):=by
 obtain⟨h1,h2⟩:=si hs p vs.length (Nat.le_refl _);refine⟨fun v hv=>?_,fun v hv=>?_⟩
 ·obtain⟨i,hi,rfl⟩:=List.getElem_of_mem hv;rw[List.length_take]at hi;rw[List.getElem_take];exact h1 i (by omega) (by omega)
 ·obtain⟨i,hi,rfl⟩:=List.getElem_of_mem hv;rw[List.length_drop]at hi;rw[List.getElem_drop];exact h2 _ (by omega) (by omega) (by omega)
theorem BR{vs:List RVer}(hs:vs.Pairwise (fun a b=>bO b.path a.path=false)){p:Bs}{x:RVer}(hx:x.path=p):(dr vs p x).Pairwise (fun a b=>bO b.path a.path=false):=by
 obtain⟨h1,h2⟩:=zt hs p;have h3:(vs.take (ie vs p vs.length)++vs.drop (ie vs p vs.length)).Pairwise (fun a b=>bO b.path a.path=false):=by rw[List.take_append_drop];exact hs
 rw[List.pairwise_append]at h3;unfold dr;rw[List.pairwise_append,List.pairwise_append];refine⟨⟨h3.1,List.pairwise_singleton _ _,fun a ha b hb=>?_⟩,h3.2.1,fun a ha b hb=>?_⟩
 ·obtain rfl:=List.mem_singleton.1 hb;rw[hx];exact h1 a ha
 ·rcases List.mem_append.1 ha with ha|ha
  ·exact h3.2.2 a ha b hb
  ·obtain rfl:=List.mem_singleton.1 ha;rw[hx];exact ly (h2 b hb)
theorem BQ{vs:List RVer}(hs:vs.Pairwise (fun a b=>bO b.path a.path=false)){p:Bs}{x:RVer}(hx:x.path=p)(q:Bs):aL (dr vs p x) q=if q=p then aL vs p++[x]else aL vs q:=by
 obtain⟨h1,h2⟩:=zt hs p
 have hsplit:∀q,aL vs q=aL (vs.take (ie vs p vs.length)) q++aL (vs.drop (ie vs p vs.length)) q:=fun q=>by
  unfold aL;rw[<- List.filter_append,List.take_append_drop]
 have hno:aL (vs.drop (ie vs p vs.length)) p=[]:=by
  unfold aL;rw[List.filter_eq_nil_iff];intro v hv;simp only[decide_eq_true_eq];intro e;have:=h2 v hv;rw[e,cd]at this;cases this
 have e1:aL (dr vs p x) q=aL (vs.take (ie vs p vs.length)) q++(if p=q then[x]else[])++aL (vs.drop (ie vs p vs.length)) q:=by
  unfold dr aL;rw[List.filter_append,List.filter_append];congr 2;by_cases h:p=q<;>simp[hx,h]
 rw[e1];by_cases hq:q=p
 ·subst hq;rw[if_pos rfl,if_pos rfl,hsplit,hno,List.append_nil,List.append_nil]
 ·rw[if_neg (fun e=>hq e.symm),if_neg hq,List.append_nil,<- hsplit]
theorem nm{vs:List RVer}{p:Bs}{x v:RVer}:v∈dr vs p x↔v∈vs\/v=x:=by
 unfold dr;rw[List.mem_append,List.mem_append,List.mem_singleton];constructor
 ·rintro((h|h)|h)
  ·exact .inl (List.mem_of_mem_take h)
  ·exact .inr h
  ·exact .inl (List.mem_of_mem_drop h)
 ·rintro(h|h)
  ·rw[<- List.take_append_drop (ie vs p vs.length) vs]at h;rcases List.mem_append.1 h with h|h
   ·exact .inl (.inl h)
   ·exact .inr h
  ·exact .inl (.inr h)
theorem GK{vs:List RVer}{p:Bs}{x:RVer}:fB (dr vs p x)=fB vs+x.cont.length:=by
 unfold dr fB;rw[List.map_append,List.map_append,List.sum_append,List.sum_append]
 have:(vs.map (·.cont.length)).sum=((vs.take (ie vs p vs.length)).map (·.cont.length)).sum+((vs.drop (ie vs p vs.length)).map (·.cont.length)).sum:=by
  rw[<- List.sum_append,<- List.map_append,List.take_append_drop]
 simp only[List.map_cons,List.map_nil,List.sum_cons,List.sum_nil];omega
theorem Dj{vs:List RVer}{p:Bs}{x:RVer}:(dr vs p x).length=vs.length+1:=by
 unfold dr;have:=wL vs p vs.length;simp;omega
theorem ny(vs:List RVer)(p:Bs):∀k,k<=vs.length->iQ vs p k=((aL (vs.take k) p).getLast?.map (·.num)).getD 0+1
 | 0,_=>by simp[iQ,aL]
 | k+1,hk=>by
  rw[vP (by omega),List.take_succ_eq_append_getElem (by omega),mJ]
  by_cases h:vs[k].path=p
  ·rw[if_pos h,if_pos h];simp
  ·rw[if_neg h,if_neg h,List.append_nil]
   exact ny vs p k (by omega)
theorem Link.nr{S:AS}{R:RefL}(L:Link S R)(l:Bs):iQ R.vs l R.vs.length=(eJ (ai S.ps l):Nat)+1:=by
 rw[ny _ _ _ (Nat.le_refl _),List.take_length];have h:=congrArg List.getLast? (L.vers l);rw[List.getLast?_map,List.getLast?_map]at h;unfold eJ
 cases h1:(ai S.ps l).getLast? with
 | none =>
  rw[h1]at h
  cases h2:(aL R.vs l).getLast? with
  | none=>rfl
  | some v=>rw[h2]at h;cases h
 | some V =>
  rw[h1]at h
  cases h2:(aL R.vs l).getLast? with
  | none=>rw[h2]at h;cases h
  | some v =>
   rw[h2]at h;simp only[Option.map_some,Option.some.injEq]at h;have:(V.num:Int)=v.num:=congrArg (fun t:kD=>t.1) h;simp only[Option.map_some,Option.getD_some];omega
theorem BN{ts:List RTag}{p:Bs}{n:Int}(h:∀t∈ts,¬(t.path=p/\t.num=n)):jl ts p n=0:=by
 unfold jl;rw[List.countP_eq_zero.2 (fun t ht=>by simpa using h t ht)];rfl
theorem Link.put{S S':AS}{R:RefL}(L:Link S R)(hok:ArOk S)(hok':ArOk S'){l D:Bs}{V:VerL}(h:PutStep S S' l D V)(hl:aA l=true)(hD:D.length<=4000){vv cv:Value}:
  Link S' { R with vv:=vv,vs:=dr R.vs l ⟨l,iQ R.vs l R.vs.length,D,cv,0⟩ }:=by
 have hnr:=L.nr l
 have hpos:∀v∈aL R.vs l,1<=v.num/\v.num<iQ R.vs l R.vs.length:=by
  intro v hv;refine⟨(L.each v (List.mem_filter.1 hv).1).1,?_⟩;rw[ny _ _ _ (Nat.le_refl _),List.take_length];have ha:=L.asc l;obtain⟨i,hi,rfl⟩:=List.getElem_of_mem hv;rw[List.getLast?_eq_getElem?,List.getElem?_eq_getElem (by omega)];simp only[Option.map_some,Option.getD_some];by_cases hlast:i=(aL R.vs l).length-1
  ·subst hlast;omega
  ·have:=List.pairwise_iff_getElem.1 ha i ((aL R.vs l).length-1) (by simpa using hi) (by simp;omega) (by omega);simp only[List.getElem_map]at this;omega
 obtain⟨x,hx⟩:∃x:RVer,x=⟨l,iQ R.vs l R.vs.length,D,cv,0⟩:=⟨_,rfl⟩;have hxp:x.path=l:=by rw[hx]
 have hins:=BQ L.sorted hxp;rw[hx]at hins;have hnr1:1<=iQ R.vs l R.vs.length:=by rw[hnr];omega
 refine⟨?_,?_,?_,fun p=>?_,BR L.sorted rfl,fun p=>?_,fun v hv=>?_,?_,L.tsort,fun t ht=>?_,fun v hv=>?_⟩
 ·simp only;rw[h.closed];exact L.closed
 ·simp only;rw[h.quota];exact L.quota
 ·simp only;rw[h.used,L.used,GK];simp only;omega
 ·simp only;rw[h.vers,hins]
  have hold:∀q,(ai S.ps q).map (ed S')=(ai S.ps q).map (ed S):=fun q=>by
   refine List.map_congr_left (fun V' hV'=>?_);obtain⟨p',hp',hk,hg⟩:=di (List.ne_nil_of_mem hV');unfold ed;rw[Bp h.K (hok.vers p' hp' V' (hg ▸ hV')).1]
  by_cases hp:p=l
  ·subst hp;rw[if_pos rfl,if_pos rfl,List.map_append,List.map_append,hold,L.vers];congr 1;simp only[List.map_cons,List.map_nil,ed,iG];rw[Gp hok' h.nchs h.chs,h.held,h.num,hnr];simp
  ·rw[if_neg hp,if_neg hp,hold,L.vers]
 ·simp only;rw[hins];by_cases hp:p=l
  ·subst hp;rw[if_pos rfl,List.map_append,List.pairwise_append];refine⟨L.asc p,List.pairwise_singleton _ _,fun a ha b hb=>?_⟩;obtain⟨v,hv,rfl⟩:=List.mem_map.1 ha;simp only[List.map_cons,List.map_nil,List.mem_singleton]at hb;subst hb;exact(hpos v hv).2
  ·rw[if_neg hp];exact L.asc p
 ·rcases nm.1 hv with hv|rfl
  ·exact L.each v hv
  ·exact⟨hnr1,hl,hD⟩
 ·simp only;rw[h.ts];exact L.tags
 ·obtain⟨h1,v,hv,h2⟩:=L.teach t ht;exact⟨h1,v,nm.2 (.inl hv),h2⟩
 ·rcases nm.1 hv with hv|rfl
  ·exact L.held v hv
  ·refine(BN (fun t ht=>?_)).symm;rintro⟨e1,e2⟩;obtain⟨-,v,hv,e3,e4⟩:=L.teach t ht;simp only at e1 e2;have:=hpos v (List.mem_filter.2 ⟨hv,by simp[e3,e1]⟩);omega
def jN(w0:World)(X:WS)(e:Ending)(W':World):Prop:=∃sp ov wv D,e=.returned (.bool true)/\WsOk w0 W' (EN X sp ov wv D)
theorem WsOk.back{w0 W W':World}{X:WS}(h:WsOk w0 W X)(hT:Turns [] (wsF X) w0 W'):WsOk w0 W' X:={ h with turns:=hT }
theorem bM{l:Bs}(h:aA l=true):l.length<=20:=by
 unfold aA at h;simp only[Bool.and_eq_true,decide_eq_true_eq]at h;exact h.1.2
def ez(l:List VerL):List Int:=l.map (fun V=>(V.num:Int))
def wJ(S:AS)(l:Bs)(w:World)(e:Ending)(w':World):Prop :=
 (∃k,i5 S l 0 k/\e=.returned (.tuple #[.slice none 0 0,cC k])/\Turns (arF S) (arF S) w w') \/
 (∃V v,iB S l 0 V/\e=.returned (.tuple #[v,.nilIface])/\iOk v (ez (ai S.ps l))/\Turns (arF S) (bZ v (ez (ai S.ps l))++arF S) w w')
def yo(S:AS)(vs:List VerL)(w:World)(out i:Value)(W:World):Prop :=
 ∃(j:Nat) (J:HF),j<=vs.length/\i=.int .i64 j/\iOk out (ez (vs.take j))/\Turns (arF S) (bZ out (ez (vs.take j))++(arF S++J)) w W
theorem xP{S:AS}{b:Nat}(hB:ArB S b)(l:Bs):(ai S.ps l).length<=b:=by
 unfold ai gOf
 cases hg:S.ps.find? (fun p=>decide (p.key=l))with
 | none=>simp
 | some p=>exact(hB.vers p (List.mem_of_find?_eq_some hg)).2.1
theorem rZ(S:AS)(l:Bs)(b:Nat)(w:World)(h:Sat w (arF S))(hok:ArOk S)(hB:ArB S b)(hb:b<=90000):
  Calls Tryz.prog 105 #[.pointer (some ⟨S.a,0,none⟩),str l] w (wJ S l w):=by
 have HF:=qqH (iJ S.a S.X S.ps S.pc l 0 w h.Q5 (h.tail.right.right.left) hok.paths);have HH:=Hq4 h hok hB hb;clear h hok hB hb;go_enter Tryz.func105,Tryz.ntmps105;go_wp2_with fail;refine HF.out.mono ?_;intro e w1 hp;obtain⟨hs,⟨k,hk,rfl⟩|⟨V,hV,rfl⟩⟩:=iK hp
 ·have HK:=Hq2 hk hs;clear hp hs hk;unfold cC;go_wp2_with fail;exact bodyPost_ret (results_tmp2 rfl _ _ _) rfl (.inl ⟨k,HK.a,rfl,(Turns.same HH.a HK.z)⟩)
 ·have hT1:Turns (arF S) (arF S) w w1:=Turns.same HH.a hs;have ha1:=hT1.sat.Q5;have c0:w1.cell? ⟨S.a,0,none⟩=some (.map (some S.X.pm)):=aa ha1 0 rfl;have hpm:=hT1.sat.Q7 (b:=S.X.pm) (o:=aR str (S.ps.map aN) S.pc) (by simp[arF,aU]);have hal:=ah ha1;obtain⟨sl,cap,e1,e2,e3,e4,-,-⟩:=gM (hT1.sat.tail.right.right.left) HH.b.paths l;obtain⟨vs,hvs⟩:∃vs,vs=ai S.ps l:=⟨_,rfl⟩;rw[<- hvs]at e1 e2 e4;have hvl:vs.length<=90000:=by rw[hvs];have:=xP HH.c l;have:=HH.x;omega
  have hOl:OkS l:=by have:=bM hV.2.1;unfold OkS;omega
  have HV:=Hq7 hV hT1 hpm e1 e4 hvs hOl;clear hp hs hV hT1 ha1 hpm e1 e4 hvs hOl;unfold dz;go_wp2_with ((refine fX eB rfl _ _ rfl Tryz.underlying119 HV.c HH.b.paths.map (gd _) l rfl rfl HV.u ?_;rw[de,HV.d]));go_loopw [8,28] (fun out i wr=>yo S vs w out i wr) (fun _ i _=>vs.length-(intOf i).toNat)
  case atStart=>exact⟨0,[],Nat.zero_le _,rfl,lJ,by rw[List.append_nil];exact HV.b⟩
  case round =>
   obtain⟨j,J,hj,rfl,hio,hT⟩:=hrel;have HR:=Hq2 hio hT;clear hio hT;by_cases hlt:j<vs.length
   ·obtain⟨sl2,cap2,e1',-,-,e4',e5',-⟩:=gM (w:=wr) (HR.z.sat.sub (G:=aU S.X.pm S.ps S.pc) (fun x=>by simp only[arF,aB,an]<;>omega)) HH.b.paths l;rw[HV.d]at e1';simp only[Value.slice.injEq]at e1';obtain⟨rfl,-,rfl⟩:=e1';rw[<- HV.f]at e4' e5';obtain⟨g,off,hg,hcell⟩:=e4' (by rw[List.length_map];omega);subst hg;have hc1:=hcell j (by rw[List.length_map];exact hlt);rw[List.getElem_map]at hc1;obtain⟨U,hU⟩:∃U,U=vs[j]:=⟨_,rfl⟩;rw[<- hU]at hc1;unfold dz at hc1;have hub:=e5' U (by rw[hU];exact List.getElem_mem hlt);have hc2:wr.cell? ⟨U.blk,0,none⟩=some (.int .i64 U.num):=aa hub 0 rfl
    have htk:ez (vs.take (j+1))=ez (vs.take j)++[(U.num:Int)]:=by
     unfold ez;rw[List.take_succ_eq_append_getElem hlt,hU,List.map_append];rfl
    have hlen:(ez (vs.take j)).length<=90000:=by simp[ez];omega
    have HU:=Hq2 htk hlen;obtain⟨ns,hns⟩:∃ns,ns=ez (vs.take j):=⟨_,rfl⟩;rw[<- hns]at HR HU;clear e4' e5' hcell hU hub htk hlen hns;go_wp2_with ((at_builtin;refine al rfl ?_;refine j8 (.tmp 32) (.tmp 37) rfl _ ns rfl (HR.z.alloc _) HR.a _ 1 1 rfl [(U.num:Int)] rfl (fun _=>⟨_,rfl,fun j u hu=>gQ _ _ _ j u hu⟩) (by have:=HU.z;simp;omega) ?_;intro av cv w5 hok5 hT5;have H5:=Hq2 hok5 hT5;clear hok5 hT5));go_roundw
    case rel =>
     refine⟨j+1,J,by omega,by go_num,?_,?_⟩
     ·rw[HU.a];have:=H5.a;rw[List.length_append]at this;exact this
     ·rw[HU.a];have:=H5.z;rw[List.length_append]at this;exact this
    case measure=>simp[intOf];omega
   ·obtain rfl:j=vs.length:=by omega
    rw[List.take_length]at HR;go_wp2_with fail;refine bodyPost_ret (results_tmp2 rfl _ _ _) rfl (.inr ⟨V,u8,HV.a,rfl,?_,?_⟩)
    ·rw[<- HV.f];exact HR.a
    ·rw[<- HV.f];exact HR.z.drop (fun x=>by simp only[an];omega)
end
section
open Go.RowKit
def yg(b:Bool)(w:World)(e:Ending)(w':World):Prop:=e=.returned (.bool b)/\gh w w'
theorem pP(a1 a2:Option Addr)(c1 c2:Nat)(xs ys:List Int)(w:World)(h1:ak w a1 (xs.map dq))(h2:ak w a2 (ys.map dq))(hx:xs.length<=1099511627776)(hy:ys.length<=1099511627776):
  Calls Tryz.prog 107 #[.slice a1 xs.length c1,.slice a2 ys.length c2] w (yg (decide (xs=ys)) w):=by
 by_cases hl:xs.length=ys.length
 ·have hb:((xs.length:Int) != (ys.length:Int))=false:=by simp;omega
  have HL:=qqH hl;clear hl;go_enter Tryz.func107,Tryz.ntmps107;go_wp2;go_loopw [5] (fun i wr=>∃k:Nat,k<=xs.length/\i=.int .i64 k/\xs.take k=ys.take k/\gh w wr) (fun i _=>xs.length-(intOf i).toNat)
  case atStart=>exact⟨0,Nat.zero_le _,rfl,rfl,gh.refl _⟩
  case round =>
   obtain⟨k,hk,rfl,ht,n,rfl⟩:=hrel;have HT:=qqH ht;clear ht;by_cases hlt:k<xs.length
   ·have hlt2:k<ys.length:=by have:=HL.out;omega
    obtain⟨g1,o1,rfl,hc1⟩:=kj dq h1 (by omega);obtain⟨g2,o2,rfl,hc2⟩:=kj dq h2 (by omega);have k1:=hc1 k hlt;have k2:=hc2 k hlt2;unfold dq at k1 k2;clear hc1 hc2 h1 h2;obtain⟨x,hxk⟩:∃x,x=xs[k]:=⟨_,rfl⟩;obtain⟨y,hyk⟩:∃y,y=ys[k]:=⟨_,rfl⟩;rw[<- hxk]at k1;rw[<- hyk]at k2;have HX:=Hq2 hxk hyk;clear hxk hyk;by_cases he:x=y
    ·have hq:(x != y)=false:=by simp[he]
     have HE:=qqH he;clear he;go_wp2;go_region;go_wp2;go_roundw
     case rel=>exact⟨k+1,by omega,by go_num,pT HT.out hlt hlt2 (by rw[<- HX.a,<- HX.z,HE.out]),(gh.drewN (gh.refl w) n).drew⟩
     case measure=>simp[intOf];omega
    ·have hq:(x != y)=true:=by simp[he]
     have hne:decide (xs=ys)=false:=by
      apply decide_eq_false;rintro rfl;exact he (HX.a.trans HX.z.symm)
     have HN:=qqH hne;clear he hne;go_wp2;go_region;go_wp2;go_ret;exact⟨li HN.out.symm,(gh.drewN (gh.refl w) n).drew⟩
   ·have hkx:k=xs.length:=by omega
    have heq:decide (xs=ys)=true:=by
     apply decide_eq_true;have:=HT.out;rw[hkx,List.take_length,List.take_of_length_le (by have:=HL.out;omega)]at this;exact this
    have HN:=qqH heq;clear heq hkx;go_wp2;go_ret;exact⟨li HN.out.symm,gh.drewN (gh.refl w) n⟩
 ·have hb:((xs.length:Int) != (ys.length:Int))=true:=by simp;omega
  have hne:decide (xs=ys)=false:=by apply decide_eq_false;rintro rfl;exact hl rfl
  have HN:=qqH hne;clear hne;go_enter Tryz.func107,Tryz.ntmps107;go_wp2;go_ret;exact⟨li HN.out.symm,gh.refl w⟩
theorem oQ(a1 a2:Option Addr)(c1 c2:Nat)(xs ys:List UInt8)(w:World)(h1:ak w a1 (xs.map ao))(h2:ak w a2 (ys.map ao))(hx:xs.length<=1099511627776)(hy:ys.length<=1099511627776):
  Calls Tryz.prog 28 #[.slice a1 xs.length c1,.slice a2 ys.length c2] w (yg (decide (xs=ys)) w):=by
 by_cases hl:xs.length=ys.length
 ·have hb:((xs.length:Int) != (ys.length:Int))=false:=by simp;omega
  have HL:=qqH hl;clear hl;go_enter Tryz.func28,Tryz.ntmps28;go_wp2;go_loopw [5] (fun i wr=>∃k:Nat,k<=xs.length/\i=.int .i64 k/\xs.take k=ys.take k/\gh w wr) (fun i _=>xs.length-(intOf i).toNat)
  case atStart=>exact⟨0,Nat.zero_le _,rfl,rfl,gh.refl _⟩
  case round =>
   obtain⟨k,hk,rfl,ht,n,rfl⟩:=hrel;have HT:=qqH ht;clear ht;by_cases hlt:k<xs.length
   ·have hlt2:k<ys.length:=by have:=HL.out;omega
    obtain⟨g1,o1,rfl,hc1⟩:=kj ao h1 (by omega);obtain⟨g2,o2,rfl,hc2⟩:=kj ao h2 (by omega);have k1:=hc1 k hlt;have k2:=hc2 k hlt2;unfold ao at k1 k2;clear hc1 hc2 h1 h2;obtain⟨x,hxk⟩:∃x,x=xs[k]:=⟨_,rfl⟩;obtain⟨y,hyk⟩:∃y,y=ys[k]:=⟨_,rfl⟩;rw[<- hxk]at k1;rw[<- hyk]at k2;have HX:=Hq2 hxk hyk;clear hxk hyk;by_cases he:x=y
    ·have hq:(((x.toNat:Nat):Int) != ((y.toNat:Nat):Int))=false:=by simp[he]
     have HE:=qqH he;clear he;go_wp2;go_region;go_wp2;go_roundw
     case rel=>exact⟨k+1,by omega,by go_num,pT HT.out hlt hlt2 (by rw[<- HX.a,<- HX.z,HE.out]),(gh.drewN (gh.refl w) n).drew⟩
     case measure=>simp[intOf];omega
    ·have hq:(((x.toNat:Nat):Int) != ((y.toNat:Nat):Int))=true:=by
      simp only[bne_iff_ne];intro h;exact he (UInt8.toNat_inj.1 (by omega))
     have hne:decide (xs=ys)=false:=by
      apply decide_eq_false;rintro rfl;exact he (HX.a.trans HX.z.symm)
     have HN:=qqH hne;clear he hne;go_wp2;go_region;go_wp2;go_ret;exact⟨li HN.out.symm,(gh.drewN (gh.refl w) n).drew⟩
   ·have hkx:k=xs.length:=by omega
    have heq:decide (xs=ys)=true:=by
     apply decide_eq_true;have:=HT.out;rw[hkx,List.take_length,List.take_of_length_le (by have:=HL.out;omega)]at this;exact this
    have HN:=qqH heq;clear heq hkx;go_wp2;go_ret;exact⟨li HN.out.symm,gh.drewN (gh.refl w) n⟩
 ·have hb:((xs.length:Int) != (ys.length:Int))=true:=by simp;omega
  have hne:decide (xs=ys)=false:=by apply decide_eq_false;rintro rfl;exact hl rfl
  have HN:=qqH hne;clear hne;go_enter Tryz.func28,Tryz.ntmps28;go_wp2;go_ret;exact⟨li HN.out.symm,gh.refl w⟩
def vf(l:List UInt8)(w:World)(e:Ending)(w':World):Prop :=
 e=.returned (.slice (some ⟨w.heap.size,0,none⟩) l.length (l.length+2))/\w'.heap[w.heap.size]?=some (.cells (az (l++[71,72])) 5 (0,0))/\aX w w'
theorem E1(n:Nat)(hn:n<=1099511627776)(w:World):(Instr.makeSlice 38 (.int .i64 ((n:Int)+2)) (.int .i64 ((n:Int)+2))).run Tryz.prog w =
  .ok (.slice (some ⟨w.heap.size,0,none⟩) (n+2) (n+2)) (w.alloc (.cells (az (List.replicate (n+2) 0)) 5)):=by
 obtain⟨i,hi,hz,hs,hb⟩:=info_parts jm;rw[run_make w 38 5 i (.int .u8 0) Tryz.underlying38 hi hz .i64 .i64 _ _ (by omega) (by omega) (by rw[hb];omega) (by omega)];have e1:((n:Int)+2).toNat=n+2:=by omega
 rw[e1,hs];congr 4;apply Array.ext';rw[Nat.mul_one];rw[show(Value.int IntKind.u8 0).cells=#[Value.int .u8 0]from rfl,toList_madeCells_one];simp[az,ao]
theorem Aa(a:Option Addr)(cap:Nat)(l:List UInt8)(w:World)(hl:l.length<=1000000)(h:ak w a (l.map ao)):
  Calls Tryz.prog 58 #[.slice a l.length cap] w (vf l w):=by
 have hmk:=E1 l.length (by omega);obtain⟨i0,hi0,hz1,hz2,hz3⟩:=info_parts jm;have hsz:(Tryz.prog.info? 5).map (·.size)=some 1:=by rw[hi0];simp[hz2]
 have hw1:=aM w (.cells (az (List.replicate (l.length+2) 0)) 5)
 have hsrc:0<(l.map ao).length->some (⟨w.heap.size,0,none⟩:Addr)=some ⟨w.heap.size,0,none⟩/\∃ad,a=some ad/\∀j v,(l.map ao)[j]?=some v->(w.alloc (.cells (az (List.replicate (l.length+2) 0)) 5)).cell? (ad.add j)=some v:=fun hp=>by
  obtain⟨g,off,ha,hc⟩:=h.keep ((Mods.refl (fun _=>False) w).alloc (.cells (az (List.replicate (l.length+2) 0)) 5)) (fun _ _ _=>id) hp;refine⟨rfl,_,ha,fun j v hv=>?_⟩;obtain⟨hj,rfl⟩:=List.getElem?_eq_some_iff.1 hv;have:=hc j hj;simp only[List.getElem_map]at this ⊢;rw[Addr.add_lit];exact this
 have HS:=Hq2 hsrc hw1;clear hsrc hw1 h;go_enter Tryz.func58,Tryz.ntmps58;go_wp2_with (refine iy rfl (.tmp 10) (.tmp 11) 38 38 rfl 5 Tryz.underlying38 hsz _ _ _ _ _ _ rfl rfl w.heap.size 0 ((List.replicate (l.length+2) 0).map ao) 5 HS.z (l.map ao) ?c1 HS.a ?c2 ?c3 ?c4)
 case c3=>intro x _;rfl
 case c4 =>
  intro w2 hg2 hM2 hz2
  have e2:(splice (List.replicate (l.length+2) (ao 0)) 0 (List.map ao l)).toArray=az (l++[0,0]):=by
   simp[splice,az,List.drop_replicate]
  rw[e2]at hg2;have c71:=aa hg2 l.length (fS _ _ (by simp));have c72:=aa hg2 (l.length+1) (fS _ _ (by simp));have f71:=aZ hg2 l.length;have f72:=aZ hg2 (l.length+1);have HG:=Hq3 hg2 hM2 hz2;clear hg2 hM2 hz2;go_wp2;go_ret;obtain⟨hg2,hM2,hz2⟩:=HG.out;refine⟨rfl,?_,?_⟩
  ·have h3:=bt (bt hg2 l.length (ao 71)) (l.length+1) (ao 72);rw[tE,tE]at h3;refine h3.trans ?_;congr 2;simp
  ·exact(((((Mods.refl _ w).alloc _).trans' hM2 (fun i hi=>.inr (by omega))).Qi (Nat.le_refl _) _).Qi (Nat.le_refl _) _)
def DW(B:Nat)(w:World)(e:Ending)(w':World):Prop:=e=.returned (.bool true)/\Mods (fun k=>k=B) w w'
def oY(w:World)(B n:Nat):Prop:=∃cs:Array Value,w.heap[B]?=some (.cells cs 5 (0,0))/\cs.size=n/\∀j,j<n->∃x:Int,cs[j]?=some (.int .u8 x)
theorem yq(w:World)(B:Nat)(l:List UInt8)(h:w.heap[B]?=some (.cells (az l) 5 (0,0))):oY w B l.length :=
 ⟨_,h,by simp[az],fun j hj=>⟨_,fS l j hj⟩⟩
theorem yr{w:World}{B n:Nat}(h:oY w B n)(i:Nat)(x:Int):oY (w.setCell ⟨B,i,none⟩ (.int .u8 x)) B n:=by
 obtain⟨cs,hc,hs,hx⟩:=h;refine⟨_,bt hc i _,by simpa using hs,fun j hj=>?_⟩;rw[Array.getElem?_setIfInBounds];split
 ·rw[if_pos (by omega)];exact⟨x,rfl⟩
 ·exact hx j hj
theorem rh(B:Nat)(a:Option Addr)(cap:Nat)(l:List UInt8)(w:World)(hl:l.length<=1000000)(hB:w.heap[B]?=some (.cells (az (l++[71,72])) 5 (0,0)))(h:ak w a (l.map ao)):
  Calls Tryz.prog 59 #[.slice (some ⟨B,0,none⟩) l.length (l.length+2),.slice a l.length cap] w (DW B w):=by
 have c71:=aa hB l.length (fS _ _ (by simp));have c72:=aa hB (l.length+1) (fS _ _ (by simp));simp[ao]at c71 c72
 have hA:ak w (some ⟨B,0,none⟩) (l.map ao):=fun hp=>⟨B,0,rfl,fun j hj=>by
  have hj':j<l.length:=by simpa using hj
  rw[Nat.zero_add,aa hB j (fS _ j (by simp;omega))];simp[List.getElem_append_left hj']⟩
 have HB:=Hq3 hB hA h;clear hB hA h;go_enter Tryz.func59,Tryz.ntmps59;go_wp2_with (first|(go_at_call 28;refine(oQ _ _ _ _ l l w HB.b HB.y (by omega) (by omega)).mono ?_;rintro e w2 ⟨rfl,n,rfl⟩));go_loopw [8] (fun i wr=>∃k:Nat,k<=l.length+2/\i=.int .i64 k/\oY wr B (l.length+2)/\Mods (fun q=>q=B) w wr) (fun i _=>l.length+2-(intOf i).toNat)
 case atStart =>
  refine⟨0,by omega,rfl,?_,(Mods.refl _ w).drewN n⟩;have:=yq (w.drewN n) B (l++[71,72]) HB.a;simpa using this
 case round =>
  obtain⟨k,hk,rfl,hrow,hM⟩:=hrel;by_cases hlt:k<l.length+2
  ·obtain⟨cs,hc,hs,hx⟩:=hrow;obtain⟨x,hxk⟩:=hx k hlt;have hck:=aa hc k hxk;have hfk:=aZ hc k;have HR:=Hq2 (show oY wr B (l.length+2)from⟨cs,hc,hs,hx⟩) hM;clear hc hs hx hxk hM;go_wp2;go_roundw
   case rel=>exact⟨k+1,by omega,by go_num,yr HR.a _ _,HR.z.set1 _⟩
   case measure=>simp[intOf];omega
  ·have HR:=qqH hM;clear hM hrow;go_wp2;go_ret;exact⟨by simp,HR.out⟩
end
section
open Go.RowKit Go.Maps
def ET(X:WS)(o:OpL)(vv cv:Value):RefL:={ X.R with vv:=vv,vs:=dr X.R.vs o.s ⟨o.s,iQ X.R.vs o.s X.R.vs.length,o.d,cv,0⟩ }
def I0(X:WS)(o:OpL)(S':AS)(vv cv mv:Value)(M':List SlB):WS:={ U:={ X.U with most:=mv },S:=S',R:=ET X o vv cv,P:=X.P++[(cv,o.d)],M:=M',O:=X.O }
def JB(w0:World)(X:WS)(o:OpL)(b:Nat)(e:Ending)(W':World):Prop :=
 e=.returned (.bool true)/\(WsOk w0 W' X\/∃S' V vv cv mv M',X.S.X.closed=false/\PutStep X.S S' o.s o.d V/\AM X.S o.d b S'/\o.d.length<=4000/\M'.map (·.bs)=nJ (X.M.map (·.bs)) (aH o.d)/\WsOk w0 W' (I0 X o S' vv cv mv M'))
def n9(S:AS)(l D:Bs)(n:Int):Prop :=
 (S.X.closed=true/\n=9)\/(S.X.closed=false/\aA l=false/\n=1)\/(S.X.closed=false/\aA l=true/\4000<D.length/\n=2) \/
   (S.X.closed=false/\aA l=true/\D.length<=4000/\S.X.quota<S.X.used+D.length/\n=7)
theorem n9.ref{S:AS}{R:RefL}(L:Link S R){l D:Bs}{n:Int}(h:n9 S l D n){w w':World}{e:Ending}(hr:o8 R l D w e w'):e=.returned (.tuple #[.int .i64 0,.int .i64 n])/\aX w w':=by
 have hc:=L.closed;have hu:=L.used;have hq:=L.quota;rcases hr with⟨k,rfl,hs,hk⟩|⟨h1,h2,h3,h4,-⟩
 ·refine⟨?_,hs⟩
  have:k=n:=by
   rw[hc,hq]at hk;rcases h with⟨a1,rfl⟩|⟨a1,a2,rfl⟩|⟨a1,a2,a3,rfl⟩|⟨a1,a2,a3,a4,rfl⟩<;>rcases hk with⟨b1,rfl⟩|⟨b1,b2,rfl⟩|⟨b1,b2,b3,rfl⟩|⟨b1,b2,b3,b4,rfl⟩<;>first|rfl|(exfalso;simp_all;done)|(exfalso;simp_all;omega)|omega
  rw[this]
 ·exfalso;rw[hc]at h1;rw[hq]at h4;rcases h with⟨a1,-⟩|⟨-,a2,-⟩|⟨-,-,a3,-⟩|⟨-,-,-,a4,-⟩
  ·rw[h1]at a1;cases a1
  ·rw[h2]at a2;cases a2
  ·omega
  ·omega
theorem n9.no{S:AS}{R:RefL}(L:Link S R){l D:Bs}(h1:S.X.closed=false)(h2:aA l=true)(h3:D.length<=4000)(h4:S.X.used+D.length<=S.X.quota){w w':World}{e:Ending}(hr:o8 R l D w e w'):
  ∃vv' cv,e=.returned (.tuple #[.int .i64 (iQ R.vs l R.vs.length),.int .i64 0])/\bOk cv D/\RefOk { R with vv:=vv',vs:=dr R.vs l ⟨l,iQ R.vs l R.vs.length,D,cv,0⟩ } /\
   Turns (aI R) (aI { R with vv:=vv',vs:=dr R.vs l ⟨l,iQ R.vs l R.vs.length,D,cv,0⟩ }++aK cv D) w w':=by
 rcases hr with⟨k,-,-,hk⟩|⟨-,-,-,-,h⟩
 ·exfalso;rw[L.closed,L.quota]at hk;have hu:=L.used;rcases hk with⟨b1,-⟩|⟨-,b2,-⟩|⟨-,-,b3,-⟩|⟨-,-,-,b4,-⟩
  ·rw[h1]at b1;cases b1
  ·rw[h2]at b2;cases b2
  ·omega
  ·omega
 ·exact h
theorem n9.ne{S:AS}{l D:Bs}{n:Int}(h:n9 S l D n):n=9\/n=1\/n=2\/n=7:=by
 rcases h with⟨_,h⟩|⟨_,_,h⟩|⟨_,_,_,h⟩|⟨_,_,_,_,h⟩<;>omega
theorem Dq{S:AS}{R:RefL}(L:Link S R){b:Nat}(hB:ArB S b)(hb:b<=90000):∀v∈R.vs,0<=v.num/\v.num<=1099511627776:=fun v hv=>by
 have h1:=(L.each v hv).1
 have h2:v∈aL R.vs v.path:=List.mem_filter.2 ⟨hv,by simp⟩
 have h3:iG v∈(ai S.ps v.path).map (ed S):=by rw[L.vers];exact List.mem_map.2 ⟨v,h2,rfl⟩
 obtain⟨V,hV,hVv⟩:=List.mem_map.1 h3
 obtain⟨p,hp,-,hg⟩:=di (List.ne_nil_of_mem hV)
 have h4:=((hB.vers p hp).2.2 V (hg ▸ hV)).1
 have h5:(V.num:Int)=v.num:=congrArg (fun t:kD=>t.1) hVv
 omega
theorem zO{S:AS}{l D:Bs}(hl:l.length<=20){n s:Int}{chs:List (Nat×Nat)}(hc:chs.length=(aH D).length):(dY (bJ S D)).length+(frame 2 (eF l n s (bC chs))).length<=2*D.length+100:=by
 have h1:=s0 D;have h2:(aH D).length=(aF D).length:=by unfold aH;rw[cF]
 have h3:=iO S D
 have h4:(bJ S D).length<=(aH D).length:=by
  unfold bJ
  have:∀(has l acc:List Bs),(co has acc l).length<=acc.length+l.length:=by
   intro has l;induction l with
   | nil=>intro acc;simp[co]
   | cons c r ih =>
    intro acc;simp only[co];split
    ·have:=ih acc;simp only[List.length_cons];omega
    ·have:=ih (acc++[c]);simp only[List.length_append,List.length_cons,List.length_nil]at this ⊢;omega
  simpa using this (S.K.map (·.1)) (aH D) []
 rw[gq,jv,iM,hc];omega
theorem Ab{l:Bs}{w w':World}{e:Ending}(h:vf l w e w'):e=.returned (.slice (some ⟨w.heap.size,0,none⟩) l.length (l.length+2))/\Turns [] [(w.heap.size,Is (.cells (az (l++[71,72])) 5 (0,0)))] w w':=by
 obtain⟨h1,h2,h3⟩:=h;refine⟨h1,h3.mods _,Sat.one h2 Is.rfl,fun b hb=>?_⟩;simp at hb;exact .inr (by omega)
theorem Cv{W:World}{B:Nat}{l:Bs}(h:W.heap[B]?=some (.cells (az (l++[71,72])) 5 (0,0))):ak W (some ⟨B,0,none⟩) (l.map ao):=fun hp =>
 ⟨B,0,rfl,fun j hj=>by
  rw[Nat.zero_add]
  rw[List.length_map]at hj
  refine aa h j ?_
  unfold az
  simp only[List.map_append,List.getElem?_toArray]
  rw[List.getElem?_append_left (by simpa using hj)]
  simp[hj]⟩
theorem Turns.Ql{F G:HF}{a w w':World}{b:Nat}{φ:Obj->Prop}(h:Turns F ((b,φ)::G) a w)(hm:Mods (fun k=>k=b) w w'):Turns F G a w':=by
 have k:Turns [(b,φ)] [] w w':=⟨hm.mono (fun x hx=>.inl (by simp[hx])),Sat.nil _,fun x hx=>by simp at hx⟩;have:=h.step (F:=[(b,φ)]) (R:=G) (List.Perm.refl _) k;simpa using this
theorem uN(w0 W:World)(X:WS)(o:OpL)(b:Nat)(h:WsOk w0 W X)(hB:ArB X.S b)(hb:b<=90000)(hl:X.R.vs.length<=100000)(hE:bq w0)(ho:OpOk w0 o)(hk:o.kind=1)(hd6:o.d.length<=60000)(hML:X.M.length<=800000)(hroom:X.S.data.length+2*o.d.length+100<=128*X.S.A.count)(hq : -4611686018427387904<=X.S.X.quota):
  Calls Tryz.prog 23 #[.pointer (some ⟨X.U.blk,0,none⟩),opA o] W (JB w0 X o b):=by
 have HM:=qqH (show Tryz.prog.follows .mixedOrders=true by kernel_rfl);obtain⟨dsl,dcap,hdv,hdc,hdc9,hdcell⟩:=ho.dv;have HH:=Hq7 h hB hb hl hE ho hk;have HQ:=Hq5 hML hroom hq hdc hdc9;have HD:=Hq2 hdv hdcell;have hk':=hk;obtain⟨ok,oa,ob_,oc,os,ot,odv,od⟩:=o;simp only at hk' hdv hdc hdcell hd6;subst hk';subst hdv;clear h hB hb hl hE ho hk hML hroom hq hdcell;unfold opA opV;go_enter Tryz.func23,Tryz.ntmps23;go_upto_region 9 with(fail);obtain⟨ob,hob⟩:∃ob,ob=W.heap.size:=⟨_,rfl⟩
 have hT1:Turns [] ((ob,Is (oO ⟨1,oa,ob_,oc,os,ot,.slice dsl od.length dcap,od⟩))::wsF X) w0 (W.alloc (.cells #[.int .i64 1,.int .i64 oa,.int .i64 ob_,.int .i64 oc,str os,str ot,.slice dsl od.length dcap] 65)):=by
  rw[hob];exact HH.a.turns.Q8 _
 rw[<- hob];generalize W.alloc (.cells #[.int .i64 1,.int .i64 oa,.int .i64 ob_,.int .i64 oc,str os,str ot,.slice dsl od.length dcap] 65)=W1 at hT1 ⊢;have o6:W1.cell? ⟨ob,6,none⟩=some (.slice dsl od.length dcap):=aa hT1.sat.Q5 6 rfl;have hDW:∀(W:World) (G:HF),Turns [] G w0 W->ak W dsl (od.map ao):=fun W G hG=>HD.z.turns (by exact hG)
 have HDW:=qqH hDW;have HT1:=qqH hT1;clear hT1 hDW hob;go_wp2_with fail;refine(Aa dsl dcap od W1 (by omega) (HDW.out _ _ HT1.out)).mono ?_;intro e W2 hr;obtain⟨rfl,hrT⟩:=Ab hr;obtain⟨B,hBd⟩:∃B,B=W1.heap.size:=⟨_,rfl⟩;rw[<- hBd]at hrT ⊢
 have hT2:Turns [] (arF X.S++((ob,Is (oO ⟨1,oa,ob_,oc,os,ot,.slice dsl od.length dcap,od⟩))::(B,Is (.cells (az (od++[71,72])) 5 (0,0)))::(X.U.blk,Is (aC X.U))::(aI X.R++br X))) w0 W2:=by
  have:=HT1.out.Qb hrT;unfold wsF at this;exact this.to af
 have HT2:=qqH hT2;clear hr hrT hT2 hBd o6;go_upto_region 10 with(fail)
 have hcells:∀(W:World) (G:HF),Turns [] (G++((ob,Is (oO ⟨1,oa,ob_,oc,os,ot,.slice dsl od.length dcap,od⟩))::(B,Is (.cells (az (od++[71,72])) 5 (0,0)))::(X.U.blk,Is (aC X.U))::(aI X.R++br X))) w0 W ->
   W.cell? ⟨X.U.blk,1,none⟩=some (.pointer (some ⟨X.S.a,0,none⟩))/\W.cell? ⟨ob,4,none⟩=some (str os):=by
  intro W G hT;have hu:W.heap[X.U.blk]?=some (aC X.U):=hT.sat.Q7 (by simp);have ho:W.heap[ob]?=some (oO ⟨1,oa,ob_,oc,os,ot,.slice dsl od.length dcap,od⟩):=hT.sat.Q7 (by simp);refine⟨?_,aa ho 4 rfl⟩;have:=aa hu 1 (v:=qA X.U.a) rfl;rw[HH.a.a]at this;exact this
 have HCE:=qqH hcells;clear hcells;obtain⟨u1,o4⟩:=HCE.out W2 _ HT2.out;have HO:=qqH (DQ X.S os od (some ⟨B,0,none⟩) (od.length+2) b W2.drew (HT2.out.drew.sat.left) HH.a.ar HH.b HH.c (Cv (HT2.out.drew.sat.Q7 (by simp))) (by omega) (by omega) (fun x hx hd=>by obtain rfl:=Option.some.inj hx;exact HT2.out.drew.sat.Qh hd (by simp)) (by have:=HH.f.s;simp only at this;omega) HQ.c);refine bb 7 HM.out (by kernel_rfl) rfl ?_;simp only[List.take_succ_cons,List.take_zero];repeat still_step
 refine wpStill_nil ?_;refine bd (by kernel_rfl) HO.out ?_;intro e W3 hp;rcases hp with⟨n,rfl,hG,hn⟩|⟨h1,h2,h3,h4,⟨sp,chs,-,-,-,hfull,hch⟩|⟨S',V,rfl,hps,hok',hpb,hG⟩⟩
 ·refine⟨_,rfl,?_⟩;simp only[Act.put,List.setIfInBounds_toArray,List.set_cons_zero,List.set_cons_succ,List.drop_succ_cons,List.drop_zero];repeat still_step
  refine wpStill_nil ?_;have hT3:=HT2.out.drew.step (List.Perm.refl _) hG;have hn':n9 X.S os od n:=hn;have HT3:=Hq2 hT3 hn';clear hG hT3 hn hn';have o6:W3.cell? ⟨ob,6,none⟩=some (.slice dsl od.length dcap):=aa (HT3.a.sat.Q7 (b:=ob) (o:=oO ⟨1,oa,ob_,oc,os,ot,.slice dsl od.length dcap,od⟩) (by simp)) 6 rfl;go_wp2_with fail;refine(rh B dsl dcap od W3 (by omega) (HT3.a.sat.Q7 (by simp)) (HDW.out _ _ HT3.a)).mono ?_;rintro e W4 ⟨rfl,hs4⟩
  have hT4:Turns [] (arF X.S++((ob,Is (oO ⟨1,oa,ob_,oc,os,ot,.slice dsl od.length dcap,od⟩))::(X.U.blk,Is (aC X.U))::(aI X.R++br X))) w0 W4 :=
   (HT3.a.to (H:=(B,Is (.cells (az (od++[71,72])) 5 (0,0)))::(arF X.S++((ob,Is (oO ⟨1,oa,ob_,oc,os,ot,.slice dsl od.length dcap,od⟩))::(X.U.blk,Is (aC X.U))::(aI X.R++br X)))) af).Ql hs4
  have hc4:∀(W:World) (F:HF),Turns [] (F++((ob,Is (oO ⟨1,oa,ob_,oc,os,ot,.slice dsl od.length dcap,od⟩))::(X.U.blk,Is (aC X.U))::br X)) w0 W->W.cell? ⟨X.U.blk,2,none⟩=some (.pointer (some ⟨X.R.blk,0,none⟩))/\W.cell? ⟨ob,4,none⟩=some (str os)/\W.cell? ⟨ob,6,none⟩=some (.slice dsl od.length dcap):=by
   intro W F hT;have hu:W.heap[X.U.blk]?=some (aC X.U):=hT.sat.Q7 (by simp);have ho:W.heap[ob]?=some (oO ⟨1,oa,ob_,oc,os,ot,.slice dsl od.length dcap,od⟩):=hT.sat.Q7 (by simp);refine⟨?_,aa ho 4 rfl,aa ho 6 rfl⟩;have:=aa hu 2 (v:=.pointer (some ⟨X.U.r,0,none⟩)) rfl;rw[HH.a.r]at this;exact this
  have HT4:=Hq2 hT4 hc4;clear hs4 hT4 hc4 o6;go_upto_region 12 with(fail);obtain⟨u2,o4',o6'⟩:=HT4.z W4 (arF X.S++aI X.R) (HT4.a.to af);have HR:=qqH (tz X.R X.P os od dsl dcap W4.drew (HH.a.refAt' HH.d (HT4.a.drew.sat.right.tail.tail)) (Dq HH.a.link HH.b HH.c) (HDW.out _ _ HT4.a.drew) (by omega));refine bb 8 HM.out (by kernel_rfl) rfl ?_;simp only[List.take_succ_cons,List.take_zero];repeat still_step
  refine wpStill_nil ?_;refine bd (by kernel_rfl) HR.out ?_;intro e W5 hp;obtain⟨rfl,hs5⟩:=HT3.z.ref HH.a.link hp;refine⟨_,rfl,?_⟩;simp only[Act.put,List.setIfInBounds_toArray,List.set_cons_zero,List.set_cons_succ,List.drop_succ_cons,List.drop_zero];repeat still_step
  refine wpStill_nil ?_;have hT5:=HT4.a.drew.Q9 hs5;have hE5:bq W5:=HH.e.keep hT5.mods (fun h=>by simp at h);have HT5:=Hq2 hT5 hE5;have hnn:=HT3.z.ne;have hn0:(n==0)=false:=by simp;omega
  clear hp hs5 hT5 hE5 hnn;go_wp2_with fail;refine(cR (cC n) n W5 HT5.z (.inr (.inl rfl))).mono ?_;rintro e W6 ⟨rfl,hs6⟩;have HT6:=qqH (HT5.a.Q9 hs6);clear hs6;go_wp2_with (go_at_call 41;refine(fp _ _).mono ?_;rintro e w' ⟨rfl,rfl⟩);refine bodyPost_ret (results_tmp rfl _ _ _) rfl ⟨rfl,.inl (HH.a.back ?_)⟩;exact HT6.out.drop (fun x=>by unfold wsF;simp only[aB,an]<;>omega)
 ·exfalso;have:=zO (S:=X.S) (D:=od) (bM h2) (n:=(eJ (ai X.S.ps os):Int)+1) (s:=od.length) hch;have hr:=HQ.b;omega
 ·refine⟨_,rfl,?_⟩;simp only[Act.put,List.setIfInBounds_toArray,List.set_cons_zero,List.set_cons_succ,List.drop_succ_cons,List.drop_zero];repeat still_step
  refine wpStill_nil ?_;have hT3:=HT2.out.drew.step (List.Perm.refl _) hG;have HT3:=Hq8 hT3 hps hok' hpb h1 h2 h3 h4;clear hG hT3 hps hok' hpb h1 h2 h3 h4;have o6:W3.cell? ⟨ob,6,none⟩=some (.slice dsl od.length dcap):=aa (HT3.a.sat.Q7 (b:=ob) (o:=oO ⟨1,oa,ob_,oc,os,ot,.slice dsl od.length dcap,od⟩) (by simp)) 6 rfl;go_wp2_with fail;refine(rh B dsl dcap od W3 (by omega) (HT3.a.sat.Q7 (by simp)) (HDW.out _ _ HT3.a)).mono ?_;rintro e W4 ⟨rfl,hs4⟩
  have hT4:Turns [] (arF S'++((ob,Is (oO ⟨1,oa,ob_,oc,os,ot,.slice dsl od.length dcap,od⟩))::(X.U.blk,Is (aC X.U))::(aI X.R++br X))) w0 W4 :=
   (HT3.a.to (H:=(B,Is (.cells (az (od++[71,72])) 5 (0,0)))::(arF S'++((ob,Is (oO ⟨1,oa,ob_,oc,os,ot,.slice dsl od.length dcap,od⟩))::(X.U.blk,Is (aC X.U))::(aI X.R++br X)))) af).Ql hs4
  have hc4:∀(W:World) (F:HF),Turns [] (F++((ob,Is (oO ⟨1,oa,ob_,oc,os,ot,.slice dsl od.length dcap,od⟩))::(X.U.blk,Is (aC X.U))::br X)) w0 W->W.cell? ⟨X.U.blk,2,none⟩=some (.pointer (some ⟨X.R.blk,0,none⟩))/\W.cell? ⟨ob,4,none⟩=some (str os)/\W.cell? ⟨ob,6,none⟩=some (.slice dsl od.length dcap):=by
   intro W F hT;have hu:W.heap[X.U.blk]?=some (aC X.U):=hT.sat.Q7 (by simp);have ho:W.heap[ob]?=some (oO ⟨1,oa,ob_,oc,os,ot,.slice dsl od.length dcap,od⟩):=hT.sat.Q7 (by simp);refine⟨?_,aa ho 4 rfl,aa ho 6 rfl⟩;have:=aa hu 2 (v:=.pointer (some ⟨X.U.r,0,none⟩)) rfl;rw[HH.a.r]at this;exact this
  have HT4:=Hq2 hT4 hc4;clear hs4 hT4 hc4 o6;go_upto_region 12 with(fail);obtain⟨u2,o4',o6'⟩:=HT4.z W4 (arF S'++aI X.R) (HT4.a.to af);have HR:=qqH (tz X.R X.P os od dsl dcap W4.drew (HH.a.refAt' HH.d (HT4.a.drew.sat.right.tail.tail)) (Dq HH.a.link HH.b HH.c) (HDW.out _ _ HT4.a.drew) (by omega));refine bb 8 HM.out (by kernel_rfl) rfl ?_;simp only[List.take_succ_cons,List.take_zero];repeat still_step
  refine wpStill_nil ?_;refine bd (by kernel_rfl) HR.out ?_;intro e W5 hp;obtain⟨vv,cv,he,hco,hro,hG⟩:=n9.no HH.a.link HT3.e HT3.f HT3.g HT3.t hp;rw[HH.a.link.nr]at he;subst he;refine⟨_,rfl,?_⟩;simp only[Act.put,List.setIfInBounds_toArray,List.set_cons_zero,List.set_cons_succ,List.drop_succ_cons,List.drop_zero];repeat still_step
  refine wpStill_nil ?_
  have hT5:Turns [] ((X.U.blk,Is (aC X.U))::(ob,Is (oO ⟨1,oa,ob_,oc,os,ot,.slice dsl od.length dcap,od⟩))::(dl X.U.most X.M++(arF S'++(aI (ET X ⟨1,oa,ob_,oc,os,ot,.slice dsl od.length dcap,od⟩ vv cv)++(aK cv od++(bc X.P++aK X.U.out X.O)))))) w0 W5:=by
   have:=(HT4.a.drew.to (H:=aI X.R++(arF S'++((ob,Is (oO ⟨1,oa,ob_,oc,os,ot,.slice dsl od.length dcap,od⟩))::(X.U.blk,Is (aC X.U))::br X))) af).step (List.Perm.refl _) hG;unfold br at this;exact this.to (by unfold ET;exact af)
  have hE5:bq W5:=HH.e.keep hT5.mods (fun h=>by simp at h);have HT5:=Hq4 hT5 hE5 hco hro;clear hp hG hT5 hE5 hco hro;go_wp2_with fail;refine(cR .nilIface 0 W5 HT5.b (.inl ⟨rfl,rfl⟩)).mono ?_;rintro e W6 ⟨rfl,hs6⟩;have HT6:=qqH (HT5.a.Q9 hs6);clear hs6;go_upto_region 15 with(fail)
  refine I3 [] (dl X.U.most X.M++(arF S'++(aI (ET X ⟨1,oa,ob_,oc,os,ot,.slice dsl od.length dcap,od⟩ vv cv)++(aK cv od++(bc X.P++aK X.U.out X.O))))) w0 X.U.blk ob X.U ⟨1,oa,ob_,oc,os,ot,.slice dsl od.length dcap,od⟩
   (fun v G=>∃M',uL v M'/\M'.map (·.bs)=nJ (X.M.map (·.bs)) (aH od)/\(∀x∈M',x∈X.M\/mj dsl dcap od x)/\G=dl v M'++(arF S'++(aI (ET X ⟨1,oa,ob_,oc,os,ot,.slice dsl od.length dcap,od⟩ vv cv)++(aK cv od++(bc X.P++aK X.U.out X.O))))) HT6.out ?call ?one ?_
  case call =>
   intro Wx hTx;have hx:=hTx.to (H:=dl X.U.most X.M++((X.U.blk,Is (aC X.U))::(ob,Is (oO ⟨1,oa,ob_,oc,os,ot,.slice dsl od.length dcap,od⟩))::(arF S'++(aI (ET X ⟨1,oa,ob_,oc,os,ot,.slice dsl od.length dcap,od⟩ vv cv)++(aK cv od++(bc X.P++aK X.U.out X.O)))))) af;refine(Cp dsl dcap od X.U.most X.M Wx hx.sat.left HH.a.most (fun W' G hG x hxm=>?_) (fun W' G hG=>?_) HQ.d HQ.w (by omega) (by have:=HQ.a;omega)).mono ?_
   ·have hy:=hx.step (List.Perm.refl _) hG;exact(HH.a.ms x hxm).at hy (hy.sat.sub (G:=bc X.P) bw) HH.a.pok
   ·exact HDW.out _ _ (hx.step (List.Perm.refl _) hG)
   ·rintro e W' ⟨v,M',rfl,g1,g2,g3,g4⟩;exact⟨v,rfl,_,⟨M',g1,g2,g3,rfl⟩,(hx.step (List.Perm.refl _) g4).to af⟩
  case one =>
   rintro v G Wx ⟨M',g1,-,-,rfl⟩ hTx;obtain⟨h1,h2,-⟩:=ew (hTx.sat.tail.tail.left) g1;exact⟨h1,h2⟩
  intro y77 y78 y79 y80 y81 y82 y83 y84 y85 y86 W7 ⟨G,⟨M',g1,g2,g3,hG⟩,hT7⟩;subst hG;have HT7:=Hq4 hT7 g1 g2 g3;clear hT7 g1 g2 g3;go_wp2_with (go_at_call 41;refine(fp _ _).mono ?_;rintro e w' ⟨rfl,rfl⟩);refine bodyPost_ret (results_tmp rfl _ _ _) rfl ⟨rfl,.inr ⟨S',V,vv,cv,y84,M',HT3.e,HT3.b,HT3.d,HT3.g,HT7.c,?_⟩⟩;have hmem:∀p∈X.P,p∈X.P++[(cv,od)]:=fun p hp=>List.mem_append_left _ hp
  refine⟨HT7.a.drop (fun x=>?_),?_,HH.a.r,?_,HT3.c,HT5.x,?_,?_,HH.a.out,HH.a.want.grow hmem,HT7.b,?_,HH.a.link.put HH.a.ar HT3.c HT3.b HT3.f HT3.g,HH.a.olen⟩
  ·unfold wsF br I0 bc;simp only[List.flatMap_append,List.flatMap_cons,List.flatMap_nil,List.append_nil,aB,an]<;>omega
  ·show X.U.a=some S'.a;rw[HT3.b.a];exact HH.a.a
  ·show X.U.d=S'.X.d;rw[HT3.b.d];exact HH.a.d
  ·intro p hp;rcases List.mem_append.1 hp with hp|hp
   ·exact HH.a.pok p hp
   ·obtain rfl:=List.mem_singleton.1 hp;exact HT5.c
  ·intro v hv;rcases nm.1 hv with hv|rfl
   ·exact hmem _ (HH.a.inp v hv)
   ·exact List.mem_append_right _ (List.mem_singleton.2 rfl)
  ·intro x hx;rcases HT7.x x hx with hx|hx
   ·exact(HH.a.ms x hx).grow hmem
   ·exact .inl (hx.at HD.z HQ.d HQ.w)
def io(X:Bs)(a e:Nat):Bs:=(X.take e).drop a
theorem Cd(X bo:Bs)(a e:Nat):io (X++bo) a e=io X a e++(bo.take (min (e-X.length) bo.length)).drop (a-X.length):=by
 unfold io;rw[List.take_append,List.drop_append,List.length_take];congr 1;rw[<- List.take_take,List.take_length];by_cases h:e<=X.length
 ·rw[Nat.sub_eq_zero_of_le h];simp
 ·rw[Nat.min_eq_right (by omega)]
def Id(S:AS)(l:Bs)(n a c:Int)(w:World)(e:Ending)(w':World):Prop :=
 (∃k,i5 S l n k/\e=.returned (.tuple #[.slice none 0 0,cC k])/\Turns (arF S) (arF S) w w') \/
 (∃V,iB S l n V/\(a<0\/c<0\/(V.size:Int)<a)/\e=.returned (.tuple #[.slice none 0 0,cC 4])/\Turns (arF S) (arF S) w w') \/
 (∃V v sp,iB S l n V/\¬(a<0\/c<0\/(V.size:Int)<a)/\e=.returned (.tuple #[v,.nilIface])/\bOk v (((dG S V).drop a.toNat).take c.toNat)/\AreaOk { S.A with spare:=sp }/\Turns (arF S) (aK v (((dG S V).drop a.toNat).take c.toNat)++arF { S with A:={ S.A with spare:=sp } }) w w')
def JD(S:AS)(V:VerL)(a m:Nat)(w:World)(out fr i:Value)(W:World):Prop :=
 ∃(j:Nat) (sp:List (Nat×Nat×Nat)) (J:HF),j<=V.chs.length/\i=.int .i64 j/\fr=.int .i64 (((V.chs.take j).flatMap (dA S.K)).length:Nat)/\bOk out (io ((V.chs.take j).flatMap (dA S.K)) a (a+m))/\AreaOk { S.A with spare:=sp } /\
  Turns (arF S) (aK out (io ((V.chs.take j).flatMap (dA S.K)) a (a+m))++(arF { S with A:={ S.A with spare:=sp } }++J)) w W
theorem GQ{X:Bs}{a c m size:Nat}(hX:X.length=size)(ha:a<=size)(hm:min (c:Int) ((size:Int)-a)=m):io X a (a+m)=(X.drop a).take c:=by
 unfold io;rw[List.drop_take];have:a+m-a=min c (size-a):=by omega
 rw[this,<- List.take_take,List.take_of_length_le (i:=size-a) (by rw[List.length_drop];omega)]
theorem wI(S:AS)(l:Bs)(n a c:Int)(b:Nat)(w:World)(h:Sat w (arF S))(hok:ArOk S)(hB:ArB S b)(hb:b<=90000)(_:l.length<=9223372036854775807)(hc2:c<=9223372036854775807):
  Calls Tryz.prog 103 #[.pointer (some ⟨S.a,0,none⟩),str l,.int .i64 n,.int .i64 a,.int .i64 c] w (Id S l n a c w):=by
 have HF:=qqH (iJ S.a S.X S.ps S.pc l n w h.Q5 (h.tail.right.right.left) hok.paths);have HH:=Hq4 h hok hB hb;clear h hok hB hb;go_enter Tryz.func103,Tryz.ntmps103;go_wp2_with fail;refine HF.out.mono ?_;intro e w1 hp;obtain⟨hs,⟨k,hk,rfl⟩|⟨V,hV,rfl⟩⟩:=iK hp
 ·have HK:=Hq2 hk hs;clear hp hs hk;unfold cC;go_wp2_with fail;exact bodyPost_ret (results_tmp2 rfl _ _ _) rfl (.inl ⟨k,HK.a,rfl,(Turns.same HH.a HK.z)⟩)
 ·obtain⟨p,hpm,hpk,hVp⟩:=pX hV.2.2;have hT1:Turns (arF S) (arF S) w w1:=Turns.same HH.a hs;have hps:Sat w1 (er p.val p.g):=Sat.flat (f:=fun p:bl=>er p.val p.g) (hT1.sat.tail.right.right.left).tail hpm;have hvf:Sat w1 (bT V):=Sat.flat (f:=bT) hps.right hVp;have hpo:bQ V.cv V.chs:=(HH.b.paths.rows p hpm).2 V hVp;obtain⟨sl,cap,hcv,e2,e3,hcell⟩:=gW hvf.tail hpo;have v1:w1.cell? ⟨V.blk,1,none⟩=some (.int .i64 V.size):=aa hvf.Q5 1 rfl;have v2:w1.cell? ⟨V.blk,2,none⟩=some (.slice sl V.chs.length cap):=by rw[<- hcv];exact aa hvf.Q5 2 rfl
  have hvl:=ah hvf.Q5
  have hcl:V.chs.length<=90000/\V.size<=65536*90000:=by
   have h1:=(HH.c.vers p hpm).2.2 V hVp;have:=HH.x;omega
  have hclen:=kV HH.b hpm hVp;have HV:=Hq8 hV hpm hVp hT1 hcell hpo hcv hclen;clear hp hs hV hpm hpk hVp hT1 hps hvf hpo hcv hcell hclen;unfold dz;by_cases h1:a<0
  ·go_wp2_with fail;exact bodyPost_ret (results_tmp2 rfl _ _ _) rfl (.inr (.inl ⟨V,HV.a,.inl h1,rfl,HV.d⟩))
  ·by_cases h2:c<0
   ·go_wp2_with fail;exact bodyPost_ret (results_tmp2 rfl _ _ _) rfl (.inr (.inl ⟨V,HV.a,.inr (.inl h2),rfl,HV.d⟩))
   ·by_cases h3:(V.size:Int)<a
    ·go_wp2_with fail;exact bodyPost_ret (results_tmp2 rfl _ _ _) rfl (.inr (.inl ⟨V,HV.a,.inr (.inr h3),rfl,HV.d⟩))
    ·obtain⟨a,rfl⟩:∃a':Nat,a=a':=⟨a.toNat,by omega⟩;obtain⟨c,rfl⟩:∃c':Nat,c=c':=⟨c.toNat,by omega⟩;obtain⟨m,hm⟩:∃m:Nat,min (c:Int) ((V.size:Int)-a)=m:=⟨(min (c:Int) ((V.size:Int)-a)).toNat,by omega⟩;have hHm:=Hq2 hm h3;have hms:a+m<=V.size:=by omega
     go_wp2_with fail;clear hm;have d1:decide ((a:Int)<0)=false:=decide_eq_false (by omega);have d2:decide ((c:Int)<0)=false:=decide_eq_false (by omega);have d3:decide (V.size<a)=false:=decide_eq_false (by omega);simp only[d1,d2,d3,Bool.or_false];clear d1 d2 d3;go_loopw [14,15,60] (fun out fr i wr=>JD S V a m w out fr i wr) (fun _ _ i _=>V.chs.length-(intOf i).toNat)
     case atStart=>exact⟨0,S.A.spare,[],Nat.zero_le _,rfl,rfl,by simpa[io]using fA,HH.b.area,by rw[List.append_nil];simp only[List.take_zero,List.flatMap_nil,io,List.take_nil,List.drop_nil];exact HV.d⟩
     case round =>
      obtain⟨j,sp,J,hj,rfl,rfl,hbo,hAo,hT⟩:=hrel;obtain⟨X,hX⟩:∃X,X=(V.chs.take j).flatMap (dA S.K):=⟨_,rfl⟩;rw[<- hX]at hbo hT ⊢
      have hXl:X.length<=V.size:=by
       have h1:X.length<=(dG S V).length:=by
        unfold dG;conv=>rhs;rw[<- List.take_append_drop j V.chs,List.flatMap_append,List.length_append,<- hX]
        omega
       rw[HV.t]at h1;exact h1
      have HR:=Hq4 hbo hAo hT hX;clear hbo hAo hT hX;by_cases hlt:j<V.chs.length
      ·obtain⟨hver,hcells⟩:=ww HH.b HV.b HV.c HV.g (W:=wr) (HR.c.sat.sub (fun x=>by simp only[arF,aB,an]<;>omega));obtain⟨g,off,hg,hcell⟩:=hcells (by rw[fO];omega);subst hg;obtain⟨hc1,hc2⟩:=pJ hcell hlt;obtain⟨q,hq⟩:∃q,q=V.chs[j]:=⟨_,rfl⟩;rw[<- hq]at hc1 hc2;have hbK:=Gl HH.b HV.b HV.c (q:=q) (by rw[hq];exact List.getElem_mem hlt);obtain⟨bo,hbo⟩:∃bo,bo=dA S.K q:=⟨_,rfl⟩;rw[<- hbo]at hbK;have hq2:q.2=bo.length:=(HH.b.kat _ hbK).1;have hbody:=(HH.b.kat _ hbK).2.Qe HH.b.dat
       have htk:(V.chs.take (j+1)).flatMap (dA S.K)=X++bo:=by
        rw[List.take_succ_eq_append_getElem hlt,List.flatMap_append,hbo,hq,HR.x];simp
       have hXb:X.length+q.2<=V.size:=by
        have h1:((V.chs.take (j+1)).flatMap (dA S.K)).length<=(dG S V).length:=by
         unfold dG;conv=>rhs;rw[<- List.take_append_drop (j+1) V.chs,List.flatMap_append,List.length_append]
         omega
        rw[HV.t,htk,List.length_append]at h1;omega
       have hpa:=Cd X bo a (a+m);obtain⟨B8,hB8⟩:∃B8,B8=wr.heap.size:=⟨_,rfl⟩;obtain⟨bs,hbs⟩:∃bs,bs=io X a (a+m):=⟨_,rfl⟩;rw[<- hbs]at hpa HR;have hbsl:bs.length<=V.size:=by rw[hbs];unfold io;rw[List.length_drop,List.length_take];omega
       have hT8:Turns (arF S) (ay S.X.ab S.X.d { S.A with spare:=sp }++((B8,Is (aJ q))::(aK u14 bs++((S.a,Is (aO S.X))::(aE S.X.d S.L++(aU S.X.pm S.ps S.pc++(dm S.X.tm S.ts S.tc++(bm S.X.cm S.cs S.cc++J)))))))) w (wr.alloc (aJ q)):=by
        rw[hB8];exact(HR.c.Q8 (aJ q)).to (by unfold arF;exact af)
       have HLd:=qqH (fun(W:World) hT=>oJ S.a S.X S.X.ab S.X.d rfl { S.A with spare:=sp } S.L q.1 bo ((B8,Is (aJ q))::(aK u14 bs++((S.a,Is (aO S.X))::(aE S.X.d S.L++(aU S.X.pm S.ps S.pc++(dm S.X.tm S.ts S.tc++(bm S.X.cm S.cs S.cc++J))))))) W hT (fun x=>by simp only[aB,an];omega) HH.b.dev HR.b HH.b.fits HH.b.nmax hbody);rw[<- hq2]at HLd;obtain⟨fr,hfr⟩:∃fr,fr=X.length:=⟨_,rfl⟩;rw[<- hfr]at hXl hXb hpa ⊢;have HQ:=Hq8 hbK hq2 htk hpa hT8 hB8 hbsl hfr;clear hver hcells hcell hq hbK hbo hq2 hbody htk hpa hT8 hB8 hbs hbsl hfr;obtain⟨lo,m1⟩:∃lo:Nat,max ((a:Int)-fr) 0=lo:=⟨(max ((a:Int)-fr) 0).toNat,by omega⟩;obtain⟨hi,m2⟩:∃hi:Int,min ((a:Int)+m-fr) q.2=hi:=⟨_,rfl⟩;have s1:IntKind.i64.wrap ((a:Int)-fr)=(a:Int)-fr:=IntWalk.i64_in _ (by omega);have s2:IntKind.i64.wrap ((a:Int)+m)=(a:Int)+m:=IntWalk.i64_in _ (by omega);have s3:IntKind.i64.wrap ((a:Int)+m-fr)=(a:Int)+m-fr:=IntWalk.i64_in _ (by omega);have s4:IntKind.i64.wrap ((fr:Int)+q.2)=((fr+q.2:Nat):Int):=by rw[IntWalk.i64_in _ (by omega)];omega
       have HM:=Hq2 m1 m2;go_wp2_with fail;go_quiet (fail);by_cases hlh:(lo:Int)<hi
       ·obtain⟨hi,rfl⟩:∃h':Nat,hi=h':=⟨hi.toNat,by omega⟩;have hh:hi<=q.2:=by omega
        clear m1 m2 s1 s2 s3;go_wp2_with fail;refine(HLd.out _ ((HQ.e.drewN nq).sat)).mono ?_;rintro e w4 ⟨av,cv,sp2,rfl,hok4,hAo4,hT4⟩;have hT5:=(HQ.e.drewN nq).trans hT4;obtain⟨av',cv',hev,-,hcv4,hav,-⟩:=aV (dX hT4.sat.left hok4);simp only[Value.slice.injEq,true_and]at hev;obtain⟨rfl,rfl⟩:=hev;rw[<- HQ.f];have hT6:Turns (arF S) (aK u14 bs++(arF { S with A:={ S.A with spare:=sp2 } }++((B8,Is (aJ q))::(aK (.slice av bo.length cv) bo++J)))) w w4:=hT5.to (by unfold arF;exact af);have hb8:=hT6.sat.Q7 (b:=B8) (o:=aJ q) (by simp);have p1:w4.cell? ⟨B8,1,none⟩=some (.int .i64 q.2):=aa hb8 1 rfl;have hb8l:=ah hb8;rw[<- HQ.b]at hcv4 ⊢;obtain⟨g4,off4,hg4,hcl4⟩:=hav (by rw[List.length_map,<- HQ.b];omega);subst hg4
        have hcr:ak w4 (some ⟨g4,off4+lo,none⟩) (((bo.take hi).drop lo).map ao):=fun _=>⟨g4,off4+lo,rfl,fun j hj=>by
         have hj':j<hi-lo:=by simp at hj;omega
         have h9:=hcl4 (lo+j) (by rw[List.length_map,<- HQ.b];omega);rw[Nat.add_assoc,h9];simp⟩
        have hrl:hi-lo=((bo.take hi).drop lo).length:=by rw[List.length_drop,List.length_take,<- HQ.b];omega
        have m5:¬cv=lo:=by omega
        have m6:¬lo=cv:=by omega
        have H4:=Hq4 hAo4 hT6 hcr hrl;clear hok4 hAo4 hT4 hT5 hav hT6 hcr hrl hcl4 hb8;go_wp2_with ((at_builtin;go_loud (refine al rfl ?_;refine iY (.tmp 88) (.tmp 92) rfl u14 bs rfl H4.b HR.a _ (hi-lo) _ rfl ((bo.take hi).drop lo) H4.x H4.c (by have:=H4.x;have:=HQ.g;omega) ?_;intro av2 cv2 w6 hok6 hT6 _;have hb86:=hT6.sat.Q7 (b:=B8) (o:=aJ q) (by simp);have p6:w6.cell? ⟨B8,1,none⟩=some (.int .i64 q.2):=aa hb86 1 rfl;have hb8l6:=ah hb86;have H6:=Hq2 hok6 hT6;clear hok6 hT6 hb86)));go_roundw
        case rel =>
         have e9:io (X++bo) a (a+m)=bs++(bo.take hi).drop lo:=by
          rw[HQ.d];have:=HM.a;have:=HM.z;have:=HQ.b;rw[show min (a+m-fr) bo.length=hi by omega,show a-fr=lo by omega]
         refine⟨j+1,sp2,(B8,Is (aJ q))::(aK (.slice (some ⟨g4,off4,none⟩) bo.length cv) bo++J),by omega,by go_num,?_,?_,H4.a,?_⟩
         ·rw[HQ.c,List.length_append,<- HQ.b,<- HQ.t,Int.natCast_add]
         ·rw[HQ.c,e9];have:=H6.a;simp only[List.length_append,List.length_drop,List.length_take]at this;exact this
         ·rw[HQ.c,e9];have:=H6.z;simp only[List.length_append,List.length_drop,List.length_take]at this;exact this
        case measure=>simp[intOf];omega
       ·clear m1 m2 s1 s2 s3;have hb8:=(HQ.e.drewN nq).sat.Q7 (b:=B8) (o:=aJ q) (by simp);rw[HQ.f]at hb8;have p1:=aa (v:=.int .i64 q.2) hb8 1 rfl;clear hb8;go_wp2_with fail;go_roundw
        case rel =>
         have e9:io (X++bo) a (a+m)=bs:=by
          rw[HQ.d];have:=HM.a;have:=HM.z;have:=HQ.b;rw[List.drop_eq_nil_of_le (by rw[List.length_take];omega),List.append_nil]
         refine⟨j+1,sp,(B8,Is (aJ q))::J,by omega,by go_num,?_,?_,HR.b,?_⟩
         ·rw[HQ.c,List.length_append,<- HQ.b,<- HQ.t,Int.natCast_add]
         ·rw[HQ.c,e9];exact HR.a
         ·rw[HQ.c,e9];exact(HQ.e.drewN nq).to (by unfold arF;exact af)
        case measure=>simp[intOf];omega
      ·obtain rfl:j=V.chs.length:=by omega
       have hXc:X=dG S V:=by rw[HR.x,List.take_length];rfl
       have hpe:io X a (a+m)=((dG S V).drop a).take c:=by
        rw[hXc];exact GQ HV.t (by omega) hHm.a
       rw[hpe]at HR;have HE:=Hq2 hXc hpe;clear hXc hpe;go_wp2_with fail;refine bodyPost_ret (results_tmp2 rfl _ _ _) rfl (.inr (.inr ⟨V,u14,sp,HV.a,?_,rfl,HR.a,HR.b,HR.c.drop (fun x=>by simp only[Int.toNat_natCast,an];omega)⟩));have:=hHm.z;omega
end
end Go.Proofs.YtdhobpbngkainaaGreatDoor
