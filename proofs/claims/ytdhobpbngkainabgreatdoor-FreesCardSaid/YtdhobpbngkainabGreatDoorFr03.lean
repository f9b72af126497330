/- Ours. A part of the proof, made small by a program. -/
import Derived.Test.YtdhobpbngkainabGreatDoorFr02
set_option maxRecDepth 100000
set_option maxHeartbeats 4000000
namespace Go.Proofs.YtdhobpbngkainabGreatDoor
open List
section
open Go.RowKit
structure ArchL where
 pm:Nat
 tm:Nat
 cm:Nat
 sc:Int
 sb:Int
 used:Int
 d:Nat
 ab:Nat
 ep:Nat
 quota:Int
 closed:Bool
 broken:Value
def bl(X:ArchL):Array Value:=#[.map (some X.pm),.map (some X.tm),.map (some X.cm),.int .i64 X.sc,.int .i64 X.sb,.int .i64 X.used,.pointer (some ⟨X.d,0,none⟩),.pointer (some ⟨X.ab,0,none⟩),.int .u32 X.ep,.int .i64 X.quota,.bool X.closed,X.broken]
def aJ(X:ArchL):Obj:=.cells (bl X) 59 (0,0)
theorem mf{l:Bs}{first count k:Nat}(h:k<count):aM (aC l first count) k=aM l (first+k):=by
 unfold aM aC;rw[drop_take,drop_drop,take_take];congr 1
 ·omega
 ·congr 1;omega
theorem po{w:World}{b e n:Nat}{v:Value}{xs:List Value}(h:w.ownsRow b e 1 v n xs):∃a cap,v=.slice a n cap/\xs.length=n/\n<=cap/\cap<=9223372036854775807/\ak w a xs/\∀x,a=some x->v.ownBlock=some x.block:=by
 obtain⟨a,cap,rfl,h1,h2,h3,h4⟩:=qZ h;refine⟨a,cap,rfl,h1,h2,?_,h3,h4⟩;rcases h.2 with⟨hv,_⟩|⟨g,c,cur,hv,_,_,_,hc,_⟩
 ·simp only[Value.slice.injEq]at hv;omega
 ·simp only[Value.slice.injEq]at hv;unfold maxLen at hc;omega
def cW(q:Int):Int:=if(0:Int)>q then 0 else q
def qH(d:Nat)(L:DevL)(q:Int)(w:World)(e:Ending)(w':World):Prop :=
 ∃a ab pm tm cm ch L',e=.returned (.tuple #[.pointer (some ⟨a,0,none⟩),.nilIface]) /\
  Turns (aD d L) ((a,Is (aJ ⟨pm,tm,cm,0,0,0,d,ab,1,cW q,false,.nilIface⟩))::(pm,Is (.map #[] 0))::(tm,Is (.map #[] 0))::(cm,Is (.map #[] 0))::(ap ab d ⟨2+ay L.n,ay L.n,0,am 128,ch,[]⟩++aD d L')) w w' /\
  DevOk L'/\L'.n=L.n/\L'.now=aZ (fY L.now (2+ay L.n) 0 (am 128) (ay L.n)) 128 (cH 1 0)/\L'.safe=L'.now/\L'.chs=[]
theorem Az(d:Nat)(L:DevL)(q:Int)(w:World)(h:Sat w (aD d L))(hL:DevOk L)(hn:16<=L.n)(hn2:L.n<=1073741824)(hch:L.chs.length<=137438953472):
  Calls Tryz.prog 81 #[.pointer (some ⟨d,0,none⟩),.int .i64 q] w (qH d L q w):=by
 have HNC:=qqH i4
 have HH:Hid (∀W,Sat W (aD d L)->Calls Tryz.prog 76 #[.pointer (some ⟨d,0,none⟩),.int .u32 1] W (mG d (2+ay L.n) (ay L.n) W)):=qqH (fun W hW=>by
  have:=pj d L 1 W hW (by omega) hn2 (by omega);simpa using this)
 have HS:=Hq5 h hL hn hn2 hch;clear h hL hn hn2 hch;go_enter Tryz.func81,Tryz.ntmps81;go_wp2_with fail;obtain⟨w1,hw1⟩:∃w1,w1=w.alloc (.cells #[.int .u32 1,.int .u32 0] 179):=⟨_,rfl⟩;have hT1:Turns (aD d L) ((w.heap.size,Is (.cells #[.int .u32 1,.int .u32 0] 179 (0,0)))::aD d L) w w1:=by rw[hw1];exact(Turns.refl HS.a).Q8 _
 rw[<- hw1];have a0:=aa hT1.sat.Q5 0 rfl;obtain⟨u,hu⟩:∃u,u=w.heap.size:=⟨_,rfl⟩;rw[<- hu]at hT1 a0 ⊢;have HT:=qqH hT1;have hs1:aQ w w1:=by rw[hw1];exact(Mods.refl _ w).alloc _
 have HS1:=qqH hs1;clear hw1 hu hT1 hs1;refine db [([1,2,3,4,6,7,8,9],0,[1,2,3,4,6,7,8,9]),([],5,[1,6,7,8,9]),([10],11,[])] [12] HM.out (by kernel_rfl) fun W tW=>?_
 simp only[Mix,map_cons,map_nil,nth,QG,QF];have hT0:=tW HT.out;clear tW;have u0:∀{W:World} {F:HF},Sat W F->(u,Is (.cells #[.int .u32 1,.int .u32 0] 179 (0,0)))∈F->W.cell? ⟨u,0,none⟩=some (.int .u32 1):=fun hs hm=>aa (hs.Q7 hm) 0 rfl
 have c0:=u0 hT0.sat (by simp);iterate 7 still_step
 refine eG rfl (v:=.int .i64 (cW q)) (by kernel_rfl) ?_;simp only[Act.put,QA,QB,QC];refine wpStill_nil (aU (by kernel_rfl) (HNC.out _) ?_);rintro e W1 ⟨pm,tm,cm,rfl,hT3⟩;have hT1:=Turns.Qb hT0 hT3;refine⟨_,rfl,by(have c1:=u0 hT1.sat (by simp);(iterate 7 still_step);exact eG rfl (v:=.int .i64 (cW q)) (by kernel_rfl) rfl),wpStill_nil (aU (by kernel_rfl) (HH.out _ hT1.sat.right.tail) ?_)⟩;rintro e W2 ⟨ab,ch,rfl,hT3⟩;have hT2:=Turns.Qb hT1 hT3;refine⟨_,rfl,by(have c1:=u0 hT2.sat (by simp);(iterate 4 still_step);exact eG rfl (v:=.int .i64 (cW q)) (by kernel_rfl) rfl),?_⟩;simp only[Act.put,QA,QB,QC];refine eG rfl (v:=.agg (bl ⟨pm,tm,cm,0,0,0,d,ab,1,cW q,false,.nilIface⟩)) (by kernel_rfl) ?_;simp only[Act.put,QA,QB,QC];refine wpStill_nil (i8 (aJ ⟨pm,tm,cm,0,0,0,d,ab,1,cW q,false,.nilIface⟩) (fun g=>.pointer (some ⟨g,0,none⟩)) (by kernel_rfl) hT2 fun g w2 hT=>⟨rfl,?_⟩);simp only[Act.put,QA,QB,QC];repeat still_step
 refine wpStill_nil ?_;have g7:=aa hT.sat.Q5 7 (show(bl ⟨pm,tm,cm,0,0,0,d,ab,1,cW q,false,.nilIface⟩)[7]?=some (.pointer (some ⟨ab,0,none⟩))from rfl);have HAll:=qqH (qE ab d ⟨2+ay L.n,ay L.n,0,am 128,ch,[]⟩ L w2 (hT.sat.sub bB) HS.b (by simp only;unfold ay;have:=HS.c;omega) HS.d);have HT2:=qqH hT;clear hT0 hT1 hT2 hT c0 u0;go_wp2_with fail;refine HAll.out.mono ?_;rintro e w3 ⟨v,rfl,hok,hT3⟩;have hwl:=fH HS.b.nowL (first:=2+ay L.n) (k:=ay L.n) (by unfold ay;have:=HS.c;omega);obtain⟨ws,hws⟩:∃ws,ws=aC L.now (2+ay L.n) (ay L.n):=⟨_,rfl⟩;try simp only at hok hT3
 rw[<- hws]at hok hT3 hwl;obtain⟨av,cv,rfl,hlv,hcv,hcv2,hca,hav⟩:=po (cZ hT3.sat hok);have hT4:=Turns.Qb HT2.out hT3
 have hcut:=qG ab d ⟨2+ay L.n,ay L.n,0,am 128,ch,[]⟩ L 0 av cv ws w3 (hT4.sat.sub bB) HS.b (by simp only;unfold ay;have:=HS.c;omega) HS.d ⟨an _,by simp,fun _ h=>by simp at h⟩ hca
  (fun x hx hin=>hT4.sat.Qh (b:=x.block) ((eK _ _ _ _ _ _).2 (hav x hx)) (by simp only[cF,gI,mem_append,mem_cons]at hin ⊢;rcases hin with h|h<;>simp[h])) hwl hcv hcv2 (by simp only;unfold ay;have:=HS.c;omega) (Nat.zero_le _) HS.w
  (fun m hm he=>by simp only at hm ⊢;rw[hws,mf (by omega)]at he;exact he)
 have g7:=aa (hT4.sat.right.Q5) 7 (show(bl ⟨pm,tm,cm,0,0,0,d,ab,1,cW q,false,.nilIface⟩)[7]?=some (.pointer (some ⟨ab,0,none⟩))from rfl);have HC:=qqH hcut;have H4:=Hq2 hT4 hwl;clear hcut hT4 hca hav hT3 hok hws hlv hwl hcv hcv2;go_wp2_with fail;refine HC.out.mono ?_;rintro e w4 ⟨rfl,L',hT5,hL',hn',hnow',hsafe',hch'⟩;have eA:(drop (128*(0 / 128)) (take 0 ws)++am (128-0%128))=am 128:=by simp
 simp only[eA]at hT5 hnow';clear eA;have hT6:=H4.a.step (F:=ap ab d ⟨2+ay L.n,ay L.n,0,am 128,ch,[]⟩++aD d L) (R:=aA (.slice av ws.length cv) ws++((g,Is (aJ ⟨pm,tm,cm,0,0,0,d,ab,1,cW q,false,.nilIface⟩))::([(cm,Is (.map #[] 0)),(tm,Is (.map #[] 0)),(pm,Is (.map #[] 0))]++[(u,Is (.cells #[.int .u32 1,.int .u32 0] 179 (0,0)))]))) ac hT5;have hu:=(hT6.sat.sub (G:=[(u,Is (.cells #[.int .u32 1,.int .u32 0] 179 (0,0)))]) bB).Q5;have u0:=aa hu 0 rfl;have u1:=aa hu 1 rfl;have HSec:=qqH (mg 1 0 (by omega) (by omega) w4)
 have HWr:Hid (∀W,Sat W (aD d L')->Calls Tryz.prog 113 #[.pointer (some ⟨d,0,none⟩),.int .i64 1,.agg (aw (cH 1 0))] W (jP d L' 1 (cH 1 0) W)):=qqH (fun W hW=>by
  have:=jp d L' 1 (cH 1 0) W hW hL' (by rw[hn'];have:=HS.c;omega) (co 1 0) (by rw[hch'];simp);exact this)
 have H6:=Hq6 hT6 hL' hn' hnow' hsafe' hch';clear hT5 hT6 hL' hn' hnow' hsafe' hch' hu g7;go_wp2_with fail;refine HSec.out.mono ?_;rintro e w5 ⟨rfl,hs5⟩;have hT7:=H6.a.Q9 hs5;have H7:=qqH hT7;clear hs5 hT7 u0 u1;go_wp2_with fail;refine(HWr.out _ (H7.out.sat.sub bB)).mono ?_;rintro e w6 ⟨rfl,L2,hT8,hL2,hn2,hnow2,hch2⟩;have hT9:=H7.out.step (F:=aD d L') (R:=(ap ab d ⟨2+ay L.n,ay L.n,0,am 128,ch,[]⟩)++((g,Is (aJ ⟨pm,tm,cm,0,0,0,d,ab,1,cW q,false,.nilIface⟩))::([(cm,Is (.map #[] 0)),(tm,Is (.map #[] 0)),(pm,Is (.map #[] 0))]++([(u,Is (.cells #[.int .u32 1,.int .u32 0] 179 (0,0)))]++aA (.slice av ws.length cv) ws)))) ac hT8;have HFl:Hid (∀W,Sat W (aD d L2)->Calls Tryz.prog 70 #[.pointer (some ⟨d,0,none⟩)] W (ll d L2 W)):=qqH (fun W hW=>jm d L2 W hW hL2 (by rw[hch2,H6.v];simp));have H9:=Hq4 hT9 hL2 hn2 hnow2;clear hT8 hT9 hL2 hn2 hnow2 hch2;go_wp2_with fail;refine(HFl.out _ (H9.a.sat.sub bB)).mono ?_;rintro e w7 ⟨rfl,L3,hT10,hL3,hn3,hnow3,hsafe3,hch3⟩;have hT11:=H9.a.step (F:=aD d L2) (R:=(ap ab d ⟨2+ay L.n,ay L.n,0,am 128,ch,[]⟩)++((g,Is (aJ ⟨pm,tm,cm,0,0,0,d,ab,1,cW q,false,.nilIface⟩))::([(cm,Is (.map #[] 0)),(tm,Is (.map #[] 0)),(pm,Is (.map #[] 0))]++([(u,Is (.cells #[.int .u32 1,.int .u32 0] 179 (0,0)))]++aA (.slice av ws.length cv) ws)))) ac hT10;have hT12:=hT11.drop (H:=(g,Is (aJ ⟨pm,tm,cm,0,0,0,d,ab,1,cW q,false,.nilIface⟩))::(pm,Is (.map #[] 0))::(tm,Is (.map #[] 0))::(cm,Is (.map #[] 0))::(ap ab d ⟨2+ay L.n,ay L.n,0,am 128,ch,[]⟩++aD d L3)) bB;have H12:=Hq6 hT12 hL3 hn3 hnow3 hsafe3 hch3;clear hT10 hT11 hT12 hL3 hn3 hnow3 hsafe3 hch3;go_wp2_with fail;go_ret2;refine⟨g,ab,pm,tm,cm,ch,L3,rfl,H12.a,H12.b,by rw[H12.c,H9.c,H6.c],?_,by rw[H12.e,H12.d],H12.v⟩;rw[H12.d,H9.x,H6.d];simp only[Nat.zero_div,Nat.sub_zero,Nat.mul_one]
def lG(H:Bs)(at_:Nat)(body:Bs):Prop:=at_+(body.length+9)<=H.length/\ce ((H.drop at_).take (body.length+9))=some (1,body,body.length+9)
def JG(ab d:Nat)(A:AreaL)(R0 R2:HF)(ob:Nat)(body:Bs)(w w':World):Prop :=
 ∃v sp,bOk v body/\AreaOk { A with spare:=sp }/\Turns (ap ab d A++R0) (aA v body++((ob,Is (fb v))::(ap ab d { A with spare:=sp }++R2))) w w'
def Ha(ab d:Nat)(A:AreaL)(R0:HF)(body:Bs)(w:World)(e:Ending)(w':World):Prop :=
 ∃av cv sp,e=.returned (.tuple #[.slice av body.length cv,.nilIface])/\bOk (.slice av body.length cv) body/\AreaOk { A with spare:=sp }/\Turns (ap ab d A++R0) (aA (.slice av body.length cv) body++(ap ab d { A with spare:=sp }++R0)) w w'
theorem lX(a:Nat)(X:ArchL)(ab d:Nat)(hab:ab=X.ab)(A:AreaL)(L:DevL)(at_:Nat)(body:Bs)(R0:HF)(w:World)(h:Sat w (ap ab d A++R0))(hsub:∀x,cnt x ((a,Is (aJ X))::aD d L)<=cnt x R0)(hL:DevOk L)(hA:AreaOk A)(hAn:A.first+A.count<=L.n)(hn:L.n<=1073741824)(hc:lG (aC L.now A.first A.count) at_ body):
  Calls Tryz.prog 74 #[.pointer (some ⟨a,0,none⟩),.agg #[.int .i64 at_,.int .i64 body.length]] w (Ha ab d A R0 body w):=by
 have hmf:∀(fn:Fn) (first cap:Array Value) (w:World),(Instr.makeFunc fn first cap).run Tryz.prog w=.ok (.func fn first cap) w:=fun _ _ _ _=>rfl
 have hbl:body.length<65536:=(eD hc.2).2.2.2.2;have HSz:=qqH (fun W=>gU (body.length:Int) (by omega) (by omega) W);have HH:=Hq8 h hsub hL hA hAn hn hc hab;clear h hsub hL hA hAn hn hc hab;go_enter Tryz.func74,Tryz.ntmps74;go_wp2_with fail;obtain⟨B2,hB2⟩:∃B,w.heap.size=B:=⟨_,rfl⟩;have hT1:=(((Turns.refl HH.a).Q8 (.cells #[.pointer (some ⟨a,0,none⟩)] 33)).Q8 (.cells #[.int .i64 at_,.int .i64 body.length] 128)).Q8 (fb (.slice none 0 0));simp only[World.size_alloc]at hT1;obtain⟨B3,hB3⟩:∃B,w.heap.size+1=B:=⟨_,rfl⟩;obtain⟨B6,hB6⟩:∃B,w.heap.size+1+1=B:=⟨_,rfl⟩;rw[hB6]at hT1 ⊢;rw[hB3]at hT1 ⊢;rw[hB2]at hT1 ⊢;obtain⟨R2,hR2⟩:∃R2,R2=((B3,Is (.cells #[.int .i64 at_,.int .i64 body.length] 128 (0,0)))::(B2,Is (.cells #[.pointer (some ⟨a,0,none⟩)] 33 (0,0)))::R0):=⟨_,rfl⟩;obtain⟨R1,hR1⟩:∃R1,R1=((B6,Is (fb (.slice none 0 0)))::R2):=⟨_,rfl⟩;have hT2:Turns (ap ab d A++R0) (ap ab d A++R1) w _:=hT1.to (H:=ap ab d A++R1) (by rw[hR1,hR2];exact ac);have HT:=Hq3 hT2 hR1 hR2;clear hT1 hT2 hR1 hR2 hB2 hB3 hB6
 have HW:Hid (∀W,Turns (ap ab d A++R0) (ap ab d A++R1) w W->Calls Tryz.prog 108 #[.pointer (some ⟨ab,0,none⟩),.int .i64 at_,.int .i64 ((body.length:Int)+9),.func (.func 109) #[] #[.pointer (some ⟨B3,0,none⟩),.pointer (some ⟨B2,0,none⟩),.pointer (some ⟨B6,0,none⟩)]] W (fun e w'=>e=.returned .nilIface/\JG ab d A R0 R2 B6 body w w')):=qqH (fun W hTW=>by
  have hTW':=hTW;rw[HT.b,HT.y]at hTW'
  have hw:=CE ab d A L at_ (body.length+9) (.pointer (some ⟨B3,0,none⟩)) (.pointer (some ⟨B2,0,none⟩)) (.pointer (some ⟨B6,0,none⟩)) (aC L.now A.first A.count) rfl R1 (fun R'=>∃v,bOk v body/\R'=aA v body++((B6,Is (fb v))::R2)) W hTW.sat
   (fun x=>by have h1:=HH.b x;rw[HT.b,HT.y];rw[ao]at h1;simp only[ao];omega) HH.c HH.d HH.e HH.f (by have:=HH.g.1;rwa [fH HH.c.nowL HH.e]at this)
   (fun W' B0 B1 g cv sp hok hTW2=>by
    have hTW3:=hTW2;rw[HT.b,HT.y]at hTW3;obtain⟨a2,cap2,hv2,hl2,hc2,hca2,-⟩:=aL (cZ hTW2.sat.left hok);simp only[Value.slice.injEq]at hv2;obtain⟨rfl,-,rfl⟩:=hv2;have hb6:=hTW3.sat.Q7 (b:=B6) (o:=fb (.slice none 0 0)) (by simp);have hb3:=hTW3.sat.Q7 (b:=B3) (o:=.cells #[.int .i64 at_,.int .i64 body.length] 128 (0,0)) (by simp)
    have hne:B3≠B6:=fun e=>by
     subst e;rw[hb3]at hb6;unfold fb at hb6;simp at hb6
    have hf:=A4 (some ⟨g,0,none⟩) cv (((aC L.now A.first A.count).drop at_).take (body.length+9)) body at_ B3 B2 B6 W' hca2 (by rw[length_take];omega) hc2 HH.g.2 hb3 hb6 hne (fun x hx=>by
     simp only[Option.some.injEq]at hx;subst hx;intro e;have:=hTW3.sat.Qh (b:=g) (by simp[aA,bK,Value.ownBlock]);have e:g=B6:=e;exact this (by simp[e]))
    refine hf.mono ?_;rintro e w' ⟨rfl,v,hv,hTf⟩;refine⟨rfl,aA v body++((B6,Is (fb v))::R2),⟨v,hv,rfl⟩,?_⟩;rw[HT.b]at hTW2;have h2:=hTW2.step (F:=[(B6,Is (fb (.slice none 0 0)))]) (R:=aA (.slice (some ⟨g,0,none⟩) (((aC L.now A.first A.count).drop at_).take (body.length+9)).length cv) (((aC L.now A.first A.count).drop at_).take (body.length+9))++((B1,Is (fb (.slice (some ⟨g,0,none⟩) (((aC L.now A.first A.count).drop at_).take (body.length+9)).length cv)))::(B0,Is (.cells #[.pointer (some ⟨ab,0,none⟩)] 56 (0,0)))::(ap ab d { A with spare:=sp }++R2))) ac hTf;rw[HT.b];exact h2.to (by show Perm (((B6,Is (fb v))::aA v body)++_) _;exact ac))
  rw[show((body.length+9:Nat):Int)=(body.length:Int)+9 by omega]at hw;refine hw.mono ?_;rintro e w' ⟨rfl,R',sp,⟨v,hv,rfl⟩,hA',hT'⟩;exact⟨rfl,v,sp,hv,hA',(hTW.trans hT').to ac⟩)
 refine db [([0,1,2,3,4,5,6,7,8,9],10,[])] [11] HM.out (by kernel_rfl) fun W tW=>?_
 simp only[Mix,map_cons,map_nil,nth,QG,QF];have hT:=tW HT.a;clear tW
 have key:∀{W:World} {F:HF},Sat W F->(∀x,cnt x R2<=cnt x F)->W.cell? ⟨B2,0,none⟩=some (.pointer (some ⟨a,0,none⟩))/\W.cell? ⟨a,7,none⟩=some (.pointer (some ⟨ab,0,none⟩))/\W.cell? ⟨B3,0,none⟩=some (.int .i64 (at_:Nat))/\W.cell? ⟨B3,1,none⟩=some (.int .i64 (body.length:Nat)):=fun hs hm=>by
  have h1:=hs.sub hm;rw[HT.y]at h1;have h2:=h1.sub (G:=(a,Is (aJ X))::aD d L) (fun x=>by have h1:=HH.b x;rw[ao]at h1;simp only[ao];omega);refine⟨aa h1.tail.Q5 0 rfl,?_,aa h1.Q5 0 rfl,aa h1.Q5 1 rfl⟩;rw[HH.t];exact aa h2.Q5 7 rfl
 obtain⟨k1,k2,k3,k4⟩:=key hT.sat (fun x=>by rw[HT.b];simp only[ao,ai];omega);repeat still_step
 still_call ((HSz.out W).mono fun e w2 ⟨h1,h2⟩=>⟨h1,h2.symm⟩);repeat still_step
 refine wpStill_nil (aU (by kernel_rfl) (HW.out W hT) ?_);rintro e w3 ⟨rfl,v,sp,hok,hAo,hT3⟩;refine⟨_,rfl,rfl,?_⟩;simp only[Act.put,QA,QB,QC];repeat still_step
 refine wpStill_nil ?_;obtain⟨av,cv,rfl,-,-,-,-⟩:=aL (cZ hT3.sat.left hok);have c6:=aa (hT3.sat.Q7 (b:=B6) (o:=fb (.slice av body.length cv)) (by simp)) 0 rfl;have H3:=Hq3 hok hAo hT3;clear key k1 k2 k3 k4 hT hok hAo hT3;go_wp2_with fail;go_ret2;refine⟨av,cv,sp,rfl,H3.a,H3.b,H3.y.drop ?_⟩;rw[HT.y];exact bB
abbrev ck(n:Int):Value:=.iface 60 (.int .i64 n)
def E6(X:ArchL)(ps:List Bs)(w:World)(e:Ending)(w':World):Prop:=e=.returned (if X.closed then ck 9 else if ps.all aq then .nilIface else ck 1)/\aQ w w'
def GX(ps:List Bs)(w:World)(i:Value)(wr:World):Prop:=∃k:Nat,k<=ps.length/\i=.int .i64 k/\aQ w wr/\∀j (h:j<ps.length),j<k->aq ps[j]=true
theorem kB(a:Nat)(X:ArchL)(ad:Option Addr)(cap:Nat)(ps:List Bs)(w:World)(h:w.heap[a]?=some (aJ X))(hp:ak w ad (ps.map str))(hl:ps.length<=1000000):
  Calls Tryz.prog 49 #[.pointer (some ⟨a,0,none⟩),.slice ad ps.length cap] w (E6 X ps w):=by
 have a10:w.cell? ⟨a,10,none⟩=some (.bool X.closed):=aa h 10 rfl;have hal:=ae h;obtain⟨cl,hcl⟩:∃cl,cl=X.closed:=⟨_,rfl⟩;rw[<- hcl]at a10;have HC:=Hq3 hcl hp h;clear hcl hp h
 cases cl with
 | true =>
  go_enter Tryz.func49,Tryz.ntmps49;go_wp2_with fail;go_ret;exact ⟨by rw[<- HC.a];rfl,Mods.refl _ _⟩
 | false =>
  go_enter Tryz.func49,Tryz.ntmps49;go_wp2_with fail;go_loopw [14] (fun v wr=>GX ps w v wr) (fun v _=>ps.length-(intOf v).toNat)
  case atStart=>exact⟨0,Nat.zero_le _,rfl,Mods.refl _ _,fun j h hj=>by omega⟩
  case round =>
   obtain⟨k,hk,rfl,hs,hall⟩:=hrel;have HR:=Hq2 hs hall;clear hs hall;by_cases hlt:k<ps.length
   ·obtain⟨g,off,hg,hcell⟩:=HC.b.keep HR.a (fun _ _ _=>id) (by simpa using(by omega:0<ps.length));subst hg
    have hck:wr.cell? ⟨g,off+k,none⟩=some (str ps[k]):=by
     rw[hcell k (by simpa using hlt)];simp
    have HP:=qqH (fun W=>yE ps[k] W);obtain⟨p,hpe⟩:∃p,p=ps[k]:=⟨_,rfl⟩;rw[<- hpe]at hck HP;have HPE:=qqH hpe;clear hpe hcell;go_wp2_with fail;refine(HP.out _).mono ?_;rintro e w1 ⟨rfl,hs1⟩;obtain⟨b,hb⟩:∃b,b=aq p:=⟨_,rfl⟩;rw[<- hb];have HB:=Hq2 hb hs1;clear hb hs1
    cases b with
    | true =>
     go_wp2_with fail;go_roundw
     case rel=>exact⟨k+1,by omega,by go_num,HR.a.trans HB.z,fun j h hj=>by
      rcases Nat.lt_or_ge j k with h'|h'
      ·exact HR.z j h h'
      ·obtain rfl:j=k:=by omega
       rw[<- HPE.out];exact HB.a.symm⟩
     case measure=>simp[intOf];omega
    | false =>
     go_wp2_with fail;go_ret;refine ⟨?_,HR.a.trans HB.z⟩;rw[<- HC.a,if_neg (by simp),if_neg]
     ·rfl
     ·intro hh;have:=all_eq_true.1 hh p (HPE.out ▸ getElem_mem hlt);rw[<- HB.a]at this
      cases this
   ·obtain rfl:k=ps.length:=by omega
    go_wp2_with fail;refine bodyPost_end (results_tmp rfl _ _ _) rfl ⟨?_,HR.a⟩;rw[<- HC.a,if_neg (by simp),if_pos]
    ·rfl
    refine all_eq_true.2 (fun p hp=>?_);obtain⟨j,hj,rfl⟩:=mem_iff_getElem.1 hp;exact HR.z j hj hj
end
section
open Go.RowKit Go.Maps
structure VerL where
 blk:Nat
 num:Nat
 size:Nat
 cv:Value
 chs:List (Nat×Nat)
 held:Int
def fD(V:VerL):Array Value:=#[.int .i64 V.num,.int .i64 V.size,V.cv,.int .i64 V.held]
def dt(V:VerL):Obj:=.cells (fD V) 117 (0,0)
def re(p:Nat×Nat):List Value:=[.int .i64 p.1,.int .i64 p.2]
def cR(l:List (Nat×Nat)):List Value:=l.flatMap re
def aY(v:Value)(l:List (Nat×Nat)):HF:=bK 128 2 v l.length (cR l)
def bP(v:Value)(l:List (Nat×Nat)):Prop:=et 2 v l.length (cR l)
def bL(V:VerL):HF:=(V.blk,Is (dt V))::aY V.cv V.chs
def dH(V:VerL):Value:=.pointer (some ⟨V.blk,0,none⟩)
abbrev ba:=GE (List VerL)
def eo(v:Value)(l:List VerL):HF:=bK 114 1 v l.length (l.map dH)
def eT(v:Value)(l:List VerL):Prop:=et 1 v l.length (l.map dH)
def d9(v:Value)(g:List VerL):HF:=eo v g++g.flatMap bL
def LH(p:ba):Prop:=eT p.val p.g/\∀V∈p.g,bP V.cv V.chs
def aF(pm:Nat)(ps:List ba)(c:Nat):HF:=(pm,Is (aO str (ps.map aN) c))::gj d9 ps
def OkS(l:Bs):Prop:=l.length<=1000000
structure PathsOk (ps:List ba) (c:Nat):Prop where
 map:MapOk OkS (ps.map aN) c
 rows:∀p∈ps,LH p
theorem E0:∀a b:Bs,str a=str b->a=b:=fun a b h=>by
 simp only[str,Value.string.injEq,ByteArray.mk.injEq]at h
 simpa using congrArg Array.toList h
theorem dK:EncOk Tryz.prog 9 str OkS where
 keyed:=string_keyed Tryz.underlying9
 inj:=E0
 key:=fun a h=>⟨_,Go.WideMaps.keyOf_string_mk Tryz.underlying9 (by
  simp only[ByteArray.size]
  unfold OkS at h
  unfold maxLen
  simp
  omega)⟩
def af(ps:List ba)(l:Bs):List VerL:=gOf [] ps l
theorem Sat.flat{α:Type}{w:World}{f:α->HF}:∀{l:List α},Sat w (l.flatMap f)->∀{x:α},x∈l->Sat w (f x)
 | [],_,_,hx=>by simp at hx
 | a::r,h,x,hx=>by
  rw[flatMap_cons]at h
  rcases mem_cons.1 hx with rfl|hx
  ·exact h.left
  ·exact Sat.flat h.right hx
theorem fo{w:World}{pm c:Nat}{ps:List ba}(h:Sat w (aF pm ps c))(hok:PathsOk ps c)(l:Bs):
  ∃sl cap,eH (.slice none 0 0) ps l=.slice sl (af ps l).length cap/\(af ps l).length<=cap/\cap<=9223372036854775807/\ak w sl ((af ps l).map dH)/\(∀V∈af ps l,w.heap[V.blk]?=some (dt V))/\(dom ((af ps l).flatMap bL)).Nodup:=by
 unfold af eH gOf
 cases hf:ps.find? (fun p=>decide (p.key=l))with
 | none=>exact⟨none,0,rfl,Nat.le_refl _,by omega,fun h=>by simp at h,fun V hV=>by simp at hV,nodup_nil⟩
 | some p =>
  have hm:=mem_of_find?_eq_some hf;have hp:Sat w (d9 p.val p.g):=Sat.flat (f:=fun p:ba=>d9 p.val p.g) h.tail hm;have hok2:=hok.rows p hm;obtain⟨sl,cap,e1,e2,e3,e5,e4,_⟩:=po (aR hp.left hok2.1);refine⟨sl,cap,by simpa using e1,e3,e5,e4,fun V hV=>?_,?_⟩
  ·have:Sat w (bL V):=Sat.flat hp.right hV;exact this.Q5
  ·exact hp.right.nodup
def iq:List VerL->Int->Option VerL
 | [],_=>none
 | v::r,n=>if(v.num:Int)=n\/(n=0/\r=[])then some v else iq r n
def zr(X:ArchL)(ps:List ba)(l:Bs)(n:Int)(w:World)(e:Ending)(w':World):Prop :=
 e=.returned (if X.closed then .tuple #[.pointer none,ck 9]else if aq l then(match iq (af ps l) n with|some V=>.tuple #[dH V,.nilIface]|none=>.tuple #[.pointer none,ck 3])else .tuple #[.pointer none,ck 1])/\aQ w w'
theorem J1:∀{vs:List VerL},(dom (vs.flatMap bL)).Nodup->∀{i j:Nat} (hi:i<vs.length) (hj:j<vs.length),vs[i].blk=vs[j].blk↔i=j:=by
 have key:∀{vs:List VerL},(dom (vs.flatMap bL)).Nodup->∀{i j:Nat} (hj:j<vs.length) (hij:i<j),vs[i].blk≠vs[j].blk:=by
  intro vs;induction vs with
  | nil=>intro _ i j hj;simp at hj
  | cons v r ih =>
   intro h i j hj hij e;rw[flatMap_cons,cF,nodup_append]at h
   cases j with
   | zero=>omega
   | succ j =>
    cases i with
    | zero =>
     simp only[getElem_cons_zero,getElem_cons_succ]at e;have h1:v.blk∈dom (bL v):=by simp[bL]
     have hjr:j<r.length:=by simpa using hj
     have h2:v.blk∈dom (r.flatMap bL):=by
      rw[e];refine mem_map.2 ⟨(r[j].blk,Is (dt r[j])),mem_flatMap.2 ⟨r[j],getElem_mem hjr,by simp[bL]⟩,rfl⟩
     exact h.2.2 _ h1 _ h2 rfl
    | succ i =>
     simp only[getElem_cons_succ]at e;exact ih h.2.1 (by simpa using hj) (by omega) e
 intro vs h i j hi hj;refine⟨fun e=>?_,fun e=>by subst e;rfl⟩;rcases Nat.lt_trichotomy i j with hl|hl|hl
 ·exact absurd e (key h hj hl)
 ·exact hl
 ·exact absurd e.symm (key h hi hl)
theorem Ke{w:World}{U V:VerL}(hu:w.heap[U.blk]?=some (dt U))(hv:w.heap[V.blk]?=some (dt V)):
  (binOp .eql 114 (.pointer (some ⟨U.blk,0,none⟩)) (.pointer (some ⟨V.blk,0,none⟩))).run Tryz.prog w=.ok (.bool (decide (U.blk=V.blk))) w:=by
 have hs:(Tryz.prog.info? 117).map (·.size)=some 4:=by kernel_rfl
 obtain⟨j,hj,hsz⟩:=Option.map_eq_some_iff.1 hs;by_cases h:U.blk=V.blk
 ·rw[<- h,decide_eq_true rfl];exact run_eql_ptr_same w _ Tryz.underlying114 hj
 ·rw[decide_eq_false h];exact run_eql_ptr_other w Tryz.underlying114 hj (by rw[hsz];decide) (fun e=>h (congrArg Addr.block e)) hu hv
theorem dQ{κ:Type}[DecidableEq κ]{P:Program}{k t ev:TypeId}{enc:κ->Value}{Ok:κ->Prop}(E:EncOk P k enc Ok){w:World}{ops:Array Oper}{rest:List Oper}{o:Oper}{a:Act}{Q:Exit->Act->World->Prop}(hg:o.guard=none)(m x:Operand)(hop:o.op=.lookup t m x false)(ht:P.underlying t=some (.map k ev)){b:Nat}{l:List (Ent κ)}{c:Nat}(hb:w.heap[b]?=some (aO enc l c))(hm:MapOk Ok l c){z:Value}(hz:(zeroValue ev).run P w=.ok z w)(key:κ)(hmv:a.eval m=.map (some b))(hx:a.eval x=enc key)(hk:Ok key)(hK:wpList P ops Q rest (a.put o.dst ((dz l key).getD z)) w):wpList P ops Q (o::rest) a w:=by
 refine ah hg (nA (v:=(dz l key).getD z) (w':=w) ?_ hK);simp[execOp,hop,hmv,hx,uJ E ht hb hm hz hk,Result.andThen]
theorem fN(w:World):(zeroValue 118).run Tryz.prog w=.ok (.slice none 0 0) w:=by kernel_rfl
def xU(vs:List VerL)(n:Int)(w:World)(i:Value)(wr:World):Prop:=∃k:Nat,k<=vs.length/\i=.int .i64 k/\aQ w wr/\iq vs n=iq (vs.drop k) n
theorem iV(a:Nat)(X:ArchL)(ps:List ba)(c:Nat)(l:Bs)(n:Int)(w:World)(h:w.heap[a]?=some (aJ X))(hp:Sat w (aF X.pm ps c))(hok:PathsOk ps c):
  Calls Tryz.prog 63 #[.pointer (some ⟨a,0,none⟩),str l,.int .i64 n] w (zr X ps l n w):=by
 have hal:=ae h
 have HB:=qqH (fun W (hW:aQ w W) (hc:W.cell? ⟨w.heap.size,0,none⟩=some (str l))=>kB a X (some ⟨w.heap.size,0,none⟩) 1 [l] W (hW.at h id) (fun _=>⟨_,_,rfl,fun j hj=>by
  obtain rfl:j=0:=by simp at hj;omega
  exact hc⟩) (by simp))
 have HC:=Hq3 h hp hok;clear h hp hok;go_enter Tryz.func63,Tryz.ntmps63;go_wp2_with fail;refine(HB.out _ ((Mods.refl _ w).alloc _) (aa (aK w _) 0 rfl)).mono ?_;rintro e w1 ⟨rfl,hs1⟩;have hs2:aQ w w1:=((Mods.refl _ w).alloc _).trans hs1;obtain⟨cl,hcl⟩:∃cl,cl=X.closed:=⟨_,rfl⟩;obtain⟨pb,hpb⟩:∃pb,pb=aq l:=⟨_,rfl⟩;have e1:([l].all aq)=pb:=by simp[hpb]
 rw[e1,<- hcl];have HD:=Hq3 hcl hpb hs2;clear hcl hpb hs2 hs1 e1
 cases cl with
 | true =>
  simp only[if_true];go_wp2_with fail;go_ret2;refine ⟨?_,HD.y⟩;rw[<- HD.a];rfl
 | false =>
  cases pb with
  | false =>
   simp only[Bool.false_eq_true,if_false];go_wp2_with fail;go_ret2;refine ⟨?_,HD.y⟩;rw[<- HD.a,<- HD.b];rfl
  | true =>
   obtain⟨sl,cap,hl1,hl2,hl6,hl3,hl4,hl5⟩:=fo (HC.b.same HD.y) HC.y l;have b0:w1.cell? ⟨a,0,none⟩=some (.map (some X.pm)):=aa (HD.y.at HC.a id) 0 rfl;have hal1:a<w1.heap.size:=Nat.lt_of_lt_of_le hal HD.y.size;obtain⟨vs,hvs⟩:∃vs,vs=af ps l:=⟨_,rfl⟩;rw[<- hvs]at hl1 hl2 hl3 hl4 hl5;have HG:=Hq5 hl1 hl3 hl4 hl5 hvs;clear hl1 hl3 hl4 hl5 hvs;have hmo:=(HC.b.same HD.y).Q5;have HM:=qqH hmo;clear hmo
   have hlen:OkS l:=by
    have:=HD.b;unfold aq at this;have h2:=this.symm;simp only[Bool.and_eq_true,decide_eq_true_eq]at h2;unfold OkS;have:=h2.1.2;omega
   have HL:=qqH hlen;clear hlen;simp only[Bool.false_eq_true,if_false,if_true];go_wp2_with (at_lookup;refine dQ dK rfl _ _ rfl Tryz.underlying51 HM.out HC.y.map (fN _) l rfl rfl HL.out ?_;rw[cP,HG.a]);go_loopw [28] (fun v wr=>xU vs n w1 v wr) (fun v _=>vs.length-(intOf v).toNat)
   case atStart=>exact⟨0,Nat.zero_le _,rfl,Mods.refl _ _,rfl⟩
   case round =>
    obtain⟨k,hk,rfl,hs,hfi⟩:=hrel;have HR:=Hq2 hs hfi;clear hs hfi;by_cases hlt:k<vs.length
    ·obtain⟨g,off,hg,hcell⟩:=HG.b.keep HR.a (fun _ _ _=>id) (by simpa using(by omega:0<vs.length));subst hg;obtain⟨V,hV⟩:∃V,V=vs[k]:=⟨_,rfl⟩;obtain⟨z,hz⟩:∃z,vs.length=z+1:=⟨vs.length-1,by omega⟩;obtain⟨Z,hZ⟩:∃Z,Z=vs[z]:=⟨_,rfl⟩;have hw:wrap64 ((vs.length:Int)-1)=(z:Int):=by rw[IntWalk.wrap64_in _ (by omega)];omega
     have hzl:(z:Int)<(vs.length:Int):=by omega
     have hz1:z<vs.length:=by omega
     have hz2:¬vs.length<=z:=by omega
     have hck:wr.cell? ⟨g,off+k,none⟩=some (dH V):=by rw[hcell k (by simpa using hlt)];simp[hV]
     have hcz:wr.cell? ⟨g,off+(vs.length-1),none⟩=some (dH Z):=by rw[show vs.length-1=z by omega,hcell z (by simp;omega)];simp[hZ]
     have hvo:=HR.a.at (HG.c V (hV ▸ getElem_mem hlt)) id;have v0:wr.cell? ⟨V.blk,0,none⟩=some (.int .i64 V.num):=aa hvo 0 rfl;have hdr:vs.drop k=V::vs.drop (k+1):=by rw[hV];exact drop_eq_getElem_cons hlt
     have hzk:V.blk=Z.blk↔k=z:=by
      rw[hV,hZ];exact J1 HG.d hlt hz1
     have hpe:=Ke hvo (HR.a.at (HG.c Z (hZ ▸ getElem_mem hz1)) id);have HV:=Hq3 hdr hzk hz;clear hcell hvo hdr hzk hV hZ hz;unfold dH at hck hcz;by_cases c1:(V.num:Int)=n
     ·go_wp2_with fail;go_ret2;refine ⟨?_,HD.y.trans HR.a⟩;rw[<- HD.a,<- HD.b,<- HG.w,HR.z,HV.a];simp only[iq,c1,true_or,if_true];rfl
     ·by_cases c2:n=0
      ·subst c2;by_cases c3:V.blk=Z.blk
       ·rw[decide_eq_true c3]at hpe;have C3:=qqH c3;clear c3;go_wp2_with fail;go_ret2;refine ⟨?_,HD.y.trans HR.a⟩;have hlast:vs.drop (k+1)=[]:=drop_of_length_le (by have:=HV.b.1 C3.out;have:=HV.y;omega);rw[<- HD.a,<- HD.b,<- HG.w,HR.z,HV.a,hlast];simp only[iq,and_self,or_true,if_true];rfl
       ·rw[decide_eq_false c3]at hpe
        have hrel:xU vs 0 w1 (.int .i64 ((k:Int)+1)) wr:=by
         refine⟨k+1,by omega,by go_num,HR.a,?_⟩;rw[HR.z,HV.a];have:¬vs.drop (k+1)=[]:=fun h=>c3 (HV.b.2 (by have:=congrArg length h;rw[length_drop]at this;have h3:=HV.y;simp only[length_nil]at this;omega))
         simp only[iq,c1,this,and_false,or_false,if_false]
        have HREL:=qqH hrel;clear hrel;go_wp2_with fail;go_roundw
        case rel=>exact HREL.out
        case measure=>simp[intOf];omega
      ·have hrel:xU vs n w1 (.int .i64 ((k:Int)+1)) wr:=by
        refine⟨k+1,by omega,by go_num,HR.a,?_⟩;rw[HR.z,HV.a];simp[iq,c1,c2]
       have HREL:=qqH hrel;clear hrel;go_wp2_with fail;go_roundw
       case rel=>exact HREL.out
       case measure=>simp[intOf];omega
    ·obtain rfl:k=vs.length:=by omega
     go_wp2_with fail;go_ret2;refine ⟨?_,HD.y.trans HR.a⟩;rw[<- HD.a,<- HD.b,<- HG.w,HR.z];simp[iq]
end
section
open Go.RowKit
theorem BU(l:Bs):(⟨l.toArray⟩:ByteArray).size=l.length:=by simp[ByteArray.size]
theorem GH(l:Bs)(size:Nat):(Builtin.firstCells size l.length (str l))=pure (l.map al).toArray:=by
 simp only[Builtin.firstCells];congr 1
 have:(⟨l.toArray⟩:ByteArray).extract 0 l.length=⟨l.toArray⟩:=by
  apply ByteArray.ext;simp
 rw[this];simp[al]
section
variable {P:Program} (w:World)
theorem uG(t u ty e:TypeId)(i:TypeInfo)(z:Value)(bytes:Nat)(ht:P.underlying t=some (.slice e))(hu:P.underlying u=some .string)(hi:P.info? e=some i)(hz:i.zero=some z)(hsize:i.size=1)(hby:i.bytes=bytes)(hzs:z.cells.size=1)(v:Value)(n:Nat)(xs:List Value)(hown:w.ownsRow 0 e 1 v n xs)(r:Bs)(h63:n+r.length<=maxLen)(hbytes:(n+r.length)*bytes<=140737488355328):
  ∃v' w',(Builtin.append_ #[t,u] ty #[v,str r]).run P w=.ok v' w'/\w'.ownsRow 0 e 1 v' (n+r.length) (xs++r.map al)/\w.grownBy w' v.ownBlock/\(∀g,v'.ownBlock=some g->v.ownBlock=some g\/w.heap.size<=g)/\(v'=.slice none 0 0↔v=.slice none 0 0/\r.length=0):=by
 have hl:(r.map al).length=r.length*i.size:=by simp[hsize]
 subst hby
 have hsmall:n+r.length<=9223372036854775807:=by simp only[maxLen]at h63;omega
 have hlen:(xs++r.map al).length=(n+r.length)*1:=by rw[length_append,hown.1];simp
 have hsz:=BU r;have hfc:=GH r i.size
 have grown:∀(old:Nat),old<n+r.length->∀(row:Option Nat),
   (w.drew.alloc (.cells (xs.toArray++(r.map al).toArray++Builtin.zeroCells z.cells (grownCap w (n+r.length) old e-(n+r.length))) e)).ownsRow 0 e 1
    (.slice (some ⟨w.heap.size,0,none⟩) (n+r.length) (grownCap w (n+r.length) old e)) (n+r.length) (xs++r.map al) /\
   w.grownBy (w.drew.alloc (.cells (xs.toArray++(r.map al).toArray++Builtin.zeroCells z.cells (grownCap w (n+r.length) old e-(n+r.length))) e)) row:=by
  intro old ho row;have hge:=grownCap_ge w (n+r.length) old e;have hcm:grownCap w (n+r.length) old e<=maxLen:=grownCap_le_maxLen w (n+r.length) old e h63;refine⟨⟨hlen,.inr ⟨w.heap.size,_,_,rfl,Nat.zero_le _,World.alloc_heap_new w.drew _,hge,hcm,?_,?_⟩⟩,⟨rfl,rfl,rfl,by simp,fun k hk _=>dR (w:=w.drew) hk⟩⟩
  ·simp only[Array.size_append,size_toArray,size_zeroCells,hzs,hown.1,length_map];omega
  ·simp only[Array.toList_append,append_assoc];rw[<- append_assoc,<- hlen];exact take_left
 rcases hown.2 with⟨rfl,rfl⟩|⟨g,cap,cur,rfl,hbg,hg,hnc,hcm,hcs,htake⟩
 ·have hx:xs=[]:=eq_nil_of_length_eq_zero (by simpa using hown.1);subst hx;by_cases hm:r.length=0
  ·obtain rfl:r=[]:=eq_nil_of_length_eq_zero hm;refine⟨.slice none 0 0,w,?_,World.ownsRow_nil w 0 e 1,⟨rfl,rfl,rfl,Nat.le_refl _,fun _ _ _=>rfl⟩,fun g h=>.inl h,by simp⟩;simp[Builtin.append_,run_underlying ht,run_underlying hu,sizeOf,typeInfo,hi,Builtin.lenOf,str,Builtin.firstCells];try rfl
  ·have hn:r.length≠0:=hm;have h63':¬(9223372036854775807<(r.length:Int)):=by omega
   have h48':¬(281474976710656<Builtin.nextslicecap r.length 0*i.bytes):=by rw[nextslicecap_zero (by omega)];simp only[Nat.zero_add]at hbytes;omega
   have hr:(Builtin.append_ #[t,u] ty #[.slice none 0 0,str r]).run P w=.ok (.slice (some ⟨w.heap.size,0,none⟩) r.length (grownCap w r.length 0 e)) (w.drew.alloc (.cells ((r.map al).toArray++Builtin.zeroCells z.cells (grownCap w r.length 0 e-r.length)) e)):=by
    unfold str at hfc ⊢;simp[Builtin.append_,run_underlying ht,run_underlying hu,sizeOf,typeInfo,zeroValue,hi,hz,Builtin.lenOf,hsz,hn,h63',h48',Question.forced,run_firstCells_none,hfc,newRow,grownCap]
   have hgr:=grown 0 (by omega) (Value.ownBlock (.slice none 0 0));simp only[Nat.zero_add,nil_append,Array.empty_append]at hgr ⊢;exact⟨_,_,hr,hgr.1,hgr.2,fun g hg=>by simp[Value.ownBlock]at hg;exact .inr (by omega),by simp[hm]⟩
 ·by_cases hroom:n+r.length<=cap
  ·have hfit:n*i.size+(r.map al).length<=cur.size:=by rw[hl,hcs,hsize];omega
   have hst:=run_storeCells_at P g (n*i.size) e (r.map al) 0 cur w hg (by simpa using hfit) (dW r);simp only[Nat.add_zero]at hst
   have hr:(Builtin.append_ #[t,u] ty #[.slice (some ⟨g,0,none⟩) n cap,str r]).run P w=.ok (.slice (some ⟨g,0,none⟩) (n+r.length) cap) (w.setRow g (cur.toList.take (n*i.size)++r.map al++cur.toList.drop (n*i.size+(r.map al).length)).toArray):=by
    unfold str at hfc ⊢;simp[Builtin.append_,run_underlying ht,run_underlying hu,sizeOf,typeInfo,hi,Builtin.lenOf,hsz,hroom,hfc,Addr.add_lit];simp only[append_assoc,length_map]at hst;rw[hst];rfl
   rw[hsize]at hr;refine⟨_,_,hr,⟨hlen,.inr ⟨g,cap,_,rfl,hbg,setRow_heap w g cur _ e _ hg,hroom,hcm,?_,?_⟩⟩,⟨rfl,rfl,rfl,by simp,fun k _ hk=>setRow_other w g k _ (fun e=>hk (by simp[Value.ownBlock,e]))⟩,fun g' hg'=>.inl hg',by simp⟩
   ·simp only[size_toArray,length_append,length_take,length_drop,Array.length_toList,length_map];omega
   ·rw[htake,<- hlen];exact take_left
  ·have holds:∀j u,xs[j]?=some u->w.cell? ((⟨g,0,none⟩:Addr).add j)=some u:=hown.cells (g:=g) rfl;have hn:¬(n+r.length<=cap):=hroom;have h63':¬(9223372036854775807<((n:Int)+(r.length:Int))):=by omega
   have h48':¬(281474976710656<Builtin.nextslicecap (n+r.length) cap*i.bytes):=by have:=growslice_fits (need:=n+r.length) (old:=cap) (by omega) hbytes;omega
   have hfo:=run_firstCells_some (P:=P) w.drew i.size n ⟨g,0,none⟩ n cap xs (by rw[hown.1,hsize]) (by simpa using holds)
   have hr:(Builtin.append_ #[t,u] ty #[.slice (some ⟨g,0,none⟩) n cap,str r]).run P w=.ok (.slice (some ⟨w.heap.size,0,none⟩) (n+r.length) (grownCap w (n+r.length) cap e)) (w.drew.alloc (.cells (xs.toArray++(r.map al).toArray++Builtin.zeroCells z.cells (grownCap w (n+r.length) cap e-(n+r.length))) e)):=by
    unfold str at hfc ⊢;simp[Builtin.append_,run_underlying ht,run_underlying hu,sizeOf,typeInfo,zeroValue,hi,hz,Builtin.lenOf,hsz,hn,h63',h48',Question.forced,hfc,hfo,newRow,grownCap];try (congr 2;apply Array.ext';simp[append_assoc])
   have hgr:=grown cap (by omega) (Value.ownBlock (.slice (some ⟨g,0,none⟩) n cap));exact⟨_,_,hr,hgr.1,hgr.2,fun g hg=>by simp[Value.ownBlock]at hg;exact .inr (by omega),by simp⟩
end
theorem Ea{o:Oper}{a:Act}{w a0:World}{K:Act->World->Prop}{Q:Exit->Act->World->Prop}{F G:HF}(s x:Operand)(hop:o.op=.call { callee:=.builtin .append,args:=#[s,x],argTypes:=#[35,9] })(v:Value)(l:Bs)(hs:a.eval s=v)(hT:Turns F (aA v l++G) a0 w)(hok:bOk v l)(r:Bs)(hx:a.eval x=str r)(hb:l.length+r.length<=137438953472)(hk:∀av cv w',bOk (.slice av (l++r).length cv) (l++r)->Turns F (aA (.slice av (l++r).length cv) (l++r)++G) a0 w'->K (a.put o.dst (.slice av (l++r).length cv)) w'):o.wp Tryz.prog a w K Q:=by
 obtain⟨i0,hi0,hz1,hz2,hz3⟩:=info_parts ix;obtain⟨v',w',hr,r1,r2,r3,r4⟩:=uG (P:=Tryz.prog) w 35 9 o.type 5 i0 (.int .u8 0) 1 Tryz.underlying35 Tryz.underlying9 hi0 hz1 hz2 hz3 rfl v l.length (l.map al) (cZ hT.sat.left hok) r (by unfold maxLen;omega) (by omega);have hh:=jE hT rfl r1 r2 r3;unfold Oper.wp execOp;simp only[hop,resolve,invoke,builtin,Sem.run_bind,Sem.run_pure,Result.andThen_ok,map_toArray,map_cons,map_nil,hs,hx,hr];obtain⟨av,cv,rfl,-,-,-,-⟩:=aL (cZ hh.2.sat.left hh.1);exact hk av cv w' hh.1 hh.2
def ej(s:Bs):Bs:=UInt8.ofNat s.length::s
theorem mq(v:Value)(l s:Bs)(w:World)(h:Sat w (aA v l))(hok:bOk v l)(hl:l.length<=1000000)(hs:s.length<=255):
  Calls Tryz.prog 192 #[v,str s] w (jB v l (l++ej s) w):=by
 have hsz:=BU s;have HC:=Hq4 h hok hl hs;have e1:(s.length:Int)%256=s.length:=by omega
 clear h hok;go_enter Tryz.func192,Tryz.ntmps192;have hT0:Turns (aA v l) (aA v l++[]) w (w.alloc (.cells #[.int .u8 s.length] 5)):=by rw[append_nil];exact(Turns.refl HC.a).alloc _
 have hc0:ak (w.alloc (.cells #[.int .u8 s.length] 5)) (some ⟨w.heap.size,0,none⟩) (([UInt8.ofNat s.length]:Bs).map al):=fun _=>⟨_,_,rfl,fun j hj=>by
  obtain rfl:j=0:=by simp at hj;omega
  rw[aa (aK w _) 0 rfl];simp[al];omega⟩
 have HT:=Hq2 hT0 hc0;clear hT0 hc0
 go_wp2_with ((at_builtin;first
  | (refine ah rfl ?_;refine fu (.tmp 5) (.tmp 9) rfl v l rfl HT.a HC.b _ 1 1 rfl [UInt8.ofNat s.length] rfl HT.z (by simp;omega) ?_;intro av cv w2 hok2 hT2 _;simp only[length_append,length_singleton]at hok2 hT2;have H2:=Hq2 hok2 hT2;clear hok2 hT2)
  | (refine ah rfl ?_;refine Ea (.tmp 10) (.tmp 11) rfl _ (l++[UInt8.ofNat s.length]) rfl H2.z H2.a s rfl (by simp;omega) ?_;intro av2 cv2 w3 hok3 hT3;simp only[length_append,length_singleton]at hok3 hT3;have H3:=Hq2 hok3 hT3;clear hok3 hT3)))
 have e2:l++[UInt8.ofNat s.length]++s=l++ej s:=by simp[ej]
 have H4:=H3.out;rw[e2,append_nil,Nat.add_assoc,Nat.add_comm 1]at H4;go_ret;exact⟨_,rfl,H4.1,H4.2⟩
end
section
open Go.RowKit
def wm(bx:Nat)(O:Obj)(l:Bs)(w:World)(v:Value)(W:World):Prop:=bOk v l/\Turns [] (aA v l++[(bx,Is O)]) w W
theorem jU{bx:Nat}{O:Obj}{l l':Bs}{w W W':World}{v:Value}{e:Ending}(h:wm bx O l w v W)(k:jB v l l' W e W'):∃v',e=.returned v'/\wm bx O l' w v' W':=by
 obtain⟨v',he,hok,hT⟩:=k;exact⟨v',he,hok,h.2.step (Perm.refl _) hT⟩
theorem rj{bx:Nat}{O:Obj}{l':Bs}{w W W':World}{e:Ending}(h:Turns [] [(bx,Is O)] w W)(k:jB (.slice none 0 0) [] l' W e W'):∃v',e=.returned v'/\wm bx O l' w v' W':=by
 obtain⟨v',he,hok,hT⟩:=k;exact⟨v',he,hok,h.step (Perm.refl _) hT⟩
theorem jV{bx:Nat}{O:Obj}{l:Bs}{w W:World}{v:Value}(h:wm bx O l w v W):W.heap[bx]?=some O:=h.2.sat.Q7 (by simp)
theorem jW{bx:Nat}{O:Obj}{l:Bs}{w W:World}{v:Value}(h:wm bx O l w v W):Sat W (aA v l):=h.2.sat.left
def dN(l:List Int):Bs:=l.flatMap (beI · 4)
theorem uj(l:List Int)(n:Int):dN (l++[n])=dN l++beI n 4:=by simp[dN]
theorem cr(l:List Int):(dN l).length=4*l.length:=by
 induction l with
 | nil=>rfl
 | cons a r ih=>simp only[dN,flatMap_cons,length_append,bM,length_cons]at ih ⊢;omega
theorem bw(p:Bs):(ej p).length=p.length+1:=by simp[ej]
def eF(p:Bs)(num size:Int)(ats:List Int):Bs:=ej p++beI num 4++beI size 2++dN ats
def dA(p:Bs)(nums:List Int):Bs:=ej p++dN nums
def dG(p name:Bs)(num:Int):Bs:=ej p++ej name++beI num 4
def I64(n:Int):Prop:=-9223372036854775808<=n/\n<=9223372036854775807
def Ek(bx:Nat)(O:Obj)(b:Bs)(ats:List Int)(w:World)(v i:Value)(wr:World):Prop:=∃k:Nat,k<=ats.length/\i=.int .i64 k/\wm bx O (b++dN (ats.take k)) w v wr
theorem wc(k:UInt8)(p:Bs)(num size:Int)(sl:Option Addr)(cap:Nat)(ats:List Int)(w:World)(hc:ak w sl (ats.map di))(hp:p.length<=255)(hnum:I64 num)(hsize:I64 size)(hat:∀n∈ats,I64 n)(hl:ats.length<=100000):
  Calls Tryz.prog 191 #[.agg #[.int .u8 k.toNat,str p,.int .i64 num,.int .i64 size,.slice sl ats.length cap]] w (eJ (eF p num size ats) w):=by
 obtain⟨bx,hbx⟩:∃bx,bx=w.heap.size:=⟨_,rfl⟩;obtain⟨O,hO⟩:∃O:Obj,O=.cells #[.int .u8 k.toNat,str p,.int .i64 num,.int .i64 size,.slice sl ats.length cap] 139 (0,0):=⟨_,rfl⟩;have hT0:Turns [] [(bx,Is O)] w (w.alloc (.cells #[.int .u8 k.toNat,str p,.int .i64 num,.int .i64 size,.slice sl ats.length cap] 139)):=by rw[<- hO,hbx];exact(Turns.refl (Sat.nil w)).Q8 O
 have HP:=Hq5 hp hnum hsize hat hc;have HT:=Hq2 hT0 hO;clear hp hnum hsize hat hc hT0;go_enter Tryz.func191,Tryz.ntmps191;go_wp2_with fail;rw[<- hbx];clear hbx;refine db [([0,1,2,4,5,7,8],3,[4,5,7,8]),([],6,[7,8]),([],9,[])] [10] HM.out (by kernel_rfl) fun W tW=>?_
 simp only[Mix,map_cons,map_nil,nth,QG,QF];have hT:=tW HT.a;clear tW;have B:∀{W:World},W.heap[bx]?=some O->W.cell? ⟨bx,1,none⟩=some (str p)/\W.cell? ⟨bx,2,none⟩=some (.int .i64 num)/\W.cell? ⟨bx,3,none⟩=some (.int .i64 size):=fun h=>by rw[HT.z]at h;exact⟨aa h 1 rfl,aa h 2 rfl,aa h 3 rfl⟩
 obtain⟨b1,b2,b3⟩:=B hT.sat.Q5;repeat still_step
 refine wpStill_nil (aU (by kernel_rfl) (mq (.slice none 0 0) [] p W (Sat.nil _) fi (by simp) HP.a) ?_);rintro e W1 hp;obtain⟨v1,rfl,h1⟩:=rj hT hp;refine⟨_,rfl,by(obtain⟨b1,b2,b3⟩:=B (jV h1);(repeat still_step);exact rfl),wpStill_nil (aU (by kernel_rfl) (ew v1 (ej p) num 4 W1 (by omega) (by rw[bw];have:=HP.a;omega) HP.b.1 HP.b.2 (jW h1) h1.1) ?_)⟩;rintro e W2 hp;obtain⟨v2,rfl,h2⟩:=jU h1 hp;refine⟨_,rfl,by(obtain⟨b1,b2,b3⟩:=B (jV h2);(repeat still_step);exact rfl),wpStill_nil (aU (by kernel_rfl) (ew v2 (ej p++beI num 4) size 2 W2 (by omega) (by rw[length_append,bw,bM];have:=HP.a;omega) HP.c.1 HP.c.2 (jW h2) h2.1) ?_)⟩;rintro e W3 hp;obtain⟨v3,rfl,h3⟩:=jU h2 hp;refine⟨_,rfl,rfl,?_⟩;repeat still_step
 refine wpStill_nil ?_;have HS:=qqH h3;have hbo:=jV h3;rw[HT.z]at hbo;have b4:W3.cell? ⟨bx,4,none⟩=some (.slice sl ats.length cap):=aa hbo 4 rfl;have hbl:=ae hbo;clear hT B b1 b2 b3 h1 h2 h3 hbo;go_wp2_with fail;go_loopw [3,19] (fun v i wr=>Ek bx O (ej p++beI num 4++beI size 2) ats w v i wr) (fun _ i _=>ats.length-(intOf i).toNat)
 case atStart=>exact⟨0,Nat.zero_le _,rfl,by simpa[dN]using HS.out⟩
 case round =>
  obtain⟨j,hj,rfl,hR⟩:=hrel;have HR:=qqH hR;clear hR;by_cases hlt:j<ats.length
  ·obtain⟨g,off,hg,hcell⟩:=HP.w.keep HR.z.mods (fun g off e hh=>by simp at hh) (by simpa using(by omega:0<ats.length));subst hg;obtain⟨n,hn⟩:∃n,n=ats[j]:=⟨_,rfl⟩;have hck:wr.cell? ⟨g,off+j,none⟩=some (.int .i64 n):=by rw[hcell j (by simpa using hlt)];simp[hn,di]
   have htk:dN (ats.take (j+1))=dN (ats.take j)++beI n 4:=by rw[QH hlt,uj,hn]
   have hnI:=HP.d n (hn ▸ getElem_mem hlt);have HN:=qqH (ew _ (ej p++beI num 4++beI size 2++dN (ats.take j)) n 4 wr (by omega) (by simp only[length_append,bw,bM,cr,length_take];have:=HP.a;omega) hnI.1 hnI.2 (jW HR.out) HR.a);have HK:=qqH htk;clear hcell hn htk hnI;go_wp2_with fail;refine HN.out.mono ?_;rintro e w4 hp4;obtain⟨v4,rfl,hr4⟩:=jU HR.out hp4;rw[append_assoc,<- HK.out]at hr4;have HR4:=qqH hr4;clear hr4 hp4;go_wp2_with fail;go_roundw
   case rel=>exact⟨j+1,by omega,by go_num,HR4.out⟩
   case measure=>simp[intOf];omega
  ·obtain rfl:j=ats.length:=by omega
   have hR:=HR.out;rw[take_length]at hR;go_wp2_with fail;go_ret;exact⟨_,rfl,hR.1,hR.2.left⟩
theorem vH(k:UInt8)(p name:Bs)(num:Int)(w:World)(hp:p.length<=255)(hn:name.length<=255)(hnum:I64 num):
  Calls Tryz.prog 193 #[.agg #[.int .u8 k.toNat,str p,str name,.int .i64 num]] w (eJ (dG p name num) w):=by
 obtain⟨bx,hbx⟩:∃bx,bx=w.heap.size:=⟨_,rfl⟩;obtain⟨O,hO⟩:∃O:Obj,O=.cells #[.int .u8 k.toNat,str p,str name,.int .i64 num] 159 (0,0):=⟨_,rfl⟩;have hT0:Turns [] [(bx,Is O)] w (w.alloc (.cells #[.int .u8 k.toNat,str p,str name,.int .i64 num] 159)):=by rw[<- hO,hbx];exact(Turns.refl (Sat.nil w)).Q8 O
 have HP:=Hq3 hp hn hnum;have HT:=Hq2 hT0 hO;clear hp hnum hn hT0 hO;go_enter Tryz.func193,Tryz.ntmps193;go_wp2_with fail;rw[<- hbx];clear hbx;refine db [([0,1,2,4,5,7,8],3,[4,5,7,8]),([],6,[7,8]),([],9,[])] [10] HM.out (by kernel_rfl) fun W tW=>?_
 simp only[Mix,map_cons,map_nil,nth,QG,QF];have hT:=tW HT.a;clear tW;have B:∀{W:World},W.heap[bx]?=some O->W.cell? ⟨bx,1,none⟩=some (str p)/\W.cell? ⟨bx,2,none⟩=some (str name)/\W.cell? ⟨bx,3,none⟩=some (.int .i64 num):=fun h=>by rw[HT.z]at h;exact⟨aa h 1 rfl,aa h 2 rfl,aa h 3 rfl⟩
 obtain⟨b1,b2,b3⟩:=B hT.sat.Q5;repeat still_step
 refine wpStill_nil (aU (by kernel_rfl) (mq (.slice none 0 0) [] p W (Sat.nil _) fi (by simp) HP.a) ?_);rintro e W1 hp;obtain⟨v1,rfl,h1⟩:=rj hT hp;refine⟨_,rfl,by(obtain⟨b1,b2,b3⟩:=B (jV h1);(repeat still_step);exact rfl),wpStill_nil (aU (by kernel_rfl) (mq v1 (ej p) name W1 (jW h1) h1.1 (by rw[bw];have:=HP.a;omega) HP.b) ?_)⟩;rintro e W2 hp;obtain⟨v2,rfl,h2⟩:=jU h1 hp;refine⟨_,rfl,by(obtain⟨b1,b2,b3⟩:=B (jV h2);(repeat still_step);exact rfl),wpStill_nil (aU (by kernel_rfl) (ew v2 (ej p++ej name) num 4 W2 (by omega) (by rw[length_append,bw,bw];have:=HP.a;have:=HP.b;omega) HP.c HP.x (jW h2) h2.1) ?_)⟩;rintro e W3 hp;obtain⟨v3,rfl,h3⟩:=jU h2 hp;refine⟨_,rfl,rfl,?_⟩;repeat still_step
 refine wpStill_nil ?_;go_wp2_with fail;go_ret;exact⟨_,rfl,h3.1,h3.2.left⟩
theorem tY(k:UInt8)(p:Bs)(sl:Option Addr)(cap:Nat)(ats:List Int)(w:World)(hc:ak w sl (ats.map di))(hp:p.length<=255)(hat:∀n∈ats,I64 n)(hl:ats.length<=100000):
  Calls Tryz.prog 197 #[.agg #[.int .u8 k.toNat,str p,.slice sl ats.length cap]] w (eJ (dA p ats) w):=by
 obtain⟨bx,hbx⟩:∃bx,bx=w.heap.size:=⟨_,rfl⟩;obtain⟨O,hO⟩:∃O:Obj,O=.cells #[.int .u8 k.toNat,str p,.slice sl ats.length cap] 220 (0,0):=⟨_,rfl⟩;have hT0:Turns [] [(bx,Is O)] w (w.alloc (.cells #[.int .u8 k.toNat,str p,.slice sl ats.length cap] 220)):=by rw[<- hO,hbx];exact(Turns.refl (Sat.nil w)).Q8 O
 have hb0:w.heap.size=bx:=hbx.symm;have HP:=Hq3 hp hat hc;have HT:=Hq2 hT0 hO;clear hp hat hc hT0 hO hb0;go_enter Tryz.func197,Tryz.ntmps197;go_wp2_with fail;refine(mq (.slice none 0 0) [] p _ (Sat.nil _) fi (by simp) HP.a).mono ?_;rintro e w3 hp3;obtain⟨v3,rfl,hS⟩:=rj HT.a hp3;have HS:=qqH hS;have hbo:=jV hS;rw[HT.z]at hbo;have b2:w3.cell? ⟨bx,2,none⟩=some (.slice sl ats.length cap):=aa hbo 2 rfl;have hbl:=ae hbo;rw[<- hbx];clear hS hbo hp3 hbx;go_wp2_with fail;go_loopw [3,13] (fun v i wr=>Ek bx O (ej p) ats w v i wr) (fun _ i _=>ats.length-(intOf i).toNat)
 case atStart=>exact⟨0,Nat.zero_le _,rfl,by simpa[dN]using HS.out⟩
 case round =>
  obtain⟨j,hj,rfl,hR⟩:=hrel;have HR:=qqH hR;clear hR;by_cases hlt:j<ats.length
  ·obtain⟨g,off,hg,hcell⟩:=HP.y.keep HR.z.mods (fun g off e hh=>by simp at hh) (by simpa using(by omega:0<ats.length));subst hg;obtain⟨n,hn⟩:∃n,n=ats[j]:=⟨_,rfl⟩;have hck:wr.cell? ⟨g,off+j,none⟩=some (.int .i64 n):=by rw[hcell j (by simpa using hlt)];simp[hn,di]
   have htk:dN (ats.take (j+1))=dN (ats.take j)++beI n 4:=by rw[QH hlt,uj,hn]
   have hnI:=HP.b n (hn ▸ getElem_mem hlt);have HN:=qqH (ew _ (ej p++dN (ats.take j)) n 4 wr (by omega) (by simp only[length_append,bw,cr,length_take];have:=HP.a;omega) hnI.1 hnI.2 (jW HR.out) HR.a);have HK:=qqH htk;clear hcell hn htk hnI;go_wp2_with fail;refine HN.out.mono ?_;rintro e w4 hp4;obtain⟨v4,rfl,hr4⟩:=jU HR.out hp4;rw[append_assoc,<- HK.out]at hr4;have HR4:=qqH hr4;clear hr4 hp4;go_wp2_with fail;go_roundw
   case rel=>exact⟨j+1,by omega,by go_num,HR4.out⟩
   case measure=>simp[intOf];omega
  ·obtain rfl:j=ats.length:=by omega
   have hR:=HR.out;rw[take_length]at hR;go_wp2_with fail;go_ret;exact⟨_,rfl,hR.1,hR.2.left⟩
def Le(k:UInt8)(w:World)(e:Ending)(w':World):Prop:=e=.returned (.int .u8 k.toNat)/\aQ w w'
theorem lU(k:UInt8)(p:Bs)(w:World):Calls Tryz.prog 135 #[.agg #[.int .u8 k.toNat,str p]] w (Le k w):=by
 go_enter Tryz.func135,Tryz.ntmps135;go_wp2_with fail;go_ret;refine ⟨rfl,(Mods.refl _ w).alloc _⟩
theorem LY(a b c d e:Value)(w:World):(Go.method 434 139 (.agg #[a,b,c,d,e]) "Of").run Tryz.prog w=.ok (135,.agg #[a,b]) w:=by kernel_rfl
theorem KQ(a b c d e:Value)(w:World):(Go.method 434 139 (.agg #[a,b,c,d,e]) "versions/record.body").run Tryz.prog w=.ok (191,.agg #[a,b,c,d,e]) w:=by kernel_rfl
theorem Lx(a b c:Value)(w:World):(Go.method 434 220 (.agg #[a,b,c]) "Of").run Tryz.prog w=.ok (135,.agg #[a,b]) w:=by kernel_rfl
theorem ID(a b c:Value)(w:World):(Go.method 434 220 (.agg #[a,b,c]) "versions/record.body").run Tryz.prog w=.ok (197,.agg #[a,b,c]) w:=by kernel_rfl
theorem LV(a b c d:Value)(w:World):(Go.method 434 159 (.agg #[a,b,c,d]) "Of").run Tryz.prog w=.ok (135,.agg #[a,b]) w:=by kernel_rfl
theorem Kv(a b c d:Value)(w:World):(Go.method 434 159 (.agg #[a,b,c,d]) "versions/record.body").run Tryz.prog w=.ok (193,.agg #[a,b,c,d]) w:=by kernel_rfl
theorem eJ.frame{k:UInt8}{body:Bs}{w w1 w2:World}{v:Value}(hs:aQ w w1)(hT:Turns [] (aA v body) w1 w2){e:Ending}{w3:World}(h:eJ (frame k body) w2 e w3):eJ (frame k body) w e w3:=by
 obtain⟨v',he,hok,hT'⟩:=h;have h1:Turns [] [] w w2:=(Turns.same (Sat.nil w) hs).trans (hT.drop (by intro x;simp[cnt]));exact⟨v',he,hok,h1.trans hT'⟩
theorem kZ{l:Bs}{w w':World}{e:Ending}(h:eJ l w e w'):∃av cv,e=.returned (.slice av l.length cv)/\ak w' av (l.map al)/\Turns [] (aA (.slice av l.length cv) l) w w':=by
 obtain⟨v',he,hok,hT⟩:=h;obtain⟨av,cv,rfl,-,-,hc,-⟩:=aL (cZ hT.sat hok);exact⟨av,cv,he,hc,hT⟩
theorem nB(k:UInt8)(p:Bs)(num size:Int)(sl:Option Addr)(cap:Nat)(ats:List Int)(w:World)(hc:ak w sl (ats.map di))(hp:p.length<=255)(hnum:I64 num)(hsize:I64 size)(hat:∀n∈ats,I64 n)(hl:ats.length<=100000):
  Calls Tryz.prog 54 #[.iface 139 (.agg #[.int .u8 k.toNat,str p,.int .i64 num,.int .i64 size,.slice sl ats.length cap])] w (eJ (frame k (eF p num size ats)) w):=by
 have HB:=qqH (fun W (hW:aQ w W)=>wc k p num size sl cap ats W (hc.keep hW (fun _ _ _=>id)) hp hnum hsize hat hl);have hl0:(eF p num size ats).length<=1000000:=by simp only[eF,length_append,bw,bM,cr];omega
 have HL:=qqH hl0;have h1:=fun W=>LY (.int .u8 k.toNat) (str p) (.int .i64 num) (.int .i64 size) (.slice sl ats.length cap) W
 have h2:=fun W=>KQ (.int .u8 k.toNat) (str p) (.int .i64 num) (.int .i64 size) (.slice sl ats.length cap) W
 clear hc hp hnum hsize hat hl0;go_enter Tryz.func54,Tryz.ntmps54;go_wp2_with fail;refine(lU k p _).mono ?_;rintro e w1 ⟨rfl,hs1⟩;have HS1:=qqH hs1;clear hs1;go_wp2_with fail;refine(HB.out _ HS1.out).mono ?_;rintro e w2 hb2;obtain⟨av,cv,rfl,hc2,hT2⟩:=kZ hb2;have H2:=Hq2 hc2 hT2;obtain⟨n2,hn2⟩:∃n2,n2=(eF p num size ats).length:=⟨_,rfl⟩;rw[<- hn2];have HN:=qqH hn2;clear hb2 hc2 hT2 hn2;go_wp2_with fail;rw[HN.out];refine(g8 k av cv (eF p num size ats) _ H2.a (by have:=HL.out;omega)).mono ?_;rintro e w3 hp3;have h3:=eJ.frame HS1.out H2.z hp3;obtain⟨v3,rfl,hok3,hT3⟩:=h3;have H3:=Hq2 hok3 hT3;clear hp3 hok3 hT3;go_wp2_with fail;go_ret;exact⟨_,rfl,H3.a,H3.z⟩
theorem sB(k:UInt8)(p:Bs)(sl:Option Addr)(cap:Nat)(ats:List Int)(w:World)(hc:ak w sl (ats.map di))(hp:p.length<=255)(hat:∀n∈ats,I64 n)(hl:ats.length<=100000):
  Calls Tryz.prog 54 #[.iface 220 (.agg #[.int .u8 k.toNat,str p,.slice sl ats.length cap])] w (eJ (frame k (dA p ats)) w):=by
 have HB:=qqH (fun W (hW:aQ w W)=>tY k p sl cap ats W (hc.keep hW (fun _ _ _=>id)) hp hat hl);have hl0:(dA p ats).length<=1000000:=by simp only[dA,length_append,bw,cr];omega
 have HL:=qqH hl0;have h1:=fun W=>Lx (.int .u8 k.toNat) (str p) (.slice sl ats.length cap) W
 have h2:=fun W=>ID (.int .u8 k.toNat) (str p) (.slice sl ats.length cap) W
 clear hc hp hat hl0;go_enter Tryz.func54,Tryz.ntmps54;go_wp2_with fail;refine(lU k p _).mono ?_;rintro e w1 ⟨rfl,hs1⟩;have HS1:=qqH hs1;clear hs1;go_wp2_with fail;refine(HB.out _ HS1.out).mono ?_;rintro e w2 hb2;obtain⟨av,cv,rfl,hc2,hT2⟩:=kZ hb2;have H2:=Hq2 hc2 hT2;obtain⟨n2,hn2⟩:∃n2,n2=(dA p ats).length:=⟨_,rfl⟩;rw[<- hn2];have HN:=qqH hn2;clear hb2 hc2 hT2 hn2;go_wp2_with fail;rw[HN.out];refine(g8 k av cv (dA p ats) _ H2.a (by have:=HL.out;omega)).mono ?_;rintro e w3 hp3;have h3:=eJ.frame HS1.out H2.z hp3;obtain⟨v3,rfl,hok3,hT3⟩:=h3;have H3:=Hq2 hok3 hT3;clear hp3 hok3 hT3;go_wp2_with fail;go_ret;exact⟨_,rfl,H3.a,H3.z⟩
theorem kr(k:UInt8)(p name:Bs)(num:Int)(w:World)(hp:p.length<=255)(hn:name.length<=255)(hnum:I64 num):
  Calls Tryz.prog 54 #[.iface 159 (.agg #[.int .u8 k.toNat,str p,str name,.int .i64 num])] w (eJ (frame k (dG p name num)) w):=by
 have HB:=qqH (fun W (hW:aQ w W)=>vH k p name num W hp hn hnum);have hl0:(dG p name num).length<=1000000:=by simp only[dG,length_append,bw,bM];omega
 have HL:=qqH hl0;have h1:=fun W=>LV (.int .u8 k.toNat) (str p) (str name) (.int .i64 num) W
 have h2:=fun W=>Kv (.int .u8 k.toNat) (str p) (str name) (.int .i64 num) W
 clear hp hn hnum hl0;go_enter Tryz.func54,Tryz.ntmps54;go_wp2_with fail;refine(lU k p _).mono ?_;rintro e w1 ⟨rfl,hs1⟩;have HS1:=qqH hs1;clear hs1;go_wp2_with fail;refine(HB.out _ HS1.out).mono ?_;rintro e w2 hb2;obtain⟨av,cv,rfl,hc2,hT2⟩:=kZ hb2;have H2:=Hq2 hc2 hT2;obtain⟨n2,hn2⟩:∃n2,n2=(dG p name num).length:=⟨_,rfl⟩;rw[<- hn2];have HN:=qqH hn2;clear hb2 hc2 hT2 hn2;go_wp2_with fail;rw[HN.out];refine(g8 k av cv (dG p name num) _ H2.a (by have:=HL.out;omega)).mono ?_;rintro e w3 hp3;have h3:=eJ.frame HS1.out H2.z hp3;obtain⟨v3,rfl,hok3,hT3⟩:=h3;have H3:=Hq2 hok3 hT3;clear hp3 hok3 hT3;go_wp2_with fail;go_ret;exact⟨_,rfl,H3.a,H3.z⟩
theorem LP:(Tryz.prog.info? 3).map (fun i=>(i.zero,i.size,i.bytes))=some (some (.int .i64 0),1,8):=by kernel_rfl
def bZ(v:Value)(l:List Int):HF:=bK 3 1 v l.length (l.map di)
def iOk(v:Value)(l:List Int):Prop:=et 1 v l.length (l.map di)
theorem AL:bZ (.slice none 0 0) []=[]:=rfl
theorem lV:iOk (.slice none 0 0) []:=⟨rfl,fun _=>⟨rfl,rfl⟩⟩
theorem kq{o:Oper}{a:Act}{w a0:World}{K:Act->World->Prop}{Q:Exit->Act->World->Prop}{F G:HF}(s x:Operand)(hop:o.op=.call { callee:=.builtin .append,args:=#[s,x],argTypes:=#[96,96] })(v:Value)(l:List Int)(hs:a.eval s=v)(hT:Turns F (bZ v l++G) a0 w)(hok:iOk v l)(sa:Option Addr)(m c:Nat)(hx:a.eval x=.slice sa m c)(r:List Int)(hm:m=r.length)(hc:0<m->∃ad,sa=some ad/\∀j u,(r.map di)[j]?=some u->w.cell? (ad.add j)=some u)(hb:l.length+r.length<=1000000)(hk:∀av cv w',iOk (.slice av (l++r).length cv) (l++r)->Turns F (bZ (.slice av (l++r).length cv) (l++r)++G) a0 w'->K (a.put o.dst (.slice av (l++r).length cv)) w'):o.wp Tryz.prog a w K Q:=by
 obtain⟨i0,hi0,hz1,hz2,hz3⟩:=info_parts LP;refine cV s x 96 3 i0 (.int .i64 0) 1 8 hop Tryz.underlying96 hi0 hz1 hz2 hz3 rfl (by decide) v l.length (l.map di) hs hT hok sa m c hx (r.map di) (by simp[hm]) hc (fun u hu=>by obtain⟨y,_,rfl⟩:=mem_map.1 hu;rfl) (by unfold maxLen;omega) (by omega) (fun v' w' h1 h2 h3=>?_);have k1:iOk v' (l++r):=by unfold iOk;rw[length_append,map_append,<- hm];exact h1
 have k2:Turns F (bZ v' (l++r)++G) a0 w':=by unfold bZ;rw[length_append,map_append,<- hm];exact h2
 obtain⟨av,cv,rfl,-,-,-,-⟩:=aL (aR k2.sat.left k1);exact hk av cv w' k1 k2
def qo(k:UInt8)(p:Bs)(num size:Int)(v:Value):Obj:=.cells #[.int .u8 k.toNat,str p,.int .i64 num,.int .i64 size,v] 139 (0,0)
def br(l:List (Nat×Nat)):List Int:=l.map (fun q=>(q.1:Int))
def CD(p:Bs)(V:VerL)(w:World)(e:Ending)(w':World):Prop :=
 ∃av cv,e=.returned (.agg #[.int .u8 2,str p,.int .i64 V.num,.int .i64 V.size,.slice av (br V.chs).length cv])/\ak w' av ((br V.chs).map di)/\aQ w w'
def Mc(c r:Nat)(p:Bs)(V:VerL)(w:World)(i:Value)(W:World):Prop :=
 ∃(k:Nat) (v:Value),k<=V.chs.length/\i=.int .i64 k/\iOk v ((br V.chs).take k)/\Turns [] (((c,Is (qo 2 p V.num V.size v))::bZ v ((br V.chs).take k))++[(r,Is (qo 0 [] 0 0 (.slice none 0 0)))]) w W
theorem fd{w:World}{v:Value}{l:List (Nat×Nat)}(h:Sat w (aY v l))(hok:bP v l):∃sl cap,v=.slice sl l.length cap/\l.length<=cap/\cap<=9223372036854775807/\ak w sl (cR l):=by
 have hown:=aR h hok;rcases hown.2 with⟨rfl,h0⟩|⟨g,cap,cur,rfl,hbg,hg,hnc,hcm,hcs,htake⟩
 ·have hl:l=[]:=eq_nil_of_length_eq_zero h0;subst hl;exact⟨none,0,rfl,Nat.le_refl _,by omega,fun h=>by simp[cR]at h⟩
 ·refine⟨some ⟨g,0,none⟩,cap,rfl,hnc,by unfold maxLen at hcm;omega,fun hp=>⟨g,0,rfl,fun j hj=>?_⟩⟩;have:=hown.cells (g:=g) rfl j _ (getElem?_eq_getElem hj);rwa [Addr.add_lit]at this
theorem CX(w:World)(o:Obj)(xs:List Value)(t:TypeId):∀j u,xs[j]?=some u->((w.alloc o).alloc (.cells xs.toArray t)).cell? ((⟨w.heap.size+1,0,none⟩:Addr).add j)=some u:=fun j u hu=>by
 have:=ic (w.alloc o) xs t j u hu
 simpa using this
theorem eS(l:List (Nat×Nat)):(cR l).length=2*l.length:=by
 induction l with
 | nil=>rfl
 | cons a r ih=>simp only[cR,flatMap_cons,length_append,re,length_cons,length_nil]at ih ⊢;omega
theorem DD:∀(l:List (Nat×Nat)) (k:Nat) (hk:k<l.length),(cR l)[2*k]?=some (.int .i64 l[k].1)/\(cR l)[2*k+1]?=some (.int .i64 l[k].2):=by
 intro l;induction l with
 | nil=>intro k hk;simp at hk
 | cons a r ih =>
  intro k hk
  cases k with
  | zero=>simp[cR,re]
  | succ k =>
   have:=ih k (by simpa using hk);simp only[cR,flatMap_cons,re]at this ⊢;rw[show 2*(k+1)=2*k+2 by omega,show 2*k+2+1=(2*k+1)+2 by omega,getElem?_append_right (by simp),getElem?_append_right (by simp)];simpa using this
theorem mY{w:World}{g off:Nat}{l:List (Nat×Nat)}(h:∀j (h:j<(cR l).length),w.cell? ⟨g,off+j,none⟩=some ((cR l)[j]'h)){k:Nat}(hk:k<l.length):
  w.cell? ⟨g,off+k*2,none⟩=some (.int .i64 l[k].1)/\w.cell? ⟨g,off+k*2+1,none⟩=some (.int .i64 l[k].2):=by
 obtain⟨h1,h2⟩:=DD l k hk;obtain⟨p1,e1⟩:=List.getElem?_eq_some_iff.1 h1;obtain⟨p2,e2⟩:=List.getElem?_eq_some_iff.1 h2;rw[Nat.add_assoc,Nat.mul_comm k 2];exact⟨by rw[h _ p1,e1],by rw[h _ p2,e2]⟩
theorem jA(p:Bs)(V:VerL)(w:World)(hV:Sat w (bL V))(hok:bP V.cv V.chs)(hl:V.chs.length<=100000):
  Calls Tryz.prog 55 #[str p,dH V] w (CD p V w):=by
 obtain⟨r,hr⟩:∃r,r=w.heap.size:=⟨_,rfl⟩;obtain⟨Z,hZ⟩:∃Z:Obj,Z=qo 0 [] 0 0 (.slice none 0 0):=⟨_,rfl⟩;have hT0:Turns [] [(r,Is Z)] w (w.alloc Z):=by rw[hr];exact(Turns.refl (Sat.nil w)).Q8 Z
 obtain⟨sl,cap,hcv,hcl,hcm,hcells⟩:=fd hV.tail hok;have HV:=Hq4 hV.Q5 hcells hcv hl;have HT:=Hq2 hT0 hZ;clear hV hok hT0 hZ hcells hcv;unfold dH;go_enter Tryz.func55,Tryz.ntmps55;go_wp2_with fail;rw[<- hr];have hwe:w.alloc (.cells #[.int .u8 0,.string { data:=#[] },.int .i64 0,.int .i64 0,.slice none 0 0] 139)=w.alloc Z:=by rw[HT.z];rfl
 rw[hwe];clear hwe hr;refine db [([0,1,2,3,4,5,6,7,8,9,10],11,[0,1,2,3,4,5,6,7,8,9,10]),([],12,[])] [] HM.out (by kernel_rfl) fun W tW=>?_
 simp only[Mix,map_cons,map_nil,nth,QG,QF];have hT:=tW HT.a;clear tW;have Vb:∀{W F},Turns [] F w W->W.cell? ⟨V.blk,0,none⟩=some (.int .i64 V.num)/\W.cell? ⟨V.blk,1,none⟩=some (.int .i64 V.size):=fun h=>⟨aa (h.news.at HV.a id) 0 rfl,aa (h.news.at HV.a id) 1 rfl⟩
 obtain⟨b0,b1⟩:=Vb hT;repeat still_step
 refine wpStill_nil (i8 (qo 0 [] 0 0 (.slice none 0 0)) (fun c=>.pointer (some ⟨c,0,none⟩)) (by kernel_rfl) hT fun c W1 hT1=>⟨by(obtain⟨b0,b1⟩:=Vb hT1;(repeat still_step);exact rfl),wpStill_nil ?_⟩);refine ny 139 (.tmp 5) (.tmp 18) rfl c #[.int .u8 0,str [],.int .i64 0,.int .i64 0,.slice none 0 0] #[.int .u8 2,str p,.int .i64 V.num,.int .i64 V.size,.slice none 0 0] _ hT1 rfl rfl rfl (by kernel_rfl) (by simp[Value.oneCell']) fun W2 hT2=>⟨rfl,?_⟩
 simp only[Act.put,QA,QB,QC];refine wpStill_nil ?_;have HT3:=qqH (show Turns [] [(c,Is (qo 2 p V.num V.size (.slice none 0 0))),(r,Is Z)] w W2 from hT2);have hvo:=hT2.news.at HV.a id;have b2:W2.cell? ⟨V.blk,2,none⟩=some (.slice sl V.chs.length cap):=by rw[<- HV.c];exact aa hvo 2 rfl
 have hbl:=ae hvo;clear hT hT1 hT2 hvo b0 b1 Vb;go_wp2_with fail;go_loopw [24] (fun i wr=>Mc c r p V w i wr) (fun i _=>V.chs.length-(intOf i).toNat)
 case atStart=>exact⟨0,.slice none 0 0,Nat.zero_le _,rfl,by simpa using lV,by
  have:=HT3.out;rw[HT.z]at this;simpa[AL]using this⟩
 case round =>
  obtain⟨k,v,hk,rfl,hok,hT⟩:=hrel;have HR:=Hq2 hok hT;have hrec:=hT.sat.Q5;clear hok hT;by_cases hlt:k<V.chs.length
  ·obtain⟨g,off,hg,hcell⟩:=HV.b.keep HR.z.mods (fun g off e hh=>by simp at hh) (by rw[eS];omega);subst hg;obtain⟨hc1,hc2⟩:=mY hcell hlt;obtain⟨q,hq⟩:∃q,q=V.chs[k]:=⟨_,rfl⟩;rw[<- hq]at hc1 hc2;have c3:wr.cell? ⟨c,4,none⟩=some v:=aa hrec 4 rfl;have hcl2:=ae hrec;have HQ:=qqH hq;clear hcell hq
   have hat:(br V.chs).take (k+1)=(br V.chs).take k++[(q.1:Int)]:=by
    rw[QH (by simp[br];omega)];simp[br,HQ.out]
   have htl:((br V.chs).take k).length=k:=by simp[br];omega
   have hfr:=bc hrec 4;have HA:=Hq2 hat htl;have HTp:Turns [] (bZ v ((br V.chs).take k)++[(c,Is (qo 2 p V.num V.size v)),(r,Is (qo 0 [] 0 0 (.slice none 0 0)))]) w wr:=HR.z.to ac;have HT5:=qqH HTp;clear hat htl hrec HTp;go_wp2_with ((at_builtin;refine ah rfl ?_;refine kq (.tmp 29) (.tmp 32) rfl v _ rfl ((HT5.out.alloc _).alloc _) HR.a _ 1 1 rfl [(q.1:Int)] rfl (fun _=>⟨_,rfl,fun j u hu=>CX _ _ _ _ j u hu⟩) (by rw[HA.z];simp;omega) ?_;intro av cv w5 hok5 hT5;simp only[length_append,HA.z,length_singleton]at hok5 hT5;have hb5:w5.heap[c]?=some (qo 2 p V.num V.size v):=hT5.sat.Q7 (by simp);have c5:=aa (v:=v) hb5 4 rfl;have f5:=bc hb5 4;have H5:=Hq3 hok5 hT5 hb5;clear hok5 hT5 hb5 hfr c3 hc1 hc2));have hmin:min k (br V.chs).length+1=k+1:=by have:=HA.z;rw[length_take]at this;omega
   rw[hmin];refine⟨⟨k+1,.slice av (k+1) cv,by omega,by go_num,by rw[HA.a];exact H5.a,?_⟩,by simp[intOf];omega⟩;have hq:=(H5.b.to (H:=(c,Is (qo 2 p V.num V.size v))::(bZ (.slice av (k+1) cv) ((br V.chs).take k++[(q.1:Int)])++[(r,Is (qo 0 [] 0 0 (.slice none 0 0)))])) ac).Qa (o:=qo 2 p V.num V.size (.slice av (k+1) cv)) ((Mods.refl (fun k=>k=c) w5).set1 (i:=4) (.slice av (k+1) cv)) (bn H5.y 4 _);rw[HA.a];exact hq.to ac
  ·obtain rfl:k=V.chs.length:=by omega
   have c0:wr.cell? ⟨c,0,none⟩=some (.int .u8 2):=aa hrec 0 rfl;have c1:wr.cell? ⟨c,1,none⟩=some (str p):=aa hrec 1 rfl;have c2:wr.cell? ⟨c,2,none⟩=some (.int .i64 V.num):=aa hrec 2 rfl;have c3:wr.cell? ⟨c,3,none⟩=some (.int .i64 V.size):=aa hrec 3 rfl;have c4:wr.cell? ⟨c,4,none⟩=some v:=aa hrec 4 rfl;have hrr:wr.heap[r]?=some (qo 0 [] 0 0 (.slice none 0 0)):=HR.z.sat.Q7 (by simp);have hth:=dr (C:=#[.int .u8 0,str [],.int .i64 0,.int .i64 0,.slice none 0 0]) hrr 0 5 (by simp);have ho1:=HR.a;have hT1:=HR.z;have hle:(br V.chs).take V.chs.length=br V.chs:=take_of_length_le (by simp[br]);rw[hle]at ho1 hT1;have hTi:Turns [] (bZ v (br V.chs)++[(c,Is (qo 2 p V.num V.size v)),(r,Is (qo 0 [] 0 0 (.slice none 0 0)))]) w wr:=hT1.to ac;obtain⟨av,cv,rfl,-,-,hca,hbl2⟩:=aL (aR hTi.sat.left ho1);obtain⟨q1,q2⟩:=dI hrr [.int .u8 2,str p,.int .i64 V.num,.int .i64 V.size,.slice av (br V.chs).length cv] (by simp);have hse:aQ w (wr.setCells r 0 [.int .u8 2,str p,.int .i64 V.num,.int .i64 V.size,.slice av (br V.chs).length cv]):=hTi.news.trans' q2 (fun i hi=>.inr (hi ▸ hTi.Qs (by simp)))
   have hck:ak (wr.setCells r 0 [.int .u8 2,str p,.int .i64 V.num,.int .i64 V.size,.slice av (br V.chs).length cv]) av ((br V.chs).map di):=hca.keep q2 (fun g off e hh=>by
    have h1:=hbl2 _ e;have h2:=hTi.sat.Qh (b:=g) (by unfold bZ;rw[eK];exact h1);exact h2 (by simp[hh]))
   have HF1:=Hq4 q1 hse hck hth;clear q1 q2 hse hck hth hTi hT1 ho1 hca hbl2 hle hrr hrec;go_wp2_with ((refine wpList_store_mid rfl 139 (.tmp 4) (.tmp 36) rfl r 0 #[.int .u8 2,str p,.int .i64 V.num,.int .i64 V.size,.slice av (br V.chs).length cv] rfl rfl HF1.x (by kernel_rfl) (by simp[Value.oneCell']) ?_;simp only[Act.put]));refine bodyPost_ret (results_cell_row rfl _ _ r 139 _ (0,0) _ rfl HF1.a Tryz.underlying139 rfl (by kernel_rfl)) rfl ?_;exact⟨av,cv,rfl,HF1.c,HF1.b⟩
end
section
open Go.RowKit Go.Maps
open Go.ChangeMaps (setBlock)
structure ContIs (C:Array Value) (pm tm cm:Nat) (sc sb used:Int):Prop where
 c0:C[0]?=some (.map (some pm))
 c1:C[1]?=some (.map (some tm))
 c2:C[2]?=some (.map (some cm))
 c3:C[3]?=some (.int .i64 sc)
 c4:C[4]?=some (.int .i64 sb)
 c5:C[5]?=some (.int .i64 used)
def kw(ps:List ba)(c:Nat)(l:Bs)(v:Value)(V:VerL):List ba:=eh ps c l v (af ps l++[V])
def dF(ps:List ba)(l:Bs):HF:=gj d9 (bE ps l)++(af ps l).flatMap bL
theorem kL{ps:List ba}(l:Bs)(h:(ps.map (·.key)).Nodup):(gj d9 ps).Perm (eo (eH (.slice none 0 0) ps l) (af ps l)++dF ps l):=by
 have:=uD d9 (.slice none 0 0) [] rfl ps l h;unfold d9 at this;rw[append_assoc]at this;exact this.trans (Perm.append_left _ perm_append_comm)
theorem q7{ps:List ba}(c:Nat)(l:Bs)(v:Value)(V:VerL)(h:(ps.map (·.key)).Nodup):(gj d9 (kw ps c l v V)).Perm (eo v (af ps l++[V])++(dF ps l++bL V)):=by
 have:=uC d9 ps c l v (af ps l++[V]) h;unfold d9 at this;rw[append_assoc]at this;refine this.trans (Perm.append_left _ ?_);rw[flatMap_append];unfold dF;simp only[flatMap_cons,flatMap_nil,append_nil];rw[append_assoc (gj d9 (bE ps l))];exact perm_append_comm
theorem ut{ps:List ba}{c:Nat}(hok:PathsOk ps c)(l:Bs):eT (eH (.slice none 0 0) ps l) (af ps l):=by
 unfold eH af gOf
 cases hf:ps.find? (fun p=>decide (p.key=l))with
 | none=>exact⟨rfl,fun _=>⟨rfl,rfl⟩⟩
 | some p=>exact(hok.rows p (mem_of_find?_eq_some hf)).1
theorem IL:(Tryz.prog.info? 114).map (fun i=>(i.zero,i.size,i.bytes))=some (some (.pointer none),1,8):=by kernel_rfl
theorem D9{o:Oper}{a:Act}{w a0:World}{K:Act->World->Prop}{Q:Exit->Act->World->Prop}{F G:HF}(s x:Operand)(hop:o.op=.call { callee:=.builtin .append,args:=#[s,x],argTypes:=#[118,118] })(v:Value)(l:List VerL)(hs:a.eval s=v)(hT:Turns F (eo v l++G) a0 w)(hok:eT v l)(sa:Option Addr)(m c:Nat)(hx:a.eval x=.slice sa m c)(r:List VerL)(hm:m=r.length)(hc:0<m->∃ad,sa=some ad/\∀j u,(r.map dH)[j]?=some u->w.cell? (ad.add j)=some u)(hb:l.length+r.length<=1000000)(hk:∀v' w',eT v' (l++r)->Turns F (eo v' (l++r)++G) a0 w'->K (a.put o.dst v') w'):o.wp Tryz.prog a w K Q:=by
 obtain⟨i0,hi0,hz1,hz2,hz3⟩:=info_parts IL;refine cV s x 118 114 i0 (.pointer none) 1 8 hop Tryz.underlying118 hi0 hz1 hz2 hz3 rfl (by decide) v l.length (l.map dH) hs hT hok sa m c hx (r.map dH) (by simp[hm]) hc (fun u hu=>by obtain⟨y,_,rfl⟩:=mem_map.1 hu;rfl) (by unfold maxLen;omega) (by omega) (fun v' w' h1 h2 h3=>?_);exact hk v' w' (by unfold eT;rw[length_append,map_append,<- hm];exact h1) (by unfold eo;rw[length_append,map_append,<- hm];exact h2)
def GY(b pm c:Nat)(ps:List ba)(l:Bs)(V:VerL)(C:Array Value)(ty:TypeId)(used:Int)(w:World)(e:Ending)(w':World):Prop :=
 ∃v',e=.returned (.tuple #[])/\eT v' (af ps l++[V]) /\
  Turns ((b,Is (.cells C ty (0,0)))::(aF pm ps c++bL V)) ((b,Is (.cells (C.setIfInBounds 5 (.int .i64 (used+V.size))) ty (0,0)))::aF pm (kw ps c l v' V) (cf (ps.map aN) c l)) w w'
theorem qK(b pm tm cm c:Nat)(sc sb used:Int)(ps:List ba)(l:Bs)(V:VerL)(C:Array Value)(ty:TypeId)(w:World)(h:Sat w ((b,Is (.cells C ty (0,0)))::(aF pm ps c++bL V)))(hC:ContIs C pm tm cm sc sb used)(hok:PathsOk ps c)(hl:OkS l)(hlen:(af ps l).length<=100000)(hus : -4611686018427387904<=used/\used+V.size<=4611686018427387904)(hvs:V.size<=4611686018427387904):
  Calls Tryz.prog 58 #[.pointer (some ⟨b,0,none⟩),str l,dH V] w (GY b pm c ps l V C ty used w):=by
 obtain⟨O,hO⟩:∃O:Obj,O=.cells C ty (0,0):=⟨_,rfl⟩;rw[<- hO]at h
 have hT0:Turns ((b,Is O)::(aF pm ps c++bL V)) (eo (eH (.slice none 0 0) ps l) (af ps l)++((b,Is O)::(pm,Is (aO str (ps.map aN) c))::(dF ps l++bL V))) w w:=by
  refine(Turns.refl h).to ?_;have hp:=kL l (by rw[<- cy];exact hok.map.nodup);unfold aF;refine((Perm.cons _ (Perm.cons _ (hp.append_right _)))).trans ?_;refine(perm_append_comm (l₁:=[(b,Is O),(pm,Is (aO str (ps.map aN) c))]) (l₂:=eo (eH (.slice none 0 0) ps l) (af ps l)++dF ps l++bL V)).trans ?_;simp only[append_assoc];refine Perm.append_left _ ?_;rw[<- append_assoc];exact perm_append_comm
 obtain⟨v0,hv0⟩:∃v0,v0=eH (.slice none 0 0) ps l:=⟨_,rfl⟩;obtain⟨vs,hvs0⟩:∃vs,vs=af ps l:=⟨_,rfl⟩
 have hok0:eT v0 vs:=by
  rw[hv0,hvs0];exact ut hok l
 obtain⟨R1,hR1⟩:∃R1,R1=dF ps l++bL V:=⟨_,rfl⟩;obtain⟨F0,hF0⟩:∃F0,F0=(b,Is O)::(aF pm ps c++bL V):=⟨_,rfl⟩;obtain⟨M,hM⟩:∃M,M=aO str (ps.map aN) c:=⟨_,rfl⟩;rw[<- hv0,<- hvs0,<- hR1,<- hF0,<- hM]at hT0;have HH:=qqH (And.intro hT0 (And.intro hO (And.intro hM (And.intro hv0 (And.intro hvs0 (And.intro hR1 (And.intro hF0 (And.intro hok0 (And.intro hok (And.intro hl hC))))))))));have HL:=Hq2 (hvs0 ▸ hlen) hus;have HW:=qqH (show IntKind.i64.wrap (used+V.size)=used+V.size from IntWalk.i64_in _ (by omega));clear h hT0 hO hM hv0 hvs0 hR1 hF0 hok0 hok hl hC hus hlen hvs;unfold dH;go_enter Tryz.func58,Tryz.ntmps58;go_wp2_with fail;refine db [([0,1,2,3,4,5,6,7,8,9,10,11],12,[0,1,2,3,4,5,6,7,8,9,10]),([],13,[0,1,2,3,4]),([],14,[])] [] HM.out (by kernel_rfl) fun W tW=>?_
 simp only[Mix,map_cons,map_nil,nth,QG,QF];have hT:=tW HH.a;clear tW;have g:∀{W:World},W.heap[b]?=some O->W.cell? ⟨b,0,none⟩=some (.map (some pm)):=fun h=>aa (HH.b ▸ h) 0 HH.out.2.2.2.2.2.2.2.2.2.2.c0
 have look:=fun {W:World} (h:W.heap[pm]?=some M) (o:Oper) ho (a:Act) h1 h2=>A5 (P:=Tryz.prog) (o:=o) (a:=a) dK (.tmp 14) (.tmp 15) ho Tryz.underlying51 (HH.c ▸ h) HH.out.2.2.2.2.2.2.2.2.1.map (fN W) l h1 h2 HH.out.2.2.2.2.2.2.2.2.2.1
 simp only[cP,<- HH.d]at look;have g0:=g (hT.sat.Q7 (by simp));repeat still_step
 refine eG rfl (look (hT.sat.Q7 (by simp)) _ rfl _ rfl rfl) ?_;simp only[Act.put,QA,QB,QC];repeat still_step
 refine wpStill_nil ?_;refine i8 (.cells #[.pointer (some ⟨V.blk,0,none⟩)] 114) (fun n=>.slice (some ⟨n,0,none⟩) 1 1) (by kernel_rfl) hT fun n W1 hT1=>⟨?_,?_⟩
 ·have g1:=g (hT1.sat.Q7 (by simp));repeat still_step
  exact eG rfl (look (hT1.sat.Q7 (by simp)) _ rfl _ rfl rfl) rfl
 have hn:=aa hT1.sat.Q5 0 rfl
 refine D9 (.tmp 16) (.tmp 18) rfl v0 vs rfl (hT1.drop (H:=eo v0 vs++((b,Is O)::(pm,Is M)::R1)) bB) HH.h (some ⟨n,0,none⟩) 1 1 rfl [V] rfl (fun _=>⟨_,rfl,fun j u hu=>by
  cases j with
  | zero=>simp only[map_cons,getElem?_cons_zero,Option.some.injEq]at hu;rw[<- hu,Addr.add_lit];exact hn
  | succ j=>simp at hu⟩) (by have:=HL.a;simp;omega) (fun v1 W2 h1 h2=>⟨?_,?_⟩)
 ·have g1:=g (h2.sat.Q7 (by simp));repeat still_step
  exact rfl
 refine lF dK (.tmp 9) (.tmp 10) (.tmp 19) rfl Tryz.underlying51 pm (ps.map aN) c (h2.to (H:=(pm,Is (aO str (ps.map aN) c))::(eo v1 (vs++[V])++(b,Is O)::R1)) (by rw[HH.c];exact ac)) HH.out.2.2.2.2.2.2.2.2.1.map l v1 rfl rfl rfl HH.out.2.2.2.2.2.2.2.2.2.1 (fun W3 h3=>⟨rfl,?_⟩);have HT3:=Hq2 h1 h3;clear hT g look g0 hT1 hn h1 h2 h3;simp only[Act.put,QA,QB,QC];refine wpStill_nil ?_;go_wp2_with fail;refine db [([0,1,2,3,4,5,6,7,8,9,10],11,[])] [] HM.out (by kernel_rfl) fun W tW=>?_
 simp only[Mix,map_cons,map_nil,nth,QG,QF];have hT:=tW HT3.z;clear tW;have hT1:=hT.to (H:=(b,Is O)::(eo v1 (vs++[V])++(pm,Is (aO str (gF (ps.map aN) c l v1) (cf (ps.map aN) c l)))::R1)) ac;rw[HH.b]at hT1;have g0:W.cell? ⟨b,5,none⟩=some (.int .i64 used):=aa hT1.sat.Q5 5 HH.out.2.2.2.2.2.2.2.2.2.2.c5;have g1:W.cell? ⟨V.blk,1,none⟩=some (.int .i64 V.size):=aa (hT1.sat.Q7 (b:=V.blk) (o:=dt V) (by rw[HH.f];simp[bL])) 1 rfl;have g2:=HW.out;repeat still_step
 refine wpStill_nil ?_;refine bb 3 (.tmp 30) (.tmp 28) rfl b 5 C ty (.int .i64 (used+V.size)) hT1 rfl rfl (Array.getElem?_eq_some_iff.1 HH.out.2.2.2.2.2.2.2.2.2.2.c5).1 (by kernel_rfl) rfl rfl (fun W4 h4=>⟨rfl,?_⟩);have HT5:=qqH h4;clear hT hT1 g0 g1 g2 h4;refine wpStill_nil ?_;go_wp2_with fail;refine bodyPost_end (results_none rfl _ _ _) rfl ⟨v1,rfl,by rw[<- HH.e];exact HT3.a,?_⟩;rw[<- HH.b,<- HH.g];refine HT5.out.to ?_;have hp:=q7 c l v1 V (by rw[<- cy];exact HH.out.2.2.2.2.2.2.2.2.1.map.nodup);rw[<- HH.e,<- HH.f]at hp;unfold aF kw;rw[iG,<- HH.e];have h1:=(Perm.cons (b,Is (.cells (C.setIfInBounds 5 (.int .i64 (used+V.size))) ty (0,0))) (Perm.cons (pm,Is (aO str (gF (ps.map aN) c l v1) (cf (ps.map aN) c l))) hp)).symm;unfold kw at h1;rw[<- HH.e]at h1;exact Perm.trans ac h1
end
section
open Go.RowKit
def zF(A:AreaL)(w:World)(e:Ending)(w':World):Prop:=e=.returned (.int .i64 ((A.count:Int)*128-A.end_))/\aQ w w'
theorem sX(ab d:Nat)(A:AreaL)(w:World)(h:Sat w (ap ab d A))(h1:A.count<=1073741824)(h2:A.end_<=128*A.count):
  Calls Tryz.prog 77 #[.pointer (some ⟨ab,0,none⟩)] w (zF A w):=by
 have hab:=h.Q5;have a2:=aa hab 2 (sD d A);have a3:=aa hab 3 (nJ d A);have e1:IntKind.i64.wrap ((A.count:Int)*128)=(A.count:Int)*128:=IntWalk.i64_in _ (by omega);have e2:IntKind.i64.wrap ((A.count:Int)*128-(A.end_:Int))=(A.count:Int)*128-(A.end_:Int):=IntWalk.i64_in _ (by omega);clear h hab;go_enter Tryz.func77,Tryz.ntmps77;go_wp2_with fail;go_quiet (fail);go_wp2_with fail;go_ret;exact⟨rfl,(Mods.refl _ w).drewN _⟩
def sY(X:ArchL)(w:World)(e:Ending)(w':World):Prop:=e=.returned (.tuple #[.agg #[.int .i64 X.sc,.int .i64 X.sb],.nilIface])/\aQ w w'
def x5(w:World)(e:Ending)(w':World):Prop:=e=.returned (.tuple #[.agg #[.int .i64 0,.int .i64 0],.iface 60 (.int .i64 9)])/\aQ w w'
theorem rB(a:Nat)(X:ArchL)(w:World)(h:w.heap[a]?=some (aJ X))(hc:X.closed=false):
  Calls Tryz.prog 6 #[.pointer (some ⟨a,0,none⟩)] w (sY X w):=by
 have a3:w.cell? ⟨a,3,none⟩=some (.int .i64 X.sc):=aa h 3 rfl;have a4:w.cell? ⟨a,4,none⟩=some (.int .i64 X.sb):=aa h 4 rfl;have a10:w.cell? ⟨a,10,none⟩=some (.bool false):=by rw[<- hc];exact aa h 10 rfl
 have hal:=ae h;go_enter Tryz.func6,Tryz.ntmps6;go_wp2_with fail;go_wp2_with fail;exact bodyPost_ret (jx rfl _ _ w.heap.size 28 _ (0,0) _ rfl (aK w _) Tryz.underlying28 rfl (by kernel_rfl)) rfl ⟨rfl,(Mods.refl _ w).alloc _⟩
theorem og(a:Nat)(X:ArchL)(w:World)(h:w.heap[a]?=some (aJ X))(hc:X.closed=true):
  Calls Tryz.prog 6 #[.pointer (some ⟨a,0,none⟩)] w (x5 w):=by
 have a10:w.cell? ⟨a,10,none⟩=some (.bool true):=by rw[<- hc];exact aa h 10 rfl
 have hal:=ae h;go_enter Tryz.func6,Tryz.ntmps6;go_wp2_with fail;exact bodyPost_ret (jx rfl _ _ w.heap.size 28 _ (0,0) _ rfl (aK w _) Tryz.underlying28 rfl (by kernel_rfl)) rfl ⟨rfl,(Mods.refl _ w).alloc _⟩
def JE(b:Bs)(w:World)(e:Ending)(w':World):Prop:=e=.returned (.agg (aw (be (dq 1 b) 4)))/\aQ w w'
theorem rP(a:Option Addr)(cap:Nat)(b:Bs)(w:World)(h:ak w a (b.map al))(hl:b.length<=1099511627776):
  Calls Tryz.prog 93 #[.slice a b.length cap] w (JE b w):=by
 have HS:=qqH (fun W (hW:aQ w W)=>jO a cap 1 b W (h.keep hW (fun _ _ _=>id)) hl);have hs:=nj 1 b;obtain⟨s,hse⟩:∃s,s=dq 1 b:=⟨_,rfl⟩;rw[<- hse]at hs;have HE:=qqH hse;clear h hl hse;go_enter Tryz.func93,Tryz.ntmps93;go_wp2_with fail;refine(HS.out _ ((Mods.refl _ w).alloc _)).mono ?_;rintro e w1 ⟨rfl,hs1⟩;rw[<- HE.out];have hn:=hs1.at (aK w (.cells #[.int .u8 0,.int .u8 0,.int .u8 0,.int .u8 0] 195)) id;have hth:=dr hn 0 4 (by simp);obtain⟨q1,q2⟩:=dI hn ((be s 4).map al) (by simp[cd]);have hq:=tz s hs;rw[hq]at q1 q2;have hsz:aQ w (w1.setCells w.heap.size 0 [.int .u8 ((s:Int) / 16777216),.int .u8 ((s:Int) / 65536%256),.int .u8 ((s:Int) / 256%256),.int .u8 ((s:Int)%256)]):=(((Mods.refl _ w).alloc _).trans hs1).trans' q2 (fun i hi=>.inr (by omega));have H:=Hq4 hth q1 hsz hq;clear hn hth q1 q2 hs1 hq hsz;go_wp2_with ((refine wpList_store_mid rfl 195 (.tmp 2) (.tmp 17) rfl w.heap.size 0 #[.int .u8 ((s:Int) / 16777216),.int .u8 ((s:Int) / 65536%256),.int .u8 ((s:Int) / 256%256),.int .u8 ((s:Int)%256)] rfl rfl H.a (by kernel_rfl) (by simp[Value.oneCell']) ?_;simp only[Act.put]));refine bodyPost_ret (results_cell_row rfl _ _ w.heap.size 195 _ (0,0) _ rfl H.b Tryz.underlying195 rfl (by kernel_rfl)) rfl ⟨?_,H.c⟩;unfold aw;rw[<- HE.out,H.x]
end
section
open Go.RowKit Go.Maps
open Go.ChangeMaps (setBlock)
def vD(k:Bs):Value:=.agg (aw k)
def Ok4(k:Bs):Prop:=k.length=4
theorem Iu:∀{a b:Bs},a.map al=b.map al->a=b:=by
 intro a;induction a with
 | nil=>intro b h;cases b with
  | nil=>rfl
  | cons y r=>simp at h
 | cons x r ih =>
  intro b h
  cases b with
  | nil=>simp at h
  | cons y q =>
   simp only[map_cons,List.cons.injEq,al,Value.int.injEq,true_and]at h;obtain⟨h1,h2⟩:=h;rw[ih h2,UInt8.toNat_inj.1 (show x.toNat=y.toNat by omega)]
theorem Dq:EncOk Tryz.prog 195 vD Ok4 where
 keyed:=Keyed.of_law (deep_law_laid (m:=2) (by kernel_rfl) (by decide) (of_decide_eq_true (by kernel_rfl)) (by kernel_rfl) (by kernel_rfl))
 inj:=fun a b h=>by
  simp only[vD,Value.agg.injEq,aw]at h
  have h2:a.map al=b.map al:=by simpa using h
  exact Iu h2
 key:=fun a ha=>by
  refine⟨.string (keyBytes (a.map fun x=>Lit.int .u8 x.toNat)),?_⟩
  have ht:Tryz.prog.underlying 195=some (.array 4 5):=Tryz.underlying195
  have hc:Tryz.prog.cellsOf 195=4:=by kernel_rfl
  have hk2:Tryz.prog.keyType 195=true:=by kernel_rfl
  have hsz:Tryz.prog.types.size+1=334+1:=by kernel_rfl
  unfold keyOf vD
  rw[ht]
  have ha:a.length=4:=ha
  simp only[hk2,Value.formed,ht,hc,bN,ha,beq_self_eq_true,Bool.and_self,if_true]
  rw[hsz]
  show(Tryz.prog.keyLits (334-1+2) 195 (aw a).toList).map _=_
  rw[show(aw a).toList=a.map al from rfl,pI ht hc _ a ha]
  rfl
abbrev kT:=GE (List (Nat×Nat))
def aP(cm:Nat)(cs:List kT)(c:Nat):HF:=(cm,Is (aO vD (cs.map aN) c))::gj aY cs
structure ChunksOk (cs:List kT) (c:Nat):Prop where
 map:MapOk Ok4 (cs.map aN) c
 rows:∀p∈cs,bP p.val p.g
def bd(cs:List kT)(k:Bs):List (Nat×Nat):=gOf [] cs k
theorem pz(w:World):(zeroValue 115).run Tryz.prog w=.ok (.slice none 0 0) w:=by kernel_rfl
theorem F5:(Tryz.prog.info? 128).map (fun i=>(i.zero,i.size,i.bytes))=some (some (.agg #[.int .i64 0,.int .i64 0]),2,16):=by kernel_rfl
theorem kR{o:Oper}{a:Act}{w a0:World}{K:Act->World->Prop}{Q:Exit->Act->World->Prop}{F G:HF}(s x:Operand)(hop:o.op=.call { callee:=.builtin .append,args:=#[s,x],argTypes:=#[115,115] })(v:Value)(l:List (Nat×Nat))(hs:a.eval s=v)(hT:Turns F (aY v l++G) a0 w)(hok:bP v l)(sa:Option Addr)(m c:Nat)(hx:a.eval x=.slice sa m c)(r:List (Nat×Nat))(hm:m=r.length)(hc:0<m->∃ad,sa=some ad/\∀j u,(cR r)[j]?=some u->w.cell? (ad.add j)=some u)(hb:l.length+r.length<=1000000)(hk:∀v' w',bP v' (l++r)->Turns F (aY v' (l++r)++G) a0 w'->K (a.put o.dst v') w'):o.wp Tryz.prog a w K Q:=by
 obtain⟨i0,hi0,hz1,hz2,hz3⟩:=info_parts F5;have hpv:cR (l++r)=cR l++cR r:=by simp[cR]
 refine cV s x 115 128 i0 (.agg #[.int .i64 0,.int .i64 0]) 2 16 hop Tryz.underlying115 hi0 hz1 hz2 hz3 rfl (by decide) v l.length (cR l) hs hT hok sa m c hx (cR r) (by rw[eS,hm];omega) hc (fun u hu=>?_) (by unfold maxLen;omega) (by omega) (fun v' w' h1 h2 h3=>?_)
 ·obtain⟨p,_,hp⟩:=mem_flatMap.1 hu;simp only[re,mem_cons,not_mem_nil,or_false]at hp;rcases hp with rfl|rfl<;>rfl
 ·exact hk v' w' (by unfold bP;rw[length_append,hpv,<- hm];exact h1) (by unfold aY;rw[length_append,hpv,<- hm];exact h2)
def G7(b cm c:Nat)(cs:List kT)(body:Bs)(q:Nat×Nat)(C:Array Value)(ty:TypeId)(sc sb:Int)(w:World)(e:Ending)(w':World):Prop :=
 ∃v',e=.returned (.tuple #[])/\bP v' (bd cs (be (dq 1 body) 4)++[q]) /\
  Turns ((b,Is (.cells C ty (0,0)))::aP cm cs c) ((b,Is (.cells ((C.setIfInBounds 3 (.int .i64 (sc+1))).setIfInBounds 4 (.int .i64 (sb+body.length))) ty (0,0)))::aP cm (eh cs c (be (dq 1 body) 4) v' (bd cs (be (dq 1 body) 4)++[q])) (cf (cs.map aN) c (be (dq 1 body) 4))) w w'
theorem DB{cs:List kT}{c:Nat}(hok:ChunksOk cs c)(k:Bs):bP (eH (.slice none 0 0) cs k) (bd cs k):=by
 unfold eH bd gOf
 cases hf:cs.find? (fun p=>decide (p.key=k))with
 | none=>exact⟨rfl,fun _=>⟨rfl,rfl⟩⟩
 | some p=>exact hok.rows p (mem_of_find?_eq_some hf)
theorem pn(b pm tm cm c:Nat)(sc sb used:Int)(cs:List kT)(body:Bs)(a:Option Addr)(cap:Nat)(q:Nat×Nat)(C:Array Value)(ty:TypeId)(w:World)(h:Sat w ((b,Is (.cells C ty (0,0)))::aP cm cs c))(hC:ContIs C pm tm cm sc sb used)(hok:ChunksOk cs c)(hb:ak w a (body.map al))(hlen:(bd cs (be (dq 1 body) 4)).length<=100000)(hbl:body.length<=1000000)(hsc : -4611686018427387904<=sc/\sc<=4611686018427387904)(hsb : -4611686018427387904<=sb/\sb<=4611686018427387904):
  Calls Tryz.prog 57 #[.pointer (some ⟨b,0,none⟩),.slice a body.length cap,.agg #[.int .i64 q.1,.int .i64 q.2]] w (G7 b cm c cs body q C ty sc sb w):=by
 obtain⟨k,hk⟩:∃k,k=be (dq 1 body) 4:=⟨_,rfl⟩;have hk4:Ok4 k:=by rw[hk];exact cd _ _
 obtain⟨O,hO⟩:∃O:Obj,O=.cells C ty (0,0):=⟨_,rfl⟩;obtain⟨M,hM⟩:∃M,M=aO vD (cs.map aN) c:=⟨_,rfl⟩;obtain⟨v0,hv0⟩:∃v0,v0=eH (.slice none 0 0) cs k:=⟨_,rfl⟩;obtain⟨pl,hpl⟩:∃pl,pl=bd cs k:=⟨_,rfl⟩;obtain⟨R1,hR1⟩:∃R1,R1=gj aY (bE cs k):=⟨_,rfl⟩;have hok0:bP v0 pl:=by rw[hv0,hpl];exact DB hok k
 obtain⟨F0,hF0⟩:∃F0,F0=(b,Is O)::aP cm cs c:=⟨_,rfl⟩;rw[<- hO,<- hF0]at h
 have hT0:Turns F0 (aY v0 pl++((b,Is O)::(cm,Is M)::R1)) w w:=by
  refine(Turns.refl h).to ?_;have hp:=uD aY (.slice none 0 0) [] rfl cs k (by rw[<- cy];exact hok.map.nodup);rw[<- hv0,<- hR1]at hp;rw[hF0,hM,hpl];unfold aP bd;exact(Perm.cons _ (Perm.cons _ hp)).trans ac
 have HB:=qqH (fun W (hW:aQ w W)=>rP a cap body W (hb.keep hW (fun _ _ _=>id)) (by omega));have HH:=qqH (And.intro hT0 (And.intro hO (And.intro hM (And.intro hv0 (And.intro hpl (And.intro hR1 (And.intro hF0 (And.intro hok0 (And.intro hok (And.intro hk4 (And.intro hC hk)))))))))));have HL:=qqH (hpl ▸ hk ▸ hlen);clear h hT0 hO hM hv0 hpl hR1 hF0 hok0 hok hk4 hC hb hlen hk;go_enter Tryz.func57,Tryz.ntmps57;go_wp2_with fail;refine(HB.out _ ((Mods.refl _ w).alloc _)).mono ?_;rintro e w1 ⟨rfl,hs1⟩;rw[<- HH.out.2.2.2.2.2.2.2.2.2.2.2];obtain⟨B5,hB5⟩:∃B5,B5=w.heap.size:=⟨_,rfl⟩;obtain⟨B6,hB6⟩:∃B6,B6=w1.heap.size:=⟨_,rfl⟩;obtain⟨PO,hPO⟩:∃PO:Obj,PO=.cells #[.int .i64 q.1,.int .i64 q.2] 128 (0,0):=⟨_,rfl⟩;obtain⟨KO,hKO⟩:∃KO:Obj,KO=.cells (aw k) 195 (0,0):=⟨_,rfl⟩
 have hT1:Turns F0 ((B5,Is PO)::(aY v0 pl++((b,Is O)::(cm,Is M)::R1))) w w1:=by
  rw[hB5,hPO];exact(HH.a.Q8 _).Q9 hs1
 have hk4:k.length=4:=HH.out.2.2.2.2.2.2.2.2.2.1;have hn:=aK w1 (.cells #[.int .u8 0,.int .u8 0,.int .u8 0,.int .u8 0] 195);have hth:(w1.alloc (.cells #[.int .u8 0,.int .u8 0,.int .u8 0,.int .u8 0] 195)).there B6 0 (aw k).size:=by rw[hB6,bN,hk4];exact dr hn 0 4 (by simp)
 obtain⟨q1,q2⟩:=dI hn (k.map al) (by simp[hk4])
 have hT2:Turns F0 (aY v0 pl++((b,Is O)::(cm,Is M)::(B6,Is KO)::(B5,Is PO)::R1)) w ((w1.alloc (.cells #[.int .u8 0,.int .u8 0,.int .u8 0,.int .u8 0] 195)).setCells B6 0 (k.map al)):=by
  have:=(hT1.Q8 (.cells #[.int .u8 0,.int .u8 0,.int .u8 0,.int .u8 0] 195)).Qa (o:=KO) q2 (by rw[hKO];exact q1);rw[<- hB6]at this;exact this.to ac
 have HT2:=Hq6 hT2 hth hPO hKO hk4 hB6;rw[<- hB5];clear hT1 hT2 hth hn q1 q2 hs1 hB5 hPO hKO hk4;go_wp2_with ((rw[<- hB6];refine wpList_store_mid rfl 195 (.tmp 6) (.tmp 8) rfl B6 0 (aw k) rfl rfl HT2.b (by rw[bN,HT2.e];kernel_rfl) (c9 k) ?_;simp only[Act.put]));clear hB6;refine db [([0,1,2,3,4,5],6,[0,1,2,3,4]),([],7,[]),([8,10],9,[10]),([],11,[])] [] HM.out (by kernel_rfl) fun W tW=>?_
 simp only[Mix,map_cons,map_nil,nth,QG,QF];have hT:=tW HT2.a;clear tW;have g:∀{W:World},W.heap[b]?=some O->W.cell? ⟨b,2,none⟩=some (.map (some cm)):=fun h=>aa (HH.b ▸ h) 2 HH.out.2.2.2.2.2.2.2.2.2.2.1.c2
 have L6:∀{W:World},W.heap[B6]?=some KO->W.rangeAt B6 0 (k.map al):=fun h j v hv=>aa (HT2.d ▸ h) (0+j) (by rw[Nat.zero_add];simpa[aw]using hv)
 have K4:(Tryz.prog.info? 195).map (·.size)=some (k.map al).length:=by rw[length_map,HT2.e];kernel_rfl
 have L5:∀{W:World},W.heap[B5]?=some PO->W.rangeAt B5 0 [.int .i64 q.1,.int .i64 q.2]:=fun h j v hv=>aa (HT2.c ▸ h) (0+j) (by rw[Nat.zero_add,<- Array.getElem?_toList];exact hv)
 have g0:=g (hT.sat.Q7 (by simp));repeat still_step
 refine iL 195 (.tmp 6) rfl rfl B6 0 rfl (k.map al) _ (L6 (hT.sat.Q7 (by simp))) Tryz.underlying195 rfl K4 ?_;refine iL 128 (.tmp 5) rfl rfl B5 0 rfl [.int .i64 q.1,.int .i64 q.2] _ (L5 (hT.sat.Q7 (by simp))) Tryz.underlying128 rfl (by kernel_rfl) ?_;refine wpStill_nil (i8 PO (fun n=>.slice (some ⟨n,0,none⟩) 1 1) (by rw[HT2.c];kernel_rfl) hT fun n W1 hT1=>⟨?_,?_⟩)
 ·have g0:=g (hT1.sat.Q7 (by simp));repeat still_step
  exact iL 195 (.tmp 6) rfl rfl B6 0 rfl (k.map al) _ (L6 (hT1.sat.Q7 (by simp))) Tryz.underlying195 rfl K4 rfl
 have hT2:=hT1.to (H:=(cm,Is (aO vD (cs.map aN) c))::(aY v0 pl++((n,Is PO)::(b,Is O)::(B6,Is KO)::(B5,Is PO)::R1))) (by rw[HH.c];exact ac);refine wpStill_nil (Jt Dq (.tmp 12) (.tmp 13) rfl Tryz.underlying53 cm (cs.map aN) c hT2 HH.out.2.2.2.2.2.2.2.2.1.map (pz _) k rfl rfl HH.out.2.2.2.2.2.2.2.2.2.1 fun W2 hT3=>⟨rfl,?_⟩);rw[cP,<- HH.d];simp only[Act.put,QA,QB,QC];repeat still_step
 have hn:=hT3.sat.Q7 (b:=n) (o:=PO) (by simp);rw[HT2.c]at hn
 refine wpStill_nil (kR (.tmp 14) (.tmp 16) rfl v0 pl rfl (hT3.to (H:=aY v0 pl++((cm,Is (aO vD (A7 (cs.map aN) c k (.slice none 0 0)) (cf (cs.map aN) c k)))::(n,Is PO)::(b,Is O)::(B6,Is KO)::(B5,Is PO)::R1)) ac) HH.h (some ⟨n,0,none⟩) 1 1 rfl [q] rfl (fun _=>⟨_,rfl,fun j u hu=>by
   rw[Addr.add_lit,Nat.zero_add];exact aa hn j (by rw[<- Array.getElem?_toList];exact hu)⟩) (by have:=HL.out;simp;omega) fun v3 W3 h1 hT4=>⟨?_,?_⟩)
 ·repeat still_step
  exact rfl
 refine wpStill_nil (we Dq (w0:=w) (.tmp 12) (.tmp 19) (.tmp 18) rfl Tryz.underlying53 cm (cs.map aN) c (HH.c ▸ HH.a.sat.Q7 (by simp)) HH.out.2.2.2.2.2.2.2.2.1.map (pz _) k HH.out.2.2.2.2.2.2.2.2.2.1
  (hT4.to (H:=(cm,Is (aO vD (A7 (cs.map aN) c k (.slice none 0 0)) (cf (cs.map aN) c k)))::(aY v3 (pl++[q])++((n,Is PO)::(b,Is O)::(B6,Is KO)::(B5,Is PO)::R1))) ac) v3 rfl rfl rfl fun W4 hT5=>⟨rfl,?_⟩)
 simp only[Act.put,QA,QB,QC];refine wpStill_nil ?_;have hbo:=hT5.sat.Q7 (b:=b) (o:=O) (by simp);rw[HH.b]at hbo;have b3:W4.cell? ⟨b,3,none⟩=some (.int .i64 sc):=aa hbo 3 HH.out.2.2.2.2.2.2.2.2.2.2.1.c3;have b4:W4.cell? ⟨b,4,none⟩=some (.int .i64 sb):=aa hbo 4 HH.out.2.2.2.2.2.2.2.2.2.2.1.c4;have f3:=bc hbo 3;have f4:=bc hbo 4;have HT3:=Hq3 h1 hT5 hbo;clear hT g L6 K4 L5 g0 hT1 hT2 hT3 hn h1 hT4 hT5 hbo;go_wp2_with fail;refine bodyPost_end (results_none rfl _ _ _) rfl ?_;have s1:=bn HT3.y 3 (.int .i64 (sc+1));have s2:=bn s1 4 (.int .i64 (sb+body.length));have m1:=((Mods.refl (fun k=>k=b) W4).set1 (i:=3) (.int .i64 (sc+1))).set1 (i:=4) (.int .i64 (sb+body.length));have hq:=(HT3.b.to (H:=(b,Is O)::(aY v3 (pl++[q])++((n,Is PO)::(cm,Is (aO vD (gF (cs.map aN) c k v3) (cf (cs.map aN) c k)))::(B6,Is KO)::(B5,Is PO)::R1))) ac).Qa m1 s2;refine⟨v3,rfl,?_,?_⟩
 ·rw[<- HH.out.2.2.2.2.2.2.2.2.2.2.2,<- HH.e];exact HT3.a
 ·rw[<- HH.out.2.2.2.2.2.2.2.2.2.2.2,<- HH.e,<- HH.b,<- HH.g];have hp:=uC aY cs c k v3 (pl++[q]) (by rw[<- cy];exact HH.out.2.2.2.2.2.2.2.2.1.map.nodup);rw[<- HH.f]at hp;unfold aP;rw[iG];have hd:=hq.drop (H:=(b,Is (.cells ((C.setIfInBounds 3 (.int .i64 (sc+1))).setIfInBounds 4 (.int .i64 (sb+body.length))) ty (0,0)))::(cm,Is (aO vD (gF (cs.map aN) c k v3) (cf (cs.map aN) c k)))::(aY v3 (pl++[q])++R1)) bB;exact hd.to (Perm.cons _ (Perm.cons _ hp.symm))
end
section
def iz(x:Bs):Bs:=x++am ((128-x.length%128)%128)
def dk(x:Bs):Bs:=x.drop (128*(x.length / 128))
def bF(x:Bs):Bs:=dk x++am (128-x.length%128)
theorem fJ(x:Bs):(dk x).length=x.length%128:=by simp[dk];omega
theorem lj(x:Bs):(bF x).length=128:=by simp[bF,fJ,an];omega
theorem fc(x:Bs):(iz x).length=128*((x.length+127) / 128):=by simp[iz,an];omega
theorem mt(a b:Nat):am a++am b=am (a+b):=by simp[am,replicate_append_replicate]
theorem vp(n k:Nat):(am n).drop k=am (n-k):=by simp[am]
theorem xk{x c:Bs}(h:x.length%128+c.length<=128)(h0:0<c.length):
  iz (x++c)=x.take (128*(x.length / 128))++(dk x++c++am (128-x.length%128-c.length)):=by
 have e:x=x.take (128*(x.length / 128))++dk x:=by simp[dk]
 unfold iz;conv=>lhs;arg 1;arg 1;rw[e]
 have hz:(128-(x++c).length%128)%128=128-x.length%128-c.length:=by
  rw[length_append];omega
 rw[hz];simp[append_assoc]
theorem Bk{l s1 s2:Bs}{o k:Nat}(h1:k<=s1.length)(h2:s1.length<=k+s2.length)(hf:o+k+s2.length<=l.length):
  aZ (aZ l o s1) (o+k) s2=aZ l o (s1.take k++s2):=by
 unfold aZ;have hl:(l.take o++s1++l.drop (o+s1.length)).length=l.length:=by simp;omega
 have ht:(l.take o++s1++l.drop (o+s1.length)).take (o+k)=l.take o++s1.take k:=by
  rw[append_assoc,take_append,take_append,length_take];rw[show min o l.length=o by omega,take_take,Nat.min_eq_right (by omega),show o+k-o=k by omega,show k-s1.length=0 by omega];simp
 have hd:(l.take o++s1++l.drop (o+s1.length)).drop (o+k+s2.length)=l.drop (o+(s1.take k++s2).length):=by
  rw[append_assoc,drop_append,drop_append,length_take];rw[show min o l.length=o by omega,drop_of_length_le (by simp;omega),drop_of_length_le (by omega),drop_drop];simp only[nil_append,length_append,length_take];congr 1;omega
 rw[ht,hd];simp only[append_assoc]
theorem DH{l x c:Bs}{o:Nat}(h:x.length%128+c.length<=128)(h0:0<c.length)(hf:o+(iz (x++c)).length<=l.length):
  aZ (aZ l o (iz x)) (o+128*(x.length / 128)) (dk x++c++am (128-x.length%128-c.length))=aZ l o (iz (x++c)):=by
 have e1:=xk h h0;have hlen:(dk x++c++am (128-x.length%128-c.length)).length=128:=by simp[fJ,an];omega
 have hp:=fc x;have hp2:=fc (x++c);rw[length_append]at hp2;rw[Bk (by omega) (by omega) (by omega),e1];congr 2;unfold iz;rw[take_append_of_le_length (by omega)]
theorem Bj{l x c:Bs}{o:Nat}(h:x.length<128)(h1:x.length+c.length<=128)(h0:0<c.length):
  aZ l o (x++c++am (128-x.length-c.length))=aZ l o (iz (x++c)):=by
 have e1:=xk (x:=x) (c:=c) (by omega) h0;have e2:x.length / 128=0:=by omega
 have e3:x.length%128=x.length:=by omega
 rw[e1];simp only[dk,e2,e3,Nat.mul_zero,take_zero,drop_zero,nil_append]
theorem AX{x:Bs}{k:Nat}(h:128*k<=x.length):dk (x.drop (128*k))=dk x:=by
 unfold dk;rw[drop_drop,length_drop];congr 1;omega
theorem Kz{x c:Bs}(h:x.length%128+c.length<=128):aZ (bF x) (x.length%128) c=dk x++c++am (128-x.length%128-c.length):=by
 have hl:=fJ x;unfold aZ bF;rw[take_left' hl,<- hl,drop_append,drop_of_length_le (by omega),vp];simp only[nil_append];congr 2;omega
theorem Cf{x c:Bs}(h:x.length%128+c.length<128):bF (x++c)=dk x++c++am (128-x.length%128-c.length):=by
 unfold bF dk;have e1:(x++c).length / 128=x.length / 128:=by rw[length_append];omega
 have e2:(x++c).length%128=x.length%128+c.length:=by rw[length_append];omega
 rw[e1,e2,drop_append_of_le_length (by omega)];congr 2;omega
theorem Ce{x:Bs}(h:x.length%128=0):bF x=am 128:=by
 have:dk x=[]:=eq_nil_of_length_eq_zero (by rw[fJ,h]);unfold bF;rw[this,h];rfl
theorem JU{l data bj c:Bs}{first q:Nat}(hq:q=(data++bj).length / 128)(h:(data++bj).length%128+c.length<=128)(h0:0<c.length)(hf:128*(first+q)+128<=l.length):
  aZ (if bj=[]then l else aZ l (128*(first+data.length / 128)) (iz ((data++bj).drop (128*(data.length / 128))))) (128*(first+q)) (dk (data++bj)++c++am (128-(data++bj).length%128-c.length)) =
   aZ l (128*(first+data.length / 128)) (iz ((data++bj++c).drop (128*(data.length / 128)))):=by
 have hx:128*(data.length / 128)<=(data++bj).length:=by rw[length_append];omega
 rw[drop_append_of_le_length (l₁:=data++bj) hx,<- AX hx];obtain⟨y,hy⟩:∃y,y=(data++bj).drop (128*(data.length / 128)):=⟨_,rfl⟩;have hyl:y.length=(data++bj).length-128*(data.length / 128):=by rw[hy,length_drop]
 have em:(data++bj).length%128=y.length%128:=by omega
 rw[<- hy,em];rw[em]at h;split
 ·rename_i hb;subst hb;have hy1:y.length<128:=by rw[hyl,append_nil];omega
  have hq2:q=data.length / 128:=by rw[hq,append_nil]
  rw[hq2];have e3:y.length%128=y.length:=by omega
  have e4:dk y=y:=by unfold dk;rw[show y.length / 128=0 by omega];rfl
  rw[e3,e4];exact Bj hy1 (by omega) h0
 ·have hq2:128*(first+q)=128*(first+data.length / 128)+128*(y.length / 128):=by omega
  rw[hq2];refine DH h h0 ?_;have:=fc (y++c);rw[length_append]at this;omega
end
section
open Go.RowKit
theorem zQ(d:Nat)(A:AreaL)(o:Nat)(s:Bs)(hs:o+s.length<=A.tail.length):(splice (aG d A).toList (4+o) (s.map al)).toArray=aG d { A with tail:=aZ A.tail o s }:=by
 apply Array.ext';rw[cO];show splice _ (4+o) _=_;generalize hh:[Value.pointer (some ⟨d,0,none⟩),Value.int .i64 A.first,Value.int .i64 A.count,Value.int .i64 A.end_]=hd;have hl:hd.length=4:=by rw[<- hh];rfl
 unfold splice;rw[take_append,take_of_length_le (by omega),hl,show 4+o-4=o by omega,take_append_of_le_length (by simp;omega),drop_append,drop_of_length_le (by omega),hl];rw[show 4+o+(s.map al).length-4=o+s.length by simp;omega,drop_append_of_le_length (by simp;omega)];rw[cO];simp[aZ,hh]
def lenOf:Value->Nat
 | .slice _ n _=>n
 | _=>0
def Ci(ab d:Nat)(A:AreaL)(L:DevL)(data b:Bs)(g off:Nat)(w:World)(v:Value)(wr:World):Prop :=
 ∃(j:Nat) (aj:Option Addr) (cj:Nat) (L':DevL),j<=b.length/\v=.slice aj (b.length-j) cj/\b.length-j<=cj/\cj<=9223372036854775807/\(0<b.length-j->aj=some ⟨g,off+j,none⟩) /\
  Turns (ap ab d A++aD d L) (ap ab d { A with end_:=data.length+j,tail:=bF (data++b.take j) }++aD d L') w wr/\DevOk L'/\L'.n=L.n /\
  L'.now=(if j=0 then L.now else aZ L.now (128*(A.first+data.length / 128)) (iz ((data++b.take j).drop (128*(data.length / 128)))))/\L'.chs.length<=L.chs.length+j
def GV(ab d:Nat)(A:AreaL)(L:DevL)(data b:Bs)(w:World)(e:Ending)(w':World):Prop :=
 e=.returned .nilIface/\∃L',Turns (ap ab d A++aD d L) (ap ab d { A with end_:=(data++b).length,tail:=bF (data++b) }++aD d L') w w'/\DevOk L'/\L'.n=L.n /\
  L'.now=(if b=[]then L.now else aZ L.now (128*(A.first+data.length / 128)) (iz ((data++b).drop (128*(data.length / 128)))))/\L'.chs.length<=L.chs.length+b.length
theorem pB(ab d:Nat)(A:AreaL)(L:DevL)(data b:Bs)(a:Option Addr)(cap:Nat)(w:World)(h:Sat w (ap ab d A++aD d L))(hL:DevOk L)(hA:A.first+A.count<=L.n)(hn:L.n<=1073741824)(he:A.end_=data.length)(ht:A.tail=bF data)(hfit:data.length+b.length<=128*A.count)(hb:ak w a (b.map al))(hcap:b.length<=cap)(hcap2:cap<=9223372036854775807)(hne:∀x,a=some x->x.block∉dom (ap ab d A++aD d L))(hch:L.chs.length+b.length<=137438953472):
  Calls Tryz.prog 96 #[.pointer (some ⟨ab,0,none⟩),.slice a b.length cap] w (GV ab d A L data b w):=by
 obtain⟨g,off,hgo⟩:∃g off,0<b.length->a=some ⟨g,off,none⟩:=by
  rcases Nat.eq_zero_or_pos b.length with h0|h0
  ·exact⟨0,0,fun h=>by omega⟩
  ·obtain⟨g,off,e,_⟩:=hb (by simpa using h0);exact⟨g,off,fun _=>e⟩
 have hst:Ci ab d A L data b g off w (.slice a b.length cap) w:=by
  refine⟨0,a,cap,L,Nat.zero_le _,rfl,hcap,hcap2,fun h=>by rw[hgo h];rfl,?_,hL,rfl,by rw[if_pos rfl],Nat.le_add_right _ _⟩;have e:({ A with end_:=data.length+0,tail:=bF (data++b.take 0) }:AreaL)=A:=by rw[take_zero,append_nil,<- ht,Nat.add_zero,<- he]
  rw[e];exact Turns.refl h
 have H:=Hq9 h hA hn hfit hb hne hch hgo hL;have HST:=qqH hst;clear h hL hA hn he ht hfit hb hcap hcap2 hne hch hst hgo;go_enter Tryz.func96,Tryz.ntmps96;go_wp2_with fail;go_loopw [1] (fun v wr=>Ci ab d A L data b g off w v wr) (fun v _=>lenOf v)
 case atStart=>exact HST.out
 case round =>
  obtain⟨j,aj,cj,L',hj,rfl,hcj,hcj2,haj,hT,hL',hn',hnow,hch'⟩:=hrel;by_cases hlt:j<b.length
  ·obtain⟨e,hee⟩:∃e,e=data.length+j:=⟨_,rfl⟩;obtain⟨T,hTT⟩:∃T,T=bF (data++b.take j):=⟨_,rfl⟩;rw[<- hee,<- hTT]at hT;have hTl:T.length=128:=by rw[hTT,lj]
   obtain⟨t,htt⟩:∃t,t=e%128:=⟨_,rfl⟩;obtain⟨r,hr⟩:∃r,r=b.length-j:=⟨_,rfl⟩;have hab:=ik hT.sat;have a0:=aa hab 0 (lK d _);have a1:=aa hab 1 (lL d _);have a3:=aa hab 3 (nJ d _);have f3:=bc hab 3;simp only at a1 a3;have haj:=haj (by omega);subst haj;have hrp:0<r:=by omega
   have het:(e:Int)%128=(t:Int):=by omega
   have ht1:(t:Int)<=128:=by omega
   have ht2:¬t=128:=by omega
   have hal:ab<wr.heap.size:=ae hab;have HT:=Hq8 hT hL' hn' hnow hch' hab hTl hTT;have HE:=Hq3 hee htt hr;have he0:(e:Int)<=1099511627776:=by have:=H.d;have:=H.b;have:=H.c;omega
   rw[<- hr];clear hT hL' hn' hnow hch' hab hTl hTT hee htt hr HST hj hlt;obtain⟨c,hc⟩:∃c,c=(b.drop j).take (min r (128-t)):=⟨_,rfl⟩;have hcl:c.length=min r (128-t):=by rw[hc,length_take,length_drop,<- HE.y];omega
   have hsrc:∀i v,(c.map al)[i]?=some v->wr.cell? ((⟨g,off+j,none⟩:Addr).add i)=some v:=fun i v hv=>by
    have hbw:=H.e.keep (w':=wr) HT.a.mods (fun g' off' e hin=>H.f _ e hin);obtain⟨g',off',e',hcl'⟩:=hbw (by rw[length_map];have:=HE.y;omega);have e2:=H.h (by have:=HE.y;omega);rw[e2]at e';simp only[Option.some.injEq,Addr.mk.injEq,and_true]at e';obtain⟨rfl,rfl⟩:=e';obtain⟨hi,rfl⟩:=List.getElem?_eq_some_iff.1 hv;have hi':i<c.length:=by simpa using hi
    rw[Addr.add_mid,show off+j+i=off+(j+i) by omega];refine(hcl' (j+i) (by rw[length_map];have:=HE.y;omega)).trans ?_;simp[hc]
   have HS8:=qqH (show(Tryz.prog.info? 5).map (·.size)=some 1 by kernel_rfl);have HCP:=Hq3 hc hcl hsrc;clear hc hcl hsrc;go_upto_region 4 with(refine gr rfl (.tmp 20) (.tmp 21) 35 35 rfl 5 Tryz.underlying35 HS8.out _ _ _ _ _ _ rfl rfl ab (4+t) (aG d { A with end_:=e,tail:=T }).toList 124 (by rw[Array.toArray_toList];exact HT.f) (c.map al) (by rw[length_map];exact HCP.b) (fun _=>⟨rfl,_,rfl,HCP.y⟩) (by rw[length_map,HCP.b,Array.length_toList,j7];simp only;rw[HT.g];omega) (dW _) ?_;intro w4 hh hm4 hz4;rw[zQ d _ t c (by simp only;rw[HT.g,HCP.b];omega)]at hh;have H4:=Hq3 hh hm4 hz4;clear hh hm4 hz4);obtain⟨T2,hT2⟩:∃T2,T2=aZ T t c:=⟨_,rfl⟩;obtain⟨q,hq⟩:∃q,q=e / 128:=⟨_,rfl⟩;have hab4:w4.heap[ab]?=some (.cells (aG d { A with end_:=e,tail:=T2 }) 124 (0,0)):=by rw[hT2];exact H4.a
   have hT4:Turns (ap ab d A++aD d L) (ap ab d { A with end_:=e,tail:=T2 }++aD d L') w w4:=HT.a.trans (ln HT.a.sat H4.b hab4 rfl rfl);have hT2l:T2.length=128:=by rw[hT2,jJ];exact HT.g;rw[HT.g,HCP.b];omega
   have b0:=aa hab4 0 (lK d _);have b1:=aa hab4 1 (lL d _);have b3:=aa hab4 3 (nJ d _);simp only at b1 b3;have hrT:=oQ hab4;simp only at hrT;have hfq:A.first+q<L'.n:=by have:=H.d;have:=H.b;have:=HT.c;have:=HE.a;have:=HE.y;omega
   have HQ2:=qqH (show wrap64 ((A.first:Int)+(e:Int) / 128)=(A.first:Int)+(q:Int) by rw[show(e:Int) / 128=(q:Int) by omega];exact IntWalk.wrap64_in _ (by have:=H.c;have:=HT.c;omega))
   have HWr:Hid (∀W,Sat W (aD d L')->Calls Tryz.prog 113 #[.pointer (some ⟨d,0,none⟩),.int .i64 ((A.first:Int)+q),.agg (T2.map al).toArray] W (jP d L' (A.first+q) T2 W)):=qqH (fun W hW=>by
    have:=jp d L' (A.first+q) T2 W hW HT.b hfq hT2l (by have:=HT.e;have:=H.g;have:=HE.y;omega);exact this)
   have H5:=Hq7 hT4 hT2l hrT hT2 hq hfq hab4;clear hT4 hT2l hrT hT2 hq hfq hab4 a0 a1 a3 f3 haj hal;refine wp_region_still_tail 18 HM.out (by kernel_rfl) ?_;simp only[QE,take_zero,QD,drop_zero];iterate 17 still_step
   refine cw rfl 121 (.tmp 39) rfl ab 4 rfl (T2.map al) _ H5.c Tryz.underlying121 rfl (iC H5.b) ?_;refine wpStill_nil ?_;simp only[Act.put,QA,QB,QC];change wpList _ _ _ _ _ w4.drew;go_wp2_with fail;rw[HQ2.out];refine(HWr.out _ (by exact(H5.a.drew.sat.right))).mono ?_;rintro ev w5 ⟨rfl,L2,hW,hL2,hn2,hnow2,hch2⟩;have hx:(data++b.take j).length=e:=by rw[length_append,length_take];have:=HE.a;have:=HE.y;omega
   have hbt:b.take (j+c.length)=b.take j++c:=by
    rw[take_add];congr 1;rw[HCP.a,length_take,length_drop];rw[take_eq_take_iff,length_drop];omega
   have hT2e:T2=dk (data++b.take j)++c++am (128-e%128-c.length):=by
    rw[H5.d,HT.t,HE.b,<- hx];exact Kz (by have:=HCP.b;have:=HE.b;omega)
   have hnow3:L2.now=aZ L.now (128*(A.first+data.length / 128)) (iz ((data++b.take (j+c.length)).drop (128*(data.length / 128)))):=by
    rw[hnow2,hT2e,hbt,<- append_assoc,<- JU (l:=L.now) (first:=A.first) (q:=q) (bj:=b.take j) (by rw[hx];exact H5.e) (by rw[hx];have:=HCP.b;have:=HE.b;omega) (by have:=HCP.b;have:=HE.b;omega) ?_,hx]
    ·congr 1;rw[HT.d];by_cases hj0:j=0
     ·subst hj0;simp
     ·rw[if_neg hj0,if_neg (fun h=>hj0 (by have h1:=congrArg length h;rw[length_take]at h1;have:=HE.y;simp only[length_nil]at h1;omega))]
    ·rw[H.out.2.2.2.2.2.2.2.2.nowL];have:=H5.f;have:=HT.c;omega
   have hT5:Turns (ap ab d A++aD d L) (ap ab d { A with end_:=e,tail:=T2 }++aD d L2) w w5:=(H5.a.drew.step ac hW).to perm_append_comm;have hab5:=ik hT5.sat;have b3:=aa hab5 3 (nJ d _);have f3:=bc hab5 3;simp only at b3
   have hset:(w5.setCell ⟨ab,3,none⟩ (.int .i64 ((e:Int)+(c.length:Int)))).heap[ab]?=some (.cells (aG d { A with end_:=e+c.length,tail:=T2 }) 124 (0,0)):=by
    rw[bn hab5 3,show((e:Int)+(c.length:Int))=((e+c.length:Nat):Int) by omega,tq]
   have hT6:Turns (ap ab d A++aD d L) (ap ab d { A with end_:=e+c.length,tail:=T2 }++aD d L2) w (w5.setCell ⟨ab,3,none⟩ (.int .i64 ((e:Int)+(c.length:Int)))) :=
    hT5.trans (ln hT5.sat ((Mods.refl (fun k=>k=ab) w5).set1 (i:=3) _) hset rfl rfl)
   have hth:(w5.setCell ⟨ab,3,none⟩ (.int .i64 ((e:Int)+(c.length:Int)))).there ab 4 (aw (am 128)).size:=by
    rw[bN,an];exact dr hset 4 128 (by rw[j7];simp only;rw[H5.b];omega)
   have hcm:c.length<=r:=by have:=HCP.b;omega
   have hcr:r<=cj:=by rw[HE.y];exact hcj
   have hc0:(0:Int)<=(c.length:Int):=by omega
   have hcr2:(c.length:Int)<=(r:Int):=by omega
   have hcr3:(r:Int)<=(cj:Int):=by omega
   have HN3:=Hq7 hL2 (hn2.trans HT.c) hnow3 hch2 hx hbt hT2e;have H6:=Hq3 hT6 hset hth;clear hL2 hn2 hnow3 hch2 hx hbt hT2e hT5 hab5 hT6 hset hth hW hnow2 hcj hcm hcr
   have hrel:∀(W:World) (tl:Bs) (aj2:Option Addr) (n2 cj2:Nat),n2=r-c.length->Turns (ap ab d A++aD d L) (ap ab d { A with end_:=e+c.length,tail:=tl }++aD d L2) w W->tl=bF (data++b.take (j+c.length))->r-c.length<=cj2->cj2<=9223372036854775807->(0<r-c.length->aj2=some ⟨g,off+j+c.length,none⟩) ->
     Ci ab d A L data b g off w (.slice aj2 n2 cj2) W:=fun W tl aj2 n2 cj2 hn2 hTW htl h1 h2 h3=>by
    subst hn2;subst htl;refine⟨j+c.length,aj2,cj2,L2,?_,?_,?_,h2,?_,?_,HN3.a,HN3.b,?_,?_⟩
    ·have:=HCP.b;have:=HE.y;omega
    ·rw[show b.length-(j+c.length)=r-c.length by have:=HE.y;omega]
    ·have:=HE.y;omega
    ·intro h4;rw[h3 (by have:=HE.y;omega),Nat.add_assoc]
    ·rw[show data.length+(j+c.length)=e+c.length by have:=HE.a;omega];exact hTW
    ·rw[if_neg (by have:=HCP.b;omega)];exact HN3.c
    ·have:=HN3.d;have:=HT.e;have:=HCP.b;omega
   have hlen2:(data++b.take (j+c.length)).length=e+c.length:=by rw[HN3.f,<- append_assoc,length_append,HN3.e]
   have hc0p:0<c.length:=by have:=HCP.b;omega
   have hc128:(c.length:Int)<=128:=by have:=HCP.b;omega
   by_cases hfull:t+c.length=128
   ·have hz:((e:Int)+(c.length:Int))%128=0:=by omega
    have htf:=Ce (x:=data++b.take (j+c.length)) (by rw[hlen2];omega);have hsz3:(aG d { A with end_:=e+c.length,tail:=T2 }).toList.length=133:=by rw[Array.length_toList,j7];simp only;rw[H5.b]
    obtain⟨q1,q2⟩:=fq (C:=(aG d { A with end_:=e+c.length,tail:=T2 }).toList) (by rw[Array.toArray_toList];exact H6.b) 4 ((am 128).map al) (by rw[length_map,an,hsz3];omega);rw[qL d { A with end_:=e+c.length,tail:=T2 } (am 128) (by rw[an];simp only;rw[H5.b];omega)]at q1;have hp0:aZ T2 0 (am 128)=am 128:=by unfold aZ;rw[take_zero,nil_append,drop_of_length_le (by rw[an,H5.b];omega),append_nil]
    simp only[hp0]at q1;have hT7:=H6.a.trans (ln H6.a.sat q2 q1 rfl rfl);have HZ:=qqH nX;have HX:=Hq4 hT7 htf q1 hrel;clear hT7 htf q1 q2 hp0 hlen2 hrel;by_cases hcc:cj=c.length
    ·obtain rfl:r=c.length:=by omega
     subst hcc;go_wp2_with (first|(refine bV rfl 121 #[] rfl (aw (am 128)) HZ.out ?_)|(refine wpList_store_mid rfl 121 (.tmp 65) (.tmp 63) rfl ab 4 (aw (am 128)) rfl rfl H6.y (iD (an 128)) (c9 _) ?_;simp only[Act.put]))
     all_goals
      go_roundw
      case rel=>exact HX.x _ _ (some ⟨g,off+j,none⟩) 0 0 (by omega) HX.a HX.b.symm (by omega) (by omega) (by omega)
      case measure=>simp[lenOf];omega
    ·go_wp2_with (first|(refine bV rfl 121 #[] rfl (aw (am 128)) HZ.out ?_)|(refine wpList_store_mid rfl 121 (.tmp 65) (.tmp 63) rfl ab 4 (aw (am 128)) rfl rfl H6.y (iD (an 128)) (c9 _) ?_;simp only[Act.put]))
     all_goals
      go_roundw
      case rel=>exact HX.x _ _ (some ⟨g,off+j+c.length,none⟩) (r-c.length) (cj-c.length) rfl HX.a HX.b.symm (by omega) (by omega) (fun _=>rfl)
      case measure=>simp[lenOf];omega
   ·have hz:¬((e:Int)+(c.length:Int))%128=0:=by have:=HCP.b;omega
    have htn:T2=bF (data++b.take (j+c.length)):=by
     rw[HN3.u,HN3.f,<- append_assoc,Cf (by rw[HN3.e];have:=HCP.b;omega),HN3.e]
    have HX:=Hq2 htn hrel;clear htn hlen2 hrel;by_cases hcc:cj=c.length
    ·obtain rfl:r=c.length:=by omega
     subst hcc;go_wp2_with fail
     all_goals
      go_roundw
      case rel=>exact HX.z _ _ (some ⟨g,off+j,none⟩) 0 0 (by omega) H6.a HX.a (by omega) (by omega) (by omega)
      case measure=>simp[lenOf];omega
    ·go_wp2_with fail
     all_goals
      go_roundw
      case rel=>exact HX.z _ _ (some ⟨g,off+j+c.length,none⟩) (r-c.length) (cj-c.length) rfl H6.a HX.a (by omega) (by omega) (fun _=>rfl)
      case measure=>simp[lenOf];omega
  ·obtain rfl:j=b.length:=by omega
   have HR:=Hq5 hT hL' hn' hnow hch';clear hT hL' hn' hnow hch' haj HST;simp only[Nat.sub_self];go_wp2_with fail;go_ret;refine⟨rfl,L',?_,HR.b,HR.c,?_,HR.w⟩
   ·have:=HR.a;rw[take_length]at this;rw[length_append];exact this
   ·rw[HR.d,take_length];rcases b with _|⟨x,r⟩
    ·rfl
    ·simp
def ez(l:Bs)(first count:Nat)(data:Bs):Prop:=aC l first count=data++am (128*count-data.length)/\data.length<=128*count
theorem DG{l s:Bs}{a o:Nat}(h:a+o+s.length<=l.length):(aZ l (a+o) s).drop a=aZ (l.drop a) o s:=by
 unfold aZ;rw[append_assoc,drop_append_of_le_length (by rw[length_take];omega),drop_take,drop_drop,show a+o-a=o by omega,append_assoc,show a+(o+s.length)=a+o+s.length by omega]
theorem DJ{l s:Bs}{o n:Nat}(h:o+s.length<=n)(hn:n<=l.length):(aZ l o s).take n=aZ (l.take n) o s:=by
 unfold aZ;rw[take_append,take_of_length_le (by simp;omega),take_take,Nat.min_eq_left (by omega),drop_take];congr 2;simp;omega
theorem qh{l s:Bs}{first count q:Nat}(h:128*q+s.length<=128*count)(hl:128*(first+count)<=l.length):aC (aZ l (128*(first+q)) s) first count=aZ (aC l first count) (128*q) s:=by
 unfold aC;rw[Nat.mul_add,DG (by omega),DJ h (by rw[length_drop];omega)]
theorem kh{l s:Bs}{first count q f2 c2:Nat}(h:128*q+s.length<=128*count)(hl:128*(first+count)<=l.length)(hd:f2+c2<=first\/first+count<=f2):aC (aZ l (128*(first+q)) s) f2 c2=aC l f2 c2:=by
 unfold aC aZ;rcases hd with hd|hd
 ·apply ext_getElem?;intro i;rw[getElem?_take,getElem?_take];split
  ·rw[getElem?_drop,getElem?_drop,append_assoc,getElem?_append_left (by rw[length_take];omega),getElem?_take,if_pos (by omega)]
  ·rfl
 ·congr 1;rw[drop_append,drop_of_length_le (by simp;omega),nil_append,drop_drop];congr 1;simp only[length_append,length_take];omega
theorem C2{l:Bs}{first count:Nat}{data b:Bs}(h:ez l first count data)(hl:128*(first+count)<=l.length)(hfit:data.length+b.length<=128*count)(hb:b≠[]):
  ez (aZ l (128*(first+data.length / 128)) (iz ((data++b).drop (128*(data.length / 128))))) first count (data++b):=by
 have hbl:0<b.length:=length_pos_iff.2 hb;have hdl:((data++b).drop (128*(data.length / 128))).length=data.length%128+b.length:=by rw[length_drop,length_append];omega
 have hpl:=fc ((data++b).drop (128*(data.length / 128)));rw[hdl]at hpl;refine⟨?_,by rw[length_append];exact hfit⟩;rw[qh (by omega) hl,h.1];unfold aZ;rw[hpl];have hd:(data++b).drop (128*(data.length / 128))=dk data++b:=drop_append_of_le_length (by omega);have e:data=data.take (128*(data.length / 128))++dk data:=by simp[dk]
 rw[hd,take_append_of_le_length (by omega),drop_append (l₁:=data),drop_of_length_le (by omega),nil_append,vp];unfold iz;rw[length_append,fJ];simp only[append_assoc];rw[mt,<- append_assoc (data.take _),<- e,length_append];congr 3;omega
theorem C1{L L':DevL}{A:AreaL}{data b:Bs}(h:ez L.now A.first A.count data)(hl:L.now.length=128*L.n)(hA:A.first+A.count<=L.n)(hfit:data.length+b.length<=128*A.count)(hn:L'.now=(if b=[]then L.now else aZ L.now (128*(A.first+data.length / 128)) (iz ((data++b).drop (128*(data.length / 128)))))):
  ez L'.now A.first A.count (data++b)/\∀f2 c2,(f2+c2<=A.first\/A.first+A.count<=f2)->aC L'.now f2 c2=aC L.now f2 c2:=by
 by_cases hb:b=[]
 ·subst hb;rw[if_pos rfl]at hn;rw[hn];exact⟨by rw[append_nil];exact h,fun _ _ _=>rfl⟩
 ·rw[if_neg hb]at hn;rw[hn];refine⟨C2 h (by omega) hfit hb,fun f2 c2 hd=>kh ?_ (by omega) hd⟩;have hdl:((data++b).drop (128*(data.length / 128))).length=data.length%128+b.length:=by rw[length_drop,length_append];omega
  rw[fc,hdl];omega
def LM(D:List Nat)(w:World)(v:Value)(l:Bs):Prop:=∃a cap,v=.slice a l.length cap/\l.length<=cap/\cap<=9223372036854775807/\ak w a (l.map al)/\∀x,a=some x->x.block∉D/\x.block<w.heap.size
def fR(rs:List Bs):Nat:=(rs.map length).sum
theorem kP(rs:List Bs):rs.flatten.length=fR rs:=by simp[fR,length_flatten]
theorem ni{rs:List Bs}{k:Nat}(h:k<rs.length):fR (rs.take (k+1))=fR (rs.take k)+rs[k].length:=by
 unfold fR;rw[QH h,map_append,sum_append];rfl
theorem nW(rs:List Bs)(k:Nat):fR (rs.take k)<=fR rs:=by
 unfold fR;have:rs.map length=(rs.take k).map length++(rs.drop k).map length:=by rw[<- map_append,take_append_drop]
 rw[this,sum_append];omega
def JF(rs:List Bs)(w:World)(n i:Value)(wr:World):Prop:=∃k:Nat,k<=rs.length/\i=.int .i64 k/\n=.int .i64 (fR (rs.take k))/\aQ w wr
def zk(ab d:Nat)(A:AreaL)(L:DevL)(data b:Bs)(w w':World):Prop :=
 ∃L',Turns (ap ab d A++aD d L) (ap ab d { A with end_:=(data++b).length,tail:=bF (data++b) }++aD d L') w w'/\DevOk L'/\L'.n=L.n/\ez L'.now A.first A.count (data++b) /\
  (∀f2 c2,(f2+c2<=A.first\/A.first+A.count<=f2)->aC L'.now f2 c2=aC L.now f2 c2)/\L'.chs.length<=L.chs.length+b.length
def LL(ab d:Nat)(A:AreaL)(L:DevL)(data:Bs)(rs:List Bs)(w:World)(i:Value)(wr:World):Prop:=∃k:Nat,k<=rs.length/\i=.int .i64 k/\zk ab d A L data (rs.take k).flatten w wr
def Cl(ab d:Nat)(A:AreaL)(L:DevL)(data:Bs)(rs:List Bs)(w:World)(e:Ending)(w':World):Prop :=
 (128*A.count<data.length+fR rs/\e=.returned (ck 8)/\aQ w w')\/(data.length+fR rs<=128*A.count/\e=.returned .nilIface/\zk ab d A L data rs.flatten w w')
theorem pR(a:Nat)(X:ArchL)(ab d:Nat)(hab:ab=X.ab)(A:AreaL)(L:DevL)(data:Bs)(rs:List Bs)(rvs:List Value)(sl:Option Addr)(cap:Nat)(w:World)(h:Sat w ((a,Is (aJ X))::(ap ab d A++aD d L)))(hbr:X.broken=.nilIface)(hL:DevOk L)(hA:A.first+A.count<=L.n)(hn:L.n<=1073741824)(he:A.end_=data.length)(ht:A.tail=bF data)(hd:ez L.now A.first A.count data)(hlen:rvs.length=rs.length)(hl:rs.length<=1000000)(hs:fR rs<=1099511627776)(hch:L.chs.length+fR rs<=137438953472)(hrv:ak w sl rvs)(hsl:∀x,sl=some x->x.block∉dom (ap ab d A++aD d L))(hr:∀k (h1:k<rvs.length) (h2:k<rs.length),LM (dom (ap ab d A++aD d L)) w rvs[k] rs[k]):
  Calls Tryz.prog 56 #[.pointer (some ⟨a,0,none⟩),.slice sl rs.length cap] w (Cl ab d A L data rs w):=by
 have hao:=h.Q5;have a11:w.cell? ⟨a,11,none⟩=some .nilIface:=by rw[<- hbr];exact aa hao 11 rfl
 have a7:w.cell? ⟨a,7,none⟩=some (.pointer (some ⟨ab,0,none⟩)):=by rw[hab];exact aa hao 7 rfl
 have hal:=ae hao;have HAB:=qqH hab;have H:=qqH (And.intro h (And.intro hL (And.intro hA (And.intro hn (And.intro he (And.intro ht (And.intro hd (And.intro hrv (And.intro hsl (And.intro hr (And.intro hch (And.intro hlen hao))))))))))));clear h hL hA hn he ht hd hrv hsl hr hch hao hbr hab;go_enter Tryz.func56,Tryz.ntmps56;go_wp2_with fail;go_loopw [5,22] (fun n i wr=>JF rs w n i wr) (fun _ i _=>rs.length-(intOf i).toNat)
 case atStart=>exact⟨0,Nat.zero_le _,rfl,rfl,Mods.refl _ _⟩
 case round =>
  obtain⟨k,hk,rfl,rfl,hs1⟩:=hrel;have HS:=qqH hs1;by_cases hlt:k<rs.length
  ·obtain⟨g,off,hg,hcell⟩:=H.h.keep hs1 (fun _ _ _=>id) (by have:=H.out.2.2.2.2.2.2.2.2.2.2.2.1;omega);have hlt2:k<rvs.length:=by have:=H.out.2.2.2.2.2.2.2.2.2.2.2.1;omega
   obtain⟨ra,rc,hrv,-⟩:=H.out.2.2.2.2.2.2.2.2.2.1 k hlt2 hlt;have hck:wr.cell? ⟨g,off+k,none⟩=some (.slice ra rs[k].length rc):=by rw[hcell k hlt2,hrv]
   have htk:=ni hlt;obtain⟨m,hm⟩:∃m,m=rs[k].length:=⟨_,rfl⟩;rw[<- hm]at hck htk;obtain⟨n,hn⟩:∃n,n=fR (rs.take k):=⟨_,rfl⟩;rw[<- hn]at htk ⊢;have hb:n+m<=1099511627776:=by have:=nW rs (k+1);omega
   subst hg;have HK:=qqH htk;clear hcell hrv htk hm hn hs1;go_wp2_with fail;go_roundw
   case rel=>exact⟨k+1,by omega,by go_num,by rw[HK.out];go_num,HS.out⟩
   case measure=>simp[intOf];omega
  ·obtain rfl:k=rs.length:=by omega
   rw[take_length];have b7:wr.cell? ⟨a,7,none⟩=some (.pointer (some ⟨ab,0,none⟩)):=ib hs1 a7;have hal2:a<wr.heap.size:=Nat.lt_of_lt_of_le hal hs1.size;have HR:=qqH (sX ab d A wr ((H.a.tail.left).same hs1) (by have:=H.c;have:=H.d;omega) (by rw[H.e];exact H.g.2));obtain⟨n,hn⟩:∃n,n=fR rs:=⟨_,rfl⟩;rw[<- hn]at hs ⊢;have HN:=qqH hn;clear hn hs1;go_wp2_with fail;refine HR.out.mono ?_;rintro e w2 ⟨rfl,hs2⟩;have HS2:=qqH (HS.out.trans hs2);have b7:w2.cell? ⟨a,7,none⟩=some (.pointer (some ⟨ab,0,none⟩)):=ib hs2 b7;have hal2:a<w2.heap.size:=Nat.lt_of_lt_of_le hal2 hs2.size;clear hs2 HS HR;obtain⟨rm,hrm⟩:∃rm:Int,rm=(A.count:Int)*128-A.end_:=⟨_,rfl⟩;rw[<- hrm];by_cases hfit:data.length+n<=128*A.count
   ·have hf:¬rm<(n:Int):=by have:=H.e;omega
    have HF1:=Hq2 hrm hfit;clear hrm hfit;go_wp2_with fail
    have hst:zk ab d A L data (rs.take 0).flatten w w2:=by
     have e:({ A with end_:=(data++(rs.take 0).flatten).length,tail:=bF (data++(rs.take 0).flatten) }:AreaL)=A:=by simp[<- H.e,<- H.f]
     refine⟨L,?_,H.b,rfl,by simpa using H.g,fun _ _ _=>rfl,by simp⟩;rw[e];exact Turns.same H.a.tail HS2.out
    have HST:=qqH hst;clear hst;go_loopw [41] (fun i wr=>LL ab d A L data rs w i wr) (fun i _=>rs.length-(intOf i).toNat)
    case atStart=>exact⟨0,Nat.zero_le _,rfl,HST.out⟩
    case round =>
     obtain⟨k,hk,rfl,hm⟩:=hrel;have HMd:=qqH hm;clear hm;by_cases hlt:k<rs.length
     ·obtain⟨L',hT,hL',hn',hdat,hoth,hch'⟩:=HMd.out;have hlt2:k<rvs.length:=by have:=H.out.2.2.2.2.2.2.2.2.2.2.2.1;omega
      obtain⟨g,off,hg,hcell⟩:=(H.h.Qc hT H.out.2.2.2.2.2.2.2.2.1) (by omega);obtain⟨ra,rc,hrv,hrc1,hrc2,hrcell,hrne⟩:=H.out.2.2.2.2.2.2.2.2.2.1 k hlt2 hlt;have hao2:=hT.old H.out.2.2.2.2.2.2.2.2.2.2.2.2 H.a.notMem
      have c7:wr.cell? ⟨a,7,none⟩=some (.pointer (some ⟨ab,0,none⟩)):=by
       rw[HAB.out];exact aa hao2 7 rfl
      have hck:wr.cell? ⟨g,off+k,none⟩=some (.slice ra rs[k].length rc):=by rw[hcell k hlt2,hrv]
      have hpre:data.length+(rs.take k).flatten.length+rs[k].length<=128*A.count:=by
       have h1:=ni hlt;have h2:=nW rs (k+1);have h3:=HN.out;have h4:=HF1.z;rw[kP];omega
      have hsl2:=nW rs k
      have hAp:=pB ab d { A with end_:=(data++(rs.take k).flatten).length,tail:=bF (data++(rs.take k).flatten) } L' (data++(rs.take k).flatten) rs[k] ra rc wr hT.sat hL' (by rw[hn'];exact H.c) (by rw[hn'];exact H.d) rfl rfl
       (by rw[length_append];exact hpre) (hrcell.Qc hT (fun x hx=>(hrne x hx).1)) hrc1 hrc2
       (fun x hx hin=>by
        rcases hT.fresh _ hin with h'|h'
        ·exact(hrne x hx).1 h'
        ·have:=(hrne x hx).2;omega)
       (by have h1:=ni hlt;have h2:=nW rs (k+1);have h3:=H.out.2.2.2.2.2.2.2.2.2.2.1;rw[kP]at hch';omega)
      have hAp2:∃Pq:Ending->World->Prop,Calls Tryz.prog 96 #[.pointer (some ⟨ab,0,none⟩),.slice ra rs[k].length rc] wr Pq/\∀e W,Pq e W->e=.returned .nilIface/\zk ab d A L data (rs.take (k+1)).flatten w W:=by
       refine⟨_,hAp,?_⟩;rintro e0 W ⟨he0,L2,hT2,hL2,hn2,hnow2,hch2⟩;have e:(rs.take (k+1)).flatten=(rs.take k).flatten++rs[k]:=by rw[QH hlt,flatten_append,flatten_singleton]
       rw[e];unfold zk;rw[<- append_assoc];obtain⟨d1,d2⟩:=C1 (A:=A) hdat hL'.nowL (by rw[hn'];exact H.c) (by rw[length_append];exact hpre) hnow2;exact⟨he0,L2,hT.trans hT2,hL2,hn2.trans hn',d1,fun f2 c2 hh=>(d2 f2 c2 hh).trans (hoth f2 c2 hh),by rw[length_append];omega⟩
      obtain⟨Pq,hq1,hq2⟩:=hAp2;have HAp:=qqH hq1;have HNX:=qqH hq2;clear hq1 hq2;obtain⟨m,hm⟩:∃m,m=rs[k].length:=⟨_,rfl⟩;rw[<- hm]at hck HAp;have HM2:=qqH hm;clear hm;subst hg;have hal3:a<wr.heap.size:=ae hao2;clear hcell hrv hrc1 hrc2 hrcell hrne hT hL' hn' hdat hoth hch' hao2 hpre hAp hsl2 b7 hal2;go_wp2_with fail;refine HAp.out.mono ?_;intro e w5 hp5;obtain⟨rfl,hr5⟩:=HNX.out e w5 hp5;have HR5:=qqH hr5;clear hp5 hr5;go_wp2_with fail;go_roundw
      case rel=>exact⟨k+1,by omega,by go_num,HR5.out⟩
      case measure=>simp[intOf];omega
     ·obtain rfl:k=rs.length:=by omega
      go_wp2_with fail;refine bodyPost_end (results_tmp rfl _ _ _) rfl ?_;refine .inr ⟨by rw[<- HN.out];exact HF1.z,rfl,?_⟩;have:=HMd.out;rwa [take_length]at this
   ·have hf:rm<(n:Int):=by have:=H.e;omega
    have HF1:=Hq2 hrm hfit;clear hrm hfit;go_wp2_with fail;go_ret;refine .inl ⟨by rw[<- HN.out];have:=HF1.z;omega,rfl,HS2.out⟩
end
section
open Go.RowKit Go.Maps
theorem jQ{w:World}{sl:Option Addr}{l:Bs}(cap:Nat)(h:ak w sl (l.map al)):(convert 35 9 (.slice sl l.length cap)).run Tryz.prog w=.ok (str l) w:=by
 by_cases h0:l=[]
 ·subst h0
  cases sl with
  | none=>exact run_convert_bytes_nil w 35 5 Tryz.underlying35 Tryz.underlying5 _ _ _ Tryz.underlying9
  | some x =>
   rw[run_convert_bytes_string w 35 9 5 _ _ _ Tryz.underlying35 Tryz.underlying5 Tryz.underlying9];simp[Conv.bytesToString,loadCells,loadCellsFrom,str];try rfl
 ·have hp:0<(l.map al).length:=by simpa using length_pos_iff.2 h0
  obtain⟨g,off,rfl,hc⟩:=h hp
  have:=run_convert_bytes_arg (P:=Tryz.prog) w 35 5 Tryz.underlying35 Tryz.underlying5 g off l.length cap (l.map fun x=>(x.toNat:Int)) (by simp) (fun i hi=>by
   rw[hc i (by simpa using hi)];simp[al,getD,hi]) 9 Tryz.underlying9
  have e:strOfNums (l.map fun x=>(x.toNat:Int))=⟨l.toArray⟩:=by
   unfold strOfNums;rw[map_map];have:(fun x:UInt8=>x)=(fun n:Int=>UInt8.ofNat n.toNat) ∘ fun x:UInt8=>(x.toNat:Int):=by funext x;simp
   rw[<- this,map_id']
  rw[this,e]
def mF(H:Bs)(p:Nat×Nat)(b:Bs):Prop:=p.2=b.length/\lG H p.1 b
def Fc(ab d:Nat)(A:AreaL)(L:DevL)(R0:HF)(pl:List (Nat×Nat))(b:Bs)(w:World)(e:Ending)(w':World):Prop :=
 (∃sp,AreaOk { A with spare:=sp }/\Turns (ap ab d A++R0) (ap ab d { A with spare:=sp }++R0) w w') /\
 (
  (∃p∈pl,mF (aC L.now A.first A.count) p b/\e=.returned (.tuple #[.agg #[.int .i64 p.1,.int .i64 p.2],.bool true,.nilIface])) \/
  ((∀p∈pl,¬mF (aC L.now A.first A.count) p b)/\e=.returned (.tuple #[.agg #[.int .i64 0,.int .i64 0],.bool false,.nilIface])))
theorem mJ{H:Bs}{at_:Nat}{a b:Bs}(ha:lG H at_ a)(hb:lG H at_ b)(h:a.length=b.length):a=b:=by
 have h1:=ha.2;have h2:=hb.2;rw[h]at h1;rw[h1]at h2;simpa using h2
theorem Af{w:World}{cm c:Nat}{cs:List kT}(h:Sat w (aP cm cs c))(hok:ChunksOk cs c)(k:Bs):∃sl cap,eH (.slice none 0 0) cs k=.slice sl (bd cs k).length cap/\(bd cs k).length<=cap/\cap<=9223372036854775807/\ak w sl (cR (bd cs k)):=by
 unfold bd eH gOf
 cases hf:cs.find? (fun p=>decide (p.key=k))with
 | none=>exact⟨none,0,rfl,Nat.le_refl _,by omega,fun h=>by simp[cR]at h⟩
 | some p =>
  have hm:=mem_of_find?_eq_some hf;have hp:Sat w (aY p.val p.g):=Sat.flat (f:=fun p:kT=>aY p.val p.g) h.tail hm;exact fd hp (hok.rows p hm)
theorem lA{P:Program}{fn:Func}{p q s:Tmp}{ty:TypeId}(h:fn.results=#[.cell p ty,.tmp q,.tmp s])(tmps:Array Value)(w:World)(g:Nat)(t:TypeId)(cs:Array Value)(fr:Nat×Nat)(d:TypeDesc)(hp:tmps.getD p undef=.pointer (some ⟨g,0,none⟩))(hg:w.heap[g]?=some (.cells cs t fr))(hu:P.underlying ty=some d)(hd:(match d with|.struct _|.array _ _=>true|_=>false)=true)(hi:(P.info? ty).map (·.size)=some cs.size):
  (results fn tmps).run P w=.ok (.tuple #[.agg cs,tmps.getD q undef,tmps.getD s undef]) w:=by
 have hp':tmps[p]?.getD undef=.pointer (some ⟨g,0,none⟩):=by simpa using hp
 simp[results,h,hp',asAddr,run_loadVar_row w g t ty cs fr d hg hu hd hi]
def aB(p:Nat×Nat):Obj:=.cells #[.int .i64 p.1,.int .i64 p.2] 128 (0,0)
def G8(ab d r:Nat)(A:AreaL)(L:DevL)(R0:HF)(pl:List (Nat×Nat))(b:Bs)(w:World)(i:Value)(W:World):Prop :=
 ∃(j:Nat) (sp:List (Nat×Nat×Nat)),j<=pl.length/\i=.int .i64 j/\AreaOk { A with spare:=sp }/\Turns (ap ab d A++R0) ((r,Is (aB (0,0)))::(ap ab d { A with spare:=sp }++R0)) w W /\
  ∀t (h:t<pl.length),t<j->¬mF (aC L.now A.first A.count) pl[t] b
theorem AW(a:Nat)(X:ArchL)(ab d:Nat)(hab:ab=X.ab)(A:AreaL)(L:DevL)(cs:List kT)(c:Nat)(b:Bs)(sl:Option Addr)(cap:Nat)(R0:HF)(w:World)(h:Sat w (ap ab d A++R0))(hsub:∀x,cnt x ((a,Is (aJ X))::(aD d L++aP X.cm cs c))<=cnt x R0)(hL:DevOk L)(hA:AreaOk A)(hAn:A.first+A.count<=L.n)(hn:L.n<=1073741824)(hok:ChunksOk cs c)(hb:ak w sl (b.map al))(hbs:∀x,sl=some x->x.block∉dom (ap ab d A++R0))(hbl:b.length<=1000000)(hpl:(bd cs (be (dq 1 b) 4)).length<=1000000)(hch:∀p∈bd cs (be (dq 1 b) 4),∃body,p.2=body.length/\lG (aC L.now A.first A.count) p.1 body):
  Calls Tryz.prog 51 #[.pointer (some ⟨a,0,none⟩),.slice sl b.length cap] w (Fc ab d A L R0 (bd cs (be (dq 1 b) 4)) b w):=by
 obtain⟨k,hk⟩:∃k,k=be (dq 1 b) 4:=⟨_,rfl⟩;have hk4:Ok4 k:=by rw[hk];exact cd _ _
 rw[<- hk]at hpl hch ⊢;obtain⟨pl,hple⟩:∃pl,pl=bd cs k:=⟨_,rfl⟩;rw[<- hple]at hpl hch ⊢;obtain⟨r,hr⟩:∃r,r=w.heap.size:=⟨_,rfl⟩;obtain⟨F0,hF0⟩:∃F0,F0=ap ab d A++R0:=⟨_,rfl⟩
 have hsubC:∀{W:World} {F:HF},Sat W (F++R0)->W.heap[a]?=some (aJ X)/\Sat W (aD d L)/\Sat W (aP X.cm cs c):=fun hs=>by
  have h1:=hs.right.sub hsub;exact⟨h1.Q5,h1.tail.left,h1.tail.right⟩
 obtain⟨psl,pcap,e1,e2,e3,_⟩:=Af (hsubC h).2.2 hok k;rw[<- hple]at e1 e2;have hT0:Turns F0 ((r,Is (aB (0,0)))::(ap ab d A++R0)) w (w.alloc (aB (0,0))):=by rw[hr,hF0];exact(Turns.refl h).Q8 _
 have HK:=qqH (fun(W:World) (hW:ak W sl (b.map al))=>rP sl cap b W hW (by omega));have HH:=qqH (And.intro hT0 (And.intro hab (And.intro hL (And.intro hA (And.intro hAn (And.intro hn (And.intro hok (And.intro hb (And.intro hbs (And.intro hch (And.intro hk4 (And.intro hk (And.intro hple (And.intro e1 hF0))))))))))))));have HS:=Hq2 hsub @hsubC;clear hT0 hab hL hA hAn hn hok hb hbs hch hk4 hk hple e1 hF0 hsub hsubC h;go_enter Tryz.func51,Tryz.ntmps51;go_wp2_with fail;rw[<- hr];have hw0:w.alloc (.cells #[.int .i64 0,.int .i64 0] 128)=w.alloc (aB (0,0)):=rfl;rw[hw0];clear hw0 hr;refine db [([0,1,2,3,4,5,9],6,[0,1,2,3,4,9])] [7,8] HM.out (by kernel_rfl) fun W tW=>?_
 simp only[Mix,map_cons,map_nil,nth,QG,QF];have hT:=tW HH.a;clear tW;have g:∀{W:World},Turns F0 ((r,Is (aB (0,0)))::(ap ab d A++R0)) w W->W.cell? ⟨a,2,none⟩=some (.map (some X.cm)):=fun hT=>aa (HS.z (F:=(r,Is (aB (0,0)))::ap ab d A) hT.sat).1 2 rfl
 have g0:=g hT;repeat still_step
 refine wpStill_nil (aU (by kernel_rfl) (HK.out W (HH.h.Qc hT (HH.out.2.2.2.2.2.2.2.2.2.2.2.2.2.2.symm ▸ HH.out.2.2.2.2.2.2.2.2.1))) ?_);rintro e w3 ⟨rfl,hs3⟩;have hT3:=hT.Q9 hs3;refine⟨_,rfl,by(have g0:=g hT3;(repeat still_step);exact rfl),?_⟩;refine eG rfl (A5 Dq (.tmp 15) (.tmp 17) rfl Tryz.underlying53 (HS.z (F:=(r,Is (aB (0,0)))::ap ab d A) hT3.sat).2.2.Q5 HH.g.map (pz _) k rfl (by rw[HH.out.2.2.2.2.2.2.2.2.2.2.2.1];rfl) HH.out.2.2.2.2.2.2.2.2.2.2.1) ?_;rw[cP,HH.out.2.2.2.2.2.2.2.2.2.2.2.2.2.1];simp only[Act.put,QA,QB,QC];repeat still_step
 refine wpStill_nil ?_;have HT3:=qqH hT3;clear hT hT3 g g0 hs3;go_wp2_with fail;rw[HH.out.2.2.2.2.2.2.2.2.2.2.2.2.2.2]at HT3;go_loopw [20] (fun i wr=>G8 ab d r A L R0 pl b w i wr) (fun i _=>pl.length-(intOf i).toNat)
 case atStart=>exact⟨0,A.spare,Nat.zero_le _,rfl,HH.d,HT3.out,fun t h h0=>by omega⟩
 case round =>
  obtain⟨j,sp,hj,rfl,hAo,hT,hno⟩:=hrel;have HR:=Hq3 hAo hT hno;clear hAo hT hno;by_cases hlt:j<pl.length
  ·obtain⟨psl2,pcap2,f1,f2,f3,f4⟩:=Af (HS.z (F:=(r,Is (aB (0,0)))::ap ab d { A with spare:=sp }) HR.b.sat).2.2 HH.g k;rw[HH.out.2.2.2.2.2.2.2.2.2.2.2.2.2.1,<- HH.out.2.2.2.2.2.2.2.2.2.2.2.2.1]at f1;simp only[Value.slice.injEq,true_and]at f1;obtain⟨rfl,rfl⟩:=f1;rw[<- HH.out.2.2.2.2.2.2.2.2.2.2.2.2.1]at f4;obtain⟨g,off,hg,hcell⟩:=f4 (by rw[eS];omega);subst hg;obtain⟨hc1,hc2⟩:=mY hcell hlt;obtain⟨q,hq⟩:∃q,q=pl[j]:=⟨_,rfl⟩;rw[<- hq]at hc1 hc2;obtain⟨body,hq2,hbody⟩:=HH.out.2.2.2.2.2.2.2.2.2.1 q (hq ▸ getElem_mem hlt);obtain⟨B8,hB8⟩:∃B8,B8=wr.heap.size:=⟨_,rfl⟩
   have hT8:Turns (ap ab d A++R0) (ap ab d { A with spare:=sp }++((B8,Is (aB q))::(r,Is (aB (0,0)))::R0)) w (wr.alloc (aB q)):=by
    rw[hB8];exact(HR.b.Q8 (aB q)).to ac
   have HLd:=qqH (lX a X ab d HH.b { A with spare:=sp } L q.1 body ((B8,Is (aB q))::(r,Is (aB (0,0)))::R0) (wr.alloc (aB q)) hT8.sat (fun x=>by have:=HS.a x;simp only[ao,ai]at this ⊢;omega) HH.c HR.a HH.e HH.f hbody);rw[<- hq2]at HLd;have HQ:=Hq5 hq hq2 hbody hT8 hB8;clear hcell hq hq2 hbody hT8 hB8 f2 f3;go_wp2_with fail;refine HLd.out.mono ?_;rintro e w4 ⟨av,cv,sp2,rfl,hok4,hAo4,hT4⟩;have hT5:=HQ.d.trans hT4;obtain⟨av',cv',hev,-,-,hav,-⟩:=aL (cZ hT4.sat.left hok4);simp only[Value.slice.injEq,true_and]at hev;obtain⟨rfl,rfl⟩:=hev;rw[<- HQ.w];have h8:w4.heap[B8]?=some (aB q):=hT4.sat.Q7 (by simp);have hrr:w4.heap[r]?=some (aB (0,0)):=hT4.sat.Q7 (by simp);have c80:w4.cell? ⟨B8,0,none⟩=some (.int .i64 q.1):=aa h8 0 rfl;have c81:w4.cell? ⟨B8,1,none⟩=some (.int .i64 q.2):=aa h8 1 rfl;have hcv1:=jQ cv hav;have hbw4:ak w4 sl (b.map al):=HH.h.Qc hT5 HH.out.2.2.2.2.2.2.2.2.1;have hcv2:=jQ cap hbw4;have hth:=dr (C:=#[.int .i64 0,.int .i64 0]) hrr 0 2 (by simp);obtain⟨q1,q2⟩:=dI hrr [.int .i64 q.1,.int .i64 q.2] (by simp);have H4:=Hq6 hok4 hAo4 hT5 hth q1 q2;have hbl4:=ae h8;clear hok4 hAo4 hT4 hT5 hav h8 hrr hbw4 hth q1 q2 hc1 hc2;by_cases hbb:body=b
   ·subst hbb;go_wp2_with ((refine wpList_store_mid rfl 128 (.tmp 4) (.tmp 39) rfl r 0 #[.int .i64 q.1,.int .i64 q.2] rfl rfl H4.d (by kernel_rfl) (by simp[Value.oneCell']) ?_;simp only[Act.put]));refine bodyPost_ret (lA rfl _ _ r 128 _ (0,0) _ rfl H4.e Tryz.underlying128 rfl (by kernel_rfl)) rfl ?_;refine⟨⟨sp2,H4.b,?_⟩,.inl ⟨q,HQ.a ▸ getElem_mem hlt,⟨HQ.b,HQ.c⟩,rfl⟩⟩;have hq5:=(H4.c.to (H:=(r,Is (aB (0,0)))::(aA (.slice av body.length cv) body++(ap ab d { A with spare:=sp2 }++((B8,Is (aB q))::R0)))) ac).Qa (o:=aB q) H4.v H4.e;exact hq5.drop bB
   ·have HNB:=qqH hbb;have hsn:(body==b)=false:=by simpa using hbb
    clear hbb;go_wp2_with fail;go_roundw
    case rel =>
     refine⟨j+1,sp2,by omega,by go_num,H4.b,H4.c.drop bB,fun t ht htj=>?_⟩;rcases Nat.lt_or_ge t j with h'|h'
     ·exact HR.y t ht h'
     ·obtain rfl:t=j:=by omega
      intro hc;rw[<- HQ.a]at hc;exact HNB.out (mJ HQ.c hc.2 (HQ.b.symm.trans hc.1))
    case measure=>simp[intOf];omega
  ·obtain rfl:j=pl.length:=by omega
   have hrr:=HR.b.sat.Q5;have hth:=dr (C:=#[.int .i64 0,.int .i64 0]) hrr 0 2 (by simp);obtain⟨q1,q2⟩:=dI hrr [.int .i64 0,.int .i64 0] (by simp);have hTe:=HR.b.Qa (o:=aB (0,0)) q2 q1;have HE:=Hq3 q1 hTe hth;clear hrr hth q1 q2 hTe;go_wp2_with ((refine wpList_store_mid rfl 128 (.tmp 4) (.tmp 41) rfl r 0 #[.int .i64 0,.int .i64 0] rfl rfl HE.y (by kernel_rfl) (by simp[Value.oneCell']) ?_;simp only[Act.put]));refine bodyPost_ret (lA rfl _ _ r 128 _ (0,0) _ rfl HE.a Tryz.underlying128 rfl (by kernel_rfl)) rfl ?_;refine⟨⟨sp,HR.a,HE.b.drop bB⟩,.inr ⟨fun p hp=>?_,rfl⟩⟩;obtain⟨t,ht,rfl⟩:=mem_iff_getElem.1 hp;exact HR.y t ht ht
abbrev fO:=GE (Bs×Int)
def mE(n:Bs)(g:Bs×Int):Value:=.agg #[str n,str g.1,.int .i64 g.2]
def bU(tm:Nat)(ts:List fO)(tc:Nat):HF:=[(tm,Is (aO str (ts.map aN) tc))]
structure TagsOk (ts:List fO) (tc:Nat):Prop where
 map:MapOk OkS (ts.map aN) tc
 val:∀p∈ts,p.val=mE p.key p.g
def ef(body:Bs):Bs:=be (dq 1 body) 4
structure AS where
 a:Nat
 X:ArchL
 A:AreaL
 L:DevL
 ps:List ba
 pc:Nat
 cs:List kT
 cc:Nat
 ts:List fO
 tc:Nat
 data:Bs
 K:List (Bs×Nat×Nat)
def arF(S:AS):HF:=(S.a,Is (aJ S.X))::(ap S.X.ab S.X.d S.A++(aD S.X.d S.L++(aF S.X.pm S.ps S.pc++(bU S.X.tm S.ts S.tc++aP S.X.cm S.cs S.cc))))
def dw(data:Bs)(at_:Nat)(body:Bs):Prop:=at_+(body.length+9)<=data.length/\ce ((data.drop at_).take (body.length+9))=some (1,body,body.length+9)
theorem dw.more{data more body:Bs}{at_:Nat}(h:dw data at_ body):dw (data++more) at_ body:=by
 refine⟨by have:=h.1;simp;omega,?_⟩;rw[drop_append_of_le_length (by have:=h.1;omega),take_append_of_le_length (by rw[length_drop];have:=h.1;omega)];exact h.2
theorem dw.frame{data body rest:Bs}(hl:body.length<65536):dw (data++frame 1 body++rest) data.length body:=by
 refine⟨by simp[aX],?_⟩;rw[append_assoc,drop_left,take_append_of_le_length (by rw[aX];omega),take_of_length_le (by rw[aX];omega)];have:=jt 1 body [] (by decide) hl;rwa [append_nil]at this
theorem dw.Qd{l data body:Bs}{first count at_:Nat}(h:dw data at_ body)(hd:ez l first count data):lG (aC l first count) at_ body:=by
 rw[hd.1];refine⟨by have:=h.1;simp;omega,?_⟩;rw[drop_append_of_le_length (by have:=h.1;omega),take_append_of_le_length (by rw[length_drop];have:=h.1;omega)];exact h.2
structure ArOk (S:AS):Prop where
 dev:DevOk S.L
 n16:16<=S.L.n
 nmax:S.L.n<=1073741824
 area:AreaOk S.A
 first:S.A.first=2+S.X.ep%2*ay S.L.n
 count:S.A.count=ay S.L.n
 end_:S.A.end_=S.data.length
 tail:S.A.tail=bF S.data
 dat:ez S.L.now S.A.first S.A.count S.data
 paths:PathsOk S.ps S.pc
 tags:TagsOk S.ts S.tc
 chunks:ChunksOk S.cs S.cc
 kin:∀k,(bd S.cs k).Perm ((S.K.filter (fun e=>decide (ef e.1=k))).map (·.2))
 kat:∀e∈S.K,e.2.2=e.1.length/\dw S.data e.2.1 e.1
 vers:∀p∈S.ps,∀V∈p.g,(∀q∈V.chs,∃e∈S.K,e.2=q)/\V.size=(V.chs.map (·.2)).sum
 some:∀p∈S.ps,p.g≠[]
 sound:S.X.broken=.nilIface
 ep:S.X.ep<4294967296
structure ArB (S:AS) (b:Nat):Prop where
 K:S.K.length<=b
 np:S.ps.length<=b
 nt:S.ts.length<=b
 vers:∀p∈S.ps,p.key.length<=255/\p.g.length<=b/\∀V∈p.g,V.num<=4294967296+b/\V.chs.length<=b/\V.size<=65536*b/\V.held.natAbs<=b
 tags:∀p∈S.ts,p.key.length<=255/\p.g.1.length<=255/\p.g.2.natAbs<=4294967296+b
 used:S.X.used.natAbs<=65536*b
 sc:S.X.sc.natAbs<=b
 sb:S.X.sb.natAbs<=65536*b
 quota:S.X.quota.natAbs<=9223372036854775807
 chs:S.L.chs.length<=262144*b
theorem ArOk.fits{S:AS}(h:ArOk S):S.A.first+S.A.count<=S.L.n:=by
 rw[h.first,h.count];have:=h.n16;unfold ay;rcases Nat.mod_two_eq_zero_or_one S.X.ep with e|e<;>rw[e]<;>omega
theorem DE{S:AS}(h:ArOk S)(k:Bs):(bd S.cs k).length<=S.K.length:=by
 rw[(h.kin k).length_eq,length_map];exact length_filter_le _ _
theorem pq{S:AS}(h:ArOk S){k:Bs}{q:Nat×Nat}:q∈bd S.cs k↔∃e∈S.K,ef e.1=k/\e.2=q:=by
 rw[(h.kin k).mem_iff];simp only[mem_map,mem_filter,decide_eq_true_eq];exact⟨fun⟨e,⟨h1,h2⟩,h3⟩=>⟨e,h1,h2,h3⟩,fun⟨e,h1,h2,h3⟩=>⟨e,⟨h1,h2⟩,h3⟩⟩
theorem Bg{S:AS}(h:ArOk S){k:Bs}:∀q∈bd S.cs k,∃body,q.2=body.length/\lG (aC S.L.now S.A.first S.A.count) q.1 body:=fun q hq=>by
 obtain⟨e,he,_,rfl⟩:=(pq h).1 hq
 exact⟨e.1,(h.kat e he).1,(h.kat e he).2.Qd h.dat⟩
theorem Ly{S:AS}(h:ArOk S){b:Bs}{q:Nat×Nat}(hq:q∈bd S.cs (ef b))(hc:mF (aC S.L.now S.A.first S.A.count) q b):(b,q)∈S.K:=by
 obtain⟨e,he,_,rfl⟩:=(pq h).1 hq;have:=mJ ((h.kat e he).2.Qd h.dat) hc.2 ((h.kat e he).1.symm.trans hc.1);rw[<- this];exact he
theorem Lz{S:AS}(h:ArOk S){b:Bs}{q:Nat×Nat}(he:(b,q)∈S.K):q∈bd S.cs (ef b)/\mF (aC S.L.now S.A.first S.A.count) q b :=
 ⟨(pq h).2 ⟨_,he,rfl,rfl⟩,(h.kat _ he).1,(h.kat _ he).2.Qd h.dat⟩
def da:List Nat->Bs->List Bs
 | [],_=>[]
 | n::r,d=>d.take n::da r (d.drop n)
def bX(has:List Bs):List Bs->List Bs->List Bs
 | acc,[]=>acc
 | acc,c::r=>if c∈has\/c∈acc then bX has acc r else bX has (acc++[c]) r
def b8:Nat->List Bs->List (Bs×Nat×Nat)
 | _,[]=>[]
 | at_,c::r=>(c,at_,c.length)::b8 (at_+c.length+9) r
def bm(l:List Bs):Nat:=(l.map fun c=>c.length+9).sum
theorem vI(l m:List Bs):∀at_,b8 at_ (l++m)=b8 at_ l++b8 (at_+bm l) m:=by
 induction l with
 | nil=>intro a;simp[b8,bm]
 | cons c r ih =>
  intro a;simp only[cons_append,b8,ih,bm,map_cons,sum_cons];rw[show a+c.length+9+(r.map fun c=>c.length+9).sum=a+(c.length+9+(r.map fun c=>c.length+9).sum) by omega]
theorem cA:∀(l:List Nat) (d:Bs),(da l d).length=l.length
 | [],_=>rfl
 | _::r,d=>by simp[da,cA r]
theorem jc:∀(l:List Nat) (d:Bs) (i:Nat) (h:i<l.length),(da l d)[i]'(by rw[cA];exact h)=(d.drop (l.take i).sum).take l[i]
 | n::r,d,0,_=>by simp[da]
 | n::r,d,i+1,h=>by
  simp only[da,getElem_cons_succ]
  rw[jc r _ i (by simpa using h),drop_drop]
  simp
end
section
open Go.RowKit Go.Maps
open Go.ChangeMaps (setBlock)
section
variable {κ:Type}
def dB(b c:Nat)(done:List (Ent κ)):Obj:=.mapIter (some b) c (done.map (·.born)).toArray c
theorem K0{l done:List (Ent κ)}(enc:κ->Value)(_:Nat):(leftOf (l.map (dE enc)).toArray (done.map (·.born)).toArray).toList=(l.filter (fun e => !(done.map (·.born)).contains e.born)).map (dE enc):=by
 unfold leftOf;rw[Array.toList_filter,filter_map];congr 1;apply filter_congr;intro e _;simp[dE];exact decide_eq_decide.2 Iff.rfl
theorem Gb{l done todo:List (Ent κ)}(hp:(done++todo).Perm l)(hn:(l.map (·.born)).Nodup):(l.filter (fun e => !(done.map (·.born)).contains e.born)).Perm todo:=by
 have hn2:((done++todo).map (·.born)).Nodup:=(hp.map _).nodup_iff.2 hn;refine(hp.symm.filter _).trans ?_;rw[filter_append]
 have h1:done.filter (fun e => !(done.map (·.born)).contains e.born)=[]:=by
  rw[filter_eq_nil_iff];intro e he;simp only[Bool.not_eq_true',Bool.not_eq_false,contains_iff_mem];simp;exact⟨e,he,rfl⟩
 have h2:todo.filter (fun e => !(done.map (·.born)).contains e.born)=todo:=by
  rw[filter_eq_self];intro e he;rw[map_append,nodup_append]at hn2;simp only[Bool.not_eq_true'];rw[<- Bool.not_eq_true,contains_iff_mem];intro hm;exact hn2.2.2 e.born hm e.born (mem_map.2 ⟨e,he,rfl⟩) rfl
 rw[h1,h2];exact Perm.refl _
theorem xA{P:Program}{enc:κ->Value}{Ok:κ->Prop}{w:World}{ty:TypeId}{r b c:Nat}{l done todo:List (Ent κ)}(hr:w.heap[r]?=some (dB b c done))(hb:w.heap[b]?=some (aO enc l c))(hm:MapOk Ok l c)(hp:(done++todo).Perm l):
  (todo=[]/\(Instr.next (.pointer (some ⟨r,0,none⟩)) false ty).run P w=.ok (.tuple #[.bool false]) w) \/
  ∃e rest w1,todo.Perm (e::rest)/\(w1=w\/w1=w.drew)/\(Instr.next (.pointer (some ⟨r,0,none⟩)) false ty).run P w=.ok (.tuple #[.bool true,enc e.key,e.val]) (setBlock w1 r (dB b c (done++[e]))):=by
 have hold:∀x∈(l.map (dE enc)).toArray.toList,x.born<c:=by
  intro x hx;obtain⟨e,he,rfl⟩:=mem_map.1 (by simpa using hx);exact hm.lt e he
 have ht:=Gb hp hm.borns;rcases run_next_at w ty r b c c _ _ c hr hb hold (Nat.le_refl _)with⟨h0,h1⟩|⟨e,he,w1,h2,h3⟩
 ·refine .inl ⟨?_,h1⟩;have:(leftOf (l.map (dE enc)).toArray (done.map (·.born)).toArray).toList.length=0:=by simpa using h0
  rw[K0 enc c,length_map]at this;exact length_eq_zero_iff.1 (ht.length_eq ▸ this)
 ·rw[K0 enc c]at he;obtain⟨e',he',rfl⟩:=mem_map.1 he;obtain⟨s,t,rfl⟩:=append_of_mem (ht.mem_iff.1 he');refine .inr ⟨e',s++t,w1,perm_middle,h2,?_⟩;rw[h3];simp[dB,dE]
theorem F6{l done todo:List (Ent κ)}{e:Ent κ}{rest:List (Ent κ)}(hp:(done++todo).Perm l)(ht:todo.Perm (e::rest)):((done++[e])++rest).Perm l:=by
 rw[append_assoc];exact((ht.symm.append_left done).trans hp)
theorem uH{P:Program}{enc:κ->Value}{Ok:κ->Prop}{w:World}{r b c:Nat}{l done:List (Ent κ)}{e:Ent κ}(hr:w.heap[r]?=some (dB b c (done++[e])))(hb:w.heap[b]?=some (aO enc l c))(hm:MapOk Ok l c)(he:e∈l):
  (Instr.entry (.pointer (some ⟨r,0,none⟩))).run P w=.ok (.tuple #[enc e.key,e.val]) w:=by
 have hr':w.heap[r]?=some (.mapIter (some b) c ((done.map (·.born)).toArray.push (dE enc e).born) c):=by rw[hr];simp[dB,dE]
 exact run_entry_at w r b c _ _ c (dE enc e) hr' hb (by simp;exact⟨e,he,rfl⟩) (by simpa[map_map,Function.comp_def,dE]using hm.borns)
theorem E4{P:Program}{enc:κ->Value}{w:World}{o:Oper}{a:Act}{K:Act->World->Prop}{Q:Exit->Act->World->Prop}(m:Operand){t k ev:TypeId}(hop:o.op=.range t m)(ht:P.underlying t=some (.map k ev)){b:Nat}{l:List (Ent κ)}{c:Nat}(hb:w.heap[b]?=some (aO enc l c))(hmv:a.eval m=.map (some b))(hK:K (a.put o.dst (.pointer (some ⟨w.heap.size,0,none⟩))) (w.alloc (dB b c ([]:List (Ent κ))))):o.wp P a w K Q:=by
 refine nA (v:=.pointer (some ⟨w.heap.size,0,none⟩)) (w':=w.alloc (dB b c ([]:List (Ent κ)))) ?_ hK;have:=run_range_map (P:=P) w t k ev b _ c ht hb;simp[execOp,hop,hmv,this,Result.andThen,dB]
end
end
section
open Go.RowKit Go.Maps
open Go.ChangeMaps (setBlock)
section
variable {P:Program} {o:Oper} {a:Act} {w:World} {K:Act->World->Prop} {Q:Exit->Act->World->Prop} {F G:HF} {a0:World}
theorem iJ{κ:Type}[DecidableEq κ]{k t ev:TypeId}{enc:κ->Value}{Ok:κ->Prop}(E:EncOk P k enc Ok)(m x:Operand)(hop:o.op=.lookup t m x true)(ht:P.underlying t=some (.map k ev)){b:Nat}{l:List (Ent κ)}{c:Nat}(hb:w.heap[b]?=some (aO enc l c))(hm:MapOk Ok l c){z:Value}(hz:(zeroValue ev).run P w=.ok z w)(key:κ)(hmv:a.eval m=.map (some b))(hx:a.eval x=enc key)(hk:Ok key)(hK:K (a.put o.dst (.tuple #[(dz l key).getD z,.bool (iv l key)])) w):o.wp P a w K Q:=by
 refine nA (v:=.tuple #[(dz l key).getD z,.bool (iv l key)]) (w':=w) ?_ hK;simp[execOp,hop,hmv,hx,uK E ht hb hm hz hk,Result.andThen]
end
def jf(id:Nat):Code->Option Code
 | .region i ops d=>if i=id then some (.region i ops d)else none
 | .seq a b=>match jf id a with|some r=>some r|none=>jf id b
 | .cond _ a b=>match jf id a with|some r=>some r|none=>jf id b
 | .block _ c=>jf id c
 | .scope c=>jf id c
 | .loop c=>jf id c
 | .rangeFunc _ _ a b=>match jf id a with|some r=>some r|none=>jf id b
 | _=>none
noncomputable def Jd(id:Nat)(f:Func):Code:=(f.body.bind (jf id)).getD .skip
theorem Kl:(Tryz.prog.info? 35).map (fun i=>(i.zero,i.size,i.bytes))=some (some (.slice none 0 0),1,24):=by kernel_rfl
theorem mr{o:Oper}{a:Act}{w a0:World}{K:Act->World->Prop}{Q:Exit->Act->World->Prop}{F G:HF}(s x:Operand)(hop:o.op=.call { callee:=.builtin .append,args:=#[s,x],argTypes:=#[36,36] })(v:Value)(l:List Value)(hs:a.eval s=v)(hT:Turns F (bK 35 1 v l.length l++G) a0 w)(hok:et 1 v l.length l)(n:Nat)(u:Value)(hx:a.eval x=.slice (some ⟨n,0,none⟩) 1 1)(hu:u.oneCell'=true)(hc:w.cell? ⟨n,0,none⟩=some u)(hb:l.length<=1000000)(hk:∀v' w',et 1 v' (l++[u]).length (l++[u])->Turns F (bK 35 1 v' (l++[u]).length (l++[u])++G) a0 w'->K (a.put o.dst v') w'):o.wp Tryz.prog a w K Q:=by
 obtain⟨i0,hi0,hz1,hz2,hz3⟩:=info_parts Kl;refine cV s x 36 35 i0 (.slice none 0 0) 1 24 hop Tryz.underlying36 hi0 hz1 hz2 hz3 rfl (by decide) v l.length l hs hT hok (some ⟨n,0,none⟩) 1 1 hx [u] rfl (fun _=>⟨_,rfl,fun j y hj=>?_⟩) (fun y hy=>by simp at hy;subst hy;exact hu) (by unfold maxLen;omega) (by omega) (fun v' w' h1 h2 _=>?_)
 ·cases j with
  | zero=>simp only[getElem?_cons_zero,Option.some.injEq]at hj;subst hj;rw[Addr.add_lit,Nat.zero_add];exact hc
  | succ j=>simp at hj
 ·exact hk v' w' (by rw[length_append];exact h1) (by rw[length_append];exact h2)
end
section
open Go.RowKit Go.Maps
structure RVer where
 path:Bs
 num:Int
 cont:Bs
 cv:Value
 held:Int
structure RTag where
 name:Bs
 path:Bs
 num:Int
structure RefL where
 blk:Nat
 vv:Value
 vs:List RVer
 tv:Value
 ts:List RTag
 quota:Int
 closed:Bool
def lC(v:RVer):List Value:=[str v.path,.int .i64 v.num,v.cv,.int .i64 v.held]
def bu(l:List RVer):List Value:=l.flatMap lC
def oG(t:RTag):List Value:=[str t.name,str t.path,.int .i64 t.num]
def cG(l:List RTag):List Value:=l.flatMap oG
theorem bp(l:List RVer):(bu l).length=l.length*4:=by
 induction l with
 | nil=>rfl
 | cons a r ih=>simp only[bu,flatMap_cons,length_append,length_cons]at ih ⊢;rw[ih];simp[lC];omega
theorem b5(l:List RTag):(cG l).length=l.length*3:=by
 induction l with
 | nil=>rfl
 | cons a r ih=>simp only[cG,flatMap_cons,length_append,length_cons]at ih ⊢;rw[ih];simp[oG];omega
theorem jl(l m:List RVer):bu (l++m)=bu l++bu m:=by simp[bu]
theorem jj(l m:List RTag):cG (l++m)=cG l++cG m:=by simp[cG]
def dm(v:Value)(l:List RVer):HF:=bK 147 4 v l.length (bu l)
def nh(v:Value)(l:List RVer):Prop:=et 4 v l.length (bu l)
def dP(v:Value)(l:List RTag):HF:=bK 163 3 v l.length (cG l)
def DV(v:Value)(l:List RTag):Prop:=et 3 v l.length (cG l)
def bJ(R:RefL):Array Value:=#[R.vv,R.tv,.int .i64 R.quota,.bool R.closed]
def fQ(R:RefL):Obj:=.cells (bJ R) 46 (0,0)
def aI(R:RefL):HF:=(R.blk,Is (fQ R))::(dm R.vv R.vs++dP R.tv R.ts)
structure RefOk (R:RefL):Prop where
 vs:nh R.vv R.vs
 ts:DV R.tv R.ts
abbrev eO:=List (Value×Bs)
def bi(P:eO):HF:=P.flatMap fun p=>aA p.1 p.2
def qI(P:eO):Prop:=∀p∈P,bOk p.1 p.2
def ry(P:eO)(R:RefL):Prop:=∀v∈R.vs,(v.cv,v.cont)∈P
theorem kn{P:eO}(h:qI P){w:World}(hs:Sat w (bi P)){v:Value}{l:Bs}(hm:(v,l)∈P):∃sl cap,v=.slice sl l.length cap/\l.length<=cap/\ak w sl (l.map al)/\(∀x,sl=some x->x.block∈dom (bi P)):=by
 have h1:Sat w (aA v l):=Sat.flat (f:=fun p:Value×Bs=>aA p.1 p.2) hs hm;obtain⟨a,c,e,-,h3,h4,h5⟩:=aL (cZ h1 (h _ hm));refine⟨a,c,e,h3,h4,fun x hx=>?_⟩;have hb:x.block∈dom (aA v l):=(eK _ _ _ _ _ _).2 (h5 x hx);obtain⟨p,hp,hpe⟩:=mem_map.1 hb;exact mem_map.2 ⟨p,mem_flatMap.2 ⟨_,hm,hp⟩,hpe⟩
theorem dl{w:World}{e size n:Nat}{v:Value}{xs:List Value}(hs:Sat w (bK e size v n xs))(h:et size v n xs):v.oneCell'=true/\v.cells=#[v]/\∃a cap,v=.slice a n cap/\n<=cap/\cap<=9223372036854775807:=by
 rcases(aR hs h).2 with⟨rfl,rfl⟩|⟨g,cap,cur,rfl,_,_,h1,h2,_,_⟩
 ·exact⟨rfl,rfl,none,0,rfl,Nat.le_refl _,by omega⟩
 ·exact⟨rfl,rfl,_,cap,rfl,h1,by unfold maxLen at h2;omega⟩
theorem bv{w:World}{e size n:Nat}{v:Value}{xs:List Value}(hs:Sat w (bK e size v n xs))(h:et size v n xs)(_:0<size):∃a cap,v=.slice a n cap/\n<=cap/\cap<=9223372036854775807/\ak w a xs/\(∀x,a=some x->v.ownBlock=some x.block):=by
 obtain⟨hl,hc⟩:=aR hs h;rcases hc with⟨rfl,rfl⟩|⟨g,cap,cur,rfl,_,hg,h1,h2,h3,h4⟩
 ·refine⟨none,0,rfl,Nat.le_refl _,by omega,fun hp=>?_,fun x hx=>by cases hx⟩;rw[hl]at hp;simp at hp
 ·refine⟨_,cap,rfl,h1,by unfold maxLen at h2;omega,fun hp=>⟨g,0,rfl,fun j hj=>?_⟩,fun x hx=>by obtain rfl:=Option.some.inj hx;rfl⟩;rw[Nat.zero_add];refine aa hg j ?_;rw[<- Array.getElem?_toList];have e1:(cur.toList.take (n*size))[j]?=cur.toList[j]?:=by rw[getElem?_take];rw[if_pos (by omega)]
  rw[<- e1,h4];exact getElem?_eq_getElem hj
theorem IQ:(Tryz.prog.info? 147).map (fun i=>(i.zero,i.size,i.bytes))=some (some (.agg #[str [],.int .i64 0,.slice none 0 0,.int .i64 0]),4,56):=by kernel_rfl
theorem IP:(Tryz.prog.info? 163).map (fun i=>(i.zero,i.size,i.bytes))=some (some (.agg #[str [],str [],.int .i64 0]),3,40):=by kernel_rfl
theorem Gx{l:List RVer}(h:∀v∈l,v.cv.oneCell'=true):∀u∈bu l,u.oneCell'=true:=fun u hu=>by
 obtain⟨v,hv,hx⟩:=mem_flatMap.1 hu
 simp only[lC,mem_cons,not_mem_nil,or_false]at hx
 rcases hx with rfl|rfl|rfl|rfl
 ·rfl
 ·rfl
 ·exact h v hv
 ·rfl
theorem Gs(l:List RTag):∀u∈cG l,u.oneCell'=true:=fun u hu=>by
 obtain⟨v,hv,hx⟩:=mem_flatMap.1 hu
 simp only[oG,mem_cons,not_mem_nil,or_false]at hx
 rcases hx with rfl|rfl|rfl<;>rfl
theorem ig{o:Oper}{a:Act}{w a0:World}{K:Act->World->Prop}{Q:Exit->Act->World->Prop}{F G:HF}(s x:Operand)(hop:o.op=.call { callee:=.builtin .append,args:=#[s,x],argTypes:=#[43,43] })(v:Value)(l:List RVer)(hs:a.eval s=v)(hT:Turns F (dm v l++G) a0 w)(hok:nh v l)(sa:Option Addr)(m c:Nat)(hx:a.eval x=.slice sa m c)(r:List RVer)(hm:m=r.length)(hc:ak w sa (bu r))(h1:∀v∈r,v.cv.oneCell'=true)(hb:l.length+r.length<=1000000)(hk:∀v' w',nh v' (l++r)->Turns F (dm v' (l++r)++G) a0 w'->K (a.put o.dst v') w'):o.wp Tryz.prog a w K Q:=by
 obtain⟨i0,hi0,hz1,hz2,hz3⟩:=info_parts IQ;refine cV s x 43 147 i0 (.agg #[str [],.int .i64 0,.slice none 0 0,.int .i64 0]) 4 56 hop Tryz.underlying43 hi0 hz1 hz2 hz3 rfl (by decide) v l.length (bu l) hs hT hok sa m c hx (bu r) (by rw[bp,hm]) (fun hp=>?_) (Gx h1) (by unfold maxLen;omega) (by omega) (fun v' w' k1 k2 _=>hk v' w' (by unfold nh;rw[length_append,jl,<- hm];exact k1) (by unfold dm;rw[length_append,jl,<- hm];exact k2));obtain⟨g,off,e,hcc⟩:=hc (by rw[bp];omega);exact⟨_,e,fun j u hu=>by obtain⟨hj,rfl⟩:=List.getElem?_eq_some_iff.1 hu;rw[Addr.add_lit];exact hcc j hj⟩
theorem ie{o:Oper}{a:Act}{w a0:World}{K:Act->World->Prop}{Q:Exit->Act->World->Prop}{F G:HF}(s x:Operand)(hop:o.op=.call { callee:=.builtin .append,args:=#[s,x],argTypes:=#[44,44] })(v:Value)(l:List RTag)(hs:a.eval s=v)(hT:Turns F (dP v l++G) a0 w)(hok:DV v l)(sa:Option Addr)(m c:Nat)(hx:a.eval x=.slice sa m c)(r:List RTag)(hm:m=r.length)(hc:ak w sa (cG r))(hb:l.length+r.length<=1000000)(hk:∀v' w',DV v' (l++r)->Turns F (dP v' (l++r)++G) a0 w'->K (a.put o.dst v') w'):o.wp Tryz.prog a w K Q:=by
 obtain⟨i0,hi0,hz1,hz2,hz3⟩:=info_parts IP;refine cV s x 44 163 i0 (.agg #[str [],str [],.int .i64 0]) 3 40 hop Tryz.underlying44 hi0 hz1 hz2 hz3 rfl (by decide) v l.length (cG l) hs hT hok sa m c hx (cG r) (by rw[b5,hm]) (fun hp=>?_) (Gs _) (by unfold maxLen;omega) (by omega) (fun v' w' k1 k2 _=>hk v' w' (by unfold DV;rw[length_append,jj,<- hm];exact k1) (by unfold dP;rw[length_append,jj,<- hm];exact k2));obtain⟨g,off,e,hcc⟩:=hc (by rw[b5];omega);exact⟨_,e,fun j u hu=>by obtain⟨hj,rfl⟩:=List.getElem?_eq_some_iff.1 hu;rw[Addr.add_lit];exact hcc j hj⟩
def zC(R:RefL)(w:World)(e:Ending)(w':World):Prop :=
 ∃b' vv' tv',e=.returned (.pointer (some ⟨b',0,none⟩))/\RefOk { R with blk:=b',vv:=vv',tv:=tv',closed:=false }/\Turns (aI R) (aI { R with blk:=b',vv:=vv',tv:=tv',closed:=false }++aI R) w w'
theorem vy(R:RefL)(w:World)(h:Sat w (aI R))(hok:RefOk R)(h1:∀v∈R.vs,v.cv.oneCell'=true)(hl:R.vs.length<=1000000/\R.ts.length<=1000000):
  Calls Tryz.prog 35 #[.pointer (some ⟨R.blk,0,none⟩)] w (zC R w):=by
 obtain⟨-,-,sl,cap,e1,-,-⟩:=dl h.tail.left hok.vs;obtain⟨-,-,tl,tcap,e2,-,-⟩:=dl h.tail.right hok.ts;have c2:w.cell? ⟨R.blk,2,none⟩=some (.int .i64 R.quota):=aa h.Q5 2 rfl;have hbl:=ae h.Q5;have HH:=Hq6 h hok h1 hl e1 e2;clear h hok h1 hl e1 e2;go_enter Tryz.func35,Tryz.ntmps35;go_wp2_with fail;obtain⟨cb,hcb⟩:∃cb,cb=w.heap.size:=⟨_,rfl⟩;rw[<- hcb];obtain⟨CC,hCC⟩:∃CC:Array Value,CC=#[.slice none 0 0,.slice none 0 0,.int .i64 R.quota,.bool false]:=⟨_,rfl⟩
 have k0:Turns (aI R) (dm (.slice none 0 0) []++((cb,Is (.cells CC 46 (0,0)))::(R.blk,Is (fQ R))::(dm R.vv R.vs++dP R.tv R.ts))) w (w.alloc (.cells #[.slice none 0 0,.slice none 0 0,.int .i64 R.quota,.bool false] 46)):=by
  rw[hcb,hCC];exact(Turns.refl HH.a).Q8 _
 have HK:=qqH k0;have HC:=qqH hCC;clear k0 hcb hCC;refine db [([0,1,2,3,4,5,6,7,8],9,[0]),([10,11],12,[])] [] HM.out (by kernel_rfl) fun W tW=>?_
 simp only[Mix,map_cons,map_nil,nth,QG,QF];have k0:=tW HK.out;clear tW;have g0:W.cell? ⟨cb,0,none⟩=some (.slice none 0 0):=aa (HC.out ▸ k0.sat.Q5) 0 rfl;have g1:W.cell? ⟨R.blk,0,none⟩=some (.slice sl R.vs.length cap):=aa (k0.sat.Q7 (b:=R.blk) (o:=fQ R) (by simp)) 0 (by rw[<- HH.e];rfl);repeat still_step
 obtain⟨a',c',e1,-,-,hc,-⟩:=bv (k0.sat.sub (G:=dm R.vv R.vs) bB) HH.b.vs (by decide);rw[HH.e]at e1;simp only[Value.slice.injEq]at e1;obtain⟨rfl,-,-⟩:=e1;refine wpStill_nil (ig (.tmp 14) (.tmp 18) rfl (.slice none 0 0) [] rfl k0 ⟨rfl,fun _=>⟨rfl,rfl⟩⟩ sl R.vs.length cap rfl R.vs rfl hc HH.c (by simpa using HH.d.1) fun vv2 W1 q1 k1=>⟨by(repeat still_step);exact rfl,?_⟩);simp only[Act.put,QA,QB,QC];repeat still_step
 rw[nil_append]at q1 k1;have p1:=dl k1.sat.left q1;refine wpStill_nil (bb 43 (.tmp 21) (.tmp 19) rfl cb 0 CC 46 vv2 (k1.to (H:=(cb,Is (.cells CC 46 (0,0)))::((R.blk,Is (fQ R))::(dm vv2 R.vs++(dm R.vv R.vs++dP R.tv R.ts)))) ac) rfl rfl (by rw[HC.out];simp) (by kernel_rfl) p1.1 p1.2.1 fun W2 k2=>⟨rfl,?_⟩);simp only[Act.put];refine wpStill_nil ?_;have HT2:=Hq2 q1 k2;clear k0 g0 g1 hc q1 k1 p1 k2;go_wp2_with fail;refine db [([0,1,2,3,4,5,6,7,8],9,[0]),([10,11],12,[])] [] HM.out (by kernel_rfl) fun W tW=>?_
 simp only[Mix,map_cons,map_nil,nth,QG,QF];have k0:=tW HT2.z;clear tW;have g0:W.cell? ⟨cb,1,none⟩=some (.slice none 0 0):=aa (HC.out ▸ k0.sat.Q5) 1 rfl;have g1:W.cell? ⟨R.blk,1,none⟩=some (.slice tl R.ts.length tcap):=aa (k0.sat.Q7 (b:=R.blk) (o:=fQ R) (by simp)) 1 (by rw[<- HH.v];rfl);repeat still_step
 obtain⟨a',c',e1,-,-,hc,-⟩:=bv (k0.sat.sub (G:=dP R.tv R.ts) bB) HH.b.ts (by decide);rw[HH.v]at e1;simp only[Value.slice.injEq]at e1;obtain⟨rfl,-,-⟩:=e1;refine wpStill_nil (ie (.tmp 26) (.tmp 30) rfl (.slice none 0 0) [] rfl k0 ⟨rfl,fun _=>⟨rfl,rfl⟩⟩ tl R.ts.length tcap rfl R.ts rfl hc (by simpa using HH.d.2) fun tv3 W1 q1 k1=>⟨by(repeat still_step);exact rfl,?_⟩);simp only[Act.put,QA,QB,QC];repeat still_step
 rw[nil_append]at q1 k1;have p1:=dl k1.sat.left q1;refine wpStill_nil (bb 44 (.tmp 33) (.tmp 31) rfl cb 1 (CC.setIfInBounds 0 vv2) 46 tv3 (k1.to (H:=(cb,Is (.cells (CC.setIfInBounds 0 vv2) 46 (0,0)))::((R.blk,Is (fQ R))::(dP tv3 R.ts++(dm vv2 R.vs++(dm R.vv R.vs++dP R.tv R.ts))))) ac) rfl rfl (by rw[HC.out];simp) (by kernel_rfl) p1.1 p1.2.1 fun W2 k2=>⟨rfl,?_⟩);simp only[Act.put];refine wpStill_nil ?_;have HT3:=Hq2 q1 k2;clear k0 g0 g1 hc q1 k1 p1 k2;go_wp2_with fail;go_ret;refine ⟨cb,vv2,tv3,rfl,⟨HT2.a,HT3.a⟩,?_⟩;have hT4:=HT3.z;have e4:(CC.setIfInBounds 0 vv2).setIfInBounds 1 tv3=bJ { R with blk:=cb,vv:=vv2,tv:=tv3,closed:=false }:=by rw[HC.out];rfl
 rw[e4]at hT4;exact hT4.to (by unfold aI fQ;exact ac)
end
section
open Go.RowKit
def Hm(s:ByteArray)(w:World)(B:Bool)(v i:Value)(wr:World):Prop :=
 ∃k m x:Nat,k<=s.size/\v=.int .u8 x/\i=.int .i64 k/\(x=47↔m=0)/\ek m (s.data.toList.drop k)=B/\aQ w wr
theorem vJ(s:ByteArray)(w:World)(h:s.size=0):Calls Tryz.prog 59 #[.string s] w (fU false w):=by
 go_enter Tryz.func59,Tryz.ntmps59;go_wp2_with fail;go_ret;exact ⟨rfl,Mods.refl _ _⟩
theorem yO(s:ByteArray)(w:World)(h:¬s.size=0)(hl:¬(s.size:Int)<=20):Calls Tryz.prog 59 #[.string s] w (fU false w):=by
 have h2:¬((s.size:Int)=0):=by omega
 have h3:(20:Int)<(s.size:Int):=by omega
 go_enter Tryz.func59,Tryz.ntmps59;go_wp2_with fail;go_ret;exact ⟨rfl,Mods.refl _ _⟩
theorem Bp(s:ByteArray)(w:World)(h:¬s.size=0)(hl:(s.size:Int)<=20):Calls Tryz.prog 59 #[.string s] w (fU (ek 0 s.data.toList) w):=by
 have h2:¬((s.size:Int)=0):=by omega
 have h3:¬(20:Int)<(s.size:Int):=by omega
 go_enter Tryz.func59,Tryz.ntmps59;go_wp2_with fail;clear h2 h3;go_loopw [3,4] (fun v i wr=>Hm s w (ek 0 s.data.toList) v i wr) (fun _ i _=>s.size-(intOf i).toNat)
 case atStart=>exact⟨0,0,47,Nat.zero_le _,rfl,rfl,by omega,by simp,Mods.refl _ _⟩
 case round =>
  obtain⟨k,m,x,hk,rfl,rfl,hxm,hB,hs⟩:=hrel;have HB:=Hq3 hB hs hxm;clear hB hs hxm h;by_cases hlt:k<s.size
  ·have hsl:s.data.toList.length=s.size:=by simp
   have hdr:s.data.toList.drop k=s[k]::s.data.toList.drop (k+1):=by
    rw[drop_eq_getElem_cons (by omega)];rfl
   have HD:=qqH hdr;clear hdr hsl;go_upto_region 8 with(fail);obtain⟨c,hc⟩:∃c,c=s[k].toNat:=⟨_,rfl⟩;have hcl:c<256:=by rw[hc];exact UInt8.toNat_lt _
   have hB2:(if c=47/\0<m then ek 0 (s.data.toList.drop (k+1))else if ld c then ek (m+1) (s.data.toList.drop (k+1))else false)=ek 0 s.data.toList:=by
    have:=HB.a;rw[HD.out,ek,<- hc,uq,<- hc]at this;exact this
   have HB2:=qqH hB2;simp only[<- hc];clear hB2 hc;by_cases c1:c=47
   ·subst c1;by_cases hx:x=47
    ·have hm:m=0:=(HB.y).1 hx;subst hx;go_wp2_with fail;go_ret;refine ⟨?_,HB.b⟩;have:=HB2.out;rw[if_neg (by omega),if_neg (by decide)]at this;rw[<- this];rfl
    ·have hm:0<m:=by have:=HB.y;omega
     have hx2:¬((x:Int)=47):=by omega
     go_wp2_with fail;go_roundw
     case rel=>exact⟨k+1,0,47,by omega,rfl,by go_num,by omega,by have:=HB2.out;rwa [if_pos ⟨rfl,hm⟩]at this,HB.b⟩
     case measure=>simp[intOf];omega
   ·by_cases c2:ld c=true
    ·have HC2:=qqH c2;have hne:¬(c:Int)=47:=by omega
     have hp:(97<=c/\c<=122)\/(48<=c/\c<=57)\/c=46\/c=45\/c=95:=by
      unfold ld at c2;simp only[Bool.or_eq_true,Bool.and_eq_true,decide_eq_true_eq,beq_iff_eq]at c2;omega
     clear c2;rcases hp with hp|hp|hp|hp|hp
     all_goals first|subst hp|(obtain⟨hp1,hp2⟩:=hp;have hp3:(c:Int)<=122:=by omega)
     all_goals go_wp2_with fail
     all_goals
      go_roundw
      case rel=>exact⟨k+1,m+1,_,by omega,rfl,by go_num,(by omega),(by have:=HB2.out;rw[if_neg (by first|omega|decide),if_pos HC2.out]at this;exact this),HB.b⟩
      case measure=>first|(simp[intOf];done)|(simp[intOf];omega)
    ·have HC2:=qqH c2
     have hp:¬(97<=c/\c<=122)/\¬(48<=c/\c<=57)/\¬c=46/\¬c=45/\¬c=95:=by
      unfold ld at c2;simp only[Bool.or_eq_true,Bool.and_eq_true,decide_eq_true_eq,beq_iff_eq]at c2;omega
     obtain⟨hp1,hp2,hp3,hp4,hp5⟩:=hp;have hne:¬(c:Int)=47:=by omega
     clear c2
     have hE:Ending.returned (Value.bool false)=.returned (.bool (ek 0 s.data.toList)):=by
      have:=HB2.out;rw[if_neg (by omega),if_neg HC2.out]at this;rw[<- this]
     have HE:=qqH hE;clear hE;have q1:((c:Int)==46)=false:=by simp;omega
     have q2:((c:Int)==45)=false:=by simp;omega
     have q3:((c:Int)==95)=false:=by simp;omega
     have q4:((c:Int) != 47)=true:=by simp;omega
     rcases(show c<48\/(57<c/\c<97)\/122<c by omega)with hq|⟨hq,hq'⟩|hq
     ·have r1:¬(97:Int)<=c:=by omega
      have r2:¬(48:Int)<=c:=by omega
      go_wp2_with fail;go_ret;exact (by exact⟨HE.out,HB.b⟩)
     ·have r1:¬(97:Int)<=c:=by omega
      have r2:(48:Int)<=c:=by omega
      have r3:decide ((c:Int)<=57)=false:=by simp;omega
      go_wp2_with fail;go_ret;exact (by exact⟨HE.out,HB.b⟩)
     ·have r1:(97:Int)<=c:=by omega
      have r2:(48:Int)<=c:=by omega
      have r3:decide ((c:Int)<=57)=false:=by simp;omega
      have r4:decide ((c:Int)<=122)=false:=by simp;omega
      go_wp2_with fail;go_ret;exact (by exact⟨HE.out,HB.b⟩)
  ·obtain rfl:k=s.size:=by omega
   go_wp2_with fail;go_ret;refine ⟨?_,HB.b⟩;have h1:=HB.a;have h2:=HB.y;rw[drop_of_length_le (by simp),ek]at h1;show Ending.returned (Value.bool ((x:Int) != 47))=_;rw[<- h1];by_cases hx:x=47
   ·have hm:=h2.1 hx;subst hx;subst hm;rfl
   ·have hm:0<m:=by omega
    have:((x:Int) != 47)=true:=by simp;omega
    rw[this,decide_eq_true hm]
theorem jh(l:Bs)(w:World):Calls Tryz.prog 59 #[str l] w (fU (aq l) w):=by
 have hs:(⟨l.toArray⟩:ByteArray).size=l.length:=by simp[ByteArray.size]
 have hd:(⟨l.toArray⟩:ByteArray).data.toList=l:=by simp
 unfold aq;by_cases h0:l=[]
 ·rw[decide_eq_false (by simpa using h0)];exact vJ _ w (by rw[hs,h0];rfl)
 ·have hne:¬(⟨l.toArray⟩:ByteArray).size=0:=by rw[hs];exact fun h=>h0 (eq_nil_of_length_eq_zero h)
  rw[decide_eq_true (by simpa using h0)];by_cases h1:l.length<=20
  ·rw[decide_eq_true h1];have:=Bp ⟨l.toArray⟩ w hne (by rw[hs];omega);rw[hd]at this;simpa using this
  ·rw[decide_eq_false h1];simpa using yO ⟨l.toArray⟩ w hne (by rw[hs];omega)
end
section
open Go.RowKit Go.Maps
theorem xC:∀(l:List RVer) (i:Nat) (h:i<l.length) (j:Nat) (_:j<4),(bu l)[i*4+j]?=(lC l[i])[j]?
 | [],i,h,_,_=>by simp at h
 | a::r,0,_,j,hj=>by
  simp only[bu,flatMap_cons,Nat.zero_mul,Nat.zero_add,getElem_cons_zero]
  rw[getElem?_append_left (by simpa[lC]using hj)]
 | a::r,i+1,h,j,hj=>by
  simp only[bu,flatMap_cons,getElem_cons_succ]
  rw[getElem?_append_right (by simp[lC];omega),show(i+1)*4+j-(lC a).length=i*4+j by simp[lC];omega]
  exact xC r i (by simpa using h) j hj
theorem yY{w:World}{g off:Nat}{l:List RVer}(h:∀j (h:j<(bu l).length),w.cell? ⟨g,off+j,none⟩=some ((bu l)[j]'h)){i:Nat}(hi:i<l.length):
  w.cell? ⟨g,off+i*4,none⟩=some (str l[i].path)/\w.cell? ⟨g,off+i*4+1,none⟩=some (.int .i64 l[i].num)/\w.cell? ⟨g,off+i*4+2,none⟩=some l[i].cv/\w.cell? ⟨g,off+i*4+3,none⟩=some (.int .i64 l[i].held):=by
 have key:∀j (hj:j<4) (v:Value),(lC l[i])[j]?=some v->w.cell? ⟨g,off+i*4+j,none⟩=some v:=fun j hj v hv=>by
  have h1:=xC l i hi j hj;rw[hv]at h1;obtain⟨p,e⟩:=List.getElem?_eq_some_iff.1 h1;have h2:=h (i*4+j) p;rw[<- Nat.add_assoc]at h2;rw[h2,e]
 exact⟨key 0 (by omega) _ rfl,key 1 (by omega) _ rfl,key 2 (by omega) _ rfl,key 3 (by omega) _ rfl⟩
structure RefAt (R:RefL) (P:eO) (w:World):Prop where
 ref:Sat w (aI R)
 ok:RefOk R
 pool:Sat w (bi P)
 pok:qI P
 inp:ry P R
 len:R.vs.length<=100000
 clen:∀v∈R.vs,v.cont.length<=100000
theorem RefAt.same{R:RefL}{P:eO}{w w':World}(h:RefAt R P w)(hs:aQ w w'):RefAt R P w':=⟨h.ref.same hs,h.ok,h.pool.same hs,h.pok,h.inp,h.len,h.clen⟩
theorem RefAt.row{R:RefL}{P:eO}{w:World}(h:RefAt R P w):∃sl cap,R.vv=.slice sl R.vs.length cap/\R.vs.length<=cap/\cap<=9223372036854775807/\w.heap[R.blk]?=some (fQ R)/\(0<R.vs.length->∃g off,sl=some ⟨g,off,none⟩/\∀i (hi:i<R.vs.length),w.cell? ⟨g,off+i*4,none⟩=some (str R.vs[i].path)/\w.cell? ⟨g,off+i*4+1,none⟩=some (.int .i64 R.vs[i].num)/\w.cell? ⟨g,off+i*4+2,none⟩=some R.vs[i].cv/\w.cell? ⟨g,off+i*4+3,none⟩=some (.int .i64 R.vs[i].held)):=by
 obtain⟨sl,cap,e1,e2,e3,hc,-⟩:=bv h.ref.tail.left h.ok.vs (by decide);refine⟨sl,cap,e1,e2,e3,h.ref.Q5,fun hp=>?_⟩;obtain⟨g,off,hg,hcc⟩:=hc (by rw[bp];omega);exact⟨g,off,hg,fun i hi=>yY hcc hi⟩
theorem RefAt.cont{R:RefL}{P:eO}{w:World}(h:RefAt R P w){v:RVer}(hv:v∈R.vs):∃sl cap,v.cv=.slice sl v.cont.length cap/\v.cont.length<=cap/\ak w sl (v.cont.map al)/\(∀x,sl=some x->x.block∈dom (bi P)):=kn h.pok h.pool (h.inp v hv)
def fS(l:List RVer):Nat:=(l.map (·.cont.length)).sum
theorem Cg{l:List RVer}(h:∀v∈l,v.cont.length<=100000):fS l<=100000*l.length:=by
 unfold fS;induction l with
 | nil=>simp
 | cons a r ih =>
  have h1:=h a (by simp);have h2:=ih (fun v hv=>h v (by simp[hv]));simp only[map_cons,sum_cons,length_cons];omega
theorem Br(R:RefL)(P:eO)(w:World)(h:RefAt R P w):Calls Tryz.prog 60 #[.pointer (some ⟨R.blk,0,none⟩)] w (fun e w'=>e=.returned (.int .i64 (fS R.vs:Nat))/\aQ w w'):=by
 obtain⟨sl,cap,e1,e2,e3,hb,hcell⟩:=h.row;have HC:=qqH (fun v hv=>h.cont (v:=v) hv);have hlen:=h.len;have HL:=qqH h.clen;have c0:w.cell? ⟨R.blk,0,none⟩=some (.slice sl R.vs.length cap):=by rw[<- e1];exact aa hb 0 rfl
 have hbl:=ae hb;have HH:=qqH hcell;clear h e1 hb hcell;go_enter Tryz.func60,Tryz.ntmps60;go_wp2_with fail;go_loopw [3,4] (fun n i wr=>∃k:Nat,k<=R.vs.length/\i=.int .i64 k/\n=.int .i64 (fS (R.vs.take k):Nat)/\wr=w) (fun _ i _=>R.vs.length-(intOf i).toNat)
 case atStart=>exact⟨0,Nat.zero_le _,rfl,rfl,rfl⟩
 case round =>
  obtain⟨k,hk,rfl,rfl,rfl⟩:=hrel;by_cases hlt:k<R.vs.length
  ·obtain⟨g,off,hg,hcc⟩:=HH.out (by omega);subst hg;obtain⟨-,-,hc,-⟩:=hcc k hlt;obtain⟨csl,ccap,hcv,-,-,-⟩:=HC.out R.vs[k] (getElem_mem hlt);rw[hcv]at hc
   have htk:fS (R.vs.take (k+1))=fS (R.vs.take k)+R.vs[k].cont.length:=by
    unfold fS;rw[QH hlt,map_append,sum_append];simp
   have hub:=Cg (l:=R.vs.take k) (fun v hv=>HL.out v (mem_of_mem_take hv));have hcl:=HL.out R.vs[k] (getElem_mem hlt);rw[length_take]at hub;obtain⟨q,hq⟩:∃q,q=fS (R.vs.take k):=⟨_,rfl⟩;obtain⟨cl,hcl2⟩:∃cl,cl=R.vs[k].cont.length:=⟨_,rfl⟩;rw[<- hq]at htk hub;rw[<- hcl2]at htk hcl hc;rw[<- hq];have HT:=qqH htk;have hub2:q<=100000*100000:=by have:=Nat.mul_le_mul_left 100000 (show min k R.vs.length<=100000 by omega);omega
   clear htk hcc hcv hq hcl2 hub;go_wp2_with fail;go_roundw
   case rel=>exact⟨k+1,by omega,by go_num,by rw[HT.out];go_num,by first|rfl|trivial⟩
   case measure=>simp[intOf];omega
  ·obtain rfl:k=R.vs.length:=by omega
   go_wp2_with fail;go_ret;refine ⟨?_,Mods.refl _ _⟩;rw[take_length];rfl
def kj(p:Bs)(n:Int)(v:RVer):Bool:=decide (v.path=p)&&(decide (v.num=n) || decide (n=0))
def bQ(vs:List RVer)(p:Bs)(n:Int):Nat->Int
 | 0=>-1
 | k+1=>if(vs[k]?).elim false (kj p n)then k else bQ vs p n k
theorem pK(vs:List RVer)(p:Bs)(n:Int):∀k,-1<=bQ vs p n k/\bQ vs p n k<k
 | 0=>by simp[bQ]
 | k+1=>by
  have:=pK vs p n k
  unfold bQ
  split<;>omega
theorem rG{vs:List RVer}{p:Bs}{n:Int}{k:Nat}(h:k<vs.length):bQ vs p n (k+1)=if kj p n vs[k]then(k:Int)else bQ vs p n k:=by
 rw[bQ,getElem?_eq_getElem h];rfl
theorem kN(R:RefL)(P:eO)(p:Bs)(n:Int)(w:World)(h:RefAt R P w):Calls Tryz.prog 65 #[.pointer (some ⟨R.blk,0,none⟩),str p,.int .i64 n] w (fun e w'=>e=.returned (.int .i64 (bQ R.vs p n R.vs.length))/\aQ w w'):=by
 have hlen:=h.len;have HH:=qqH h;have hbl:=ae h.ref.Q5;clear h;go_enter Tryz.func65,Tryz.ntmps65;go_wp2_with fail;go_loopw [7,8] (fun b i wr=>∃k:Nat,k<=R.vs.length/\i=.int .i64 k/\b=.int .i64 (bQ R.vs p n k)/\aQ w wr) (fun _ i _=>R.vs.length-(intOf i).toNat)
 case atStart=>exact⟨0,Nat.zero_le _,rfl,rfl,Mods.refl _ _⟩
 case round =>
  obtain⟨k,hk,rfl,rfl,hs⟩:=hrel;have hA:=HH.out.same hs;obtain⟨sl,cap,e1,e2,e3,hb,hcell⟩:=hA.row;have c0:wr.cell? ⟨R.blk,0,none⟩=some (.slice sl R.vs.length cap):=by rw[<- e1];exact aa hb 0 rfl
  have hbl':=ae hb;have HS:=Hq2 hs hA;clear hs e1 hb;by_cases hlt:k<R.vs.length
  ·obtain⟨g,off,hg,hcc⟩:=hcell (by omega);subst hg;obtain⟨h0,h1,h2,h3⟩:=hcc k hlt;obtain⟨csl,ccap,hcv,-,-,-⟩:=hA.cont (getElem_mem hlt);rw[hcv]at h2;have hnx:=rG (p:=p) (n:=n) hlt;unfold kj at hnx;obtain⟨pk,hpk⟩:∃pk,pk=R.vs[k].path:=⟨_,rfl⟩;obtain⟨nk,hnk⟩:∃nk,nk=R.vs[k].num:=⟨_,rfl⟩;rw[<- hpk]at h0 hnx;rw[<- hnk]at h1 hnx;have hgl:=World.block_lt_of_cell? wr _ h0;have HX:=qqH hnx;clear hcc hcell hA hcv hnx hpk hnk;by_cases hp:pk=p
   ·have hp':=hp.symm;clear hp;subst hp';by_cases hn:nk=n
    ·subst hn;have hfin:bQ R.vs p nk (k+1)=(k:Int):=by rw[HX.out];simp
     have HF:=qqH hfin;clear hfin;go_wp2_with fail;go_roundw
     case rel=>exact⟨k+1,by omega,by go_num,by rw[HF.out],by first|exact HS.a|exact HS.a.alloc _⟩
     case measure=>simp[intOf];omega
    ·by_cases hz:n=0
     ·subst hz;have hfin:bQ R.vs p 0 (k+1)=(k:Int):=by rw[HX.out];simp
      have HF:=qqH hfin;clear hfin;go_wp2_with fail;go_roundw
      case rel=>exact⟨k+1,by omega,by go_num,by rw[HF.out],by first|exact HS.a|exact HS.a.alloc _⟩
      case measure=>simp[intOf];omega
     ·have q1:(nk==n)=false:=by simp[hn]
      have q2:(n==0)=false:=by simp[hz]
      have hfin:bQ R.vs p n (k+1)=bQ R.vs p n k:=by rw[HX.out,decide_eq_false hn,decide_eq_false hz];simp
      have HF:=qqH hfin;clear hfin;go_wp2_with fail;go_roundw
      case rel=>exact⟨k+1,by omega,by go_num,by rw[HF.out],by first|exact HS.a|exact HS.a.alloc _⟩
      case measure=>simp[intOf];omega
   ·have hfin:bQ R.vs p n (k+1)=bQ R.vs p n k:=by rw[HX.out,decide_eq_false hp];simp
    have HF:=qqH hfin;clear hfin;go_wp2_with fail;go_roundw
    case rel=>exact⟨k+1,by omega,by go_num,by rw[HF.out],by first|exact HS.a|exact HS.a.alloc _⟩
    case measure=>simp[intOf];omega
  ·obtain rfl:k=R.vs.length:=by omega
   clear hcell;go_wp2_with fail;go_ret;exact (by exact⟨rfl,HS.a⟩)
def oE(R:RefL)(p:Bs)(n:Int):Option RVer:=if 0<=bQ R.vs p n R.vs.length then R.vs[(bQ R.vs p n R.vs.length).toNat]? else none
def cL(R:RefL)(p:Bs)(n:Int):Except Int RVer :=
 if R.closed then .error 9 else if aq p then(match oE R p n with|some v=>.ok v|none=>.error 3)else .error 1
def jn(R:RefL)(p:Bs)(n:Int)(w:World)(e:Ending)(w':World):Prop :=
 aQ w w'/\match cL R p n with|.ok v=>e=.returned (.tuple #[v.cv,.int .i64 0])/\v∈R.vs|.error k=>e=.returned (.tuple #[.slice none 0 0,.int .i64 k])
theorem ko(R:RefL)(P:eO)(p:Bs)(n:Int)(w:World)(h:RefAt R P w):Calls Tryz.prog 37 #[.pointer (some ⟨R.blk,0,none⟩),str p,.int .i64 n] w (jn R p n w):=by
 have HI:=qqH (jh p w);have hbl:=ae h.ref.Q5;have HH:=qqH h;clear h;go_enter Tryz.func37,Tryz.ntmps37;go_wp2_with fail;refine HI.out.mono ?_;rintro e w1 ⟨rfl,hs1⟩;have hA1:=HH.out.same hs1;have hb1:=hA1.ref.Q5;have c3:w1.cell? ⟨R.blk,3,none⟩=some (.bool R.closed):=aa hb1 3 rfl;have hbl1:=ae hb1;have H1:=Hq2 hs1 hA1;clear hs1 hA1 hb1
 cases hc:R.closed with
 | true =>
  rw[hc]at c3;have hr:cL R p n=.error 9:=by unfold cL;rw[hc,if_pos rfl]
  have HR:=qqH hr;clear hr hc;go_wp2_with fail;go_ret2;refine (by unfold jn;rw[HR.out];exact⟨H1.a,rfl⟩)
 | false =>
  rw[hc]at c3
  cases hp:aq p with
  | false =>
   have hr:cL R p n=.error 1:=by unfold cL;rw[hc,hp];rfl
   have HR:=qqH hr;clear hr hc;go_wp2_with fail;go_ret2;refine (by unfold jn;rw[HR.out];exact⟨H1.a,rfl⟩)
  | true =>
   have HF:=qqH (kN R P p n w1 H1.z);have HC:=qqH hc;have HP:=qqH hp;clear hc;go_wp2_with fail;refine HF.out.mono ?_;rintro e w2 ⟨rfl,hs2⟩;have hA2:=H1.z.same hs2;obtain⟨sl,cap,e1,e2,e3,hb,hcell⟩:=hA2.row;have c0:w2.cell? ⟨R.blk,0,none⟩=some (.slice sl R.vs.length cap):=by rw[<- e1];exact aa hb 0 rfl
   have hbl2:=ae hb;have hrange:=pK R.vs p n R.vs.length;have hrf:oE R p n=if 0<=bQ R.vs p n R.vs.length then R.vs[(bQ R.vs p n R.vs.length).toNat]? else none:=rfl
   obtain⟨b,hb'⟩:∃b,b=bQ R.vs p n R.vs.length:=⟨_,rfl⟩;rw[<- hb']at hrange hrf ⊢;have H2:=Hq2 (H1.a.trans hs2) hA2;clear hs2 hA2 hb e1 hb';by_cases hneg:b<0
   ·have hr:cL R p n=.error 3:=by unfold cL;rw[HC.out,if_neg (by simp),HP.out,if_pos rfl,hrf,if_neg (by omega)]
    have HR:=qqH hr;clear hr hrf hcell;go_wp2_with fail;go_ret2;refine (by unfold jn;rw[HR.out];exact⟨H2.a,rfl⟩)
   ·obtain⟨b,rfl⟩:∃b':Nat,b=b':=⟨b.toNat,by omega⟩;have hlt:b<R.vs.length:=by omega
    obtain⟨g,off,hg,hcc⟩:=hcell (by omega);subst hg;obtain⟨-,-,h2,-⟩:=hcc b hlt;obtain⟨csl,ccap,hcv,-,-,-⟩:=H2.z.cont (getElem_mem hlt);have hr:cL R p n=.ok R.vs[b]:=by unfold cL;rw[HC.out,if_neg (by simp),HP.out,if_pos rfl,hrf,if_pos (by omega),Int.toNat_natCast,getElem?_eq_getElem hlt]
    rw[hcv]at h2;have HR:=Hq3 hr hcv (getElem_mem hlt);clear hr hrf hcc hcell hcv;go_wp2_with fail;go_ret2;refine (by unfold jn;rw[HR.a];exact⟨H2.a,by rw[HR.b];rfl,HR.y⟩)
theorem DA{W:World}{sl:Option Addr}{X:Bs}{a c:Nat}(hW:ak W sl (X.map al))(ha:a<=X.length):(X.drop a).take c=[]\/∃g off,sl=some ⟨g,off,none⟩/\ak W (some ⟨g,off+a,none⟩) (((X.drop a).take c).map al):=by
 by_cases h0:X=[]
 ·subst h0;exact .inl (by simp)
 ·obtain⟨g,off,hg,-⟩:=hW (by rw[length_map];exact length_pos_iff.2 h0);refine .inr ⟨g,off,hg,?_⟩;rw[hg]at hW;have h1:=fW hW a ha;have h5:(X.drop a).take c=(X.drop a).take (min c (X.drop a).length):=by rw[<- take_take,take_length]
  rw[h5];exact j9 h1 _ (Nat.min_le_right _ _)
def jo(R:RefL)(p:Bs)(n a c:Int)(w:World)(e:Ending)(w':World):Prop :=
 aQ w w'/\match cL R p n with
  | .error k=>e=.returned (.tuple #[.slice none 0 0,.int .i64 k])
  | .ok v=>v∈R.vs/\(((a<0\/c<0\/(v.cont.length:Int)<a)/\e=.returned (.tuple #[.slice none 0 0,.int .i64 4])) \/
    (¬(a<0\/c<0\/(v.cont.length:Int)<a)/\∃sl cap,e=.returned (.tuple #[.slice sl ((v.cont.drop a.toNat).take c.toNat).length cap,.int .i64 0])/\ak w' sl (((v.cont.drop a.toNat).take c.toNat).map al)/\((v.cont.drop a.toNat).take c.toNat≠[]->∃g off cap',v.cv=.slice (some ⟨g,off,none⟩) v.cont.length cap'/\sl=some ⟨g,off+a.toNat,none⟩)))
theorem vK(R:RefL)(P:eO)(p:Bs)(n a c:Int)(w:World)(h:RefAt R P w)(hc9:c<=9223372036854775807):Calls Tryz.prog 39 #[.pointer (some ⟨R.blk,0,none⟩),str p,.int .i64 n,.int .i64 a,.int .i64 c] w (jo R p n a c w):=by
 have HG:=qqH (ko R P p n w h);have HH:=qqH h;clear h;go_enter Tryz.func39,Tryz.ntmps39;go_wp2_with fail;refine HG.out.mono ?_;intro e w1 hp;unfold jn at hp;obtain⟨hs,hp⟩:=hp
 cases hr:cL R p n with
 | error k =>
  rw[hr]at hp;subst hp
  have hk:¬k=0:=by
   unfold cL at hr;split at hr
   ·simp at hr;omega
   ·split at hr
    ·split at hr<;>simp at hr;omega
    ·simp at hr;omega
  have HR:=Hq2 hr hs;clear hr hs;go_wp2_with fail;go_ret2;refine (by unfold jo;rw[HR.a];exact⟨HR.z,rfl⟩)
 | ok v =>
  rw[hr]at hp;obtain⟨rfl,hv⟩:=hp;have hA:=HH.out.same hs;obtain⟨sl,cap,hcv,hcap,hcell,-⟩:=hA.cont hv;have HDM:=qqH hcv;have hvl:=HH.out.clen v hv;obtain⟨L,hL⟩:∃L,L=v.cont.length:=⟨_,rfl⟩;rw[<- hL]at hcv hcap hvl;have HR:=Hq5 hr hs hv hcell hL;have hcc2:∃c2:Nat,cap=c2:=⟨cap,rfl⟩;clear hr hs hv hA hcell hL hcc2;rw[hcv];by_cases h1:a<0
  ·go_wp2_with fail;go_ret2;refine (by unfold jo;rw[HR.a];exact⟨HR.b,HR.c,.inl ⟨.inl h1,rfl⟩⟩)
  ·by_cases h2:c<0
   ·go_wp2_with fail;go_ret2;refine (by unfold jo;rw[HR.a];exact⟨HR.b,HR.c,.inl ⟨.inr (.inl h2),rfl⟩⟩)
   ·by_cases h3:(L:Int)<a
    ·go_wp2_with fail;go_ret2;refine (by unfold jo;rw[HR.a];exact⟨HR.b,HR.c,.inl ⟨.inr (.inr (by rw[<- HR.w];exact h3)),rfl⟩⟩)
    ·obtain⟨a,rfl⟩:∃a':Nat,a=a':=⟨a.toNat,by omega⟩;obtain⟨c,rfl⟩:∃c':Nat,c=c':=⟨c.toNat,by omega⟩;have hpart:=fun W hW=>DA (W:=W) (sl:=sl) (X:=v.cont) (a:=a) (c:=c) hW (by have:=HR.w;omega)
     have hpl:((v.cont.drop a).take c).length=min c (L-a):=by rw[length_take,length_drop,HR.w]
     have hfin:∀(sl':Option Addr) (m k:Nat),m=min c (L-a)->(m=0\/∀g off,sl=some ⟨g,off,none⟩->sl'=some ⟨g,off+a,none⟩)->jo R p n a c w (.returned (.tuple #[.slice sl' m k,.int .i64 0])) w1:=fun sl' m k hm hsl=>by
      unfold jo;rw[HR.a];refine⟨HR.b,HR.c,.inr ⟨by have:=HR.w;omega,sl',k,by simp only[Int.toNat_natCast];rw[hpl,hm],?_⟩⟩;simp only[Int.toNat_natCast];rcases hpart w1 HR.d with h0|⟨g,off,hg,hcl⟩
      ·rw[h0];exact⟨eu _ _,fun h=>absurd rfl h⟩
      ·rcases hsl with h0|hsl
       ·have:(v.cont.drop a).take c=[]:=eq_nil_of_length_eq_zero (by rw[hpl];omega);rw[this];exact⟨eu _ _,fun h=>absurd rfl h⟩
       ·rw[hsl g off hg];exact⟨hcl,fun _=>⟨g,off,cap,by rw[<- hg];exact HDM.out,rfl⟩⟩
     have HF:=qqH hfin;clear hfin hpart hpl
     cases sl with
     | none =>
      have hL0:L=0:=by
       have h1:=HR.d;by_cases hz:L=0
       ·exact hz
       ·obtain⟨g,off,hg,-⟩:=h1 (by rw[length_map,<- HR.w];omega)
        cases hg
      subst hL0;obtain rfl:a=0:=by omega
      by_cases hgt:0<c
      ·go_wp2_with fail;go_ret2;exact (by exact HF.out none 0 _ (by omega) (.inl rfl))
      ·obtain rfl:c=0:=by omega
       go_wp2_with fail;go_ret2;exact (by exact HF.out none 0 _ (by omega) (.inl rfl))
     | some ad =>
      by_cases hL:L=0
      ·subst hL;obtain rfl:a=0:=by omega
       have hcz:(cap=0)\/¬cap=0:=by omega
       by_cases hgt:0<c
       ·rcases hcz with hcz|hcz
        all_goals go_wp2_with fail
        all_goals go_ret2;exact (by exact HF.out _ 0 _ (by omega) (.inl rfl))
       ·obtain rfl:c=0:=by omega
        rcases hcz with hcz|hcz
        all_goals go_wp2_with fail
        all_goals go_ret2;exact (by exact HF.out _ 0 _ (by omega) (.inl rfl))
      ·obtain⟨g,off,hg,-⟩:=HR.d (by rw[length_map,<- HR.w];omega);simp only[Option.some.injEq]at hg;subst hg;have hsub:IntKind.i64.wrap ((L:Int)-a)=((L-a:Nat):Int):=by rw[IntWalk.i64_in _ (by omega)];omega
       by_cases hgt:L-a<c
       ·have hgt2:((L-a:Nat):Int)<(c:Int):=by omega
        have hadd:IntKind.i64.wrap ((a:Int)+((L-a:Nat):Int))=(L:Int):=by rw[IntWalk.i64_in _ (by omega)];omega
        by_cases hca:cap=a
        ·go_wp2_with fail;go_ret2;exact (by exact HF.out _ (L-a) _ (by omega) (.inl (by omega)))
        ·have hca2:¬a=cap:=by omega
         go_wp2_with fail;go_ret2;exact (by exact HF.out (some ⟨g,off+a,none⟩) (L-a) _ (by omega) (.inr (fun g' off' h=>by simp only[Option.some.injEq,Addr.mk.injEq,and_true]at h;obtain⟨rfl,rfl⟩:=h;rfl)))
       ·have hgt2:¬((L-a:Nat):Int)<(c:Int):=by omega
        have hadd:IntKind.i64.wrap ((a:Int)+(c:Int))=((a+c:Nat):Int):=by rw[IntWalk.i64_in _ (by omega)];omega
        have hac:a+c<=cap:=by omega
        by_cases hca:cap=a
        ·go_wp2_with fail;go_ret2;exact (by exact HF.out _ _ _ (by omega) (.inl (by omega)))
        ·have hca2:¬a=cap:=by omega
         go_wp2_with fail;go_ret2;exact (by exact HF.out (some ⟨g,off+a,none⟩) _ _ (by omega) (.inr (fun g' off' h=>by simp only[Option.some.injEq,Addr.mk.injEq,and_true]at h;obtain⟨rfl,rfl⟩:=h;rfl)))
end
end Go.Proofs.YtdhobpbngkainabGreatDoor
