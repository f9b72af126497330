/- Ours. A part of the proof, made small by a program. -/
import Derived.Test.YtdhobpbngkainaaGreatDoorCo03
import Derived.Test.YtdhobpbngkainaaGreatDoorCo01
import Derived.Test.YtdhobpbngkainaaGreatDoorCo02
import Derived.Maps.Keyed
import Derived.Maps.OwnOps
import Derived.LaidEqlPtr
set_option maxRecDepth 100000
set_option maxHeartbeats 4000000
namespace Go.Proofs.YtdhobpbngkainaaGreatDoor
open Go.RowKit
structure ArchL where
 pm:Nat
 tm:Nat
 cm:Nat
 sc:Int
 sb:Int
 used:Int
 d:Nat
 ab:Nat
 ep:Nat
 quota:Int
 closed:Bool
 broken:Value
def qa4 (X:ArchL):Array Value:=#[.map (some X.pm),.map (some X.tm),.map (some X.cm),.int .i64 X.sc,.int .i64 X.sb,.int .i64 X.used,.pointer (some ⟨X.d,0,none⟩),.pointer (some ⟨X.ab,0,none⟩),.int .u32 X.ep,.int .i64 X.quota,.bool X.closed,X.broken]
def archO (X:ArchL):Obj:=.cells (qa4 X) 128 (0,0)
theorem qmw {l:Bs} {first count k:Nat} (h:k<count):secOf (qax l first count) k=secOf l (first+k):=by
 unfold secOf qax
 rw [List.drop_take,List.drop_drop,List.take_take]
 congr 1
 ·omega
 ·congr 1;omega
theorem qko {w:World} {b e n:Nat} {v:Value} {xs:List Value} (h:w.ownsRow b e 1 v n xs):∃ a cap,v=.slice a n cap∧xs.length=n∧n≤cap∧cap≤9223372036854775807∧qaj w a xs∧∀ x,a=some x→v.ownBlock=some x.block:=by
 obtain ⟨a,cap,rfl,h1,h2,h3,h4⟩:=qmt h
 refine ⟨a,cap,rfl,h1,h2,?_,h3,h4⟩
 rcases h.2 with ⟨hv,_⟩ | ⟨g,c,cur,hv,_,_,_,hc,_⟩
 ·simp only [Value.slice.injEq] at hv;omega
 ·simp only [Value.slice.injEq] at hv;unfold maxLen at hc;omega
def clip0 (q:Int):Int:=if (0:Int)>q then 0 else q
def qt5 (d u:Nat) (L:DevL) (q:Int) (v:Value) (w W:World):Prop :=
 ∃ g pm tm cm ab ch,v=.pointer (some ⟨g,0,none⟩)∧Turns (devF d L) ((g,Is (archO ⟨pm,tm,cm,0,0,0,d,ab,1,clip0 q,false,.nilIface⟩))::(areaF ab d ⟨2+halfN L.n,halfN L.n,0,zeros 128,ch,[]⟩++([(cm,Is (.map #[] 0)),(tm,Is (.map #[] 0)),(pm,Is (.map #[] 0))]++((u,Is (.cells #[.int .u32 1,.int .u32 0] 118 (0,0)))::devF d L)))) w W
def qmi (d:Nat) (L:DevL) (q:Int) (w:World) (e:Ending) (w':World):Prop :=
 ∃ a ab pm tm cm ch L',e=.returned (.tuple #[.pointer (some ⟨a,0,none⟩),.nilIface]) ∧
  Turns (devF d L) ((a,Is (archO ⟨pm,tm,cm,0,0,0,d,ab,1,clip0 q,false,.nilIface⟩))::(pm,Is (.map #[] 0))::(tm,Is (.map #[] 0))::(cm,Is (.map #[] 0))::(areaF ab d ⟨2+halfN L.n,halfN L.n,0,zeros 128,ch,[]⟩++devF d L')) w w' ∧
  DevOk L'∧L'.n=L.n∧L'.now=putAt (cutTo L.now (2+halfN L.n) 0 (zeros 128) (halfN L.n)) 128 (qcc 1 0)∧L'.safe=L'.now∧L'.chs=[]
theorem qxa (d:Nat) (L:DevL) (q:Int) (w:World) (h:Sat w (devF d L)) (hL:DevOk L) (hn:16≤L.n) (hn2:L.n≤1073741824) (hch:L.chs.length≤137438953472) :
  Calls Tryz.prog 51 #[.pointer (some ⟨d,0,none⟩),.int .i64 q] w (qmi d L q w):=by
 have HNC:=Lib.hid qiw
 have HH:Hid (∀ W,Sat W (devF d L)→Calls Tryz.prog 53 #[.pointer (some ⟨d,0,none⟩),.int .u32 1] W (qjv d (2+halfN L.n) (halfN L.n) W)):=Lib.hid (fun W hW=>by
  have:=qpu d L 1 W hW (by omega) hn2 (by omega)
  simpa using this)
 have HS:=Lib.hid (And.intro h (And.intro hL (And.intro hn (And.intro hn2 hch))))
 clear h hL hn hn2 hch
 go_enter Tryz.func51,Tryz.ntmps51
 go_wp2_with fail
 obtain ⟨w1,hw1⟩:∃ w1,w1=w.alloc (.cells #[.int .u32 1,.int .u32 0] 118):=⟨_,rfl⟩
 have hT1:Turns (devF d L) ((w.heap.size,Is (.cells #[.int .u32 1,.int .u32 0] 118 (0,0)))::devF d L) w w1:=by rw [hw1];exact (Turns.refl HS.out.1).allocIs _
 rw [← hw1]
 have a0:=qac hT1.sat.headIs 0 rfl
 obtain ⟨u,hu⟩:∃ u,u=w.heap.size:=⟨_,rfl⟩
 rw [← hu] at hT1 a0 ⊢
 have HT:=Lib.hid hT1
 have hs1:Same w w1:=by rw [hw1];exact (Mods.refl _ w).alloc _
 have HS1:=Lib.hid hs1
 clear hw1 hu hT1 hs1
 have HM:=Lib.hid (show Tryz.prog.follows .mixedOrders=true by kernel_rfl)
 refine qbt (A:=?A) (hA:=?hA) HM.out (phiL [fun _=>True,fun v=>v=.pointer (some ⟨d,0,none⟩),fun v=>v=.pointer (some ⟨d,0,none⟩),fun v=>v=.pointer (some ⟨u,0,none⟩),fun v=>v=.int .u32 1,fun _=>True,
  fun v=>v=.pointer (some ⟨u,0,none⟩),fun v=>v=.int .u32 1,fun v=>v=.int .i64 q,fun v=>v=.int .i64 (clip0 q)]) (fun vs W=>match vs with
   | []=>Turns (devF d L) ((u,Is (.cells #[.int .u32 1,.int .u32 0] 118 (0,0)))::devF d L) w W
   | [v0]=>∃ pm tm cm,v0=.agg (qer pm tm cm 0 0 0)∧Turns (devF d L) ([(cm,Is (.map #[] 0)),(tm,Is (.map #[] 0)),(pm,Is (.map #[] 0))]++((u,Is (.cells #[.int .u32 1,.int .u32 0] 118 (0,0)))::devF d L)) w W
   | [v0,v5]=>∃ pm tm cm ab ch,v0=.agg (qer pm tm cm 0 0 0)∧v5=.pointer (some ⟨ab,0,none⟩)∧Turns (devF d L) (areaF ab d ⟨2+halfN L.n,halfN L.n,0,zeros 128,ch,[]⟩++([(cm,Is (.map #[] 0)),(tm,Is (.map #[] 0)),(pm,Is (.map #[] 0))]++((u,Is (.cells #[.int .u32 1,.int .u32 0] 118 (0,0)))::devF d L))) w W
   | [_,_,v]=>∃ pm tm cm ab ch,v=.agg (qa4 ⟨pm,tm,cm,0,0,0,d,ab,1,clip0 q,false,.nilIface⟩)∧Turns (devF d L) (areaF ab d ⟨2+halfN L.n,halfN L.n,0,zeros 128,ch,[]⟩++([(cm,Is (.map #[] 0)),(tm,Is (.map #[] 0)),(pm,Is (.map #[] 0))]++((u,Is (.cells #[.int .u32 1,.int .u32 0] 118 (0,0)))::devF d L))) w W
   | [_,_,_,v]=>qt5 d u L q v w W
   | [_,_,_,_,v]=>qt5 d u L q v w W
   | _=>False) (fun W=>W.cell? ⟨u,0,none⟩=some (.int .u32 1)) [0,5,10,11,12] ?hC (by kernel_rfl) (by kernel_rfl) (by decide) (by decide) ?h0 ?hs ?he
 case hA=>intro x;simp only [qam,Act.put,List.setIfInBounds_toArray,List.set_cons_zero,List.set_cons_succ,Nat.reduceAdd];rfl
 case hC =>
  intro vs W hS
  have key:∀ {F:HF},Sat W F→(u,Is (.cells #[.int .u32 1,.int .u32 0] 118 (0,0)))∈F→W.cell? ⟨u,0,none⟩=some (.int .u32 1):=fun hs hm=>qac (hs.memIs hm) 0 rfl
  match vs,hS with
  | [],hT=>exact key hT.sat (by simp)
  | [_],⟨pm,tm,cm,_,hT⟩=>exact key hT.sat (by simp)
  | [_,_],⟨pm,tm,cm,ab,ch,_,_,hT⟩=>exact key hT.sat (by simp)
  | [_,_,_],⟨pm,tm,cm,ab,ch,_,hT⟩=>exact key hT.sat (by simp)
  | [_,_,_,_],⟨g,pm,tm,cm,ab,ch,_,hT⟩=>exact key hT.sat (by simp)
  | [_,_,_,_,_],⟨g,pm,tm,cm,ab,ch,_,hT⟩=>exact key hT.sat (by simp)
 case h0=>exact HT.out.drew
 case he =>
  intro x w2 hφ hS
  obtain ⟨g,pm,tm,cm,ab,ch,e12,hT⟩:=hS
  have e12:x 12=.pointer (some ⟨g,0,none⟩):=e12
  have g7:=qac hT.sat.headIs 7 (show (qa4 ⟨pm,tm,cm,0,0,0,d,ab,1,clip0 q,false,.nilIface⟩)[7]?=some (.pointer (some ⟨ab,0,none⟩)) from rfl)
  have HAll:=Lib.hid (qsi ab d ⟨2+halfN L.n,halfN L.n,0,zeros 128,ch,[]⟩ L w2 (hT.sat.sub (fun _=>by simp only [qad,qaa,qah]<;>omega)) HS.out.2.1 (by simp only;unfold halfN;have:=HS.out.2.2.1;omega) HS.out.2.2.2.1)
  have HT2:=Lib.hid hT
  clear hφ hT
  simp only [e12]
  clear e12
  go_wp2_with fail
  refine HAll.out.mono ?_
  rintro e w3 ⟨v,rfl,hok,hT3⟩
  have hwl:=qe3 HS.out.2.1.nowL (first:=2+halfN L.n) (k:=halfN L.n) (by unfold halfN;have:=HS.out.2.2.1;omega)
  obtain ⟨ws,hws⟩:∃ ws,ws=qax L.now (2+halfN L.n) (halfN L.n):=⟨_,rfl⟩
  try simp only at hok hT3
  rw [← hws] at hok hT3 hwl
  obtain ⟨av,cv,rfl,hlv,hcv,hcv2,hca,hav⟩:=qko (bOwns hT3.sat hok)
  have hT4:=Turns.newIn HT2.out hT3
  have hcut:=qsd ab d ⟨2+halfN L.n,halfN L.n,0,zeros 128,ch,[]⟩ L 0 av cv ws w3 (hT4.sat.sub (fun _=>by simp only [qad,qaa,qah]<;>omega)) HS.out.2.1 (by simp only;unfold halfN;have:=HS.out.2.2.1;omega) HS.out.2.2.2.1 ⟨qan _,by simp,fun _ h=>by simp at h⟩ hca
   (fun x hx hin=>hT4.sat.disj (b:=x.block) ((qfa _ _ _ _ _ _).2 (hav x hx)) (by simp only [qcw,qhi,List.mem_append,List.mem_cons] at hin ⊢;rcases hin with h | h<;>simp [h])) hwl hcv hcv2 (by simp only;unfold halfN;have:=HS.out.2.2.1;omega) (Nat.zero_le _) HS.out.2.2.2.2
   (fun m hm he=>by simp only at hm ⊢;rw [hws,qmw (by omega)] at he;exact he)
  have g7:=qac (hT4.sat.right.headIs) 7 (show (qa4 ⟨pm,tm,cm,0,0,0,d,ab,1,clip0 q,false,.nilIface⟩)[7]?=some (.pointer (some ⟨ab,0,none⟩)) from rfl)
  have HC:=Lib.hid hcut
  have H4:=Lib.hid (And.intro hT4 hwl)
  clear hcut hT4 hca hav hT3 hok hws hlv hwl hcv hcv2
  go_wp2_with fail
  refine HC.out.mono ?_
  rintro e w4 ⟨rfl,L',hT5,hL',hn',hnow',hsafe',hch'⟩
  have eA:(List.drop (128*(0 / 128)) (List.take 0 ws)++zeros (128-0%128))=zeros 128:=by simp
  simp only [eA] at hT5 hnow'
  clear eA
  have hT6:=H4.out.1.step (F:=areaF ab d ⟨2+halfN L.n,halfN L.n,0,zeros 128,ch,[]⟩++devF d L) (R:=bRow (.slice av ws.length cv) ws++((g,Is (archO ⟨pm,tm,cm,0,0,0,d,ab,1,clip0 q,false,.nilIface⟩))::([(cm,Is (.map #[] 0)),(tm,Is (.map #[] 0)),(pm,Is (.map #[] 0))]++[(u,Is (.cells #[.int .u32 1,.int .u32 0] 118 (0,0)))]))) (qaf fun _=>by simp only [qad,qaa,qah]<;>omega) hT5
  have hu:=(hT6.sat.sub (G:=[(u,Is (.cells #[.int .u32 1,.int .u32 0] 118 (0,0)))]) (fun _=>by simp only [qad,qaa,qah]<;>omega)).headIs
  have u0:=qac hu 0 rfl
  have u1:=qac hu 1 rfl
  have HSec:=Lib.hid (qm2 1 0 (by omega) (by omega) w4)
  have HWr:Hid (∀ W,Sat W (devF d L')→Calls Tryz.prog 18 #[.pointer (some ⟨d,0,none⟩),.int .i64 1,.agg (row8 (qcc 1 0))] W (qgt d L' 1 (qcc 1 0) W)):=Lib.hid (fun W hW=>by
   have:=qhq d L' 1 (qcc 1 0) W hW hL' (by rw [hn'];have:=HS.out.2.2.1;omega) (qcv 1 0) (by rw [hch'];simp)
   exact this)
  have H6:=Lib.hid (And.intro hT6 (And.intro hL' (And.intro hn' (And.intro hnow' (And.intro hsafe' hch')))))
  clear hT5 hT6 hL' hn' hnow' hsafe' hch' hu g7
  go_wp2_with fail
  refine HSec.out.mono ?_
  rintro e w5 ⟨rfl,hs5⟩
  have hT7:=H6.out.1.thenSame hs5
  have H7:=Lib.hid hT7
  clear hs5 hT7 u0 u1
  go_wp2_with fail
  refine (HWr.out _ (H7.out.sat.sub (fun _=>by simp only [qad,qaa,qah]<;>omega))).mono ?_
  rintro e w6 ⟨rfl,L2,hT8,hL2,hn2,hnow2,hch2⟩
  have hT9:=H7.out.step (F:=devF d L') (R:=(areaF ab d ⟨2+halfN L.n,halfN L.n,0,zeros 128,ch,[]⟩)++((g,Is (archO ⟨pm,tm,cm,0,0,0,d,ab,1,clip0 q,false,.nilIface⟩))::([(cm,Is (.map #[] 0)),(tm,Is (.map #[] 0)),(pm,Is (.map #[] 0))]++([(u,Is (.cells #[.int .u32 1,.int .u32 0] 118 (0,0)))]++bRow (.slice av ws.length cv) ws)))) (qaf fun _=>by simp only [qad,qaa,qah]<;>omega) hT8
  have HFl:Hid (∀ W,Sat W (devF d L2)→Calls Tryz.prog 20 #[.pointer (some ⟨d,0,none⟩)] W (qh5 d L2 W)):=Lib.hid (fun W hW=>qhw d L2 W hW hL2 (by rw [hch2,H6.out.2.2.2.2.2];simp))
  have H9:=Lib.hid (And.intro hT9 (And.intro hL2 (And.intro hn2 hnow2)))
  clear hT8 hT9 hL2 hn2 hnow2 hch2
  go_wp2_with fail
  refine (HFl.out _ (H9.out.1.sat.sub (fun _=>by simp only [qad,qaa,qah]<;>omega))).mono ?_
  rintro e w7 ⟨rfl,L3,hT10,hL3,hn3,hnow3,hsafe3,hch3⟩
  have hT11:=H9.out.1.step (F:=devF d L2) (R:=(areaF ab d ⟨2+halfN L.n,halfN L.n,0,zeros 128,ch,[]⟩)++((g,Is (archO ⟨pm,tm,cm,0,0,0,d,ab,1,clip0 q,false,.nilIface⟩))::([(cm,Is (.map #[] 0)),(tm,Is (.map #[] 0)),(pm,Is (.map #[] 0))]++([(u,Is (.cells #[.int .u32 1,.int .u32 0] 118 (0,0)))]++bRow (.slice av ws.length cv) ws)))) (qaf fun _=>by simp only [qad,qaa,qah]<;>omega) hT10
  have hT12:=hT11.drop (H:=(g,Is (archO ⟨pm,tm,cm,0,0,0,d,ab,1,clip0 q,false,.nilIface⟩))::(pm,Is (.map #[] 0))::(tm,Is (.map #[] 0))::(cm,Is (.map #[] 0))::(areaF ab d ⟨2+halfN L.n,halfN L.n,0,zeros 128,ch,[]⟩++devF d L3)) (fun _=>by simp only [qad,qaa,qah]<;>omega)
  have H12:=Lib.hid (And.intro hT12 (And.intro hL3 (And.intro hn3 (And.intro hnow3 (And.intro hsafe3 hch3)))))
  clear hT10 hT11 hT12 hL3 hn3 hnow3 hsafe3 hch3
  go_wp2_with fail
  go_ret2
  refine ⟨g,ab,pm,tm,cm,ch,L3,rfl,H12.out.1,H12.out.2.1,by rw [H12.out.2.2.1,H9.out.2.2.1,H6.out.2.2.1],?_,by rw [H12.out.2.2.2.2.1,H12.out.2.2.2.1],H12.out.2.2.2.2.2⟩
  rw [H12.out.2.2.2.1,H9.out.2.2.2,H6.out.2.2.2.1]
  simp only [Nat.zero_div,Nat.sub_zero,Nat.mul_one]
 case hs =>
  refine ⟨qap 0 rfl rfl (fun x w2 hd hS K hK=>?_),qab rfl rfl (fun x w2 hd hC K hK _=>?_),qab rfl rfl (fun x w2 hd hC K hK _=>?_),qab rfl rfl (fun x w2 hd hC K hK _=>?_),qab rfl rfl (fun x w2 hd hC K hK _=>?_),qap 1 rfl rfl (fun x w2 hd hS K hK=>?_),
   qab rfl rfl (fun x w2 hd hC K hK _=>?_),qab rfl rfl (fun x w2 hd hC K hK _=>?_),qab rfl rfl (fun x w2 hd hC K hK _=>?_),qab rfl rfl (fun x w2 hd hC K hK _=>?_),qap 2 rfl rfl (fun x w2 hd hS K hK=>?_),qap 3 rfl rfl (fun x w2 hd hS K hK=>?_),qap 4 rfl rfl (fun x w2 hd hS K hK=>?_),trivial⟩
  ·refine qbe (by kernel_rfl) (HNC.out _) ?_
   rintro e w3 ⟨pm,tm,cm,rfl,hT3⟩
   exact ⟨_,rfl,hK _ _ trivial ⟨pm,tm,cm,rfl,Turns.newIn hS hT3⟩⟩
  ·exact qag (by kernel_rfl) (hK _ rfl)
  ·exact qag (by kernel_rfl) (hK _ rfl)
  ·exact qag (by kernel_rfl) (hK _ rfl)
  ·obtain ⟨h3,-⟩:=hd
   have h3:x 3=.pointer (some ⟨u,0,none⟩):=h3
   exact qat Tryz.underlying116 rfl rfl (by rw [h3];rfl) hC (hK _ rfl)
  ·obtain ⟨h2,h4,-⟩:=hd
   have h2:x 2=.pointer (some ⟨d,0,none⟩):=h2
   have h4:x 4=.int .u32 1:=h4
   obtain ⟨pm,tm,cm,e0,hT⟩:=hS
   refine qbe (by rw [h2,h4];kernel_rfl) (HH.out _ hT.sat.right.tail) ?_
   rintro e w3 ⟨ab,ch,rfl,hT3⟩
   exact ⟨_,rfl,hK _ _ trivial ⟨pm,tm,cm,ab,ch,e0,rfl,Turns.newIn hT hT3⟩⟩
  ·exact qag (by kernel_rfl) (hK _ rfl)
  ·obtain ⟨h6,-⟩:=hd
   have h6:x 6=.pointer (some ⟨u,0,none⟩):=h6
   exact qat Tryz.underlying116 rfl rfl (by rw [h6];rfl) hC (hK _ rfl)
  ·exact qag (by kernel_rfl) (hK _ rfl)
  ·obtain ⟨h8,-⟩:=hd
   have h8:x 8=.int .i64 q:=h8
   exact qag (by rw [h8];kernel_rfl) (hK _ rfl)
  ·obtain ⟨-,h1,-,h7,h9,-⟩:=hd
   have h1:x 1=.pointer (some ⟨d,0,none⟩):=h1
   have h7:x 7=.int .u32 1:=h7
   have h9:x 9=.int .i64 (clip0 q):=h9
   obtain ⟨pm,tm,cm,ab,ch,e0,e5,hT⟩:=hS
   exact qag (by rw [e0,h1,e5,h7,h9];kernel_rfl) (hK _ _ trivial ⟨pm,tm,cm,ab,ch,rfl,hT⟩)
  ·obtain ⟨pm,tm,cm,ab,ch,e10,hT⟩:=hS
   exact qag (by rw [e10];kernel_rfl) (hK _ _ trivial ⟨_,pm,tm,cm,ab,ch,rfl,hT.allocIs _⟩)
  ·obtain ⟨g,pm,tm,cm,ab,ch,e11,hT⟩:=hS
   exact qag (by rw [e11];kernel_rfl) (hK _ _ trivial ⟨g,pm,tm,cm,ab,ch,rfl,hT⟩)
def qhl (H:Bs) (at_:Nat) (body:Bs):Prop:=at_+(body.length+9)≤H.length∧openR ((H.drop at_).take (body.length+9))=some (1,body,body.length+9)
def qxr (ab d:Nat) (A:AreaL) (R0 R2:HF) (ob:Nat) (body:Bs) (w w':World):Prop :=
 ∃ v sp,bOk v body∧AreaOk { A with spare:=sp }∧Turns (areaF ab d A++R0) (bRow v body++((ob,Is (oCell v))::(areaF ab d { A with spare:=sp }++R2))) w w'
def q4w (ab d:Nat) (A:AreaL) (R0:HF) (body:Bs) (w:World) (e:Ending) (w':World):Prop :=
 ∃ av cv sp,e=.returned (.tuple #[.slice av body.length cv,.nilIface])∧bOk (.slice av body.length cv) body∧AreaOk { A with spare:=sp }∧Turns (areaF ab d A++R0) (bRow (.slice av body.length cv) body++(areaF ab d { A with spare:=sp }++R0)) w w'
theorem qkx (a:Nat) (X:ArchL) (ab d:Nat) (hab:ab=X.ab) (A:AreaL) (L:DevL) (at_:Nat) (body:Bs) (R0:HF) (w:World) (h:Sat w (areaF ab d A++R0)) (hsub:∀ x,cnt x ((a,Is (archO X))::devF d L)≤cnt x R0) (hL:DevOk L) (hA:AreaOk A) (hAn:A.first+A.count≤L.n) (hn:L.n≤1073741824)
  (hc:qhl (qax L.now A.first A.count) at_ body) :
  Calls Tryz.prog 86 #[.pointer (some ⟨a,0,none⟩),.agg #[.int .i64 at_,.int .i64 body.length]] w (q4w ab d A R0 body w):=by
 have hmf:∀ (fn:Fn) (first cap:Array Value) (w:World),(Instr.makeFunc fn first cap).run Tryz.prog w=.ok (.func fn first cap) w:=fun _ _ _ _=>rfl
 have hbl:body.length<65536:=(qez hc.2).2.2.2.2
 have HSz:=Lib.hid (fun W=>qew (body.length:Int) (by omega) (by omega) W)
 have HH:=Lib.hid (And.intro h (And.intro hsub (And.intro hL (And.intro hA (And.intro hAn (And.intro hn (And.intro hc hab)))))))
 clear h hsub hL hA hAn hn hc hab
 go_enter Tryz.func86,Tryz.ntmps86
 go_wp2_with fail
 obtain ⟨B2,hB2⟩:∃ B,w.heap.size=B:=⟨_,rfl⟩
 have hT1:=(((Turns.refl HH.out.1).allocIs (.cells #[.pointer (some ⟨a,0,none⟩)] 32)).allocIs (.cells #[.int .i64 at_,.int .i64 body.length] 161)).allocIs (oCell (.slice none 0 0))
 simp only [World.size_alloc] at hT1
 obtain ⟨B3,hB3⟩:∃ B,w.heap.size+1=B:=⟨_,rfl⟩
 obtain ⟨B6,hB6⟩:∃ B,w.heap.size+1+1=B:=⟨_,rfl⟩
 rw [hB6] at hT1 ⊢
 rw [hB3] at hT1 ⊢
 rw [hB2] at hT1 ⊢
 obtain ⟨R2,hR2⟩:∃ R2,R2=((B3,Is (.cells #[.int .i64 at_,.int .i64 body.length] 161 (0,0)))::(B2,Is (.cells #[.pointer (some ⟨a,0,none⟩)] 32 (0,0)))::R0):=⟨_,rfl⟩
 obtain ⟨R1,hR1⟩:∃ R1,R1=((B6,Is (oCell (.slice none 0 0)))::R2):=⟨_,rfl⟩
 have hT2:Turns (areaF ab d A++R0) (areaF ab d A++R1) w _:=hT1.to (H:=areaF ab d A++R1) (by rw [hR1,hR2];exact (qaf fun _=>by simp only [qad,qaa,qah]<;>omega))
 have HT:=Lib.hid (And.intro hT2 (And.intro hR1 hR2))
 clear hT1 hT2 hR1 hR2 hB2 hB3 hB6
 have HM:=Lib.hid (show Tryz.prog.follows .mixedOrders=true by kernel_rfl)
 have HW:Hid (∀ W,Turns (areaF ab d A++R0) (areaF ab d A++R1) w W→Calls Tryz.prog 130 #[.pointer (some ⟨ab,0,none⟩),.int .i64 at_,.int .i64 ((body.length:Int)+9),.func (.func 131) #[] #[.pointer (some ⟨B3,0,none⟩),.pointer (some ⟨B2,0,none⟩),.pointer (some ⟨B6,0,none⟩)]] W (fun e w'=>e=.returned .nilIface∧qxr ab d A R0 R2 B6 body w w')):=Lib.hid (fun W hTW=>by
  have hTW':=hTW
  rw [HT.out.2.1,HT.out.2.2] at hTW'
  have hw:=qzd ab d A L at_ (body.length+9) (.pointer (some ⟨B3,0,none⟩)) (.pointer (some ⟨B2,0,none⟩)) (.pointer (some ⟨B6,0,none⟩)) (qax L.now A.first A.count) rfl R1 (fun R'=>∃ v,bOk v body∧R'=bRow v body++((B6,Is (oCell v))::R2)) W hTW.sat
   (fun x=>by have h1:=HH.out.2.1 x;rw [HT.out.2.1,HT.out.2.2];rw [qad] at h1;simp only [qad];omega) HH.out.2.2.1 HH.out.2.2.2.1 HH.out.2.2.2.2.1 HH.out.2.2.2.2.2.1 (by have:=HH.out.2.2.2.2.2.2.1.1;rwa [qe3 HH.out.2.2.1.nowL HH.out.2.2.2.2.1] at this)
   (fun W' B0 B1 g cv sp hok hTW2=>by
    have hTW3:=hTW2
    rw [HT.out.2.1,HT.out.2.2] at hTW3
    obtain ⟨a2,cap2,hv2,hl2,hc2,hca2,-⟩:=qbk (bOwns hTW2.sat.left hok)
    simp only [Value.slice.injEq] at hv2
    obtain ⟨rfl,-,rfl⟩:=hv2
    have hb6:=hTW3.sat.memIs (b:=B6) (o:=oCell (.slice none 0 0)) (by simp)
    have hb3:=hTW3.sat.memIs (b:=B3) (o:=.cells #[.int .i64 at_,.int .i64 body.length] 161 (0,0)) (by simp)
    have hne:B3≠B6:=fun e=>by
     subst e
     rw [hb3] at hb6
     unfold oCell at hb6
     simp at hb6
    have hf:=qwg (some ⟨g,0,none⟩) cv (((qax L.now A.first A.count).drop at_).take (body.length+9)) body at_ B3 B2 B6 W' hca2 (by rw [List.length_take];omega) hc2 HH.out.2.2.2.2.2.2.1.2 hb3 hb6 hne (fun x hx=>by
     simp only [Option.some.injEq] at hx
     subst hx
     intro e
     have:=hTW3.sat.disj (b:=g) (by simp [bRow,rowF,Value.ownBlock])
     have e:g=B6:=e
     exact this (by simp [e]))
    refine hf.mono ?_
    rintro e w' ⟨rfl,v,hv,hTf⟩
    refine ⟨rfl,bRow v body++((B6,Is (oCell v))::R2),⟨v,hv,rfl⟩,?_⟩
    rw [HT.out.2.1] at hTW2
    have h2:=hTW2.step (F:=[(B6,Is (oCell (.slice none 0 0)))]) (R:=bRow (.slice (some ⟨g,0,none⟩) (((qax L.now A.first A.count).drop at_).take (body.length+9)).length cv) (((qax L.now A.first A.count).drop at_).take (body.length+9))++((B1,Is (oCell (.slice (some ⟨g,0,none⟩) (((qax L.now A.first A.count).drop at_).take (body.length+9)).length cv)))::(B0,Is (.cells #[.pointer (some ⟨ab,0,none⟩)] 125 (0,0)))::(areaF ab d { A with spare:=sp }++R2))) (qaf fun _=>by simp only [qad,qaa,qah]<;>omega) hTf
    rw [HT.out.2.1]
    exact h2.to (by show List.Perm (((B6,Is (oCell v))::bRow v body)++_) _;exact (qaf fun _=>by simp only [qad,qaa,qah]<;>omega)))
  rw [show ((body.length+9:Nat):Int)=(body.length:Int)+9 by omega] at hw
  refine hw.mono ?_
  rintro e w' ⟨rfl,R',sp,⟨v,hv,rfl⟩,hA',hT'⟩
  exact ⟨rfl,v,sp,hv,hA',(hTW.trans hT').to (qaf fun _=>by simp only [qad,qaa,qah]<;>omega)⟩)
 refine qbt (A:=?A) (hA:=?hA) HM.out (phiL [fun v=>v=.pointer (some ⟨a,0,none⟩),fun v=>v=.pointer (some ⟨a,0,none⟩),fun v=>v=.pointer (some ⟨a,7,none⟩),fun v=>v=.pointer (some ⟨ab,0,none⟩),fun v=>v=.pointer (some ⟨B3,0,none⟩),fun v=>v=.int .i64 (at_:Nat),fun v=>v=.pointer (some ⟨B3,1,none⟩),fun v=>v=.int .i64 (body.length:Nat),fun v=>v=.int .i64 ((body.length:Int)+9),fun v=>v=.func (.func 131) #[] #[.pointer (some ⟨B3,0,none⟩),.pointer (some ⟨B2,0,none⟩),.pointer (some ⟨B6,0,none⟩)],fun v=>v=.nilIface,fun v=>v=.nilIface])
  (fun vs W=>match vs with
  | []=>Turns (areaF ab d A++R0) (areaF ab d A++R1) w W
  | [_]=>qxr ab d A R0 R2 B6 body w W
  | _=>False)
  (fun W=>W.cell? ⟨B2,0,none⟩=some (.pointer (some ⟨a,0,none⟩))∧W.cell? ⟨a,7,none⟩=some (.pointer (some ⟨ab,0,none⟩))∧W.cell? ⟨B3,0,none⟩=some (.int .i64 (at_:Nat))∧W.cell? ⟨B3,1,none⟩=some (.int .i64 (body.length:Nat))) [10] ?hC (by kernel_rfl) (by kernel_rfl) (by decide) (by decide) ?h0 ?hs ?he
 case hA=>intro x;simp only [qam,Act.put,List.setIfInBounds_toArray,List.set_cons_zero,List.set_cons_succ,Nat.reduceAdd];rfl
 case hs =>
  refine ⟨qab rfl rfl (fun x wq hd hC K hK hKw=>?_),qab rfl rfl (fun x wq hd hC K hK hKw=>?_),qab rfl rfl (fun x wq hd hC K hK hKw=>?_),qab rfl rfl (fun x wq hd hC K hK hKw=>?_),qab rfl rfl (fun x wq hd hC K hK hKw=>?_),qab rfl rfl (fun x wq hd hC K hK hKw=>?_),qab rfl rfl (fun x wq hd hC K hK hKw=>?_),qab rfl rfl (fun x wq hd hC K hK hKw=>?_),qab rfl rfl (fun x wq hd hC K hK hKw=>?_),qab rfl rfl (fun x wq hd hC K hK hKw=>?_),qap 0 rfl rfl (fun x wq hd hS K hK=>?_),qab rfl rfl (fun x wq hd hC K hK hKw=>?_),trivial⟩
  ·exact qat Tryz.underlying32 rfl rfl (by rfl) (hC.1) (hK _ rfl)
  ·have h0:x 0=.pointer (some ⟨a,0,none⟩):=qae hd 0 (by kernel_rfl)
   exact qag (by rw [h0];kernel_rfl) (hK _ rfl)
  ·have h1:x 1=.pointer (some ⟨a,0,none⟩):=qae hd 1 (by kernel_rfl)
   exact qag (by rw [h1];kernel_rfl) (hK _ rfl)
  ·have h2:x 2=.pointer (some ⟨a,7,none⟩):=qae hd 2 (by kernel_rfl)
   exact qat Tryz.underlying125 rfl rfl (by rw [h2];rfl) (hC.2.1) (hK _ rfl)
  ·exact qag (by kernel_rfl) (hK _ rfl)
  ·have h4:x 4=.pointer (some ⟨B3,0,none⟩):=qae hd 4 (by kernel_rfl)
   exact qat Tryz.underlying3 rfl rfl (by rw [h4];rfl) (hC.2.2.1) (hK _ rfl)
  ·exact qag (by kernel_rfl) (hK _ rfl)
  ·have h6:x 6=.pointer (some ⟨B3,1,none⟩):=qae hd 6 (by kernel_rfl)
   exact qat Tryz.underlying3 rfl rfl (by rw [h6];rfl) (hC.2.2.2) (hK _ rfl)
  ·have h7:x 7=.int .i64 (body.length:Nat):=qae hd 7 (by kernel_rfl)
   refine qbe (by rw [h7];kernel_rfl) (HSz.out wq) ?_
   rintro e w3 ⟨rfl,rfl⟩
   exact ⟨_,rfl,hK _ rfl⟩
  ·exact qag (by kernel_rfl) (hK _ rfl)
  ·have h3:x 3=.pointer (some ⟨ab,0,none⟩):=qae hd 3 (by kernel_rfl)
   have h5:x 5=.int .i64 (at_:Nat):=qae hd 5 (by kernel_rfl)
   have h8:x 8=.int .i64 ((body.length:Int)+9):=qae hd 8 (by kernel_rfl)
   have h9:x 9=.func (.func 131) #[] #[.pointer (some ⟨B3,0,none⟩),.pointer (some ⟨B2,0,none⟩),.pointer (some ⟨B6,0,none⟩)]:=qae hd 9 (by kernel_rfl)
   refine qbe (by rw [h3,h5,h8,h9];kernel_rfl) (HW.out wq hS) ?_
   rintro e w3 ⟨rfl,hp⟩
   exact ⟨_,rfl,hK _ _ rfl hp⟩
  ·have h10:x 10=.nilIface:=qae hd 10 (by kernel_rfl)
   exact qag (by rw [h10];kernel_rfl) (hK _ rfl)
 case hC =>
  intro vs W hS
  have key:∀ {F:HF},Sat W F→(∀ x,cnt x R2≤cnt x F)→W.cell? ⟨B2,0,none⟩=some (.pointer (some ⟨a,0,none⟩))∧W.cell? ⟨a,7,none⟩=some (.pointer (some ⟨ab,0,none⟩))∧W.cell? ⟨B3,0,none⟩=some (.int .i64 (at_:Nat))∧W.cell? ⟨B3,1,none⟩=some (.int .i64 (body.length:Nat)):=fun hs hm=>by
   have h1:=hs.sub hm
   rw [HT.out.2.2] at h1
   have h2:=h1.sub (G:=(a,Is (archO X))::devF d L) (fun x=>by have h1:=HH.out.2.1 x;rw [qad] at h1;simp only [qad];omega)
   refine ⟨qac h1.tail.headIs 0 rfl,?_,qac h1.headIs 0 rfl,qac h1.headIs 1 rfl⟩
   rw [HH.out.2.2.2.2.2.2.2]
   exact qac h2.headIs 7 rfl
  match vs,hS with
  | [],hT=>exact key hT.sat (fun x=>by rw [HT.out.2.1];simp only [qad,qaa];omega)
  | [_],⟨v,sp,_,_,hT⟩=>exact key hT.sat (fun _=>by simp only [qad,qaa,qah]<;>omega)
 case h0=>exact HT.out.1.drew
 case he =>
  intro x w3 hφ hS
  obtain ⟨v,sp,hok,hAo,hT⟩:=hS
  have e11:x 11=.nilIface:=qdo hφ 11 (by decide) (by decide)
  simp only [e11]
  obtain ⟨av,cv,rfl,-,-,-,-⟩:=qbk (bOwns hT.sat.left hok)
  have c6:=qac (hT.sat.memIs (b:=B6) (o:=oCell (.slice av body.length cv)) (by simp)) 0 rfl
  have H3:=Lib.hid (And.intro hok (And.intro hAo hT))
  clear hφ hok hAo hT e11
  go_wp2_with fail
  go_ret2
  refine ⟨av,cv,sp,rfl,H3.out.1,H3.out.2.1,H3.out.2.2.drop ?_⟩
  rw [HT.out.2.2]
  exact (fun _=>by simp only [qad,qaa,qah]<;>omega)
end Go.Proofs.YtdhobpbngkainaaGreatDoor
namespace Go.Proofs.YtdhobpbngkainaaGreatDoor
open Go.RowKit Go.Maps
structure Ent (κ:Type) where
 key:κ
 val:Value
 born:Nat
section
variable {κ : Type} [DecidableEq κ]
set_option linter.unusedSectionVars false
def entE (enc:κ→Value) (e:Ent κ):MapEntry:=⟨enc e.key,e.val,e.born⟩
def mapO (enc:κ→Value) (l:List (Ent κ)) (c:Nat):Obj:=.map (l.map (entE enc)).toArray c
def getE (l:List (Ent κ)) (k:κ):Option Value:=(l.find? (fun e=>decide (e.key=k))).map (·.val)
def hasE (l:List (Ent κ)) (k:κ):Bool:=l.any (fun e=>decide (e.key=k))
def setE (l:List (Ent κ)) (k:κ) (v:Value):List (Ent κ):=l.map (fun e=>if e.key=k then { e with val:=v } else e)
def putE (l:List (Ent κ)) (c:Nat) (k:κ) (v:Value):List (Ent κ):=if hasE l k then setE l k v else l++[⟨k,v,c⟩]
def putC (l:List (Ent κ)) (c:Nat) (k:κ):Nat:=if hasE l k then c else c+1
structure MapOk (Ok:κ→Prop) (l:List (Ent κ)) (c:Nat):Prop where
 nodup:(l.map (·.key)).Nodup
 borns:(l.map (·.born)).Nodup
 lt:∀ e∈l,e.born<c
 ok:∀ e∈l,Ok e.key
structure EncOk (P:Program) (k:TypeId) (enc:κ→Value) (Ok:κ→Prop):Prop where
 keyed:Keyed P k
 inj:∀ a b,enc a=enc b→a=b
 key:∀ a,Ok a→∃ l,keyOf P k (enc a)=some l
theorem qmd {l:List (Ent κ)} {k:κ} {v:Value} (h:getE l k=some v):∃ e∈l,e.key=k∧e.val=v:=by
 unfold getE at h
 cases hf:l.find? (fun e=>decide (e.key=k)) with
 | none=>rw [hf] at h;simp at h
 | some e =>
  rw [hf] at h
  have h1:=List.find?_some hf
  exact ⟨e,List.mem_of_find?_eq_some hf,by simpa using h1,by simpa using h⟩
theorem q1n {l:List (Ent κ)} {k:κ}:getE l k=none↔∀ e∈l,e.key≠k:=by
 unfold getE
 simp
theorem q30 {l:List (Ent κ)} {k:κ}:hasE l k=true↔∃ e∈l,e.key=k:=by simp [hasE]
theorem qfb {l:List (Ent κ)} {k:κ}:hasE l k=(getE l k).isSome:=by
 cases h:getE l k with
 | none=>rw [q1n] at h;simp [hasE];exact h
 | some v=>obtain ⟨e,h1,h2,_⟩:=qmd h;simp [hasE];exact ⟨e,h1,h2⟩
theorem qm6 {l:List (Ent κ)} (h:(l.map (·.key)).Nodup) {i j:Nat} {a b:Ent κ} (ha:l[i]?=some a) (hb:l[j]?=some b) (hk:a.key=b.key):i=j:=by
 obtain ⟨hi,rfl⟩:=List.getElem?_eq_some_iff.1 ha
 obtain ⟨hj,rfl⟩:=List.getElem?_eq_some_iff.1 hb
 have hp:=List.pairwise_iff_getElem.1 h
 rcases Nat.lt_trichotomy i j with hl | hl | hl
 ·exact absurd (by rw [List.getElem_map,List.getElem_map];exact hk) (hp i j (by simpa using hi) (by simpa using hj) hl)
 ·exact hl
 ·exact absurd (by rw [List.getElem_map,List.getElem_map];exact hk.symm) (hp j i (by simpa using hj) (by simpa using hi) hl)
theorem qou {l:List (Ent κ)} (h:(l.map (·.key)).Nodup) {e:Ent κ} (he:e∈l):getE l e.key=some e.val:=by
 cases hg:getE l e.key with
 | none=>exact absurd rfl (q1n.1 hg e he)
 | some v =>
  obtain ⟨e',h1,h2,h3⟩:=qmd hg
  obtain ⟨i,hi⟩:=List.mem_iff_getElem?.1 he
  obtain ⟨j,hj⟩:=List.mem_iff_getElem?.1 h1
  have:=qm6 h hj hi h2
  subst this
  rw [hi] at hj
  cases hj
  rw [← h3]
theorem qkq {P:Program} {k:TypeId} {enc:κ→Value} {Ok:κ→Prop} (E:EncOk P k enc Ok) {l:List (Ent κ)} {c:Nat} (hm:MapOk Ok l c) {x:κ} (hx:Ok x) (w:World) :
  ((Instr.findKey k (enc x) (l.map (entE enc))).run P w=.ok none w∧∀ e∈l,e.key≠x) ∨
  ∃ i e,(Instr.findKey k (enc x) (l.map (entE enc))).run P w=.ok (some (i,e.val)) w∧l[i]?=some e∧e.key=x:=by
 obtain ⟨lx,hlx⟩:=E.key x hx
 rcases E.keyed.find w hlx (l.map (entE enc)) (fun e he=>by
  obtain ⟨e',h1,rfl⟩:=List.mem_map.1 he
  exact E.key e'.key (hm.ok e' h1)) with ⟨h1,h2⟩ | ⟨j,e,h1,h2,h3⟩
 ·exact .inl ⟨h1,fun e he hk=>h2 (entE enc e) (List.mem_map.2 ⟨e,he,rfl⟩) (by rw [← hk];rfl)⟩
 ·rw [List.getElem?_map] at h2
  cases hl:l[j]? with
  | none=>rw [hl] at h2;simp at h2
  | some e' =>
   rw [hl] at h2
   simp only [Option.map_some,Option.some.injEq] at h2
   subst h2
   exact .inr ⟨j,e',h1,hl,E.inj _ _ h3⟩
variable {P : Program} {k t ev : TypeId} {enc : κ → Value} {Ok : κ → Prop}
theorem quy (E:EncOk P k enc Ok) (ht:P.underlying t=some (.map k ev)) {w:World} {b:Nat} {l:List (Ent κ)} {c:Nat} (hb:w.heap[b]?=some (mapO enc l c)) (hm:MapOk Ok l c) {z:Value} (hz:(zeroValue ev).run P w=.ok z w) {x:κ} (hx:Ok x) :
  (Instr.lookup t (.map (some b)) (enc x) false).run P w=.ok ((getE l x).getD z) w:=by
 obtain ⟨lx,hlx⟩:=E.key x hx
 rcases qkq E hm hx w with ⟨h1,h2⟩ | ⟨i,e,h1,h2,h3⟩
 ·rw [q1n.2 h2]
  simp [Instr.lookup,run_underlying ht,MapKept.run_getObj_map hb,E.keyed.check w _ hlx,h1,hz,Result.andThen]
 ·subst h3
  rw [qou hm.nodup (List.mem_of_getElem? h2)]
  simp [Instr.lookup,run_underlying ht,MapKept.run_getObj_map hb,E.keyed.check w _ hlx,h1,Result.andThen]
theorem qzb (E:EncOk P k enc Ok) (ht:P.underlying t=some (.map k ev)) {w:World} {b:Nat} {l:List (Ent κ)} {c:Nat} (hb:w.heap[b]?=some (mapO enc l c)) (hm:MapOk Ok l c) {z:Value} (hz:(zeroValue ev).run P w=.ok z w) {x:κ} (hx:Ok x) :
  (Instr.lookup t (.map (some b)) (enc x) true).run P w=.ok (.tuple #[(getE l x).getD z,.bool (hasE l x)]) w:=by
 obtain ⟨lx,hlx⟩:=E.key x hx
 rw [qfb]
 rcases qkq E hm hx w with ⟨h1,h2⟩ | ⟨i,e,h1,h2,h3⟩
 ·rw [q1n.2 h2]
  simp [Instr.lookup,run_underlying ht,MapKept.run_getObj_map hb,E.keyed.check w _ hlx,h1,hz,Result.andThen]
 ·subst h3
  rw [qou hm.nodup (List.mem_of_getElem? h2)]
  simp [Instr.lookup,run_underlying ht,MapKept.run_getObj_map hb,E.keyed.check w _ hlx,h1,Result.andThen]
open Go.ChangeMaps (setBlock modify_eq_set)
theorem qx2 {l:List (Ent κ)} (h:(l.map (·.key)).Nodup) {i:Nat} {e:Ent κ} (hi:l[i]?=some e) (v:Value):l.set i { e with val:=v }=setE l e.key v:=by
 apply List.ext_getElem?
 intro j
 unfold setE
 rw [List.getElem?_set,List.getElem?_map]
 by_cases hj:i=j
 ·subst hj
  obtain ⟨hlt,he⟩:=List.getElem?_eq_some_iff.1 hi
  simp [hi,hlt,he]
 ·rw [if_neg hj]
  cases hl:l[j]? with
  | none=>rfl
  | some e' =>
   have:e'.key≠e.key:=fun hk=>hj (qm6 h hi hl hk.symm)
   simp [this]
theorem q3f (E:EncOk P k enc Ok) (ht:P.underlying t=some (.map k ev)) {w:World} {b:Nat} {l:List (Ent κ)} {c:Nat} (hb:w.heap[b]?=some (mapO enc l c)) (hm:MapOk Ok l c) {x:κ} (hx:Ok x) (v:Value) :
  (Instr.mapUpdate t (.map (some b)) (enc x) v).run P w=.ok () (setBlock w b (mapO enc (putE l c x v) (putC l c x))):=by
 obtain ⟨lx,hlx⟩:=E.key x hx
 unfold putE putC
 rcases qkq E hm hx w with ⟨h1,h2⟩ | ⟨i,e,h1,h2,h3⟩
 ·have hh:hasE l x=false:=by rw [qfb,q1n.2 h2];rfl
  simp [hh,Instr.mapUpdate,run_underlying ht,MapKept.run_getObj_map hb,E.keyed.check w false hlx,h1,MapKept.run_setObj_map _ hb,Result.andThen,setBlock,mapO,entE]
 ·subst h3
  have hh:hasE l e.key=true:=q30.2 ⟨e,List.mem_of_getElem? h2,rfl⟩
  have hj:(l.map (entE enc)).toArray[i]?=some (entE enc e):=by simp [h2]
  have hlist:(l.map (entE enc)).modify i (fun e'=>{ e' with key:=enc e.key,val:=v })=(setE l e.key v).map (entE enc):=by
   rw [modify_eq_set _ _ _ (entE enc e) (by simp [h2]),← qx2 hm.nodup h2 v,List.map_set]
   rfl
  simp [hh,Instr.mapUpdate,run_underlying ht,MapKept.run_getObj_map hb,E.keyed.check w false hlx,h1,h2,entE,E.keyed.stays w hlx,MapKept.run_setObj_map _ hb,Result.andThen,setBlock,mapO]
  rw [← hlist]
theorem qsa (P:Program) (w:World) (k:IntKind) (n:Int):(asInt (.int k n)).run P w=.ok n w:=rfl
def midE (l:List (Ent κ)) (c:Nat) (k:κ) (z:Value):List (Ent κ):=if hasE l k then l else l++[⟨k,z,c⟩]
theorem qnb {l:List (Ent κ)} (h:(l.map (·.born)).Nodup) (enc:κ→Value) {i:Nat} {e:Ent κ} (hi:l[i]?=some e):(l.map (entE enc)).findIdx? (fun e'=>(e'.born:Int)==(e.born:Int))=some i:=by
 obtain ⟨hlt,he⟩:=List.getElem?_eq_some_iff.1 hi
 rw [List.findIdx?_eq_some_iff_getElem]
 refine ⟨by simpa using hlt,by simp [entE,he],?_⟩
 intro j hj
 simp only [List.getElem_map,entE,beq_iff_eq,Int.natCast_inj]
 intro hb
 have hp:=List.pairwise_iff_getElem.1 h j i (by simp;omega) (by simpa using hlt) hj
 exact hp (by simp [hb,he])
def bornE (l:List (Ent κ)) (c:Nat) (k:κ):Nat:=match l.find? (fun e=>decide (e.key=k)) with | some e=>e.born | none=>c
theorem qy0 {l:List (Ent κ)} {c:Nat} {k:κ} (h:∀ e∈l,e.key≠k):bornE l c k=c:=by
 unfold bornE
 have:l.find? (fun e=>decide (e.key=k))=none:=by rw [List.find?_eq_none];intro e he;simpa using h e he
 rw [this]
theorem qy6 {l:List (Ent κ)} {c:Nat} (h:(l.map (·.key)).Nodup) {i:Nat} {e:Ent κ} (hi:l[i]?=some e):bornE l c e.key=e.born:=by
 unfold bornE
 cases hf:l.find? (fun e'=>decide (e'.key=e.key)) with
 | none=>rw [List.find?_eq_none] at hf;exact absurd (hf e (List.mem_of_getElem? hi)) (by simp)
 | some e' =>
  obtain ⟨j,hj⟩:=List.mem_iff_getElem?.1 (List.mem_of_find?_eq_some hf)
  have hk:e'.key=e.key:=by simpa using List.find?_some hf
  have:=qm6 h hj hi hk
  subst this
  rw [hi] at hj
  cases hj
  rfl
theorem qsb (E:EncOk P k enc Ok) (ht:P.underlying t=some (.map k ev)) {w:World} {b:Nat} {l:List (Ent κ)} {c:Nat} (hb:w.heap[b]?=some (mapO enc l c)) (hm:MapOk Ok l c) {z:Value} (hz:(zeroValue ev).run P w=.ok z w) {x:κ} (hx:Ok x) :
  (Instr.mapEntry t (.map (some b)) (enc x)).run P w=.ok (.tuple #[(getE l x).getD z,.int .i64 (bornE l c x)]) (setBlock w b (mapO enc (midE l c x z) (putC l c x))) ∧
   ∀ (W:World) (v:Value),W.heap[b]?=some (mapO enc (midE l c x z) (putC l c x))→(Instr.entryStore t (.map (some b)) (.int .i64 (bornE l c x)) v).run P W=.ok () (setBlock W b (mapO enc (putE l c x v) (putC l c x))):=by
 obtain ⟨lx,hlx⟩:=E.key x hx
 unfold putE putC midE
 rcases qkq E hm hx w with ⟨h1,h2⟩ | ⟨i,e,h1,h2,h3⟩
 ·have hh:hasE l x=false:=by rw [qfb,q1n.2 h2];rfl
  rw [q1n.2 h2,qy0 h2]
  refine ⟨?_,?_⟩
  ·simp [hh,Instr.mapEntry,run_underlying ht,MapKept.run_getObj_map hb,E.keyed.check w false hlx,h1,hz,MapKept.run_setObj_map _ hb,Result.andThen,setBlock,mapO,entE,goInt]
  ·intro W v hW
   simp only [hh] at hW ⊢
   have hn:((l++[(⟨x,z,c⟩:Ent κ)]).map (·.born)).Nodup:=by
    rw [List.map_append,List.nodup_append]
    refine ⟨hm.borns,by simp,?_⟩
    intro a ha b hb
    obtain ⟨e,he,rfl⟩:=List.mem_map.1 ha
    simp only [List.map_cons,List.map_nil,List.mem_singleton] at hb
    have:=hm.lt e he
    omega
   have hf:=qnb hn enc (i:=l.length) (e:=⟨x,z,c⟩) (by simp)
   have hf2:((l++[(⟨x,z,c⟩:Ent κ)]).map (entE enc)).toArray.findIdx? (fun e'=>(e'.born:Int)==(c:Int))=some l.length:=by simpa using hf
   have hmod:((l++[(⟨x,z,c⟩:Ent κ)]).map (entE enc)).modify l.length (fun e'=>{ e' with val:=v })=(l++[(⟨x,v,c⟩:Ent κ)]).map (entE enc):=by
    rw [modify_eq_set _ _ _ (entE enc ⟨x,z,c⟩) (by simp)]
    simp [entE]
   have hW2:W.heap[b]?=some (.map ((l++[(⟨x,z,c⟩:Ent κ)]).map (entE enc)).toArray (c+1)):=hW
   unfold mapO
   simp only [Bool.false_eq_true,if_false]
   rw [← hmod]
   unfold Instr.entryStore
   simp only [Sem.run_bind,MapKept.run_getObj_map hW2,Result.andThen,qsa,hf2]
   rw [MapKept.run_setObj_map _ hW2]
   simp [setBlock]
 ·subst h3
  have hh:hasE l e.key=true:=q30.2 ⟨e,List.mem_of_getElem? h2,rfl⟩
  rw [qou hm.nodup (List.mem_of_getElem? h2),qy6 hm.nodup h2]
  refine ⟨?_,?_⟩
  ·have hlist:(l.map (entE enc)).modify i (fun e'=>{ e' with key:=enc e.key })=l.map (entE enc):=by
    rw [modify_eq_set _ _ _ (entE enc e) (by simp [h2])]
    have:({ entE enc e with key:=enc e.key }:MapEntry)=entE enc e:=rfl
    rw [this]
    apply List.ext_getElem?
    intro j
    rw [List.getElem?_set]
    by_cases hj:i=j
    ·subst hj
     obtain ⟨hlt,he⟩:=List.getElem?_eq_some_iff.1 h2
     simp [hlt,he]
    ·simp [hj]
   simp [hh,Instr.mapEntry,run_underlying ht,MapKept.run_getObj_map hb,E.keyed.check w false hlx,h1,h2,entE,E.keyed.stays w hlx,MapKept.run_setObj_map _ hb,Result.andThen,setBlock,mapO,goInt]
   rw [hlist]
  ·intro W v hW
   simp only [hh,if_true] at hW ⊢
   have hf:=qnb hm.borns enc h2
   have hf2:(l.map (entE enc)).toArray.findIdx? (fun e'=>(e'.born:Int)==(e.born:Int))=some i:=by simpa using hf
   have hmod:(l.map (entE enc)).modify i (fun e'=>{ e' with val:=v })=(setE l e.key v).map (entE enc):=by
    rw [modify_eq_set _ _ _ (entE enc e) (by simp [h2]),← qx2 hm.nodup h2 v,List.map_set]
    rfl
   have hW2:W.heap[b]?=some (.map (l.map (entE enc)).toArray c):=hW
   unfold mapO
   rw [← hmod]
   unfold Instr.entryStore
   simp only [Sem.run_bind,MapKept.run_getObj_map hW2,Result.andThen,qsa,hf2]
   rw [MapKept.run_setObj_map _ hW2]
   simp [setBlock]
theorem MapOk.put {l:List (Ent κ)} {c:Nat} (h:MapOk Ok l c) {x:κ} (hx:Ok x) (v:Value):MapOk Ok (putE l c x v) (putC l c x):=by
 unfold putE putC
 cases hh:hasE l x with
 | true =>
  simp only [if_true]
  have hb:(setE l x v).map (·.born)=l.map (·.born):=by
   unfold setE;rw [List.map_map];apply List.map_congr_left;intro e _;simp only [Function.comp];split<;>rfl
  have hk:(setE l x v).map (·.key)=l.map (·.key):=by
   unfold setE;rw [List.map_map];apply List.map_congr_left;intro e _;simp only [Function.comp];split<;>rfl
  refine ⟨hk ▸ h.nodup,hb ▸ h.borns,?_,?_⟩
  ·intro e he
   obtain ⟨e',h1,rfl⟩:=List.mem_map.1 he
   have:=h.lt e' h1
   split<;>exact this
  ·intro e he
   obtain ⟨e',h1,rfl⟩:=List.mem_map.1 he
   have:=h.ok e' h1
   split<;>exact this
 | false =>
  simp only [Bool.false_eq_true,if_false]
  have hn:∀ e∈l,e.key≠x:=fun e he hk=>by
   have:=q30.2 ⟨e,he,hk⟩
   rw [hh] at this
   cases this
  refine ⟨?_,?_,?_,?_⟩
  ·rw [List.map_append,List.nodup_append]
   refine ⟨h.nodup,by simp,?_⟩
   intro a ha b hb
   obtain ⟨e,he,rfl⟩:=List.mem_map.1 ha
   simp only [List.map_cons,List.map_nil,List.mem_singleton] at hb
   exact hb ▸ hn e he
  ·rw [List.map_append,List.nodup_append]
   refine ⟨h.borns,by simp,?_⟩
   intro a ha b hb
   obtain ⟨e,he,rfl⟩:=List.mem_map.1 ha
   simp only [List.map_cons,List.map_nil,List.mem_singleton] at hb
   have:=h.lt e he
   omega
  ·intro e he
   rcases List.mem_append.1 he with h' | h'
   ·have:=h.lt e h';omega
   ·simp only [List.mem_singleton] at h';subst h';simp
  ·intro e he
   rcases List.mem_append.1 he with h' | h'
   ·exact h.ok e h'
   ·simp only [List.mem_singleton] at h';subst h';exact hx
theorem qv1 {l m:List (Ent κ)} {k:κ}:getE (l++m) k=(getE l k).or (getE m k):=by
 unfold getE
 rw [List.find?_append]
 cases l.find? (fun e=>decide (e.key=k))<;>simp
theorem q29 {l:List (Ent κ)} {c:Nat} {x y:κ} {v:Value}:getE (putE l c x v) y=if y=x then some v else getE l y:=by
 unfold putE
 cases hh:hasE l x with
 | true =>
  simp only [if_true]
  have:∀ l:List (Ent κ),getE (setE l x v) y=if y=x then (getE l x).map (fun _=>v) else getE l y:=by
   intro l
   induction l with
   | nil=>simp [getE,setE]
   | cons e r ih =>
    simp only [getE,setE,List.map_cons,List.find?_cons] at ih ⊢
    by_cases h1:e.key=x
    ·by_cases h2:y=x
     ·subst h2;simp [h1]
     ·simp only [h1,if_true,h2,if_false]
      have h3:decide (x=y)=false:=by simp;exact fun h=>h2 h.symm
      rw [h3]
      simp only [h2,if_false] at ih
      exact ih
    ·simp only [h1,if_false]
     by_cases h4:e.key=y
     ·have h2:¬ y=x:=fun h=>h1 (h4.trans h)
      simp [h4,h2]
     ·simp only [h4,decide_false]
      rw [ih]
  rw [this]
  rw [qfb] at hh
  by_cases h2:y=x
  ·subst h2
   rw [if_pos rfl,if_pos rfl]
   cases hg:getE l y with
   | none=>rw [hg] at hh;cases hh
   | some u=>rfl
  ·rw [if_neg h2,if_neg h2]
 | false =>
  simp only [Bool.false_eq_true,if_false]
  rw [qv1]
  have hn:getE l x=none:=by rw [qfb] at hh;cases hg:getE l x<;>simp_all
  by_cases h2:y=x
  ·subst h2;rw [hn];simp [getE]
  ·rw [if_neg h2]
   have:getE [(⟨x,v,c⟩:Ent κ)] y=none:=q1n.2 (by simp;exact fun h=>h2 h.symm)
   rw [this];simp
theorem qc8 (w:World) (b:Nat) (o:Obj):Mods (fun k=>k=b) w (setBlock w b o):=by
 have:=(Mods.refl (fun k=>k=b) w).putObj (r:=b) (.inl rfl) o
 exact this
theorem qds {w:World} {b:Nat} {o o':Obj} (h:w.heap[b]?=some o):(setBlock w b o').heap[b]?=some o':=by
 have:=qal h
 simp [setBlock,this]
end
structure GE (γ:Type) where
 key:Bs
 born:Nat
 val:Value
 g:γ
def entG {γ:Type} (p:GE γ):Ent Bs:=⟨p.key,p.val,p.born⟩
def rowsG {γ:Type} (R:Value→γ→HF) (ps:List (GE γ)):HF:=ps.flatMap (fun p=>R p.val p.g)
def gOf {γ:Type} (d:γ) (ps:List (GE γ)) (l:Bs):γ:=match ps.find? (fun p=>decide (p.key=l)) with | some p=>p.g | none=>d
def valOf {γ:Type} (z:Value) (ps:List (GE γ)) (l:Bs):Value:=match ps.find? (fun p=>decide (p.key=l)) with | some p=>p.val | none=>z
def hasG {γ:Type} (ps:List (GE γ)) (l:Bs):Bool:=ps.any (fun p=>decide (p.key=l))
def qen {γ:Type} (ps:List (GE γ)) (l:Bs):List (GE γ):=ps.filter (fun p => !decide (p.key=l))
def setG {γ:Type} (ps:List (GE γ)) (c:Nat) (l:Bs) (v:Value) (g:γ):List (GE γ) :=
 if hasG ps l then ps.map (fun p=>if p.key=l then { p with val:=v,g:=g } else p) else ps++[⟨l,c,v,g⟩]
theorem qeu {γ:Type} (z:Value) (ps:List (GE γ)) (l:Bs):(getE (ps.map entG) l).getD z=valOf z ps l:=by
 unfold valOf
 induction ps with
 | nil=>rfl
 | cons p r ih =>
  unfold getE at ih ⊢
  simp only [List.map_cons,List.find?_cons]
  by_cases h:p.key=l
  ·simp [entG,h]
  ·simp only [entG,h,decide_false]
   exact ih
theorem q3u {γ:Type} (ps:List (GE γ)) (l:Bs):hasE (ps.map entG) l=hasG ps l:=by
 unfold hasE hasG
 rw [List.any_map];rfl
theorem qlo {γ:Type} (ps:List (GE γ)) (c:Nat) (l:Bs) (v:Value) (g:γ):(setG ps c l v g).map entG=putE (ps.map entG) c l v:=by
 unfold setG putE
 rw [q3u]
 split
 ·unfold setE
  rw [List.map_map,List.map_map]
  apply List.map_congr_left
  intro p _
  simp only [Function.comp]
  by_cases h:p.key=l
  ·simp [h,entG]
  ·rw [if_neg h,if_neg (by exact h)]
 ·simp [entG]
theorem qqf {γ:Type} (R:Value→γ→HF) (z:Value) (d:γ) (hR:R z d=[]):∀ (ps:List (GE γ)) (l:Bs),(ps.map (·.key)).Nodup→(rowsG R ps).Perm (R (valOf z ps l) (gOf d ps l)++rowsG R (qen ps l)):=by
 intro ps l
 induction ps with
 | nil=>intro _;simp [rowsG,valOf,gOf,qen,hR]
 | cons p r ih =>
  intro hn
  simp only [List.map_cons,List.nodup_cons] at hn
  obtain ⟨h1,h2⟩:=hn
  have ih:=ih h2
  simp only [rowsG,valOf,gOf,qen,List.flatMap_cons,List.find?_cons,List.filter_cons] at ih ⊢
  by_cases h:p.key=l
  ·have hf:r.filter (fun p => !decide (p.key=l))=r:=List.filter_eq_self.2 (fun q hq=>by
    simp only [Bool.not_eq_true',decide_eq_false_iff_not]
    intro hk
    exact h1 (List.mem_map.2 ⟨q,hq,hk.trans h.symm⟩))
   simp only [h,decide_true,Bool.not_true,Bool.false_eq_true,if_false,hf]
   exact List.Perm.refl _
  ·simp only [h,decide_false,Bool.not_false,if_true,List.flatMap_cons]
   refine (List.Perm.append_left _ ih).trans ?_
   rw [← List.append_assoc,← List.append_assoc]
   exact List.Perm.append_right _ List.perm_append_comm
theorem qu0 {γ:Type} (R:Value→γ→HF):∀ (ps:List (GE γ)) (c:Nat) (l:Bs) (v:Value) (g:γ),(ps.map (·.key)).Nodup→(rowsG R (setG ps c l v g)).Perm (R v g++rowsG R (qen ps l)):=by
 intro ps c l v g hn
 unfold setG
 split
 ·rename_i hh
  have key:∀ (ps:List (GE γ)),(ps.map (·.key)).Nodup→hasG ps l=true→(rowsG R (ps.map (fun p=>if p.key=l then { p with val:=v,g:=g } else p))).Perm (R v g++rowsG R (qen ps l)):=by
   intro ps
   induction ps with
   | nil=>intro _ h;simp [hasG] at h
   | cons p r ih =>
    intro hn hh
    simp only [List.map_cons,List.nodup_cons] at hn
    obtain ⟨h1,h2⟩:=hn
    by_cases h:p.key=l
    ·have hne:∀ q∈r,q.key≠l:=fun q hq hk=>h1 (List.mem_map.2 ⟨q,hq,hk.trans h.symm⟩)
     have hf:r.filter (fun p => !decide (p.key=l))=r:=List.filter_eq_self.2 (fun q hq=>by simp [hne q hq])
     have hm:r.map (fun p=>if p.key=l then { p with val:=v,g:=g } else p)=r:=by
      conv=>rhs;rw [← List.map_id r]
      exact List.map_congr_left (fun q hq=>by simp [hne q hq])
     simp only [rowsG,qen,List.map_cons,List.flatMap_cons,List.filter_cons,h,if_true,decide_true,Bool.not_true,Bool.false_eq_true,if_false,hf,hm]
     exact List.Perm.refl _
    ·have hh2:hasG r l=true:=by simpa [hasG,h] using hh
     have ih:=ih h2 hh2
     simp only [rowsG,qen,List.map_cons,List.flatMap_cons,List.filter_cons,h,if_false,decide_false,Bool.not_false,if_true] at ih ⊢
     refine (List.Perm.append_left _ ih).trans ?_
     rw [← List.append_assoc,← List.append_assoc]
     exact List.Perm.append_right _ List.perm_append_comm
  exact key ps hn hh
 ·rename_i hh
  have hf:qen ps l=ps:=List.filter_eq_self.2 (fun q hq=>by
   simp only [Bool.not_eq_true',decide_eq_false_iff_not]
   intro hk
   apply hh
   simp only [hasG,List.any_eq_true,decide_eq_true_eq]
   exact ⟨q,hq,hk⟩)
  rw [hf]
  unfold rowsG
  rw [List.flatMap_append]
  simpa using List.perm_append_comm
theorem qje {γ:Type} (ps:List (GE γ)):(ps.map entG).map (·.key)=ps.map (·.key):=by rw [List.map_map];rfl
theorem qlc {γ:Type} {ps:List (GE γ)} {c:Nat} {l:Bs} {v:Value} {g:γ} {p:GE γ} (h:p∈setG ps c l v g):(p∈ps∧p.key≠l)∨(p.key=l∧p.val=v∧p.g=g):=by
 unfold setG at h
 split at h
 ·obtain ⟨q,hq,rfl⟩:=List.mem_map.1 h
  by_cases hk:q.key=l
  ·exact .inr (by simp [hk])
  ·rw [if_neg hk];exact .inl ⟨hq,hk⟩
 ·rename_i hh
  rcases List.mem_append.1 h with h' | h'
  ·refine .inl ⟨h',fun hk=>hh ?_⟩
   simp only [hasG,List.any_eq_true,decide_eq_true_eq]
   exact ⟨p,h',hk⟩
  ·simp only [List.mem_singleton] at h';subst h';exact .inr ⟨rfl,rfl,rfl⟩
theorem qon {γ:Type} (d:γ) (ps:List (GE γ)) (c:Nat) (l m:Bs) (v:Value) (g:γ):gOf d (setG ps c l v g) m=if m=l then g else gOf d ps m:=by
 unfold setG
 split
 ·rename_i hh
  have key:∀ ps:List (GE γ),gOf d (ps.map (fun p=>if p.key=l then { p with val:=v,g:=g } else p)) m=if m=l∧hasG ps l=true then g else gOf d ps m:=by
   intro ps
   unfold gOf
   induction ps with
   | nil=>simp [hasG]
   | cons p r ih =>
    simp only [List.map_cons,List.find?_cons]
    by_cases h:p.key=l
    ·by_cases h2:m=l
     ·subst h2;simp [h,hasG]
     ·have h3:¬ l=m:=fun e=>h2 e.symm
      simp only [h,if_true,h3,decide_false,h2,false_and,if_false]
      simpa [h2] using ih
    ·by_cases h4:p.key=m
     ·have h2:¬ m=l:=fun e=>h (h4.trans e)
      simp [h,h4,h2]
     ·simp only [h,if_false,h4,decide_false]
      rw [ih]
      simp [hasG,h]
  rw [key,hh];simp
 ·rename_i hh
  unfold gOf
  rw [List.find?_append]
  by_cases h:m=l
  ·subst h
   have hn:ps.find? (fun p=>decide (p.key=m))=none:=by
    rw [List.find?_eq_none]
    intro q hq hk
    apply hh
    simp only [hasG,List.any_eq_true]
    exact ⟨q,hq,hk⟩
   simp [hn]
  ·have h2:¬ l=m:=fun e=>h e.symm
   simp only [List.find?_cons,h2,decide_false,List.find?_nil,Option.or_none,h,if_false]
end Go.Proofs.YtdhobpbngkainaaGreatDoor
namespace Go.Proofs.YtdhobpbngkainaaGreatDoor
open Go.RowKit
abbrev errV (n:Int):Value:=.iface 49 (.int .i64 n)
def q02 (X:ArchL) (ps:List Bs) (w:World) (e:Ending) (w':World):Prop:=e=.returned (if X.closed then errV 9 else if ps.all qa6 then .nilIface else errV 1)∧Same w w'
def q3o (ps:List Bs) (w:World) (i:Value) (wr:World):Prop:=∃ k:Nat,k≤ps.length∧i=.int .i64 k∧Same w wr∧∀ j (h:j<ps.length),j<k→qa6 ps[j]=true
theorem qn9 (a:Nat) (X:ArchL) (ad:Option Addr) (cap:Nat) (ps:List Bs) (w:World) (h:w.heap[a]?=some (archO X)) (hp:qaj w ad (ps.map str)) (hl:ps.length≤1000000) :
  Calls Tryz.prog 75 #[.pointer (some ⟨a,0,none⟩),.slice ad ps.length cap] w (q02 X ps w):=by
 have a10:w.cell? ⟨a,10,none⟩=some (.bool X.closed):=qac h 10 rfl
 have hal:=qal h
 obtain ⟨cl,hcl⟩:∃ cl,cl=X.closed:=⟨_,rfl⟩
 rw [← hcl] at a10
 have HC:=Lib.hid (And.intro hcl (And.intro hp h))
 clear hcl hp h
 cases cl with
 | true =>
  go_enter Tryz.func75,Tryz.ntmps75
  go_wp2_with fail
  exact bodyPost_ret (results_tmp rfl _ _ _) rfl ⟨by rw [← HC.out.1];rfl,Mods.refl _ _⟩
 | false =>
  go_enter Tryz.func75,Tryz.ntmps75
  go_wp2_with fail
  go_loopw [14] (fun v wr=>q3o ps w v wr) (fun v _=>ps.length-(intOf v).toNat)
  case atStart=>exact ⟨0,Nat.zero_le _,rfl,Mods.refl _ _,fun j h hj=>by omega⟩
  case round =>
   obtain ⟨k,hk,rfl,hs,hall⟩:=hrel
   have HR:=Lib.hid (And.intro hs hall)
   clear hs hall
   by_cases hlt:k<ps.length
   ·obtain ⟨g,off,hg,hcell⟩:=HC.out.2.1.keep HR.out.1 (fun _ _ _=>id) (by simpa using (by omega:0<ps.length))
    subst hg
    have hck:wr.cell? ⟨g,off+k,none⟩=some (str ps[k]):=by
     rw [hcell k (by simpa using hlt)];simp
    have HP:=Lib.hid (fun W=>qts ps[k] W)
    obtain ⟨p,hpe⟩:∃ p,p=ps[k]:=⟨_,rfl⟩
    rw [← hpe] at hck HP
    have HPE:=Lib.hid hpe
    clear hpe hcell
    go_wp2_with fail
    refine (HP.out _).mono ?_
    rintro e w1 ⟨rfl,hs1⟩
    obtain ⟨b,hb⟩:∃ b,b=qa6 p:=⟨_,rfl⟩
    rw [← hb]
    have HB:=Lib.hid (And.intro hb hs1)
    clear hb hs1
    cases b with
    | true =>
     go_wp2_with fail
     go_roundw
     case rel=>exact ⟨k+1,by omega,by go_num,HR.out.1.trans HB.out.2,fun j h hj=>by
      rcases Nat.lt_or_ge j k with h' | h'
      ·exact HR.out.2 j h h'
      ·obtain rfl:j=k:=by omega
       rw [← HPE.out];exact HB.out.1.symm⟩
     case measure=>simp [intOf];omega
    | false =>
     go_wp2_with fail
     refine bodyPost_ret (results_tmp rfl _ _ _) rfl ⟨?_,HR.out.1.trans HB.out.2⟩
     rw [← HC.out.1,if_neg (by simp),if_neg]
     ·rfl
     ·intro hh
      have:=List.all_eq_true.1 hh p (HPE.out ▸ List.getElem_mem hlt)
      rw [← HB.out.1] at this
      cases this
   ·obtain rfl:k=ps.length:=by omega
    go_wp2_with fail
    refine bodyPost_end (results_tmp rfl _ _ _) rfl ⟨?_,HR.out.1⟩
    rw [← HC.out.1,if_neg (by simp),if_pos]
    ·rfl
    refine List.all_eq_true.2 (fun p hp=>?_)
    obtain ⟨j,hj,rfl⟩:=List.mem_iff_getElem.1 hp
    exact HR.out.2 j hj hj
end Go.Proofs.YtdhobpbngkainaaGreatDoor
namespace Go.Proofs.YtdhobpbngkainaaGreatDoor
open Go.RowKit Go.Maps
structure VerL where
 blk:Nat
 num:Nat
 size:Nat
 cv:Value
 chs:List (Nat×Nat)
 held:Int
def qdl (V:VerL):Array Value:=#[.int .i64 V.num,.int .i64 V.size,V.cv,.int .i64 V.held]
def verO (V:VerL):Obj:=.cells (qdl V) 152 (0,0)
def qke (p:Nat×Nat):List Value:=[.int .i64 p.1,.int .i64 p.2]
def qb2 (l:List (Nat×Nat)):List Value:=l.flatMap qke
def qa2 (v:Value) (l:List (Nat×Nat)):HF:=rowF 161 2 v l.length (qb2 l)
def qbl (v:Value) (l:List (Nat×Nat)):Prop:=RowOk 2 v l.length (qb2 l)
def verF (V:VerL):HF:=(V.blk,Is (verO V))::qa2 V.cv V.chs
def ptrV (V:VerL):Value:=.pointer (some ⟨V.blk,0,none⟩)
abbrev PathL:=GE (List VerL)
def qdd (v:Value) (l:List VerL):HF:=rowF 149 1 v l.length (l.map ptrV)
def ptrOk (v:Value) (l:List VerL):Prop:=RowOk 1 v l.length (l.map ptrV)
def pathR (v:Value) (g:List VerL):HF:=qdd v g++g.flatMap verF
def q7j (p:PathL):Prop:=ptrOk p.val p.g∧∀ V∈p.g,qbl V.cv V.chs
def qbc (pm:Nat) (ps:List PathL) (c:Nat):HF:=(pm,Is (mapO str (ps.map entG) c))::rowsG pathR ps
def OkS (l:Bs):Prop:=l.length≤1000000
structure PathsOk (ps:List PathL) (c:Nat):Prop where
 map:MapOk OkS (ps.map entG) c
 rows:∀ p∈ps,q7j p
theorem q50:∀ a b:Bs,str a=str b→a=b:=fun a b h=>by
 simp only [str,Value.string.injEq,ByteArray.mk.injEq] at h
 simpa using congrArg Array.toList h
theorem qh4:EncOk Tryz.prog 9 str OkS where
 keyed:=string_keyed Tryz.underlying9
 inj:=q50
 key:=fun a h=>⟨_,Go.WideMaps.keyOf_string_mk Tryz.underlying9 (by
  simp only [ByteArray.size]
  unfold OkS at h
  unfold maxLen
  simp
  omega)⟩
def qaq (ps:List PathL) (l:Bs):List VerL:=gOf [] ps l
theorem Sat.flat {α:Type} {w:World} {f:α→HF}:∀ {l:List α},Sat w (l.flatMap f)→∀ {x:α},x∈l→Sat w (f x)
 | [],_,_,hx=>by simp at hx
 | a::r,h,x,hx=>by
  rw [List.flatMap_cons] at h
  rcases List.mem_cons.1 hx with rfl | hx
  ·exact h.left
  ·exact Sat.flat h.right hx
theorem qik {w:World} {pm c:Nat} {ps:List PathL} (h:Sat w (qbc pm ps c)) (hok:PathsOk ps c) (l:Bs) :
  ∃ sl cap,valOf (.slice none 0 0) ps l=.slice sl (qaq ps l).length cap∧(qaq ps l).length≤cap∧cap≤9223372036854775807∧qaj w sl ((qaq ps l).map ptrV)∧(∀ V∈qaq ps l,w.heap[V.blk]?=some (verO V))∧(dom ((qaq ps l).flatMap verF)).Nodup:=by
 unfold qaq valOf gOf
 cases hf:ps.find? (fun p=>decide (p.key=l)) with
 | none=>exact ⟨none,0,rfl,Nat.le_refl _,by omega,fun h=>by simp at h,fun V hV=>by simp at hV,List.nodup_nil⟩
 | some p =>
  have hm:=List.mem_of_find?_eq_some hf
  have hp:Sat w (pathR p.val p.g):=Sat.flat (f:=fun p:PathL=>pathR p.val p.g) h.tail hm
  have hok2:=hok.rows p hm
  obtain ⟨sl,cap,e1,e2,e3,e5,e4,_⟩:=qko (qbm hp.left hok2.1)
  refine ⟨sl,cap,by simpa using e1,e3,e5,e4,fun V hV=>?_,?_⟩
  ·have:Sat w (verF V):=Sat.flat hp.right hV
   exact this.headIs
  ·exact hp.right.nodup
def findV:List VerL→Int→Option VerL
 | [],_=>none
 | v::r,n=>if (v.num:Int)=n∨(n=0∧r=[]) then some v else findV r n
def qtv (X:ArchL) (ps:List PathL) (l:Bs) (n:Int) (w:World) (e:Ending) (w':World):Prop :=
 e=.returned (if X.closed then .tuple #[.pointer none,errV 9] else if qa6 l then (match findV (qaq ps l) n with | some V=>.tuple #[ptrV V,.nilIface] | none=>.tuple #[.pointer none,errV 3]) else .tuple #[.pointer none,errV 1])∧Same w w'
theorem q5q:∀ {vs:List VerL},(dom (vs.flatMap verF)).Nodup→∀ {i j:Nat} (hi:i<vs.length) (hj:j<vs.length),vs[i].blk=vs[j].blk↔i=j:=by
 have key:∀ {vs:List VerL},(dom (vs.flatMap verF)).Nodup→∀ {i j:Nat} (hj:j<vs.length) (hij:i<j),vs[i].blk≠vs[j].blk:=by
  intro vs
  induction vs with
  | nil=>intro _ i j hj;simp at hj
  | cons v r ih =>
   intro h i j hj hij e
   rw [List.flatMap_cons,qcw,List.nodup_append] at h
   cases j with
   | zero=>omega
   | succ j =>
    cases i with
    | zero =>
     simp only [List.getElem_cons_zero,List.getElem_cons_succ] at e
     have h1:v.blk∈dom (verF v):=by simp [verF]
     have hjr:j<r.length:=by simpa using hj
     have h2:v.blk∈dom (r.flatMap verF):=by
      rw [e]
      refine List.mem_map.2 ⟨(r[j].blk,Is (verO r[j])),List.mem_flatMap.2 ⟨r[j],List.getElem_mem hjr,by simp [verF]⟩,rfl⟩
     exact h.2.2 _ h1 _ h2 rfl
    | succ i =>
     simp only [List.getElem_cons_succ] at e
     exact ih h.2.1 (by simpa using hj) (by omega) e
 intro vs h i j hi hj
 refine ⟨fun e=>?_,fun e=>by subst e;rfl⟩
 rcases Nat.lt_trichotomy i j with hl | hl | hl
 ·exact absurd e (key h hj hl)
 ·exact hl
 ·exact absurd e.symm (key h hi hl)
theorem q5k {w:World} {U V:VerL} (hu:w.heap[U.blk]?=some (verO U)) (hv:w.heap[V.blk]?=some (verO V)) :
  (binOp .eql 149 (.pointer (some ⟨U.blk,0,none⟩)) (.pointer (some ⟨V.blk,0,none⟩))).run Tryz.prog w=.ok (.bool (decide (U.blk=V.blk))) w:=by
 have hs:(Tryz.prog.info? 152).map (·.size)=some 4:=by kernel_rfl
 obtain ⟨j,hj,hsz⟩:=Option.map_eq_some_iff.1 hs
 by_cases h:U.blk=V.blk
 ·rw [← h,decide_eq_true rfl]
  exact run_eql_ptr_same w _ Tryz.underlying149 hj
 ·rw [decide_eq_false h]
  exact run_eql_ptr_other w Tryz.underlying149 hj (by rw [hsz];decide) (fun e=>h (congrArg Addr.block e)) hu hv
theorem qhp {κ:Type} [DecidableEq κ] {P:Program} {k t ev:TypeId} {enc:κ→Value} {Ok:κ→Prop} (E:EncOk P k enc Ok) {w:World} {ops:Array Oper} {rest:List Oper} {o:Oper} {a:Act} {Q:Exit→Act→World→Prop}
  (hg:o.guard=none) (m x:Operand) (hop:o.op=.lookup t m x false) (ht:P.underlying t=some (.map k ev)) {b:Nat} {l:List (Ent κ)} {c:Nat} (hb:w.heap[b]?=some (mapO enc l c)) (hm:MapOk Ok l c) {z:Value} (hz:(zeroValue ev).run P w=.ok z w)
  (key:κ) (hmv:a.eval m=.map (some b)) (hx:a.eval x=enc key) (hk:Ok key) (hK:wpList P ops Q rest (a.put o.dst ((getE l key).getD z)) w):wpList P ops Q (o::rest) a w:=by
 refine qak hg (qag (v:=(getE l key).getD z) (w':=w) ?_ hK)
 simp [execOp,hop,hmv,hx,quy E ht hb hm hz hk,Result.andThen]
theorem qh2 (w:World):(zeroValue 153).run Tryz.prog w=.ok (.slice none 0 0) w:=by kernel_rfl
def qql (vs:List VerL) (n:Int) (w:World) (i:Value) (wr:World):Prop:=∃ k:Nat,k≤vs.length∧i=.int .i64 k∧Same w wr∧findV vs n=findV (vs.drop k) n
theorem qk0 (a:Nat) (X:ArchL) (ps:List PathL) (c:Nat) (l:Bs) (n:Int) (w:World) (h:w.heap[a]?=some (archO X)) (hp:Sat w (qbc X.pm ps c)) (hok:PathsOk ps c) :
  Calls Tryz.prog 85 #[.pointer (some ⟨a,0,none⟩),str l,.int .i64 n] w (qtv X ps l n w):=by
 have hal:=qal h
 have HB:=Lib.hid (fun W (hW:Same w W) (hc:W.cell? ⟨w.heap.size,0,none⟩=some (str l))=>qn9 a X (some ⟨w.heap.size,0,none⟩) 1 [l] W (hW.at h id) (fun _=>⟨_,_,rfl,fun j hj=>by
  obtain rfl:j=0:=by simp at hj;omega
  exact hc⟩) (by simp))
 have HC:=Lib.hid (And.intro h (And.intro hp hok))
 clear h hp hok
 go_enter Tryz.func85,Tryz.ntmps85
 go_wp2_with fail
 refine (HB.out _ ((Mods.refl _ w).alloc _) (qac (qa7 w _) 0 rfl)).mono ?_
 rintro e w1 ⟨rfl,hs1⟩
 have hs2:Same w w1:=((Mods.refl _ w).alloc _).trans hs1
 obtain ⟨cl,hcl⟩:∃ cl,cl=X.closed:=⟨_,rfl⟩
 obtain ⟨pb,hpb⟩:∃ pb,pb=qa6 l:=⟨_,rfl⟩
 have e1:([l].all qa6)=pb:=by simp [hpb]
 rw [e1,← hcl]
 have HD:=Lib.hid (And.intro hcl (And.intro hpb hs2))
 clear hcl hpb hs2 hs1 e1
 cases cl with
 | true =>
  simp only [if_true]
  go_wp2_with fail
  refine bodyPost_ret (results_tmp2 rfl _ _ _) rfl ⟨?_,HD.out.2.2⟩
  rw [← HD.out.1];rfl
 | false =>
  cases pb with
  | false =>
   simp only [Bool.false_eq_true,if_false]
   go_wp2_with fail
   refine bodyPost_ret (results_tmp2 rfl _ _ _) rfl ⟨?_,HD.out.2.2⟩
   rw [← HD.out.1,← HD.out.2.1];rfl
  | true =>
   obtain ⟨sl,cap,hl1,hl2,hl6,hl3,hl4,hl5⟩:=qik (HC.out.2.1.same HD.out.2.2) HC.out.2.2 l
   have b0:w1.cell? ⟨a,0,none⟩=some (.map (some X.pm)):=qac (HD.out.2.2.at HC.out.1 id) 0 rfl
   have hal1:a<w1.heap.size:=Nat.lt_of_lt_of_le hal HD.out.2.2.size
   obtain ⟨vs,hvs⟩:∃ vs,vs=qaq ps l:=⟨_,rfl⟩
   rw [← hvs] at hl1 hl2 hl3 hl4 hl5
   have HG:=Lib.hid (And.intro hl1 (And.intro hl3 (And.intro hl4 (And.intro hl5 hvs))))
   clear hl1 hl3 hl4 hl5 hvs
   have hmo:=(HC.out.2.1.same HD.out.2.2).headIs
   have HM:=Lib.hid hmo
   clear hmo
   have hlen:OkS l:=by
    have:=HD.out.2.1
    unfold qa6 at this
    have h2:=this.symm
    simp only [Bool.and_eq_true,decide_eq_true_eq] at h2
    unfold OkS;have:=h2.1.2;omega
   have HL:=Lib.hid hlen
   clear hlen
   simp only [Bool.false_eq_true,if_false,if_true]
   go_wp2_with (at_lookup;refine qhp qh4 rfl _ _ rfl Tryz.underlying119 HM.out HC.out.2.2.map (qh2 _) l rfl rfl HL.out ?_;rw [qeu,HG.out.1])
   go_loopw [28] (fun v wr=>qql vs n w1 v wr) (fun v _=>vs.length-(intOf v).toNat)
   case atStart=>exact ⟨0,Nat.zero_le _,rfl,Mods.refl _ _,rfl⟩
   case round =>
    obtain ⟨k,hk,rfl,hs,hfi⟩:=hrel
    have HR:=Lib.hid (And.intro hs hfi)
    clear hs hfi
    by_cases hlt:k<vs.length
    ·obtain ⟨g,off,hg,hcell⟩:=HG.out.2.1.keep HR.out.1 (fun _ _ _=>id) (by simpa using (by omega:0<vs.length))
     subst hg
     obtain ⟨V,hV⟩:∃ V,V=vs[k]:=⟨_,rfl⟩
     obtain ⟨z,hz⟩:∃ z,vs.length=z+1:=⟨vs.length-1,by omega⟩
     obtain ⟨Z,hZ⟩:∃ Z,Z=vs[z]:=⟨_,rfl⟩
     have hw:wrap64 ((vs.length:Int)-1)=(z:Int):=by rw [IntWalk.wrap64_in _ (by omega)];omega
     have hzl:(z:Int)<(vs.length:Int):=by omega
     have hz1:z<vs.length:=by omega
     have hz2:¬ vs.length≤z:=by omega
     have hck:wr.cell? ⟨g,off+k,none⟩=some (ptrV V):=by rw [hcell k (by simpa using hlt)];simp [hV]
     have hcz:wr.cell? ⟨g,off+(vs.length-1),none⟩=some (ptrV Z):=by rw [show vs.length-1=z by omega,hcell z (by simp;omega)];simp [hZ]
     have hvo:=HR.out.1.at (HG.out.2.2.1 V (hV ▸ List.getElem_mem hlt)) id
     have v0:wr.cell? ⟨V.blk,0,none⟩=some (.int .i64 V.num):=qac hvo 0 rfl
     have hdr:vs.drop k=V::vs.drop (k+1):=by rw [hV];exact List.drop_eq_getElem_cons hlt
     have hzk:V.blk=Z.blk↔k=z:=by
      rw [hV,hZ]
      exact q5q HG.out.2.2.2.1 hlt hz1
     have hpe:=q5k hvo (HR.out.1.at (HG.out.2.2.1 Z (hZ ▸ List.getElem_mem hz1)) id)
     have HV:=Lib.hid (And.intro hdr (And.intro hzk hz))
     clear hcell hvo hdr hzk hV hZ hz
     unfold ptrV at hck hcz
     by_cases c1:(V.num:Int)=n
     ·go_wp2_with fail
      refine bodyPost_ret (results_tmp2 rfl _ _ _) rfl ⟨?_,HD.out.2.2.trans HR.out.1⟩
      rw [← HD.out.1,← HD.out.2.1,← HG.out.2.2.2.2,HR.out.2,HV.out.1]
      simp only [findV,c1,true_or,if_true]
      rfl
     ·by_cases c2:n=0
      ·subst c2
       by_cases c3:V.blk=Z.blk
       ·rw [decide_eq_true c3] at hpe
        have C3:=Lib.hid c3
        clear c3
        go_wp2_with fail
        refine bodyPost_ret (results_tmp2 rfl _ _ _) rfl ⟨?_,HD.out.2.2.trans HR.out.1⟩
        have hlast:vs.drop (k+1)=[]:=List.drop_of_length_le (by have:=HV.out.2.1.1 C3.out;have:=HV.out.2.2;omega)
        rw [← HD.out.1,← HD.out.2.1,← HG.out.2.2.2.2,HR.out.2,HV.out.1,hlast]
        simp only [findV,and_self,or_true,if_true]
        rfl
       ·rw [decide_eq_false c3] at hpe
        have hrel:qql vs 0 w1 (.int .i64 ((k:Int)+1)) wr:=by
         refine ⟨k+1,by omega,by go_num,HR.out.1,?_⟩
         rw [HR.out.2,HV.out.1]
         have:¬ vs.drop (k+1)=[]:=fun h=>c3 (HV.out.2.1.2 (by have:=congrArg List.length h;rw [List.length_drop] at this;have h3:=HV.out.2.2;simp only [List.length_nil] at this;omega))
         simp only [findV,c1,this,and_false,or_false,if_false]
        have HREL:=Lib.hid hrel
        clear hrel
        go_wp2_with fail
        go_roundw
        case rel=>exact HREL.out
        case measure=>simp [intOf];omega
      ·have hrel:qql vs n w1 (.int .i64 ((k:Int)+1)) wr:=by
        refine ⟨k+1,by omega,by go_num,HR.out.1,?_⟩
        rw [HR.out.2,HV.out.1]
        simp [findV,c1,c2]
       have HREL:=Lib.hid hrel
       clear hrel
       go_wp2_with fail
       go_roundw
       case rel=>exact HREL.out
       case measure=>simp [intOf];omega
    ·obtain rfl:k=vs.length:=by omega
     go_wp2_with fail
     refine bodyPost_ret (results_tmp2 rfl _ _ _) rfl ⟨?_,HD.out.2.2.trans HR.out.1⟩
     rw [← HD.out.1,← HD.out.2.1,← HG.out.2.2.2.2,HR.out.2]
     simp [findV]
end Go.Proofs.YtdhobpbngkainaaGreatDoor
namespace Go.Proofs.YtdhobpbngkainaaGreatDoor
open Go.RowKit
theorem quo (l:Bs):(⟨l.toArray⟩:ByteArray).size=l.length:=by simp [ByteArray.size]
theorem q28 (l:Bs) (size:Nat):(Builtin.firstCells size l.length (str l))=pure (l.map enc8).toArray:=by
 simp only [str,Builtin.firstCells]
 congr 1
 have:(⟨l.toArray⟩:ByteArray).extract 0 l.length=⟨l.toArray⟩:=by
  apply ByteArray.ext
  simp
 rw [this]
 simp [enc8]
section
variable {P : Program} (w : World)
theorem qqs (t u ty e:TypeId) (i:TypeInfo) (z:Value) (bytes:Nat) (ht:P.underlying t=some (.slice e)) (hu:P.underlying u=some .string) (hi:P.info? e=some i) (hz:i.zero=some z)
  (hsize:i.size=1) (hby:i.bytes=bytes) (hzs:z.cells.size=1)
  (v:Value) (n:Nat) (xs:List Value) (hown:w.ownsRow 0 e 1 v n xs) (r:Bs)
  (h63:n+r.length≤maxLen) (hbytes:(n+r.length)*bytes≤140737488355328) :
  ∃ v' w',(Builtin.append_ #[t,u] ty #[v,str r]).run P w=.ok v' w'∧w'.ownsRow 0 e 1 v' (n+r.length) (xs++r.map enc8)∧w.grownBy w' v.ownBlock∧(∀ g,v'.ownBlock=some g→v.ownBlock=some g∨w.heap.size≤g)∧(v'=.slice none 0 0↔v=.slice none 0 0∧r.length=0):=by
 have hl:(r.map enc8).length=r.length*i.size:=by simp [hsize]
 subst hby
 have hsmall:n+r.length≤9223372036854775807:=by simp only [maxLen] at h63;omega
 have hlen:(xs++r.map enc8).length=(n+r.length)*1:=by rw [List.length_append,hown.1];simp
 have hsz:=quo r
 have hfc:=q28 r i.size
 have grown:∀ (old:Nat),old<n+r.length→∀ (row:Option Nat),
   (w.drew.alloc (.cells (xs.toArray++(r.map enc8).toArray++Builtin.zeroCells z.cells (grownCap w (n+r.length) old e-(n+r.length))) e)).ownsRow 0 e 1
    (.slice (some ⟨w.heap.size,0,none⟩) (n+r.length) (grownCap w (n+r.length) old e)) (n+r.length) (xs++r.map enc8) ∧
   w.grownBy (w.drew.alloc (.cells (xs.toArray++(r.map enc8).toArray++Builtin.zeroCells z.cells (grownCap w (n+r.length) old e-(n+r.length))) e)) row:=by
  intro old ho row
  have hge:=grownCap_ge w (n+r.length) old e
  have hcm:grownCap w (n+r.length) old e≤maxLen:=grownCap_le_maxLen w (n+r.length) old e h63
  refine ⟨⟨hlen,.inr ⟨w.heap.size,_,_,rfl,Nat.zero_le _,World.alloc_heap_new w.drew _,hge,hcm,?_,?_⟩⟩,⟨rfl,rfl,rfl,by simp,fun k hk _=>qcz (w:=w.drew) hk⟩⟩
  ·simp only [Array.size_append,List.size_toArray,size_zeroCells,hzs,hown.1,List.length_map]
   omega
  ·simp only [Array.toList_append,List.append_assoc]
   rw [← List.append_assoc,← hlen]
   exact List.take_left
 rcases hown.2 with ⟨rfl,rfl⟩ | ⟨g,cap,cur,rfl,hbg,hg,hnc,hcm,hcs,htake⟩
 ·have hx:xs=[]:=List.eq_nil_of_length_eq_zero (by simpa using hown.1)
  subst hx
  by_cases hm:r.length=0
  ·obtain rfl:r=[]:=List.eq_nil_of_length_eq_zero hm
   refine ⟨.slice none 0 0,w,?_,World.ownsRow_nil w 0 e 1,⟨rfl,rfl,rfl,Nat.le_refl _,fun _ _ _=>rfl⟩,fun g h=>.inl h,by simp⟩
   simp [Builtin.append_,run_underlying ht,run_underlying hu,sizeOf,typeInfo,hi,Builtin.lenOf,str,Builtin.firstCells,storeCells]
   try rfl
  ·have hn:r.length≠0:=hm
   have h63':¬ (9223372036854775807<(r.length:Int)):=by omega
   have h48':¬ (281474976710656<Builtin.nextslicecap r.length 0*i.bytes):=by rw [nextslicecap_zero (by omega)];simp only [Nat.zero_add] at hbytes;omega
   have hr:(Builtin.append_ #[t,u] ty #[.slice none 0 0,str r]).run P w=.ok (.slice (some ⟨w.heap.size,0,none⟩) r.length (grownCap w r.length 0 e)) (w.drew.alloc (.cells ((r.map enc8).toArray++Builtin.zeroCells z.cells (grownCap w r.length 0 e-r.length)) e)):=by
    unfold str at hfc ⊢
    simp [Builtin.append_,run_underlying ht,run_underlying hu,sizeOf,typeInfo,zeroValue,hi,hz,Builtin.lenOf,hsz,hn,h63',h48',Question.forced,run_firstCells_none,hfc,newRow,grownCap]
   have hgr:=grown 0 (by omega) (Value.ownBlock (.slice none 0 0))
   simp only [Nat.zero_add,List.nil_append,Array.empty_append] at hgr ⊢
   exact ⟨_,_,hr,hgr.1,hgr.2,fun g hg=>by simp [Value.ownBlock] at hg;exact .inr (by omega),by simp [hm]⟩
 ·by_cases hroom:n+r.length≤cap
  ·have hfit:n*i.size+(r.map enc8).length≤cur.size:=by rw [hl,hcs,hsize];omega
   have hst:=run_storeCells_at P g (n*i.size) e (r.map enc8) 0 cur w hg (by simpa using hfit) (qc3 r)
   simp only [Nat.add_zero] at hst
   have hr:(Builtin.append_ #[t,u] ty #[.slice (some ⟨g,0,none⟩) n cap,str r]).run P w=.ok (.slice (some ⟨g,0,none⟩) (n+r.length) cap) (w.setRow g (cur.toList.take (n*i.size)++r.map enc8++cur.toList.drop (n*i.size+(r.map enc8).length)).toArray):=by
    unfold str at hfc ⊢
    simp [Builtin.append_,run_underlying ht,run_underlying hu,sizeOf,typeInfo,hi,Builtin.lenOf,hsz,hroom,hfc,Addr.add_lit]
    simp only [List.append_assoc,List.length_map] at hst
    rw [hst];rfl
   rw [hsize] at hr
   refine ⟨_,_,hr,⟨hlen,.inr ⟨g,cap,_,rfl,hbg,setRow_heap w g cur _ e _ hg,hroom,hcm,?_,?_⟩⟩,⟨rfl,rfl,rfl,by simp,fun k _ hk=>setRow_other w g k _ (fun e=>hk (by simp [Value.ownBlock,e]))⟩,fun g' hg'=>.inl hg',by simp⟩
   ·simp only [List.size_toArray,List.length_append,List.length_take,List.length_drop,Array.length_toList,List.length_map]
    omega
   ·rw [htake,← hlen]
    exact List.take_left
  ·have holds:∀ j u,xs[j]?=some u→w.cell? ((⟨g,0,none⟩:Addr).add j)=some u:=hown.cells (g:=g) rfl
   have hn:¬ (n+r.length≤cap):=hroom
   have h63':¬ (9223372036854775807<((n:Int)+(r.length:Int))):=by omega
   have h48':¬ (281474976710656<Builtin.nextslicecap (n+r.length) cap*i.bytes):=by have:=growslice_fits (need:=n+r.length) (old:=cap) (by omega) hbytes;omega
   have hfo:=run_firstCells_some (P:=P) w.drew i.size n ⟨g,0,none⟩ n cap xs (by rw [hown.1,hsize]) (by simpa using holds)
   have hr:(Builtin.append_ #[t,u] ty #[.slice (some ⟨g,0,none⟩) n cap,str r]).run P w=.ok (.slice (some ⟨w.heap.size,0,none⟩) (n+r.length) (grownCap w (n+r.length) cap e)) (w.drew.alloc (.cells (xs.toArray++(r.map enc8).toArray++Builtin.zeroCells z.cells (grownCap w (n+r.length) cap e-(n+r.length))) e)):=by
    unfold str at hfc ⊢
    simp [Builtin.append_,run_underlying ht,run_underlying hu,sizeOf,typeInfo,zeroValue,hi,hz,Builtin.lenOf,hsz,hn,h63',h48',Question.forced,hfc,hfo,newRow,grownCap]
    try (congr 2;apply Array.ext';simp [List.append_assoc])
   have hgr:=grown cap (by omega) (Value.ownBlock (.slice (some ⟨g,0,none⟩) n cap))
   exact ⟨_,_,hr,hgr.1,hgr.2,fun g hg=>by simp [Value.ownBlock] at hg;exact .inr (by omega),by simp⟩
end
theorem q0f {o:Oper} {a:Act} {w a0:World} {K:Act→World→Prop} {Q:Exit→Act→World→Prop} {F G:HF} (s x:Operand) (hop:o.op=.call { callee:=.builtin .append,args:=#[s,x],argTypes:=#[38,9] })
  (v:Value) (l:Bs) (hs:a.eval s=v) (hT:Turns F (bRow v l++G) a0 w) (hok:bOk v l) (r:Bs) (hx:a.eval x=str r) (hb:l.length+r.length≤137438953472)
  (hk:∀ av cv w',bOk (.slice av (l++r).length cv) (l++r)→Turns F (bRow (.slice av (l++r).length cv) (l++r)++G) a0 w'→K (a.put o.dst (.slice av (l++r).length cv)) w'):o.wp Tryz.prog a w K Q:=by
 obtain ⟨i0,hi0,hz1,hz2,hz3⟩:=info_parts qfc
 obtain ⟨v',w',hr,r1,r2,r3,r4⟩:=qqs (P:=Tryz.prog) w 38 9 o.type 5 i0 (.int .u8 0) 1 Tryz.underlying38 Tryz.underlying9 hi0 hz1 hz2 hz3 rfl v l.length (l.map enc8) (bOwns hT.sat.left hok) r (by unfold maxLen;omega) (by omega)
 have hh:=qg0 hT rfl r1 r2 r3
 unfold Oper.wp execOp
 simp only [hop,resolve,invoke,builtin,Sem.run_bind,Sem.run_pure,Result.andThen_ok,List.map_toArray,List.map_cons,List.map_nil,hs,hx,hr]
 obtain ⟨av,cv,rfl,-,-,-,-⟩:=qbk (bOwns hh.2.sat.left hh.1)
 exact hk av cv w' hh.1 hh.2
def textB (s:Bs):Bs:=UInt8.ofNat s.length::s
theorem qy2 (v:Value) (l s:Bs) (w:World) (h:Sat w (bRow v l)) (hok:bOk v l) (hl:l.length≤1000000) (hs:s.length≤255) :
  Calls Tryz.prog 218 #[v,str s] w (qkk v l (l++textB s) w):=by
 have hsz:=quo s
 have HC:=Lib.hid (And.intro h (And.intro hok (And.intro hl hs)))
 have e1:(s.length:Int)%256=s.length:=by omega
 clear h hok
 go_enter Tryz.func218,Tryz.ntmps218
 have hT0:Turns (bRow v l) (bRow v l++[]) w (w.alloc (.cells #[.int .u8 s.length] 5)):=by rw [List.append_nil];exact (Turns.refl HC.out.1).alloc _
 have hc0:qaj (w.alloc (.cells #[.int .u8 s.length] 5)) (some ⟨w.heap.size,0,none⟩) (([UInt8.ofNat s.length]:Bs).map enc8):=fun _=>⟨_,_,rfl,fun j hj=>by
  obtain rfl:j=0:=by simp at hj;omega
  rw [qac (qa7 w _) 0 rfl]
  simp [enc8];omega⟩
 have HT:=Lib.hid (And.intro hT0 hc0)
 clear hT0 hc0
 go_wp2_with ((at_builtin;first
  | (refine qak rfl ?_;refine qf0 (.tmp 5) (.tmp 9) rfl v l rfl HT.out.1 HC.out.2.1 _ 1 1 rfl [UInt8.ofNat s.length] rfl HT.out.2 (by simp;omega) ?_;intro av cv w2 hok2 hT2 _;simp only [List.length_append,List.length_singleton] at hok2 hT2;have H2:=Lib.hid (And.intro hok2 hT2);clear hok2 hT2)
  | (refine qak rfl ?_;refine q0f (.tmp 10) (.tmp 11) rfl _ (l++[UInt8.ofNat s.length]) rfl H2.out.2 H2.out.1 s rfl (by simp;omega) ?_;intro av2 cv2 w3 hok3 hT3;simp only [List.length_append,List.length_singleton] at hok3 hT3;have H3:=Lib.hid (And.intro hok3 hT3);clear hok3 hT3)))
 have e2:l++[UInt8.ofNat s.length]++s=l++textB s:=by simp [textB]
 have H4:=H3.out
 rw [e2,List.append_nil,Nat.add_assoc,Nat.add_comm 1] at H4
 refine bodyPost_ret (results_tmp rfl _ _ _) rfl ?_
 exact ⟨_,rfl,H4.1,H4.2⟩
end Go.Proofs.YtdhobpbngkainaaGreatDoor
namespace Go.Proofs.YtdhobpbngkainaaGreatDoor
open Go.RowKit
def RowSt (bx:Nat) (O:Obj) (l:Bs) (w:World) (v:Value) (W:World):Prop:=bOk v l∧Turns [] (bRow v l++[(bx,Is O)]) w W
theorem qmj {bx:Nat} {O:Obj} {l l':Bs} {w W W':World} {v:Value} {e:Ending} (h:RowSt bx O l w v W) (k:qkk v l l' W e W'):∃ v',e=.returned v'∧RowSt bx O l' w v' W':=by
 obtain ⟨v',he,hok,hT⟩:=k
 exact ⟨v',he,hok,h.2.step (List.Perm.refl _) hT⟩
theorem q21 {bx:Nat} {O:Obj} {l':Bs} {w W W':World} {e:Ending} (h:Turns [] [(bx,Is O)] w W) (k:qkk (.slice none 0 0) [] l' W e W'):∃ v',e=.returned v'∧RowSt bx O l' w v' W':=by
 obtain ⟨v',he,hok,hT⟩:=k
 exact ⟨v',he,hok,h.step (List.Perm.refl _) hT⟩
theorem qh0 {bx:Nat} {O:Obj} {l:Bs} {w W:World} {v:Value} (h:RowSt bx O l w v W):W.heap[bx]?=some O:=h.2.sat.memIs (by simp)
theorem qm5 {bx:Nat} {O:Obj} {l:Bs} {w W:World} {v:Value} (h:RowSt bx O l w v W):Sat W (bRow v l):=h.2.sat.left
def numsB (l:List Int):Bs:=l.flatMap (beI · 4)
theorem qyt (l:List Int) (n:Int):numsB (l++[n])=numsB l++beI n 4:=by simp [numsB]
theorem qeg (l:List Int):(numsB l).length=4*l.length:=by
 induction l with
 | nil=>rfl
 | cons a r ih=>simp only [numsB,List.flatMap_cons,List.length_append,qb6,List.length_cons] at ih ⊢;omega
theorem qfd (p:Bs):(textB p).length=p.length+1:=by simp [textB]
def verB (p:Bs) (num size:Int) (ats:List Int):Bs:=textB p++beI num 4++beI size 2++numsB ats
def I64 (n:Int):Prop:=-9223372036854775808≤n∧n≤9223372036854775807
def q5e (bx:Nat) (O:Obj) (b:Bs) (ats:List Int) (w:World) (v i:Value) (wr:World):Prop:=∃ k:Nat,k≤ats.length∧i=.int .i64 k∧RowSt bx O (b++numsB (ats.take k)) w v wr
theorem qs1 (k:UInt8) (p:Bs) (num size:Int) (sl:Option Addr) (cap:Nat) (ats:List Int) (w:World) (hc:qaj w sl (ats.map encI)) (hp:p.length≤255) (hnum:I64 num) (hsize:I64 size) (hat:∀ n∈ats,I64 n) (hl:ats.length≤100000) :
  Calls Tryz.prog 217 #[.agg #[.int .u8 k.toNat,str p,.int .i64 num,.int .i64 size,.slice sl ats.length cap]] w (qgo (verB p num size ats) w):=by
 obtain ⟨bx,hbx⟩:∃ bx,bx=w.heap.size:=⟨_,rfl⟩
 obtain ⟨O,hO⟩:∃ O:Obj,O=.cells #[.int .u8 k.toNat,str p,.int .i64 num,.int .i64 size,.slice sl ats.length cap] 173 (0,0):=⟨_,rfl⟩
 have hT0:Turns [] [(bx,Is O)] w (w.alloc (.cells #[.int .u8 k.toNat,str p,.int .i64 num,.int .i64 size,.slice sl ats.length cap] 173)):=by rw [← hO,hbx];exact (Turns.refl (Sat.nil w)).allocIs O
 have HM:=Lib.hid (show Tryz.prog.follows .mixedOrders=true by kernel_rfl)
 have HP:=Lib.hid (And.intro hp (And.intro hnum (And.intro hsize (And.intro hat hc))))
 have HT:=Lib.hid (And.intro hT0 hO)
 clear hp hnum hsize hat hc hT0
 go_enter Tryz.func217,Tryz.ntmps217
 go_wp2_with fail
 rw [← hbx]
 clear hbx
 refine qbt (A:=?A) (hA:=?hA) HM.out (phiL [fun v=>v=.pointer (some ⟨bx,0,none⟩),fun v=>v=.pointer (some ⟨bx,1,none⟩),fun v=>v=str p,fun _=>True,fun v=>v=.pointer (some ⟨bx,2,none⟩),fun v=>v=.int .i64 num,fun _=>True,fun v=>v=.pointer (some ⟨bx,3,none⟩),fun v=>v=.int .i64 size,fun _=>True,fun _=>True])
  (fun vs W=>match vs with
  | []=>Turns [] [(bx,Is O)] w W
  | [v]=>RowSt bx O (textB p) w v W
  | [_,v]=>RowSt bx O (textB p++beI num 4) w v W
  | [_,_,v]=>RowSt bx O (textB p++beI num 4++beI size 2) w v W
  | [_,_,u,v]=>v=u∧RowSt bx O (textB p++beI num 4++beI size 2) w v W
  | _=>False)
  (fun W=>W.heap[bx]?=some (.cells #[.int .u8 k.toNat,str p,.int .i64 num,.int .i64 size,.slice sl ats.length cap] 173 (0,0))) [3,6,9,10] ?hC (by kernel_rfl) (by kernel_rfl) (by decide) (by decide) ?h0 ?hs ?he
 case hA=>intro x;simp only [qam,Act.put,List.setIfInBounds_toArray,List.set_cons_zero,List.set_cons_succ,Nat.reduceAdd];rfl
 case hs =>
  refine ⟨qab rfl rfl (fun x wq hd hC K hK hKw=>?_),qab rfl rfl (fun x wq hd hC K hK hKw=>?_),qab rfl rfl (fun x wq hd hC K hK hKw=>?_),qap 0 rfl rfl (fun x wq hd hS K hK=>?_),qab rfl rfl (fun x wq hd hC K hK hKw=>?_),qab rfl rfl (fun x wq hd hC K hK hKw=>?_),qap 1 rfl rfl (fun x wq hd hS K hK=>?_),qab rfl rfl (fun x wq hd hC K hK hKw=>?_),qab rfl rfl (fun x wq hd hC K hK hKw=>?_),qap 2 rfl rfl (fun x wq hd hS K hK=>?_),qap 3 rfl rfl (fun x wq hd hS K hK=>?_),trivial⟩
  ·exact qag (by kernel_rfl) (hK _ rfl)
  ·have h0:x 0=.pointer (some ⟨bx,0,none⟩):=qae hd 0 (by kernel_rfl)
   exact qag (by rw [h0];kernel_rfl) (hK _ rfl)
  ·have h1:x 1=.pointer (some ⟨bx,1,none⟩):=qae hd 1 (by kernel_rfl)
   exact qat Tryz.underlying9 rfl rfl (by rw [h1];rfl) (qac hC 1 rfl) (hK _ rfl)
  ·have h2:x 2=str p:=qae hd 2 (by kernel_rfl)
   refine qbe (by rw [h2];kernel_rfl) (qy2 (.slice none 0 0) [] p wq (Sat.nil _) qdh (by simp) HP.out.1) ?_
   intro e w3 hp
   obtain ⟨v3,rfl,hr⟩:=q21 hS hp
   exact ⟨_,rfl,hK _ _ trivial hr⟩
  ·exact qag (by kernel_rfl) (hK _ rfl)
  ·have h4:x 4=.pointer (some ⟨bx,2,none⟩):=qae hd 4 (by kernel_rfl)
   exact qat Tryz.underlying3 rfl rfl (by rw [h4];rfl) (qac hC 2 rfl) (hK _ rfl)
  ·have h5:x 5=.int .i64 num:=qae hd 5 (by kernel_rfl)
   refine qbe (by rw [h5];kernel_rfl) (qem (x 3) (textB p) num 4 wq (by omega) (by rw [qfd];have:=HP.out.1;omega) HP.out.2.1.1 HP.out.2.1.2 (qm5 hS) hS.1) ?_
   intro e w3 hp
   obtain ⟨v3,rfl,hr⟩:=qmj hS hp
   exact ⟨_,rfl,hK _ _ trivial hr⟩
  ·exact qag (by kernel_rfl) (hK _ rfl)
  ·have h7:x 7=.pointer (some ⟨bx,3,none⟩):=qae hd 7 (by kernel_rfl)
   exact qat Tryz.underlying3 rfl rfl (by rw [h7];rfl) (qac hC 3 rfl) (hK _ rfl)
  ·have h8:x 8=.int .i64 size:=qae hd 8 (by kernel_rfl)
   refine qbe (by rw [h8];kernel_rfl) (qem (x 6) (textB p++beI num 4) size 2 wq (by omega) (by rw [List.length_append,qfd,qb6];have:=HP.out.1;omega) HP.out.2.2.1.1 HP.out.2.2.1.2 (qm5 hS) hS.1) ?_
   intro e w3 hp
   obtain ⟨v3,rfl,hr⟩:=qmj hS hp
   exact ⟨_,rfl,hK _ _ trivial hr⟩
  ·exact qag (by kernel_rfl) (hK _ _ trivial ⟨rfl,hS⟩)
 case hC =>
  intro vs W hS
  match vs,hS with
  | [],hT=>exact (HT.out.2 ▸ hT.sat.headIs)
  | [_],hT=>exact (HT.out.2 ▸ qh0 hT)
  | [_,_],hT=>exact (HT.out.2 ▸ qh0 hT)
  | [_,_,_],hT=>exact (HT.out.2 ▸ qh0 hT)
  | [_,_,_,_],hT=>exact (HT.out.2 ▸ qh0 hT.2)
 case h0=>exact HT.out.1.drew
 case he =>
  intro x w3 hφ hS
  obtain ⟨he,hS⟩:=hS
  simp only [he]
  obtain ⟨v3,hv3⟩:∃ v3,v3=x 9:=⟨_,rfl⟩
  rw [he,← hv3] at hS
  rw [← hv3]
  have HS:=Lib.hid hS
  have hbo:=qh0 hS
  rw [hO] at hbo
  have b4:w3.cell? ⟨bx,4,none⟩=some (.slice sl ats.length cap):=qac hbo 4 rfl
  have hbl:=qal hbo
  clear hS he hφ hbo hv3 hO
  go_wp2_with fail
  go_loopw [3,19] (fun v i wr=>q5e bx O (textB p++beI num 4++beI size 2) ats w v i wr) (fun _ i _=>ats.length-(intOf i).toNat)
  case atStart=>exact ⟨0,Nat.zero_le _,rfl,by simpa [numsB] using HS.out⟩
  case round =>
   obtain ⟨j,hj,rfl,hR⟩:=hrel
   have HR:=Lib.hid hR
   clear hR
   by_cases hlt:j<ats.length
   ·obtain ⟨g,off,hg,hcell⟩:=HP.out.2.2.2.2.keep HR.out.2.mods (fun g off e hh=>by simp at hh) (by simpa using (by omega:0<ats.length))
    subst hg
    obtain ⟨n,hn⟩:∃ n,n=ats[j]:=⟨_,rfl⟩
    have hck:wr.cell? ⟨g,off+j,none⟩=some (.int .i64 n):=by rw [hcell j (by simpa using hlt)];simp [hn,encI]
    have htk:numsB (ats.take (j+1))=numsB (ats.take j)++beI n 4:=by rw [List.take_succ_eq_append_getElem hlt,qyt,hn]
    have hnI:=HP.out.2.2.2.1 n (hn ▸ List.getElem_mem hlt)
    have HN:=Lib.hid (qem _ (textB p++beI num 4++beI size 2++numsB (ats.take j)) n 4 wr (by omega) (by simp only [List.length_append,qfd,qb6,qeg,List.length_take];have:=HP.out.1;omega) hnI.1 hnI.2 (qm5 HR.out) HR.out.1)
    have HK:=Lib.hid htk
    clear hcell hn htk hnI
    go_wp2_with fail
    refine HN.out.mono ?_
    rintro e w4 hp4
    obtain ⟨v4,rfl,hr4⟩:=qmj HR.out hp4
    rw [List.append_assoc,← HK.out] at hr4
    have HR4:=Lib.hid hr4
    clear hr4 hp4
    go_wp2_with fail
    go_roundw
    case rel=>exact ⟨j+1,by omega,by go_num,HR4.out⟩
    case measure=>simp [intOf];omega
   ·obtain rfl:j=ats.length:=by omega
    have hR:=HR.out
    rw [List.take_length] at hR
    go_wp2_with fail
    refine bodyPost_ret (results_tmp rfl _ _ _) rfl ?_
    exact ⟨_,rfl,hR.1,hR.2.left⟩
def q61 (k:UInt8) (w:World) (e:Ending) (w':World):Prop:=e=.returned (.int .u8 k.toNat)∧Same w w'
theorem qvv (k:UInt8) (p:Bs) (w:World):Calls Tryz.prog 141 #[.agg #[.int .u8 k.toNat,str p]] w (q61 k w):=by
 go_enter Tryz.func141,Tryz.ntmps141
 go_wp2_with fail
 refine bodyPost_ret (results_tmp rfl _ _ _) rfl ⟨rfl,(Mods.refl _ w).alloc _⟩
theorem verOf (a b c d e:Value) (w:World):(Go.method 462 173 (.agg #[a,b,c,d,e]) "Of").run Tryz.prog w=.ok (141,.agg #[a,b]) w:=by kernel_rfl
theorem q5n (a b c d e:Value) (w:World):(Go.method 462 173 (.agg #[a,b,c,d,e]) "versions/record.body").run Tryz.prog w=.ok (217,.agg #[a,b,c,d,e]) w:=by kernel_rfl
theorem qgo.frame {k:UInt8} {body:Bs} {w w1 w2:World} {v:Value} (hs:Same w w1) (hT:Turns [] (bRow v body) w1 w2) {e:Ending} {w3:World} (h:qgo (frame k body) w2 e w3):qgo (frame k body) w e w3:=by
 obtain ⟨v',he,hok,hT'⟩:=h
 have h1:Turns [] [] w w2:=(Turns.same (Sat.nil w) hs).trans (hT.drop (by intro x;simp [cnt]))
 exact ⟨v',he,hok,h1.trans hT'⟩
theorem qsw {l:Bs} {w w':World} {e:Ending} (h:qgo l w e w'):∃ av cv,e=.returned (.slice av l.length cv)∧qaj w' av (l.map enc8)∧Turns [] (bRow (.slice av l.length cv) l) w w':=by
 obtain ⟨v',he,hok,hT⟩:=h
 obtain ⟨av,cv,rfl,-,-,hc,-⟩:=qbk (bOwns hT.sat hok)
 exact ⟨av,cv,he,hc,hT⟩
theorem qqw (k:UInt8) (p:Bs) (num size:Int) (sl:Option Addr) (cap:Nat) (ats:List Int) (w:World) (hc:qaj w sl (ats.map encI)) (hp:p.length≤255) (hnum:I64 num) (hsize:I64 size) (hat:∀ n∈ats,I64 n) (hl:ats.length≤100000) :
  Calls Tryz.prog 80 #[.iface 173 (.agg #[.int .u8 k.toNat,str p,.int .i64 num,.int .i64 size,.slice sl ats.length cap])] w (qgo (frame k (verB p num size ats)) w):=by
 have HB:=Lib.hid (fun W (hW:Same w W)=>qs1 k p num size sl cap ats W (hc.keep hW (fun _ _ _=>id)) hp hnum hsize hat hl)
 have hl0:(verB p num size ats).length≤1000000:=by simp only [verB,List.length_append,qfd,qb6,qeg];omega
 have HL:=Lib.hid hl0
 have h1:=fun W=>verOf (.int .u8 k.toNat) (str p) (.int .i64 num) (.int .i64 size) (.slice sl ats.length cap) W
 have h2:=fun W=>q5n (.int .u8 k.toNat) (str p) (.int .i64 num) (.int .i64 size) (.slice sl ats.length cap) W
 clear hc hp hnum hsize hat hl0
 go_enter Tryz.func80,Tryz.ntmps80
 go_wp2_with fail
 refine (qvv k p _).mono ?_
 rintro e w1 ⟨rfl,hs1⟩
 have HS1:=Lib.hid hs1
 clear hs1
 go_wp2_with fail
 refine (HB.out _ HS1.out).mono ?_
 rintro e w2 hb2
 obtain ⟨av,cv,rfl,hc2,hT2⟩:=qsw hb2
 have H2:=Lib.hid (And.intro hc2 hT2)
 obtain ⟨n2,hn2⟩:∃ n2,n2=(verB p num size ats).length:=⟨_,rfl⟩
 rw [← hn2]
 have HN:=Lib.hid hn2
 clear hb2 hc2 hT2 hn2
 go_wp2_with fail
 rw [HN.out]
 refine (qjz k av cv (verB p num size ats) _ H2.out.1 (by have:=HL.out;omega)).mono ?_
 rintro e w3 hp3
 have h3:=qgo.frame HS1.out H2.out.2 hp3
 obtain ⟨v3,rfl,hok3,hT3⟩:=h3
 have H3:=Lib.hid (And.intro hok3 hT3)
 clear hp3 hok3 hT3
 go_wp2_with fail
 refine bodyPost_ret (results_tmp rfl _ _ _) rfl ?_
 exact ⟨_,rfl,H3.out.1,H3.out.2⟩
theorem infoI:(Tryz.prog.info? 3).map (fun i=>(i.zero,i.size,i.bytes))=some (some (.int .i64 0),1,8):=by kernel_rfl
def iRow (v:Value) (l:List Int):HF:=rowF 3 1 v l.length (l.map encI)
def iOk (v:Value) (l:List Int):Prop:=RowOk 1 v l.length (l.map encI)
theorem qte:iRow (.slice none 0 0) []=[]:=rfl
theorem qno:iOk (.slice none 0 0) []:=⟨rfl,fun _=>⟨rfl,rfl⟩⟩
theorem qii {o:Oper} {a:Act} {w a0:World} {K:Act→World→Prop} {Q:Exit→Act→World→Prop} {F G:HF} (s x:Operand) (hop:o.op=.call { callee:=.builtin .append,args:=#[s,x],argTypes:=#[171,171] })
  (v:Value) (l:List Int) (hs:a.eval s=v) (hT:Turns F (iRow v l++G) a0 w) (hok:iOk v l) (sa:Option Addr) (m c:Nat) (hx:a.eval x=.slice sa m c) (r:List Int) (hm:m=r.length)
  (hc:0<m→∃ ad,sa=some ad∧∀ j u,(r.map encI)[j]?=some u→w.cell? (ad.add j)=some u) (hb:l.length+r.length≤1000000)
  (hk:∀ av cv w',iOk (.slice av (l++r).length cv) (l++r)→Turns F (iRow (.slice av (l++r).length cv) (l++r)++G) a0 w'→K (a.put o.dst (.slice av (l++r).length cv)) w'):o.wp Tryz.prog a w K Q:=by
 obtain ⟨i0,hi0,hz1,hz2,hz3⟩:=info_parts infoI
 refine qct s x 171 3 i0 (.int .i64 0) 1 8 hop Tryz.underlying171 hi0 hz1 hz2 hz3 rfl (by decide) v l.length (l.map encI) hs hT hok sa m c hx (r.map encI) (by simp [hm]) hc (fun u hu=>by obtain ⟨y,_,rfl⟩:=List.mem_map.1 hu;rfl) (by unfold maxLen;omega) (by omega) (fun v' w' h1 h2 h3=>?_)
 have k1:iOk v' (l++r):=by unfold iOk;rw [List.length_append,List.map_append,← hm];exact h1
 have k2:Turns F (iRow v' (l++r)++G) a0 w':=by unfold iRow;rw [List.length_append,List.map_append,← hm];exact h2
 obtain ⟨av,cv,rfl,-,-,-,-⟩:=qbk (qbm k2.sat.left k1)
 exact hk av cv w' k1 k2
def recO (k:UInt8) (p:Bs) (num size:Int) (v:Value):Obj:=.cells #[.int .u8 k.toNat,str p,.int .i64 num,.int .i64 size,v] 173 (0,0)
def atsOf (l:List (Nat×Nat)):List Int:=l.map (fun q=>(q.1:Int))
def qy3 (p:Bs) (V:VerL) (w:World) (e:Ending) (w':World):Prop :=
 ∃ av cv,e=.returned (.agg #[.int .u8 2,str p,.int .i64 V.num,.int .i64 V.size,.slice av (atsOf V.chs).length cv])∧qaj w' av ((atsOf V.chs).map encI)∧Same w w'
def VRel (c r:Nat) (p:Bs) (V:VerL) (w:World) (i:Value) (W:World):Prop :=
 ∃ (k:Nat) (v:Value),k≤V.chs.length∧i=.int .i64 k∧iOk v ((atsOf V.chs).take k)∧Turns [] (((c,Is (recO 2 p V.num V.size v))::iRow v ((atsOf V.chs).take k))++[(r,Is (recO 0 [] 0 0 (.slice none 0 0)))]) w W
theorem qe9 {w:World} {v:Value} {l:List (Nat×Nat)} (h:Sat w (qa2 v l)) (hok:qbl v l):∃ sl cap,v=.slice sl l.length cap∧l.length≤cap∧cap≤9223372036854775807∧qaj w sl (qb2 l):=by
 have hown:=qbm h hok
 rcases hown.2 with ⟨rfl,h0⟩ | ⟨g,cap,cur,rfl,hbg,hg,hnc,hcm,hcs,htake⟩
 ·have hl:l=[]:=List.eq_nil_of_length_eq_zero h0
  subst hl
  exact ⟨none,0,rfl,Nat.le_refl _,by omega,fun h=>by simp [qb2] at h⟩
 ·refine ⟨some ⟨g,0,none⟩,cap,rfl,hnc,by unfold maxLen at hcm;omega,fun hp=>⟨g,0,rfl,fun j hj=>?_⟩⟩
  have:=hown.cells (g:=g) rfl j _ (List.getElem?_eq_getElem hj)
  rwa [Addr.add_lit] at this
theorem qzh (w:World) (o:Obj) (xs:List Value) (t:TypeId):∀ j u,xs[j]?=some u→((w.alloc o).alloc (.cells xs.toArray t)).cell? ((⟨w.heap.size+1,0,none⟩:Addr).add j)=some u:=fun j u hu=>by
 have:=qff (w.alloc o) xs t j u hu
 simpa using this
theorem qef (l:List (Nat×Nat)):(qb2 l).length=2*l.length:=by
 induction l with
 | nil=>rfl
 | cons a r ih=>simp only [qb2,List.flatMap_cons,List.length_append,qke,List.length_cons,List.length_nil] at ih ⊢;omega
theorem qyy:∀ (l:List (Nat×Nat)) (k:Nat) (hk:k<l.length),(qb2 l)[2*k]?=some (.int .i64 l[k].1)∧(qb2 l)[2*k+1]?=some (.int .i64 l[k].2):=by
 intro l
 induction l with
 | nil=>intro k hk;simp at hk
 | cons a r ih =>
  intro k hk
  cases k with
  | zero=>simp [qb2,qke]
  | succ k =>
   have:=ih k (by simpa using hk)
   simp only [qb2,List.flatMap_cons,qke] at this ⊢
   rw [show 2*(k+1)=2*k+2 by omega,show 2*k+2+1=(2*k+1)+2 by omega,List.getElem?_append_right (by simp),List.getElem?_append_right (by simp)]
   simpa using this
theorem qkt {w:World} {g off:Nat} {l:List (Nat×Nat)} (h:∀ j (h:j<(qb2 l).length),w.cell? ⟨g,off+j,none⟩=some ((qb2 l)[j]'h)) {k:Nat} (hk:k<l.length) :
  w.cell? ⟨g,off+k*2,none⟩=some (.int .i64 l[k].1)∧w.cell? ⟨g,off+k*2+1,none⟩=some (.int .i64 l[k].2):=by
 obtain ⟨h1,h2⟩:=qyy l k hk
 obtain ⟨p1,e1⟩:=List.getElem?_eq_some_iff.1 h1
 obtain ⟨p2,e2⟩:=List.getElem?_eq_some_iff.1 h2
 rw [Nat.add_assoc,Nat.mul_comm k 2]
 exact ⟨by rw [h _ p1,e1],by rw [h _ p2,e2]⟩
theorem qma (p:Bs) (V:VerL) (w:World) (hV:Sat w (verF V)) (hok:qbl V.cv V.chs) (hl:V.chs.length≤100000) :
  Calls Tryz.prog 81 #[str p,ptrV V] w (qy3 p V w):=by
 obtain ⟨r,hr⟩:∃ r,r=w.heap.size:=⟨_,rfl⟩
 obtain ⟨Z,hZ⟩:∃ Z:Obj,Z=recO 0 [] 0 0 (.slice none 0 0):=⟨_,rfl⟩
 have hT0:Turns [] [(r,Is Z)] w (w.alloc Z):=by rw [hr];exact (Turns.refl (Sat.nil w)).allocIs Z
 obtain ⟨sl,cap,hcv,hcl,hcm,hcells⟩:=qe9 hV.tail hok
 have HM:=Lib.hid (show Tryz.prog.follows .mixedOrders=true by kernel_rfl)
 have HV:=Lib.hid (And.intro hV.headIs (And.intro hcells (And.intro hcv hl)))
 have HT:=Lib.hid (And.intro hT0 hZ)
 clear hV hok hT0 hZ hcells hcv
 unfold ptrV
 go_enter Tryz.func81,Tryz.ntmps81
 go_wp2_with fail
 rw [← hr]
 have hwe:w.alloc (.cells #[.int .u8 0,.string { data:=#[] },.int .i64 0,.int .i64 0,.slice none 0 0] 173)=w.alloc Z:=by rw [HT.out.2];rfl
 rw [hwe]
 clear hwe hr
 refine qbt (A:=?A) (hA:=?hA) HM.out (phiL [fun v=>v=str p,fun v=>v=.agg #[.int .u8 2,str p],fun v=>v=.pointer (some ⟨V.blk,0,none⟩),fun v=>v=.pointer (some ⟨V.blk,0,none⟩),fun v=>v=.pointer (some ⟨V.blk,0,none⟩),fun v=>v=.int .i64 V.num,fun v=>v=.pointer (some ⟨V.blk,0,none⟩),fun v=>v=.pointer (some ⟨V.blk,0,none⟩),fun v=>v=.pointer (some ⟨V.blk,1,none⟩),fun v=>v=.int .i64 V.size,fun v=>v=.agg #[.int .u8 2,str p,.int .i64 V.num,.int .i64 V.size,.slice none 0 0],fun _=>True,fun _=>True])
  (fun vs W=>match vs with
  | []=>Turns [] [(r,Is Z)] w W
  | [v]=>∃ c:Nat,v=.pointer (some ⟨c,0,none⟩)∧Turns [] [(c,Is (recO 0 [] 0 0 (.slice none 0 0))),(r,Is Z)] w W
  | [v,_]=>∃ c:Nat,v=.pointer (some ⟨c,0,none⟩)∧Turns [] [(c,Is (recO 2 p V.num V.size (.slice none 0 0))),(r,Is Z)] w W
  | _=>False)
  (fun W=>W.heap[V.blk]?=some (verO V)) [11,12] ?hC (by kernel_rfl) (by kernel_rfl) (by decide) (by decide) ?h0 ?hs ?he
 case hA=>intro x;simp only [qam,Act.put,List.setIfInBounds_toArray,List.set_cons_zero,List.set_cons_succ,Nat.reduceAdd];rfl
 case hs =>
  refine ⟨qab rfl rfl (fun x wq hd hC K hK hKw=>?_),qab rfl rfl (fun x wq hd hC K hK hKw=>?_),qab rfl rfl (fun x wq hd hC K hK hKw=>?_),qab rfl rfl (fun x wq hd hC K hK hKw=>?_),qab rfl rfl (fun x wq hd hC K hK hKw=>?_),qab rfl rfl (fun x wq hd hC K hK hKw=>?_),qab rfl rfl (fun x wq hd hC K hK hKw=>?_),qab rfl rfl (fun x wq hd hC K hK hKw=>?_),qab rfl rfl (fun x wq hd hC K hK hKw=>?_),qab rfl rfl (fun x wq hd hC K hK hKw=>?_),qab rfl rfl (fun x wq hd hC K hK hKw=>?_),qap 0 rfl rfl (fun x wq hd hS K hK=>?_),qap 1 rfl rfl (fun x wq hd hS K hK=>?_),trivial⟩
  ·exact qag (by kernel_rfl) (hK _ rfl)
  ·have h0:x 0=str p:=qae hd 0 (by kernel_rfl)
   exact qag (by rw [h0];kernel_rfl) (hK _ rfl)
  ·exact qag (by kernel_rfl) (hK _ rfl)
  ·have h2:x 2=.pointer (some ⟨V.blk,0,none⟩):=qae hd 2 (by kernel_rfl)
   exact qag (by rw [h2];kernel_rfl) (hK _ rfl)
  ·have h3:x 3=.pointer (some ⟨V.blk,0,none⟩):=qae hd 3 (by kernel_rfl)
   exact qag (by rw [h3];kernel_rfl) (hK _ rfl)
  ·have h4:x 4=.pointer (some ⟨V.blk,0,none⟩):=qae hd 4 (by kernel_rfl)
   exact qat Tryz.underlying3 rfl rfl (by rw [h4];rfl) (qac hC 0 rfl) (hK _ rfl)
  ·exact qag (by kernel_rfl) (hK _ rfl)
  ·have h6:x 6=.pointer (some ⟨V.blk,0,none⟩):=qae hd 6 (by kernel_rfl)
   exact qag (by rw [h6];kernel_rfl) (hK _ rfl)
  ·have h7:x 7=.pointer (some ⟨V.blk,0,none⟩):=qae hd 7 (by kernel_rfl)
   exact qag (by rw [h7];kernel_rfl) (hK _ rfl)
  ·have h8:x 8=.pointer (some ⟨V.blk,1,none⟩):=qae hd 8 (by kernel_rfl)
   exact qat Tryz.underlying3 rfl rfl (by rw [h8];rfl) (qac hC 1 rfl) (hK _ rfl)
  ·have h1:x 1=.agg #[.int .u8 2,str p]:=qae hd 1 (by kernel_rfl)
   have h5:x 5=.int .i64 V.num:=qae hd 5 (by kernel_rfl)
   have h9:x 9=.int .i64 V.size:=qae hd 9 (by kernel_rfl)
   exact qag (by rw [h1,h5,h9];kernel_rfl) (hK _ rfl)
  ·exact qag (by kernel_rfl) (hK _ _ trivial ⟨_,rfl,Turns.allocIs hS (recO 0 [] 0 0 (.slice none 0 0))⟩)
  ·have h10:x 10=.agg #[.int .u8 2,str p,.int .i64 V.num,.int .i64 V.size,.slice none 0 0]:=qae hd 10 (by kernel_rfl)
   obtain ⟨c,ec,hT⟩:=hS
   refine wp_store_mid 173 (.tmp 5) (.tmp 18) rfl c 0 #[.int .u8 2,str p,.int .i64 V.num,.int .i64 V.size,.slice none 0 0] (by rw [ec];rfl) (by rw [h10];rfl) (qcx (C:=#[.int .u8 0,str [],.int .i64 0,.int .i64 0,.slice none 0 0]) hT.sat.headIs 0 5 (by simp)) (by kernel_rfl) (by simp [Value.oneCell']) ?_
   obtain ⟨q1,q2⟩:=qc2 hT.sat.headIs [.int .u8 2,str p,.int .i64 V.num,.int .i64 V.size,.slice none 0 0] (by simp)
   exact hK _ _ trivial ⟨c,ec,hT.putIs q2 q1⟩
 case hC =>
  intro vs W hS
  match vs,hS with
  | [],hT=>exact hT.news.at HV.out.1 id
  | [_],⟨c,_,hT⟩=>exact hT.news.at HV.out.1 id
  | [_,_],⟨c,_,hT⟩=>exact hT.news.at HV.out.1 id
 case h0=>exact HT.out.1.drew
 case he =>
  intro x w3 hφ hS
  obtain ⟨c,ec,hT⟩:=hS
  simp only [ec]
  have HT3:=Lib.hid hT
  have hvo:=hT.news.at HV.out.1 id
  have b2:w3.cell? ⟨V.blk,2,none⟩=some (.slice sl V.chs.length cap):=by rw [← HV.out.2.2.1];exact qac hvo 2 rfl
  have hbl:=qal hvo
  clear hφ hT hvo ec
  go_wp2_with fail
  go_loopw [24] (fun i wr=>VRel c r p V w i wr) (fun i _=>V.chs.length-(intOf i).toNat)
  case atStart=>exact ⟨0,.slice none 0 0,Nat.zero_le _,rfl,by simpa using qno,by
   have:=HT3.out
   rw [HT.out.2] at this
   simpa [qte] using this⟩
  case round =>
   obtain ⟨k,v,hk,rfl,hok,hT⟩:=hrel
   have HR:=Lib.hid (And.intro hok hT)
   have hrec:=hT.sat.headIs
   clear hok hT
   by_cases hlt:k<V.chs.length
   ·obtain ⟨g,off,hg,hcell⟩:=HV.out.2.1.keep HR.out.2.mods (fun g off e hh=>by simp at hh) (by rw [qef];omega)
    subst hg
    obtain ⟨hc1,hc2⟩:=qkt hcell hlt
    obtain ⟨q,hq⟩:∃ q,q=V.chs[k]:=⟨_,rfl⟩
    rw [← hq] at hc1 hc2
    have c3:wr.cell? ⟨c,4,none⟩=some v:=qac hrec 4 rfl
    have hcl2:=qal hrec
    have HQ:=Lib.hid hq
    clear hcell hq
    have hat:(atsOf V.chs).take (k+1)=(atsOf V.chs).take k++[(q.1:Int)]:=by
     rw [List.take_succ_eq_append_getElem (by simp [atsOf];omega)]
     simp [atsOf,HQ.out]
    have htl:((atsOf V.chs).take k).length=k:=by simp [atsOf];omega
    have hfr:=qa9 hrec 4
    have HA:=Lib.hid (And.intro hat htl)
    have HTp:Turns [] (iRow v ((atsOf V.chs).take k)++[(c,Is (recO 2 p V.num V.size v)),(r,Is (recO 0 [] 0 0 (.slice none 0 0)))]) w wr:=HR.out.2.to (qaf fun _=>by simp only [qad,qaa,qah]<;>omega)
    have HT5:=Lib.hid HTp
    clear hat htl hrec HTp
    go_wp2_with ((at_builtin;refine qak rfl ?_;refine qii (.tmp 29) (.tmp 32) rfl v _ rfl ((HT5.out.alloc _).alloc _) HR.out.1 _ 1 1 rfl [(q.1:Int)] rfl (fun _=>⟨_,rfl,fun j u hu=>qzh _ _ _ _ j u hu⟩) (by rw [HA.out.2];simp;omega) ?_;intro av cv w5 hok5 hT5;simp only [List.length_append,HA.out.2,List.length_singleton] at hok5 hT5;have hb5:w5.heap[c]?=some (recO 2 p V.num V.size v):=hT5.sat.memIs (by simp);have c5:=qac (v:=v) hb5 4 rfl;have f5:=qa9 hb5 4;have H5:=Lib.hid (And.intro hok5 (And.intro hT5 hb5));clear hok5 hT5 hb5 hfr c3 hc1 hc2))
    have hmin:min k (atsOf V.chs).length+1=k+1:=by have:=HA.out.2;rw [List.length_take] at this;omega
    rw [hmin]
    refine ⟨⟨k+1,.slice av (k+1) cv,by omega,by go_num,by rw [HA.out.1];exact H5.out.1,?_⟩,by simp [intOf];omega⟩
    have hq:=(H5.out.2.1.to (H:=(c,Is (recO 2 p V.num V.size v))::(iRow (.slice av (k+1) cv) ((atsOf V.chs).take k++[(q.1:Int)])++[(r,Is (recO 0 [] 0 0 (.slice none 0 0)))])) (qaf fun _=>by simp only [qad,qaa,qah]<;>omega)).putIs (o:=recO 2 p V.num V.size (.slice av (k+1) cv)) ((Mods.refl (fun k=>k=c) w5).set1 (i:=4) (.slice av (k+1) cv)) (qbf H5.out.2.2 4 _)
    rw [HA.out.1]
    exact hq.to (qaf fun _=>by simp only [qad,qaa,qah]<;>omega)
   ·obtain rfl:k=V.chs.length:=by omega
    have c0:wr.cell? ⟨c,0,none⟩=some (.int .u8 2):=qac hrec 0 rfl
    have c1:wr.cell? ⟨c,1,none⟩=some (str p):=qac hrec 1 rfl
    have c2:wr.cell? ⟨c,2,none⟩=some (.int .i64 V.num):=qac hrec 2 rfl
    have c3:wr.cell? ⟨c,3,none⟩=some (.int .i64 V.size):=qac hrec 3 rfl
    have c4:wr.cell? ⟨c,4,none⟩=some v:=qac hrec 4 rfl
    have hrr:wr.heap[r]?=some (recO 0 [] 0 0 (.slice none 0 0)):=HR.out.2.sat.memIs (by simp)
    have hth:=qcx (C:=#[.int .u8 0,str [],.int .i64 0,.int .i64 0,.slice none 0 0]) hrr 0 5 (by simp)
    have ho1:=HR.out.1
    have hT1:=HR.out.2
    have hle:(atsOf V.chs).take V.chs.length=atsOf V.chs:=List.take_of_length_le (by simp [atsOf])
    rw [hle] at ho1 hT1
    have hTi:Turns [] (iRow v (atsOf V.chs)++[(c,Is (recO 2 p V.num V.size v)),(r,Is (recO 0 [] 0 0 (.slice none 0 0)))]) w wr:=hT1.to (qaf fun _=>by simp only [qad,qaa,qah]<;>omega)
    obtain ⟨av,cv,rfl,-,-,hca,hbl2⟩:=qbk (qbm hTi.sat.left ho1)
    obtain ⟨q1,q2⟩:=qc2 hrr [.int .u8 2,str p,.int .i64 V.num,.int .i64 V.size,.slice av (atsOf V.chs).length cv] (by simp)
    have hse:Same w (wr.setCells r 0 [.int .u8 2,str p,.int .i64 V.num,.int .i64 V.size,.slice av (atsOf V.chs).length cv]):=hTi.news.trans' q2 (fun i hi=>.inr (hi ▸ hTi.newLe (by simp)))
    have hck:qaj (wr.setCells r 0 [.int .u8 2,str p,.int .i64 V.num,.int .i64 V.size,.slice av (atsOf V.chs).length cv]) av ((atsOf V.chs).map encI):=hca.keep q2 (fun g off e hh=>by
     have h1:=hbl2 _ e
     have h2:=hTi.sat.disj (b:=g) (by unfold iRow;rw [qfa];exact h1)
     exact h2 (by simp [hh]))
    have HF1:=Lib.hid (And.intro q1 (And.intro hse (And.intro hck hth)))
    clear q1 q2 hse hck hth hTi hT1 ho1 hca hbl2 hle hrr hrec
    go_wp2_with ((refine wpList_store_mid rfl 173 (.tmp 4) (.tmp 36) rfl r 0 #[.int .u8 2,str p,.int .i64 V.num,.int .i64 V.size,.slice av (atsOf V.chs).length cv] rfl rfl HF1.out.2.2.2 (by kernel_rfl) (by simp [Value.oneCell']) ?_;simp only [Act.put]))
    refine bodyPost_ret (results_cell_row rfl _ _ r 173 _ (0,0) _ rfl HF1.out.1 Tryz.underlying173 rfl (by kernel_rfl)) rfl ?_
    exact ⟨av,cv,rfl,HF1.out.2.2.1,HF1.out.2.1⟩
end Go.Proofs.YtdhobpbngkainaaGreatDoor
