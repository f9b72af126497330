/- Ours. A part of the proof, made small by a program. -/
import Derived.Test.YtdhobpbngkainaaGreatDoorCo05
import Derived.Test.YtdhobpbngkainaaGreatDoorCo04
import Derived.Maps.RangeRun
import Derived.OrdersIn
import Derived.RangeFuncIn
import Derived.TacticsIn
import Derived.Carry
import Derived.Test.YtdhobpbngkainaaGreatDoorCo01
import Derived.Test.YtdhobpbngkainaaGreatDoorProg
import Derived.RegionTactic
import Derived.BigQuiet
import Derived.Deep.QuietTactic
import Derived.RangeFuncNested
import Derived.RangeFuncBound
import Derived.RangeFuncCalls
import Derived.RangeFuncLeaves
import Derived.Shelf.Abstract
import Derived.OwnWalkIn
import Derived.TacticsInMore
import Derived.LoopNIn
import Derived.LoopIn
set_option maxRecDepth 100000
set_option maxHeartbeats 4000000
namespace Go.Proofs.YtdhobpbngkainaaGreatDoor
open Go.RowKit
def textN (l:Bs) (bad:Bool):Nat:=rdNum l bad 1
def qlr (l:Bs) (bad:Bool):Bs:=qdb (qdb l bad 1) (rdBad l bad 1) (textN l bad)
def qq1 (l:Bs) (bad:Bool):Bool:=rdBad (qdb l bad 1) (rdBad l bad 1) (textN l bad)
def qg7 (l:Bs) (bad:Bool):Bs:=if rdBad l bad 1=true∨(qdb l bad 1).length<textN l bad then [] else (qdb l bad 1).take (textN l bad)
def q26 (rb:Nat) (l:Bs) (bad:Bool) (w:World) (e:Ending) (w':World):Prop :=
 e=.returned (str (qg7 l bad))∧Rd w' rb (qlr l bad) (qq1 l bad)∧Mods (fun k=>k=rb) w w'
theorem qea (l:Bs) (bad:Bool) (n:Nat):(qdb l bad n).length≤l.length:=by
 unfold qdb;split<;>simp
theorem qu3 (l:Bs) (bad:Bool):rdNum l bad 1≤255:=by
 unfold rdNum
 split
 ·omega
 ·have:=qfm (l.take 1)
  have h2:(l.take 1).length≤1:=by simp;omega
  have h3:256 ^ (l.take 1).length≤256 ^ 1:=Nat.pow_le_pow_right (by omega) h2
  omega
theorem qna (l:Bs) (bad:Bool):(qlr l bad).length≤l.length:=Nat.le_trans (qea _ _ _) (qea _ _ _)
theorem q0m (l:Bs) (bad:Bool):(qg7 l bad).length≤255:=by
 unfold qg7
 split
 ·simp
 ·rw [List.length_take];have:=qu3 l bad;unfold textN;omega
theorem qw3 (rb:Nat) (l:Bs) (bad:Bool) (w:World) (h:Rd w rb l bad) (hl:l.length≤1099511627776) :
  Calls Tryz.prog 142 #[.pointer (some ⟨rb,0,none⟩)] w (q26 rb l bad w):=by
 have HN:=Lib.hid (qc9 rb l bad 1 w h hl (by omega))
 clear h
 go_enter Tryz.func142,Tryz.ntmps142
 go_wp2_with fail
 refine HN.out.mono ?_
 rintro e w1 ⟨rfl,hR,hm,-⟩
 have h2:=qu3 l bad
 have h3:=qea l bad 1
 have HB:=Lib.hid (qnv rb (qdb l bad 1) (rdBad l bad 1) (rdNum l bad 1) w1 hR (by omega) (by omega))
 have H1:=Lib.hid hm
 clear hR hm
 go_wp2_with fail
 refine HB.out.mono ?_
 intro e w2 hp
 obtain ⟨a,cap,bs,rfl,hc,-,hbs,hR2,hm2,-⟩:=ql4 hp
 have hs:=qgp cap hc
 have H2:=Lib.hid (And.intro hbs (And.intro hR2 hm2))
 clear hp hc hbs hR2 hm2
 go_wp2_with fail
 refine bodyPost_ret (results_tmp rfl _ _ _) rfl ⟨?_,H2.out.2.1,H1.out.trans H2.out.2.2⟩
 rw [H2.out.1];rfl
def nums4 (l:Bs):List Int:=(List.range (l.length / 4)).map fun i=>((beNat ((l.drop (4*i)).take 4):Nat):Int)
theorem qhx (l:Bs):(nums4 l).length=l.length / 4:=by simp [nums4]
theorem q0o {l:Bs} {k:Nat} (h:k<l.length / 4):(nums4 l).take (k+1)=(nums4 l).take k++[((beNat ((l.drop (4*k)).take 4):Nat):Int)]:=by
 rw [List.take_succ_eq_append_getElem (by rw [qhx];exact h)]
 simp [nums4]
def lenV:Value→Nat
 | .slice _ n _=>n
 | _=>0
theorem q5p {v:Value} {l:List Int} {w:World} (hs:Sat w (iRow v l)) (h:iOk v l):lenV v=l.length:=by
 obtain ⟨av,cv,rfl,-⟩:=qbk (qbm hs h)
 rfl
def rbF (rb:Nat):HF:=[(rb,fun _=>True)]
def qu7 (l:Bs) (bad:Bool) (ns:List Int) (l':Bs) (b':Bool):Prop :=
 (b'=false∧bad=false∧∃ k,k≤l.length / 4∧l'=l.drop (4*k)∧ns=(nums4 l).take k)∨(b'=true∧(bad=true∨l.length%4≠0)∧ns.length≤l.length+1)
def q3q (rb:Nat) (l:Bs) (bad:Bool) (w:World) (v:Value) (W:World):Prop :=
 ∃ ns l' b',iOk v ns∧Turns (rbF rb) (iRow v ns++rbF rb) w W∧Rd W rb l' b'∧qu7 l bad ns l' b'
def q1e (rb:Nat) (l:Bs) (bad:Bool) (w:World) (e:Ending) (w':World):Prop :=
 ∃ v ns l' b',e=.returned v∧iOk v ns∧Turns (rbF rb) (iRow v ns++rbF rb) w w'∧Rd w' rb l' b'∧((b'=false∧bad=false∧l.length%4=0∧l'=[]∧ns=nums4 l)∨(b'=true∧(bad=true∨l.length%4≠0)∧ns.length≤l.length+1))
theorem rd_is {rb:Nat} {w w':World} (hm:Mods (fun k=>k=rb) w w') {F G:HF} {A:World} {o:Obj} (h:Turns F (G++rbF rb) A w) (ho:w'.heap[rb]?=some o):Turns F (G++[(rb,Is o)]) A w' :=
 ((h.to (H:=(rb,fun _=>True)::G) (by unfold rbF;exact List.perm_append_comm)).put hm ho Is.rfl).to (List.perm_append_comm (l₁:=[(rb,Is o)]))
theorem qum {rb:Nat} {w:World} {F G:HF} {A:World} {o:Obj} (h:Turns F (G++[(rb,Is o)]) A w):Turns F (G++rbF rb) A w:=by
 have h1:=h.to (H:=(rb,Is o)::G) List.perm_append_comm
 exact (h1.put (Mods.refl _ _) h1.sat.headIs (ψ:=fun _=>True) trivial).to (by unfold rbF;exact List.perm_append_comm (l₁:=[(rb,fun _=>True)]))
theorem Rd.via {rb:Nat} {l:Bs} {b:Bool} {w0 W w':World} (h:Rd W rb l b) (h1:Mods (fun k=>k∈dom (rbF rb)) w0 W) (h2:Mods (fun k=>k∈dom (rbF rb)) w0 w') (hr:rb<w0.heap.size) (he:w'.heap[rb]?=W.heap[rb]?):Rd w' rb l b:=by
 obtain ⟨a,cap,e1,e2,e3,e4⟩:=h
 refine ⟨a,cap,?_,e2,fun hp=>?_,e4⟩
 ·unfold RdAt at e1 ⊢;rw [he];exact e1
 ·obtain ⟨g,off,ha,hc⟩:=e3 hp
  have hg:g<rb:=e4 _ ha
  have hS:¬ (g∈dom (rbF rb)):=by simp [rbF,dom];omega
  refine ⟨g,off,ha,fun j hj=>?_⟩
  rw [← hc j hj]
  exact World.cell?_of_block ((h2.block g (by omega) hS).trans (h1.block g (by omega) hS).symm)
theorem qv5 {l l':Bs} {bad:Bool} {ns:List Int} (h:qu7 l bad ns l' false) (hne:l'≠[]):qu7 l bad (ns++[((rdNum l' false 4:Nat):Int)]) (qdb l' false 4) (rdBad l' false 4)∧ns.length≤l.length:=by
 rcases h with ⟨-,hb,k,hk,rfl,rfl⟩ | ⟨h,-,-⟩
 ·have hl:(l.drop (4*k)).length=l.length-4*k:=List.length_drop
  have hl2:((nums4 l).take k).length=k:=by rw [List.length_take,qhx];omega
  have hpos:0<l.length-4*k:=by rw [← hl];exact List.length_pos_iff.2 hne
  refine ⟨?_,by omega⟩
  by_cases h4:(l.drop (4*k)).length<4
  ·refine .inr ⟨by simp [rdBad];omega,.inr (by omega),?_⟩
   rw [List.length_append,hl2];simp;omega
  ·refine .inl ⟨by simp [rdBad];omega,hb,k+1,by omega,?_,?_⟩
   ·unfold qdb;rw [if_neg (by simp;omega),List.drop_drop];congr 1
   ·unfold rdNum;rw [if_neg (by simp;omega),q0o (by omega)]
 ·cases h
theorem qs2 (rb:Nat) (l:Bs) (bad:Bool) (w:World) (h:Rd w rb l bad) (hl:l.length≤70000) :
  Calls Tryz.prog 143 #[.pointer (some ⟨rb,0,none⟩)] w (q1e rb l bad w):=by
 have hrl:rb<w.heap.size:=by obtain ⟨a,cap,h1,-⟩:=h;exact qal h1
 have HH:=Lib.hid h
 clear h
 go_enter Tryz.func143,Tryz.ntmps143
 go_wp2_with fail
 go_loopw [3] (fun v wr=>q3q rb l bad w v wr) (fun v _=>l.length+2-lenV v)
 case atStart =>
  refine ⟨[],l,bad,qno,?_,HH.out,?_⟩
  ·rw [qte]
   obtain ⟨a,cap,h1,-⟩:=HH.out
   exact Turns.refl (Sat.one h1 trivial)
  ·cases bad with
   | false=>exact .inl ⟨rfl,rfl,0,Nat.zero_le _,rfl,rfl⟩
   | true=>exact .inr ⟨rfl,.inl rfl,by simp⟩
 case round =>
  obtain ⟨ns,l',b',hio,hT,hR,hN⟩:=hrel
  obtain ⟨a',cap',e1,e2,e3,e4⟩:=hR
  have c0:wr.cell? ⟨rb,0,none⟩=some (.slice a' l'.length cap'):=qac e1 0 rfl
  have c1:wr.cell? ⟨rb,1,none⟩=some (.bool b'):=qac e1 1 rfl
  have hlv:=q5p hT.sat.left hio
  have HR:=Lib.hid (And.intro hio (And.intro hT (And.intro (show Rd wr rb l' b' from ⟨a',cap',e1,e2,e3,e4⟩) hN)))
  clear hio hT hN e1 e2 e3 e4
  by_cases h0:l'=[]
  ·have hd:l'.length=0:=by rw [h0];rfl
   rw [hd] at c0
   go_wp2_with fail
   refine bodyPost_ret (results_tmp rfl _ _ _) rfl ⟨u3,ns,l',b',rfl,HR.out.1,HR.out.2.1,HR.out.2.2.1,?_⟩
   rcases HR.out.2.2.2 with ⟨h1,h2,k,h3,h4,h5⟩ | h
   ·refine .inl ⟨h1,h2,?_,h0,?_⟩
    ·have:=congrArg List.length h4;rw [h0,List.length_drop] at this;simp at this;omega
    ·rw [h5,List.take_of_length_le];rw [qhx]
     have:=congrArg List.length h4;rw [h0,List.length_drop] at this;simp at this;omega
   ·exact .inr h
  ·have hp:0<l'.length:=List.length_pos_iff.2 h0
   cases b' with
   | true =>
    go_wp2_with fail
    refine bodyPost_ret (results_tmp rfl _ _ _) rfl ⟨u3,ns,l',true,rfl,HR.out.1,HR.out.2.1,HR.out.2.2.1,?_⟩
    rcases HR.out.2.2.2 with ⟨h1,-⟩ | h
    ·cases h1
    ·exact .inr h
   | false =>
    have hnx:=qv5 HR.out.2.2.2 h0
    have HN:=Lib.hid (qc9 rb l' false 4 wr HR.out.2.2.1 (by rcases HR.out.2.2.2 with ⟨-,-,k,-,rfl,-⟩ | ⟨h,-⟩<;>first | (rw [List.length_drop];omega) | cases h) (by omega))
    have HX:=Lib.hid (And.intro hnx.1 hlv)
    have hnl:=hnx.2
    clear hnx hlv
    go_wp2_with fail
    refine HN.out.mono ?_
    rintro e w1 ⟨rfl,hR1,hm1,-⟩
    obtain ⟨o,ho⟩:∃ o,w1.heap[rb]?=some o:=by obtain ⟨a,c,h1,-⟩:=hR1;exact ⟨_,h1⟩
    have hT1:=rd_is hm1 HR.out.2.1 ho
    obtain ⟨x,hx⟩:∃ x,x=rdNum l' false 4:=⟨_,rfl⟩
    rw [← hx] at HX ⊢
    have H1:=Lib.hid (And.intro hR1 (And.intro ho hT1))
    clear hR1 hm1 ho hT1 hx c0 c1
    go_wp2_with ((at_builtin;refine qak rfl ?_;refine qii (.tmp 17) (.tmp 20) rfl _ ns rfl (H1.out.2.2.alloc _) HR.out.1 _ 1 1 rfl [(x:Int)] rfl (fun _=>⟨_,rfl,fun j u hu=>qff _ _ _ j u hu⟩) (by simp;omega) ?_;intro av cv w5 hok5 hT5;have H5:=Lib.hid (And.intro hok5 hT5);clear hok5 hT5))
    go_roundw
    case rel =>
     have h5:=H5.out.2
     have hR5:=Rd.via H1.out.1 (H1.out.2.2.mods) h5.mods hrl ((h5.sat.memIs (b:=rb) (by simp)).trans H1.out.2.1.symm)
     refine ⟨_,_,_,?_,qum (o:=o) ?_,hR5,HX.out.1⟩
     ·have:=H5.out.1;rw [List.length_append] at this;exact this
     ·rw [List.length_append] at h5;exact h5
    case measure=>rw [HX.out.2];simp [lenV];omega
end Go.Proofs.YtdhobpbngkainaaGreatDoor
namespace Go.Proofs.YtdhobpbngkainaaGreatDoor
open Go.RowKit
section
variable {P : Program} {Q : Exit → Act → World → Prop} {ops : Array Oper} {a0 : Act} {A : (Nat → Value) → Act} {φ : Nat → Value → Prop} {J : (Nat → Option Value) → World → Prop} {noisy : List Nat}
def qov (P:Program) (Q:Exit→Act→World→Prop) (ops:Array Oper) (A:(Nat→Value)→Act) (φ:Nat→Value→Prop) (J:(Nat→Option Value)→World→Prop) (noisy:List Nat) (i:Nat) (o:Oper):Prop :=
 ∀ (x:Nat→Value) (s:Nat→Option Value) (w:World),qf6 φ x s noisy o.after.toList→(∀ k v,s k=some v→x k=v)→s i=none→J s w →
  if Region.wanted o (yielded ops (A x).tmps) then
   ∀ K:Act→World→Prop,(∀ v w',φ i v→J (if noisy.contains i then updO s i v else s) w'→K ((A x).put o.dst v) w')→o.wp P (A x) w K Q
  else φ i undef∧J (if noisy.contains i then updO s i undef else s) w
def qm1 (P:Program) (Q:Exit→Act→World→Prop) (ops:Array Oper) (A:(Nat→Value)→Act) (φ:Nat→Value→Prop) (J:(Nat→Option Value)→World→Prop) (noisy:List Nat):Nat→List Oper→Prop
 | _,[]=>True
 | i,o::r=>qov P Q ops A φ J noisy i o∧qm1 P Q ops A φ J noisy (i+1) r
theorem qjn (hA:∀ x,qam x 0 ops.toList a0=A x):∀ (l:List Oper) (i:Nat),qm1 P Q ops A φ J noisy i l→qeq P Q ops a0 φ J noisy i l
 | [],_,_=>trivial
 | o::r,i,h=>by
  refine ⟨fun x=>?_,qjn hA r (i+1) h.2⟩
  rw [hA x]
  exact h.1 x
theorem qpx {id:Nat} {w:World} (A:(Nat→Value)→Act) (hA:∀ x,qam x 0 ops.toList a0=A x) (hm:P.follows .mixedOrders=true) (φ:Nat→Value→Prop) (J:(Nat→Option Value)→World→Prop) (noisy:List Nat)
  (hok:qcd a0.tmps.size 0 ops.toList []=true) (h0:J (fun _=>none) w.drew) (hsteps:qm1 P Q ops A φ J noisy 0 ops.toList)
  (hend:∀ x w,qdf φ x 0 ops.size→J (fun k=>if k<ops.size∧noisy.contains k=true then some (x k) else none) w→Q .normal (A x) w) :
  (Code.region id ops true).wp P Q a0 w :=
 qkj hm φ J noisy hok h0 (qjn hA _ _ hsteps) (fun x w h1 h2=>by rw [hA x];exact hend x w h1 h2)
theorem qie {i:Nat} {o:Oper} (hi:noisy.contains i=false) (hg:o.guard=none)
  (h:∀ (x:Nat→Value) (s:Nat→Option Value) (w:World),depsC φ x o.after.toList→J s w→∀ K:Act→World→Prop,(∀ v,φ i v→K ((A x).put o.dst v) w)→o.wp P (A x) w K Q):qov P Q ops A φ J noisy i o:=by
 intro x s w hd _ _ hJ
 rw [if_pos (by simp [Region.wanted,hg])]
 intro K hK
 exact h x s w (qec _ hd).1 hJ K (fun v hv=>hK v w hv (by rw [hi];exact hJ))
theorem qil {i:Nat} {o:Oper} (hi:noisy.contains i=true) (hg:o.guard=none)
  (h:∀ (x:Nat→Value) (s:Nat→Option Value) (w:World),depsC φ x o.after.toList→(∀ e∈o.after.toList,Region.binds .any e=true→noisy.contains e.on=true→s e.on=some (x e.on))→s i=none→J s w→∀ K:Act→World→Prop,(∀ v w',φ i v→J (updO s i v) w'→K ((A x).put o.dst v) w')→o.wp P (A x) w K Q):qov P Q ops A φ J noisy i o:=by
 intro x s w hd _ hsi hJ
 rw [if_pos (by simp [Region.wanted,hg])]
 intro K hK
 exact h x s w (qec _ hd).1 (qec _ hd).2 hsi hJ K (fun v w' hv hj=>hK v w' hv (by rw [hi];exact hj))
theorem qgq {l:List Edge} {x:Nat→Value} {s:Nat→Option Value} (h:∀ e∈l,Region.binds .any e=true→noisy.contains e.on=true→s e.on=some (x e.on)) (k:Nat) (hk:(l.any fun e=>Region.binds .any e&&e.on==k)=true) (hn:noisy.contains k=true):s k=some (x k):=by
 obtain ⟨e,he,h2⟩:=List.any_eq_true.1 hk
 simp only [Bool.and_eq_true,beq_iff_eq] at h2
 rw [← h2.2]
 exact h e he h2.1 (by rw [h2.2];exact hn)
theorem qd3 {St:List Value→World→Prop} {C:World→Prop} {ns:List Nat} {i:Nat} {o:Oper}
  (hi:ns.idxOf? i=none) (hg:∀ x:Nat→Value,depsC φ x o.after.toList→Region.wanted o (yielded ops (A x).tmps)=true) (h:∀ (x:Nat→Value) (w:World),depsC φ x o.after.toList→C w→∀ K:Act→World→Prop,(∀ v,φ i v→K ((A x).put o.dst v) w)→(∀ v w',φ i v→(∀ vs,St vs w→St vs w')→K ((A x).put o.dst v) w')→o.wp P (A x) w K Q) :
  qdr P Q ops A φ St C ns i o:=by
 unfold qdr
 rw [hi]
 intro x w hd hC
 rw [if_pos (hg x hd)]
 exact h x w hd hC
theorem qbb {s:Nat→Option Value} {i k:Nat} {v:Value} (h:k≠i):updO s i v k=s k:=if_neg h
theorem qel {s:Nat→Option Value} {i:Nat} {v:Value}:updO s i v i=some v:=if_pos rfl
end
end Go.Proofs.YtdhobpbngkainaaGreatDoor
namespace Go.Proofs.YtdhobpbngkainaaGreatDoor
open Go.RowKit Go.Maps
abbrev TagL:=GE (Bs×Int)
def tagV (n:Bs) (g:Bs×Int):Value:=.agg #[str n,str g.1,.int .i64 g.2]
def tagsF (tm:Nat) (ts:List TagL) (tc:Nat):HF:=[(tm,Is (mapO str (ts.map entG) tc))]
structure TagsOk (ts:List TagL) (tc:Nat):Prop where
 map:MapOk OkS (ts.map entG) tc
 val:∀ p∈ts,p.val=tagV p.key p.g
def keyB (body:Bs):Bs:=be (sumOf 1 body) 4
structure AS where
 a:Nat
 X:ArchL
 A:AreaL
 L:DevL
 ps:List PathL
 pc:Nat
 cs:List ChkL
 cc:Nat
 ts:List TagL
 tc:Nat
 data:Bs
 K:List (Bs×Nat×Nat)
def arF (S:AS):HF:=(S.a,Is (archO S.X))::(areaF S.X.ab S.X.d S.A++(devF S.X.d S.L++(qbc S.X.pm S.ps S.pc++(tagsF S.X.tm S.ts S.tc++qbd S.X.cm S.cs S.cc))))
def qek (data:Bs) (at_:Nat) (body:Bs):Prop:=at_+(body.length+9)≤data.length∧openR ((data.drop at_).take (body.length+9))=some (1,body,body.length+9)
theorem qek.more {data more body:Bs} {at_:Nat} (h:qek data at_ body):qek (data++more) at_ body:=by
 refine ⟨by have:=h.1;simp;omega,?_⟩
 rw [List.drop_append_of_le_length (by have:=h.1;omega),List.take_append_of_le_length (by rw [List.length_drop];have:=h.1;omega)]
 exact h.2
theorem qek.frame {data body rest:Bs} (hl:body.length<65536):qek (data++frame 1 body++rest) data.length body:=by
 refine ⟨by simp [qca],?_⟩
 rw [List.append_assoc,List.drop_left,List.take_append_of_le_length (by rw [qca];omega),List.take_of_length_le (by rw [qca];omega)]
 have:=qgd 1 body [] (by decide) hl
 rwa [List.append_nil] at this
theorem qek.chunkAt {l data body:Bs} {first count at_:Nat} (h:qek data at_ body) (hd:qdt l first count data):qhl (qax l first count) at_ body:=by
 rw [hd.1]
 refine ⟨by have:=h.1;simp;omega,?_⟩
 rw [List.drop_append_of_le_length (by have:=h.1;omega),List.take_append_of_le_length (by rw [List.length_drop];have:=h.1;omega)]
 exact h.2
structure ArOk (S:AS):Prop where
 dev:DevOk S.L
 n16:16≤S.L.n
 nmax:S.L.n≤1073741824
 area:AreaOk S.A
 first:S.A.first=2+S.X.ep%2*halfN S.L.n
 count:S.A.count=halfN S.L.n
 end_:S.A.end_=S.data.length
 tail:S.A.tail=qbs S.data
 dat:qdt S.L.now S.A.first S.A.count S.data
 paths:PathsOk S.ps S.pc
 tags:TagsOk S.ts S.tc
 chunks:ChunksOk S.cs S.cc
 kin:∀ k,(qa5 S.cs k).Perm ((S.K.filter (fun e=>decide (keyB e.1=k))).map (·.2))
 kat:∀ e∈S.K,e.2.2=e.1.length∧qek S.data e.2.1 e.1
 vers:∀ p∈S.ps,∀ V∈p.g,(∀ q∈V.chs,∃ e∈S.K,e.2=q)∧V.size=(V.chs.map (·.2)).sum
 some:∀ p∈S.ps,p.g≠[]
 sound:S.X.broken=.nilIface
 ep:S.X.ep<4294967296
structure ArB (S:AS) (b:Nat):Prop where
 K:S.K.length≤b
 np:S.ps.length≤b
 nt:S.ts.length≤b
 vers:∀ p∈S.ps,p.key.length≤255∧p.g.length≤b∧∀ V∈p.g,V.num≤4294967296+b∧V.chs.length≤b∧V.size≤65536*b∧V.held.natAbs≤b
 tags:∀ p∈S.ts,p.key.length≤255∧p.g.1.length≤255∧p.g.2.natAbs≤4294967296+b
 used:S.X.used.natAbs≤65536*b
 sc:S.X.sc.natAbs≤b
 sb:S.X.sb.natAbs≤65536*b
 quota:S.X.quota.natAbs≤9223372036854775807
 chs:S.L.chs.length≤262144*b
theorem ArOk.fits {S:AS} (h:ArOk S):S.A.first+S.A.count≤S.L.n:=by
 rw [h.first,h.count]
 have:=h.n16
 unfold halfN
 rcases Nat.mod_two_eq_zero_or_one S.X.ep with e | e<;>rw [e]<;>omega
theorem q0a {S:AS} (h:ArOk S) (k:Bs):(qa5 S.cs k).length≤S.K.length:=by
 rw [(h.kin k).length_eq,List.length_map]
 exact List.length_filter_le _ _
theorem qlb {S:AS} (h:ArOk S) {k:Bs} {q:Nat×Nat}:q∈qa5 S.cs k↔∃ e∈S.K,keyB e.1=k∧e.2=q:=by
 rw [(h.kin k).mem_iff]
 simp only [List.mem_map,List.mem_filter,decide_eq_true_eq]
 exact ⟨fun ⟨e,⟨h1,h2⟩,h3⟩=>⟨e,h1,h2,h3⟩,fun ⟨e,h1,h2,h3⟩=>⟨e,⟨h1,h2⟩,h3⟩⟩
theorem qxc {S:AS} (h:ArOk S) {k:Bs}:∀ q∈qa5 S.cs k,∃ body,q.2=body.length∧qhl (qax S.L.now S.A.first S.A.count) q.1 body:=fun q hq=>by
 obtain ⟨e,he,_,rfl⟩:=(qlb h).1 hq
 exact ⟨e.1,(h.kat e he).1,(h.kat e he).2.chunkAt h.dat⟩
theorem q7e {S:AS} (h:ArOk S) {b:Bs} {q:Nat×Nat} (hq:q∈qa5 S.cs (keyB b)) (hc:qi8 (qax S.L.now S.A.first S.A.count) q b):(b,q)∈S.K:=by
 obtain ⟨e,he,_,rfl⟩:=(qlb h).1 hq
 have:=qj1 ((h.kat e he).2.chunkAt h.dat) hc.2 ((h.kat e he).1.symm.trans hc.1)
 rw [← this]
 exact he
theorem q6y {S:AS} (h:ArOk S) {b:Bs} {q:Nat×Nat} (he:(b,q)∈S.K):q∈qa5 S.cs (keyB b)∧qi8 (qax S.L.now S.A.first S.A.count) q b :=
 ⟨(qlb h).2 ⟨_,he,rfl,rfl⟩,(h.kat _ he).1,(h.kat _ he).2.chunkAt h.dat⟩
def qck:List Nat→Bs→List Bs
 | [],_=>[]
 | n::r,d=>d.take n::qck r (d.drop n)
def qbp (has:List Bs):List Bs→List Bs→List Bs
 | acc,[]=>acc
 | acc,c::r=>if c∈has∨c∈acc then qbp has acc r else qbp has (acc++[c]) r
def qbo:Nat→List Bs→List (Bs×Nat×Nat)
 | _,[]=>[]
 | at_,c::r=>(c,at_,c.length)::qbo (at_+c.length+9) r
def qa1 (l:List Bs):Nat:=(l.map fun c=>c.length+9).sum
theorem qst (l m:List Bs):∀ at_,qbo at_ (l++m)=qbo at_ l++qbo (at_+qa1 l) m:=by
 induction l with
 | nil=>intro a;simp [qbo,qa1]
 | cons c r ih =>
  intro a
  simp only [List.cons_append,qbo,ih,qa1,List.map_cons,List.sum_cons]
  rw [show a+c.length+9+(r.map fun c=>c.length+9).sum=a+(c.length+9+(r.map fun c=>c.length+9).sum) by omega]
theorem qce:∀ (l:List Nat) (d:Bs),(qck l d).length=l.length
 | [],_=>rfl
 | _::r,d=>by simp [qck,qce r]
theorem qgf:∀ (l:List Nat) (d:Bs) (i:Nat) (h:i<l.length),(qck l d)[i]'(by rw [qce];exact h)=(d.drop (l.take i).sum).take l[i]
 | n::r,d,0,_=>by simp [qck]
 | n::r,d,i+1,h=>by
  simp only [qck,List.getElem_cons_succ]
  rw [qgf r _ i (by simpa using h),List.drop_drop]
  simp
end Go.Proofs.YtdhobpbngkainaaGreatDoor
namespace Go.Proofs.YtdhobpbngkainaaGreatDoor
open Go.RowKit Go.Maps
open Go.ChangeMaps (setBlock)
section
variable {κ : Type}
def iterO (b c:Nat) (done:List (Ent κ)):Obj:=.mapIter (some b) c (done.map (·.born)).toArray c
theorem leftE {l done:List (Ent κ)} (enc:κ→Value) (c:Nat):(leftOf (l.map (entE enc)).toArray (done.map (·.born)).toArray).toList=(l.filter (fun e => !(done.map (·.born)).contains e.born)).map (entE enc):=by
 unfold leftOf
 rw [Array.toList_filter,List.filter_map]
 congr 1
 apply List.filter_congr
 intro e _
 simp [entE]
 exact decide_eq_decide.2 Iff.rfl
theorem q1q {l done todo:List (Ent κ)} (hp:(done++todo).Perm l) (hn:(l.map (·.born)).Nodup):(l.filter (fun e => !(done.map (·.born)).contains e.born)).Perm todo:=by
 have hn2:((done++todo).map (·.born)).Nodup:=(hp.map _).nodup_iff.2 hn
 refine (hp.symm.filter _).trans ?_
 rw [List.filter_append]
 have h1:done.filter (fun e => !(done.map (·.born)).contains e.born)=[]:=by
  rw [List.filter_eq_nil_iff]
  intro e he
  simp only [Bool.not_eq_true',Bool.not_eq_false,List.contains_iff_mem,Bool.not_eq_true]
  simp
  exact ⟨e,he,rfl⟩
 have h2:todo.filter (fun e => !(done.map (·.born)).contains e.born)=todo:=by
  rw [List.filter_eq_self]
  intro e he
  rw [List.map_append,List.nodup_append] at hn2
  simp only [Bool.not_eq_true']
  rw [← Bool.not_eq_true,List.contains_iff_mem]
  intro hm
  exact hn2.2.2 e.born hm e.born (List.mem_map.2 ⟨e,he,rfl⟩) rfl
 rw [h1,h2]
 exact List.Perm.refl _
theorem qrn {P:Program} {enc:κ→Value} {Ok:κ→Prop} {w:World} {ty:TypeId} {r b c:Nat} {l done todo:List (Ent κ)} (hr:w.heap[r]?=some (iterO b c done)) (hb:w.heap[b]?=some (mapO enc l c)) (hm:MapOk Ok l c)
  (hp:(done++todo).Perm l) :
  (todo=[]∧(Instr.next (.pointer (some ⟨r,0,none⟩)) false ty).run P w=.ok (.tuple #[.bool false]) w) ∨
  ∃ e rest w1,todo.Perm (e::rest)∧(w1=w∨w1=w.drew)∧(Instr.next (.pointer (some ⟨r,0,none⟩)) false ty).run P w=.ok (.tuple #[.bool true,enc e.key,e.val]) (setBlock w1 r (iterO b c (done++[e]))):=by
 have hold:∀ x∈(l.map (entE enc)).toArray.toList,x.born<c:=by
  intro x hx
  obtain ⟨e,he,rfl⟩:=List.mem_map.1 (by simpa using hx)
  exact hm.lt e he
 have ht:=q1q hp hm.borns
 rcases run_next_at w ty r b c c _ _ c hr hb hold (Nat.le_refl _) with ⟨h0,h1⟩ | ⟨e,he,w1,h2,h3⟩
 ·refine .inl ⟨?_,h1⟩
  have:(leftOf (l.map (entE enc)).toArray (done.map (·.born)).toArray).toList.length=0:=by simpa using h0
  rw [leftE enc c,List.length_map] at this
  exact List.length_eq_zero_iff.1 (ht.length_eq ▸ this)
 ·rw [leftE enc c] at he
  obtain ⟨e',he',rfl⟩:=List.mem_map.1 he
  obtain ⟨s,t,rfl⟩:=List.append_of_mem (ht.mem_iff.1 he')
  refine .inr ⟨e',s++t,w1,List.perm_middle,h2,?_⟩
  rw [h3]
  simp [iterO,entE]
theorem q15 {l done todo:List (Ent κ)} {e:Ent κ} {rest:List (Ent κ)} (hp:(done++todo).Perm l) (ht:todo.Perm (e::rest)):((done++[e])++rest).Perm l:=by
 rw [List.append_assoc]
 exact ((ht.symm.append_left done).trans hp)
theorem qp3 {P:Program} {enc:κ→Value} {Ok:κ→Prop} {w:World} {r b c:Nat} {l done:List (Ent κ)} {e:Ent κ} (hr:w.heap[r]?=some (iterO b c (done++[e]))) (hb:w.heap[b]?=some (mapO enc l c)) (hm:MapOk Ok l c) (he:e∈l) :
  (Instr.entry (.pointer (some ⟨r,0,none⟩))).run P w=.ok (.tuple #[enc e.key,e.val]) w:=by
 have hr':w.heap[r]?=some (.mapIter (some b) c ((done.map (·.born)).toArray.push (entE enc e).born) c):=by rw [hr];simp [iterO,entE]
 exact run_entry_at w r b c _ _ c (entE enc e) hr' hb (by simp;exact ⟨e,he,rfl⟩) (by simpa [List.map_map,Function.comp_def,entE] using hm.borns)
theorem qxv {P:Program} {enc:κ→Value} {w:World} {o:Oper} {a:Act} {K:Act→World→Prop} {Q:Exit→Act→World→Prop} (m:Operand) {t k ev:TypeId} (hop:o.op=.range t m) (ht:P.underlying t=some (.map k ev)) {b:Nat} {l:List (Ent κ)} {c:Nat} (hb:w.heap[b]?=some (mapO enc l c))
  (hmv:a.eval m=.map (some b)) (hK:K (a.put o.dst (.pointer (some ⟨w.heap.size,0,none⟩))) (w.alloc (iterO b c ([]:List (Ent κ))))):o.wp P a w K Q:=by
 refine qag (v:=.pointer (some ⟨w.heap.size,0,none⟩)) (w':=w.alloc (iterO b c ([]:List (Ent κ)))) ?_ hK
 have:=run_range_map (P:=P) w t k ev b _ c ht hb
 simp [execOp,hop,hmv,this,Result.andThen,iterO]
end
end Go.Proofs.YtdhobpbngkainaaGreatDoor
namespace Go.Proofs.YtdhobpbngkainaaGreatDoor
open Go.RowKit
def qip (o:Oper):Bool:=match o.op with | .defer _=>false | _=>true
theorem qtk {l n:Nat} {P:Program} {f:FuncId} {args:Array Value} {w:World} {R:Ending→World→Prop} (h:Calls P f args w R):CallsIn (Fence.wide.inRound l) n P f args w R :=
 ⟨trivial,fun cs _=>(callsIn_wide (n:=n).2 h).2 cs (room_wide _)⟩
theorem q44 {l n:Nat} {P:Program} {r:String} {args:Array Value} {w:World} {R:Value→World→Prop} (h:Rows P r args w R):RowsIn (Fence.wide.inRound l) n P r args w R :=
 fun c cs _=>let ⟨v,w',r,s⟩:=h c cs;⟨v,w',r,stepsIn_wide.2 s⟩
theorem qx7 {l n:Nat} {P:Program} {o:Oper} {a:Act} {w:World} {K:Act→World→Prop} {Q:Exit→Act→World→Prop} (hd:qip o=true) (h:o.wp P a w K Q):o.wpIn (Fence.wide.inRound l) n P a w K Q:=by
 refine ⟨fun _ _=>trivial,?_⟩
 have e:Oper.semAt (Fence.wide.inRound l).round a.eval o=execOp a.eval o:=Oper.semAt_eq _ _ _ (fun c hc=>by simp [qip,hc] at hd)
 rw [e]
 unfold Oper.wp at h
 generalize (execOp a.eval o).run P w=r at h ⊢
 have hdp:(Fence.wide.inRound l).depth.isSome=true→1≤n:=fun hx=>by simp [Fence.wide] at hx
 cases r with
 | ok x w' =>
  cases x with
  | enter f args=>exact ⟨hdp,(qtk h).mono (fun e w'' he=>by cases e<;>exact he)⟩
  | row r args=>exact ⟨hdp,(q44 h).mono (fun _ _ he=>he)⟩
  | value v=>exact h
  | skip=>exact h
  | defer d=>exact h
  | _=>exact h.elim
 | halt x w' =>
  cases x with
  | panic v=>exact h
  | _=>exact h.elim
theorem qj8 {l n:Nat} {P:Program} {ops:Array Oper} {rest:List Oper} {o:Oper} {a:Act} {w:World} {Q:Exit→Act→World→Prop} (hg:o.guard=none) (hd:qip o=true) (h:o.wp P a w (wpListIn (Fence.wide.inRound l) n P ops Q rest) Q) :
  wpListIn (Fence.wide.inRound l) n P ops Q (o::rest) a w:=wpListIn_plain hg fun _ hK=>Oper.wpIn_mono hK (qx7 hd h)
theorem q4z {l n:Nat} {P:Program} {md:Region.Mode} {ops:Array Oper} {Q:Exit→Act→World→Prop} (hn:ops.all qip=true) (hQ:¬ LetsOut Q) :
  ∀ (fuel:Nat) (listed:Array Bool) (a:Act) (w:World),wpAny P md ops Q fuel listed a w→wpAnyIn (Fence.wide.inRound l) n P md ops Q fuel listed a w:=by
 intro fuel
 induction fuel with
 | zero=>exact fun _ _ _ h=>h
 | succ fuel ih =>
  intro listed a w h
  refine ⟨h.1,fun i hi=>?_⟩
  have h2:=h.2 i hi
  unfold wpOp at h2
  unfold wpOpIn
  cases ho:ops[i]? with
  | none=>rw [ho] at h2;exact ih _ _ _ h2
  | some o =>
   rw [ho] at h2
   simp only at h2 ⊢
   have hd:qip o=true:=by
    obtain ⟨hlt,rfl⟩:=Array.getElem?_eq_some_iff.1 ho
    exact Array.all_eq_true.1 hn i hlt
   split
   ·rename_i hw
    rw [if_pos hw] at h2
    rcases h2 with h2 | ⟨_,h2⟩
    ·exact Oper.wpIn_mono (fun a w h=>ih _ _ _ h) (qx7 hd h2)
    ·exact absurd h2 hQ
   ·rename_i hw
    rw [if_neg hw] at h2
    exact ⟨fun _ _=>trivial,ih _ _ _ h2⟩
theorem qfe {l n:Nat} {P:Program} {Q:Exit→Act→World→Prop} {id:Nat} {ops:Array Oper} {a0:Act} {w:World} (A:(Nat→Value)→Act) (hA:∀ x,qam x 0 ops.toList a0=A x) (hm:P.follows .mixedOrders=true) (hn:ops.all qip=true) (hQ:¬ LetsOut Q)
  (φ:Nat→Value→Prop) (St:List Value→World→Prop) (C:World→Prop) (ns:List Nat) (hC:∀ vs w,vs.length<ns.length→St vs w→C w)
  (hok:qcd a0.tmps.size 0 ops.toList []=true) (hch:qgv ops ns=true) (hlo:qmf ops ns=true) (hnd:ns.Nodup) (hlt:∀ i∈ns,i<ops.size) (h0:St [] w.drew) (hsteps:qev P Q ops A φ St C ns 0 ops.toList)
  (hend:∀ x w,qdf φ x 0 ops.size→St (ns.map x) w→Q .normal (A x) w) :
  (Code.region id ops true).wpIn (Fence.wide.inRound l) n P Q a0 w :=
 wpIn_region_any hm (q4z hn hQ _ _ _ _ (qia A hA φ St C ns hC hok hch hlo hnd hlt h0 hsteps hend))
end Go.Proofs.YtdhobpbngkainaaGreatDoor
namespace Go.Proofs.YtdhobpbngkainaaGreatDoor
open Go.RowKit Go.Maps
open Go.ChangeMaps (setBlock)
section
variable {P : Program} {o : Oper} {a : Act} {w : World} {K : Act → World → Prop} {Q : Exit → Act → World → Prop} {F G : HF} {a0 : World}
theorem q4u (ty:TypeId) (x y:Operand) (ho:o.op=.store ty x y) (b:Nat) (old cells:Array Value) (t:TypeId) (hT:Turns F ((b,Is (.cells old t (0,0)))::G) a0 w) (hx:a.eval x=.pointer (some ⟨b,0,none⟩)) (hy:a.eval y=.agg cells)
  (hsz:cells.size=old.size) (hi:(P.info? ty).map (·.size)=some cells.size) (h1:cells.all (·.oneCell')=true)
  (hk:∀ w',Turns F ((b,Is (.cells cells t (0,0)))::G) a0 w'→K (a.put o.dst undef) w'):o.wp P a w K Q:=by
 have hb:=hT.sat.headIs
 obtain ⟨q1,q2⟩:=qc2 hb cells.toList (by simpa using hsz)
 refine wp_store_mid ty x y ho b 0 cells hx hy (qcx hb 0 _ (by omega)) hi h1 (hk _ (hT.putIs q2 (by simpa using q1)))
theorem qa0 (ty:TypeId) (x y:Operand) (ho:o.op=.store ty x y) (b i:Nat) (C:Array Value) (t:TypeId) (v:Value) (hT:Turns F ((b,Is (.cells C t (0,0)))::G) a0 w) (hx:a.eval x=.pointer (some ⟨b,i,none⟩)) (hy:a.eval y=v)
  (hiC:i<C.size) (hi:(P.info? ty).map (·.size)=some 1) (h1:v.oneCell'=true) (hvc:v.cells=#[v])
  (hk:∀ w',Turns F ((b,Is (.cells (C.setIfInBounds i v) t (0,0)))::G) a0 w'→K (a.put o.dst undef) w'):o.wp P a w K Q:=by
 have hb:=hT.sat.headIs
 exact quj x y hi ho hb (Array.getElem?_eq_getElem hiC) hx hy h1 hvc (hk _ (hT.putIs ((Mods.refl (fun k=>k=b) w).set1 v) (qbf hb i v)))
theorem qtj {κ:Type} [DecidableEq κ] {k t ev:TypeId} {enc:κ→Value} {Ok:κ→Prop} (E:EncOk P k enc Ok) (m x y:Operand) (ho:o.op=.mapUpdate t m x y) (ht:P.underlying t=some (.map k ev)) (b:Nat) (l:List (Ent κ)) (c:Nat)
  (hT:Turns F ((b,Is (mapO enc l c))::G) a0 w) (hm:MapOk Ok l c) (key:κ) (v:Value) (hmv:a.eval m=.map (some b)) (hx:a.eval x=enc key) (hy:a.eval y=v) (hk:Ok key)
  (hK:∀ w',Turns F ((b,Is (mapO enc (putE l c key v) (putC l c key)))::G) a0 w'→K (a.put o.dst undef) w'):o.wp P a w K Q:=by
 have hb:=hT.sat.headIs
 refine qx9 E m x y ho ht hb hm key v hmv hx hy hk ?_
 exact hK _ (hT.putIs (qc8 _ _ _) (qds hb))
theorem qo4 (t:TypeId) (ho:o.op=.makeMap t none) (hT:Turns F G a0 w) (hk:∀ n w',Turns F ((n,Is (.map #[] 0))::G) a0 w'→K (a.put o.dst (.map (some n))) w'):o.wp P a w K Q:=by
 refine qag (v:=.map (some w.heap.size)) (w':=w.alloc (.map #[] 0)) ?_ (hk _ _ (hT.allocIs _))
 simp [execOp,ho,run_makeMap,Result.andThen]
theorem qom {κ:Type} [DecidableEq κ] {k t ev:TypeId} {enc:κ→Value} {Ok:κ→Prop} (E:EncOk P k enc Ok) (m x:Operand) (hop:o.op=.lookup t m x true) (ht:P.underlying t=some (.map k ev)) {b:Nat} {l:List (Ent κ)} {c:Nat} (hb:w.heap[b]?=some (mapO enc l c)) (hm:MapOk Ok l c)
  {z:Value} (hz:(zeroValue ev).run P w=.ok z w) (key:κ) (hmv:a.eval m=.map (some b)) (hx:a.eval x=enc key) (hk:Ok key) (hK:K (a.put o.dst (.tuple #[(getE l key).getD z,.bool (hasE l key)])) w):o.wp P a w K Q:=by
 refine qag (v:=.tuple #[(getE l key).getD z,.bool (hasE l key)]) (w':=w) ?_ hK
 simp [execOp,hop,hmv,hx,qzb E ht hb hm hz hk,Result.andThen]
end
def qe7 (id:Nat):Code→Option Code
 | .region i ops d=>if i=id then some (.region i ops d) else none
 | .seq a b=>match qe7 id a with | some r=>some r | none=>qe7 id b
 | .cond _ a b=>match qe7 id a with | some r=>some r | none=>qe7 id b
 | .block _ c=>qe7 id c
 | .scope c=>qe7 id c
 | .loop c=>qe7 id c
 | .rangeFunc _ _ a b=>match qe7 id a with | some r=>some r | none=>qe7 id b
 | _=>none
noncomputable def regOf (id:Nat) (f:Func):Code:=(f.body.bind (qe7 id)).getD .skip
theorem q5g:(Tryz.prog.info? 38).map (fun i=>(i.zero,i.size,i.bytes))=some (some (.slice none 0 0),1,24):=by kernel_rfl
theorem qis {o:Oper} {a:Act} {w a0:World} {K:Act→World→Prop} {Q:Exit→Act→World→Prop} {F G:HF} (s x:Operand) (hop:o.op=.call { callee:=.builtin .append,args:=#[s,x],argTypes:=#[61,61] })
  (v:Value) (l:List Value) (hs:a.eval s=v) (hT:Turns F (rowF 38 1 v l.length l++G) a0 w) (hok:RowOk 1 v l.length l) (n:Nat) (u:Value) (hx:a.eval x=.slice (some ⟨n,0,none⟩) 1 1) (hu:u.oneCell'=true)
  (hc:w.cell? ⟨n,0,none⟩=some u) (hb:l.length≤1000000)
  (hk:∀ v' w',RowOk 1 v' (l++[u]).length (l++[u])→Turns F (rowF 38 1 v' (l++[u]).length (l++[u])++G) a0 w'→K (a.put o.dst v') w'):o.wp Tryz.prog a w K Q:=by
 obtain ⟨i0,hi0,hz1,hz2,hz3⟩:=info_parts q5g
 refine qct s x 61 38 i0 (.slice none 0 0) 1 24 hop Tryz.underlying61 hi0 hz1 hz2 hz3 rfl (by decide) v l.length l hs hT hok (some ⟨n,0,none⟩) 1 1 hx [u] rfl (fun _=>⟨_,rfl,fun j y hj=>?_⟩) (fun y hy=>by simp at hy;subst hy;exact hu) (by unfold maxLen;omega) (by omega) (fun v' w' h1 h2 _=>?_)
 ·cases j with
  | zero=>simp only [List.getElem?_cons_zero,Option.some.injEq] at hj;subst hj;rw [Addr.add_lit,Nat.zero_add];exact hc
  | succ j=>simp at hj
 ·exact hk v' w' (by rw [List.length_append];exact h1) (by rw [List.length_append];exact h2)
end Go.Proofs.YtdhobpbngkainaaGreatDoor
namespace Go.Proofs.YtdhobpbngkainaaGreatDoor
open Go.RowKit Go.Maps
structure RVer where
 path:Bs
 num:Int
 cont:Bs
 cv:Value
 held:Int
structure RTag where
 name:Bs
 path:Bs
 num:Int
structure RefL where
 blk:Nat
 vv:Value
 vs:List RVer
 tv:Value
 ts:List RTag
 quota:Int
 closed:Bool
def rverV (v:RVer):List Value:=[str v.path,.int .i64 v.num,v.cv,.int .i64 v.held]
def qb0 (l:List RVer):List Value:=l.flatMap rverV
def rtagV (t:RTag):List Value:=[str t.name,str t.path,.int .i64 t.num]
def qe4 (l:List RTag):List Value:=l.flatMap rtagV
theorem qbx (l:List RVer):(qb0 l).length=l.length*4:=by
 induction l with
 | nil=>rfl
 | cons a r ih=>simp only [qb0,List.flatMap_cons,List.length_append,List.length_cons] at ih ⊢;rw [ih];simp [rverV];omega
theorem ql0 (l:List RTag):(qe4 l).length=l.length*3:=by
 induction l with
 | nil=>rfl
 | cons a r ih=>simp only [qe4,List.flatMap_cons,List.length_append,List.length_cons] at ih ⊢;rw [ih];simp [rtagV];omega
theorem qgh (l m:List RVer):qb0 (l++m)=qb0 l++qb0 m:=by simp [qb0]
theorem ql5 (l m:List RTag):qe4 (l++m)=qe4 l++qe4 m:=by simp [qe4]
def rvRow (v:Value) (l:List RVer):HF:=rowF 193 4 v l.length (qb0 l)
def rvOk (v:Value) (l:List RVer):Prop:=RowOk 4 v l.length (qb0 l)
def rtRow (v:Value) (l:List RTag):HF:=rowF 237 3 v l.length (qe4 l)
def rtOk (v:Value) (l:List RTag):Prop:=RowOk 3 v l.length (qe4 l)
def qbw (R:RefL):Array Value:=#[R.vv,R.tv,.int .i64 R.quota,.bool R.closed]
def refO (R:RefL):Obj:=.cells (qbw R) 60 (0,0)
def refF (R:RefL):HF:=(R.blk,Is (refO R))::(rvRow R.vv R.vs++rtRow R.tv R.ts)
structure RefOk (R:RefL):Prop where
 vs:rvOk R.vv R.vs
 ts:rtOk R.tv R.ts
abbrev Pool:=List (Value×Bs)
def poolF (P:Pool):HF:=P.flatMap fun p=>bRow p.1 p.2
def qki (P:Pool):Prop:=∀ p∈P,bOk p.1 p.2
def RefIn (P:Pool) (R:RefL):Prop:=∀ v∈R.vs,(v.cv,v.cont)∈P
theorem qf2 {P:Pool} (h:qki P) {w:World} (hs:Sat w (poolF P)) {v:Value} {l:Bs} (hm:(v,l)∈P):∃ sl cap,v=.slice sl l.length cap∧l.length≤cap∧qaj w sl (l.map enc8)∧(∀ x,sl=some x→x.block∈dom (poolF P)):=by
 have h1:Sat w (bRow v l):=Sat.flat (f:=fun p:Value×Bs=>bRow p.1 p.2) hs hm
 obtain ⟨a,c,e,-,h3,h4,h5⟩:=qbk (bOwns h1 (h _ hm))
 refine ⟨a,c,e,h3,h4,fun x hx=>?_⟩
 have hb:x.block∈dom (bRow v l):=(qfa _ _ _ _ _ _).2 (h5 x hx)
 obtain ⟨p,hp,hpe⟩:=List.mem_map.1 hb
 exact List.mem_map.2 ⟨p,List.mem_flatMap.2 ⟨_,hm,hp⟩,hpe⟩
theorem qdv {w:World} {e size n:Nat} {v:Value} {xs:List Value} (hs:Sat w (rowF e size v n xs)) (h:RowOk size v n xs):v.oneCell'=true∧v.cells=#[v]∧∃ a cap,v=.slice a n cap∧n≤cap∧cap≤9223372036854775807:=by
 rcases (qbm hs h).2 with ⟨rfl,rfl⟩ | ⟨g,cap,cur,rfl,_,_,h1,h2,_,_⟩
 ·exact ⟨rfl,rfl,none,0,rfl,Nat.le_refl _,by omega⟩
 ·exact ⟨rfl,rfl,_,cap,rfl,h1,by unfold maxLen at h2;omega⟩
theorem qcq {w:World} {e size n:Nat} {v:Value} {xs:List Value} (hs:Sat w (rowF e size v n xs)) (h:RowOk size v n xs) (h0:0<size):∃ a cap,v=.slice a n cap∧n≤cap∧cap≤9223372036854775807∧qaj w a xs∧(∀ x,a=some x→v.ownBlock=some x.block):=by
 obtain ⟨hl,hc⟩:=qbm hs h
 rcases hc with ⟨rfl,rfl⟩ | ⟨g,cap,cur,rfl,_,hg,h1,h2,h3,h4⟩
 ·refine ⟨none,0,rfl,Nat.le_refl _,by omega,fun hp=>?_,fun x hx=>by cases hx⟩
  rw [hl] at hp;simp at hp
 ·refine ⟨_,cap,rfl,h1,by unfold maxLen at h2;omega,fun hp=>⟨g,0,rfl,fun j hj=>?_⟩,fun x hx=>by obtain rfl:=Option.some.inj hx;rfl⟩
  rw [Nat.zero_add]
  refine qac hg j ?_
  rw [← Array.getElem?_toList]
  have e1:(cur.toList.take (n*size))[j]?=cur.toList[j]?:=by rw [List.getElem?_take];rw [if_pos (by omega)]
  rw [← e1,h4]
  exact List.getElem?_eq_getElem hj
theorem q4q:(Tryz.prog.info? 193).map (fun i=>(i.zero,i.size,i.bytes))=some (some (.agg #[str [],.int .i64 0,.slice none 0 0,.int .i64 0]),4,56):=by kernel_rfl
theorem q4m:(Tryz.prog.info? 237).map (fun i=>(i.zero,i.size,i.bytes))=some (some (.agg #[str [],str [],.int .i64 0]),3,40):=by kernel_rfl
theorem q2m {l:List RVer} (h:∀ v∈l,v.cv.oneCell'=true):∀ u∈qb0 l,u.oneCell'=true:=fun u hu=>by
 obtain ⟨v,hv,hx⟩:=List.mem_flatMap.1 hu
 simp only [rverV,List.mem_cons,List.not_mem_nil,or_false] at hx
 rcases hx with rfl | rfl | rfl | rfl
 ·rfl
 ·rfl
 ·exact h v hv
 ·rfl
theorem q19 (l:List RTag):∀ u∈qe4 l,u.oneCell'=true:=fun u hu=>by
 obtain ⟨v,hv,hx⟩:=List.mem_flatMap.1 hu
 simp only [rtagV,List.mem_cons,List.not_mem_nil,or_false] at hx
 rcases hx with rfl | rfl | rfl<;>rfl
theorem qhr {o:Oper} {a:Act} {w a0:World} {K:Act→World→Prop} {Q:Exit→Act→World→Prop} {F G:HF} (s x:Operand) (hop:o.op=.call { callee:=.builtin .append,args:=#[s,x],argTypes:=#[57,57] })
  (v:Value) (l:List RVer) (hs:a.eval s=v) (hT:Turns F (rvRow v l++G) a0 w) (hok:rvOk v l) (sa:Option Addr) (m c:Nat) (hx:a.eval x=.slice sa m c) (r:List RVer) (hm:m=r.length)
  (hc:qaj w sa (qb0 r)) (h1:∀ v∈r,v.cv.oneCell'=true) (hb:l.length+r.length≤1000000)
  (hk:∀ v' w',rvOk v' (l++r)→Turns F (rvRow v' (l++r)++G) a0 w'→K (a.put o.dst v') w'):o.wp Tryz.prog a w K Q:=by
 obtain ⟨i0,hi0,hz1,hz2,hz3⟩:=info_parts q4q
 refine qct s x 57 193 i0 (.agg #[str [],.int .i64 0,.slice none 0 0,.int .i64 0]) 4 56 hop Tryz.underlying57 hi0 hz1 hz2 hz3 rfl (by decide) v l.length (qb0 l) hs hT hok sa m c hx (qb0 r) (by rw [qbx,hm]) (fun hp=>?_) (q2m h1) (by unfold maxLen;omega) (by omega) (fun v' w' k1 k2 _=>hk v' w' (by unfold rvOk;rw [List.length_append,qgh,← hm];exact k1) (by unfold rvRow;rw [List.length_append,qgh,← hm];exact k2))
 obtain ⟨g,off,e,hcc⟩:=hc (by rw [qbx];omega)
 exact ⟨_,e,fun j u hu=>by obtain ⟨hj,rfl⟩:=List.getElem?_eq_some_iff.1 hu;rw [Addr.add_lit];exact hcc j hj⟩
theorem qwd {o:Oper} {a:Act} {w a0:World} {K:Act→World→Prop} {Q:Exit→Act→World→Prop} {F G:HF} (s x:Operand) (hop:o.op=.call { callee:=.builtin .append,args:=#[s,x],argTypes:=#[58,58] })
  (v:Value) (l:List RTag) (hs:a.eval s=v) (hT:Turns F (rtRow v l++G) a0 w) (hok:rtOk v l) (sa:Option Addr) (m c:Nat) (hx:a.eval x=.slice sa m c) (r:List RTag) (hm:m=r.length)
  (hc:qaj w sa (qe4 r)) (hb:l.length+r.length≤1000000)
  (hk:∀ v' w',rtOk v' (l++r)→Turns F (rtRow v' (l++r)++G) a0 w'→K (a.put o.dst v') w'):o.wp Tryz.prog a w K Q:=by
 obtain ⟨i0,hi0,hz1,hz2,hz3⟩:=info_parts q4m
 refine qct s x 58 237 i0 (.agg #[str [],str [],.int .i64 0]) 3 40 hop Tryz.underlying58 hi0 hz1 hz2 hz3 rfl (by decide) v l.length (qe4 l) hs hT hok sa m c hx (qe4 r) (by rw [ql0,hm]) (fun hp=>?_) (q19 _) (by unfold maxLen;omega) (by omega) (fun v' w' k1 k2 _=>hk v' w' (by unfold rtOk;rw [List.length_append,ql5,← hm];exact k1) (by unfold rtRow;rw [List.length_append,ql5,← hm];exact k2))
 obtain ⟨g,off,e,hcc⟩:=hc (by rw [ql0];omega)
 exact ⟨_,e,fun j u hu=>by obtain ⟨hj,rfl⟩:=List.getElem?_eq_some_iff.1 hu;rw [Addr.add_lit];exact hcc j hj⟩
theorem copy2 (F1 Z:HF) (A:World) (cb ab:Nat) (CC CA:Array Value) (sl:Option Addr) (cap:Nat) (l:List RVer) (xv:Value) {Q:Exit→Act→World→Prop} {w:World} {u1 u2 u4 u5 u6 u7 u8 u9 u10 u11 u12 u13 u14 u15 u16 u17 u18 u19 u20 u21 u22 u23 u24 u25 u26 u27 u28 u29 u30 u31 u32 u33 u34:Value} {ds:List Deferred} (hT:Turns F1 ((cb,Is (.cells CC 60 (0,0)))::(ab,Is (.cells CA 60 (0,0)))::(rvRow xv l++Z)) A w) (hcc:CC[0]?=some (.slice none 0 0)) (hca:CA[0]?=some (.slice sl l.length cap)) (hsz:0<CC.size) (hok:rvOk xv l) (hxv:xv=.slice sl l.length cap) (h1:∀ v∈l,v.cv.oneCell'=true) (hl:l.length≤1000000)
  (hk:∀ (y10 y11 y12 y13 y14 y15 y16 y17 y18 y19 y20 y21:Value) (w':World),rvOk y19 l→Turns F1 ((cb,Is (.cells (CC.setIfInBounds 0 y19) 60 (0,0)))::(ab,Is (.cells CA 60 (0,0)))::(rvRow y19 l++(rvRow xv l++Z))) A w'→Q .normal { tmps:=#[.pointer (some ⟨ab,0,none⟩),u1,u2,.pointer (some ⟨cb,0,none⟩),u4,u5,u6,u7,u8,u9,y10,y11,y12,y13,y14,y15,y16,y17,y18,y19,y20,y21,u22,u23,u24,u25,u26,u27,u28,u29,u30,u31,u32,u33,u34],defers:=ds } w') :
  (regOf 2 Tryz.f37).wp Tryz.prog Q { tmps:=#[.pointer (some ⟨ab,0,none⟩),u1,u2,.pointer (some ⟨cb,0,none⟩),u4,u5,u6,u7,u8,u9,u10,u11,u12,u13,u14,u15,u16,u17,u18,u19,u20,u21,u22,u23,u24,u25,u26,u27,u28,u29,u30,u31,u32,u33,u34],defers:=ds } w:=by
 have HM:=Lib.hid (show Tryz.prog.follows .mixedOrders=true by kernel_rfl)
 conv=>arg 2;whnf
 refine qbu (A:=?A) (hA:=?hA) HM.out (phiL [fun v=>v=.pointer (some ⟨cb,0,none⟩),fun v=>v=.pointer (some ⟨cb,0,none⟩),fun v=>v=.pointer (some ⟨cb,0,none⟩),fun v=>v=.pointer (some ⟨cb,0,none⟩),fun v=>v=.slice none 0 0,fun v=>v=.pointer (some ⟨ab,0,none⟩),fun v=>v=.pointer (some ⟨ab,0,none⟩),fun v=>v=.pointer (some ⟨ab,0,none⟩),fun v=>v=.slice sl l.length cap,fun _=>True,fun v=>v=.pointer (some ⟨cb,0,none⟩),fun v=>v=.pointer (some ⟨cb,0,none⟩),fun _=>True])
  (fun vs1 W=>match vs1 with
  | []=>Turns F1 (rvRow (.slice none 0 0) []++((cb,Is (.cells CC 60 (0,0)))::(ab,Is (.cells CA 60 (0,0)))::(rvRow xv l++Z))) A W
  | [u]=>rvOk u l∧Turns F1 (rvRow u l++((cb,Is (.cells CC 60 (0,0)))::(ab,Is (.cells CA 60 (0,0)))::(rvRow xv l++Z))) A W
  | [u,_]=>rvOk u l∧Turns F1 ((cb,Is (.cells (CC.setIfInBounds 0 u) 60 (0,0)))::(ab,Is (.cells CA 60 (0,0)))::(rvRow u l++(rvRow xv l++Z))) A W
  | _=>False)
  (fun W=>W.heap[cb]?=some (.cells CC 60 (0,0))∧W.heap[ab]?=some (.cells CA 60 (0,0))) [9,12] ?hC (by kernel_rfl) (by kernel_rfl) (by kernel_rfl) (by decide) (by decide) ?h0 ?hs ?he
 case hA=>intro x;simp only [qam,Act.put,List.setIfInBounds_toArray,List.set_cons_zero,List.set_cons_succ,Nat.reduceAdd];rfl
 case hs =>
  refine ⟨qab rfl rfl (fun x wq hd hC K hK hKw=>?_),qab rfl rfl (fun x wq hd hC K hK hKw=>?_),qab rfl rfl (fun x wq hd hC K hK hKw=>?_),qab rfl rfl (fun x wq hd hC K hK hKw=>?_),qab rfl rfl (fun x wq hd hC K hK hKw=>?_),qab rfl rfl (fun x wq hd hC K hK hKw=>?_),qab rfl rfl (fun x wq hd hC K hK hKw=>?_),qab rfl rfl (fun x wq hd hC K hK hKw=>?_),qab rfl rfl (fun x wq hd hC K hK hKw=>?_),qap 0 rfl rfl (fun x wq hd hS K hK=>?_),qab rfl rfl (fun x wq hd hC K hK hKw=>?_),qab rfl rfl (fun x wq hd hC K hK hKw=>?_),qap 1 rfl rfl (fun x wq hd hS K hK=>?_),trivial⟩
  ·exact qag (by kernel_rfl) (hK _ rfl)
  ·exact qag (by kernel_rfl) (hK _ rfl)
  ·have h1:x 1=.pointer (some ⟨cb,0,none⟩):=qae hd 1 (by kernel_rfl)
   exact qag (by rw [h1];kernel_rfl) (hK _ rfl)
  ·have h2:x 2=.pointer (some ⟨cb,0,none⟩):=qae hd 2 (by kernel_rfl)
   exact qag (by rw [h2];kernel_rfl) (hK _ rfl)
  ·have h3:x 3=.pointer (some ⟨cb,0,none⟩):=qae hd 3 (by kernel_rfl)
   exact qat Tryz.underlying57 rfl rfl (by rw [h3];rfl) (qac hC.1 0 hcc) (hK _ rfl)
  ·exact qag (by kernel_rfl) (hK _ rfl)
  ·have h5:x 5=.pointer (some ⟨ab,0,none⟩):=qae hd 5 (by kernel_rfl)
   exact qag (by rw [h5];kernel_rfl) (hK _ rfl)
  ·have h6:x 6=.pointer (some ⟨ab,0,none⟩):=qae hd 6 (by kernel_rfl)
   exact qag (by rw [h6];kernel_rfl) (hK _ rfl)
  ·have h7:x 7=.pointer (some ⟨ab,0,none⟩):=qae hd 7 (by kernel_rfl)
   exact qat Tryz.underlying57 rfl rfl (by rw [h7];rfl) (qac hC.2 0 hca) (hK _ rfl)
  ·have h4:x 4=.slice none 0 0:=qae hd 4 (by kernel_rfl)
   have h8:x 8=.slice sl l.length cap:=qae hd 8 (by kernel_rfl)
   have hrow:=hS.sat.sub (G:=rvRow xv l) (fun _=>by simp only [qad,qaa,qah]<;>omega)
   obtain ⟨a',c',e1,_,_,hcells,_⟩:=qcq hrow hok (by decide)
   rw [hxv] at e1
   simp only [Value.slice.injEq] at e1
   obtain ⟨rfl,_,_⟩:=e1
   exact qhr (.tmp 14) (.tmp 18) rfl (.slice none 0 0) [] (by rw [h4];rfl) hS ⟨rfl,fun _=>⟨rfl,rfl⟩⟩ sl l.length cap (by rw [h8];rfl) l rfl hcells h1 (by simpa using hl) (fun v1 w1 k1 k2=>hK _ _ trivial ⟨by simpa using k1,by simpa using k2⟩)
  ·have h0:x 0=.pointer (some ⟨cb,0,none⟩):=qae hd 0 (by kernel_rfl)
   exact qag (by rw [h0];kernel_rfl) (hK _ rfl)
  ·have h10:x 10=.pointer (some ⟨cb,0,none⟩):=qae hd 10 (by kernel_rfl)
   exact qag (by rw [h10];kernel_rfl) (hK _ rfl)
  ·have h11:x 11=.pointer (some ⟨cb,0,none⟩):=qae hd 11 (by kernel_rfl)
   obtain ⟨ho,hT⟩:=hS
   have h1:=qdv hT.sat.left ho
   refine qa0 57 (.tmp 21) (.tmp 19) rfl cb 0 CC 60 (x 9) (hT.to (H:=(cb,Is (.cells CC 60 (0,0)))::((ab,Is (.cells CA 60 (0,0)))::(rvRow (x 9) l++(rvRow xv l++Z)))) (qaf fun _=>by simp only [qad,qaa,qah]<;>omega)) (by rw [h11];rfl) rfl hsz (by kernel_rfl) h1.1 h1.2.1 (fun w9 h9=>hK _ _ trivial ⟨ho,h9⟩)
 case hC =>
  intro vs1 W hlt hS
  match vs1,hS,hlt with
  | [],hT,_=>exact ⟨hT.sat.memIs (by simp),hT.sat.memIs (by simp)⟩
  | [_],⟨_,hT⟩,_=>exact ⟨hT.sat.memIs (by simp),hT.sat.memIs (by simp)⟩
  | [_,_],_,hlt=>exact absurd hlt (Nat.lt_irrefl _)
 case h0 =>
  exact (show Turns F1 (rvRow (.slice none 0 0) []++((cb,Is (.cells CC 60 (0,0)))::(ab,Is (.cells CA 60 (0,0)))::(rvRow xv l++Z))) A w from hT).drew
 case he =>
  intro x w3 hφ hS
  exact hk (x 0) (x 1) (x 2) (x 3) (x 4) (x 5) (x 6) (x 7) (x 8) (x 9) (x 10) (x 11) w3 hS.1 hS.2
theorem copy3 (F1 Z:HF) (A:World) (cb ab:Nat) (CC CA:Array Value) (sl:Option Addr) (cap:Nat) (l:List RTag) (xv:Value) {Q:Exit→Act→World→Prop} {w:World} {u1 u2 u4 u5 u6 u7 u8 u9 u10 u11 u12 u13 u14 u15 u16 u17 u18 u19 u20 u21 u22 u23 u24 u25 u26 u27 u28 u29 u30 u31 u32 u33 u34:Value} {ds:List Deferred} (hT:Turns F1 ((cb,Is (.cells CC 60 (0,0)))::(ab,Is (.cells CA 60 (0,0)))::(rtRow xv l++Z)) A w) (hcc:CC[1]?=some (.slice none 0 0)) (hca:CA[1]?=some (.slice sl l.length cap)) (hsz:1<CC.size) (hok:rtOk xv l) (hxv:xv=.slice sl l.length cap) (hl:l.length≤1000000)
  (hk:∀ (y22 y23 y24 y25 y26 y27 y28 y29 y30 y31 y32 y33:Value) (w':World),rtOk y31 l→Turns F1 ((cb,Is (.cells (CC.setIfInBounds 1 y31) 60 (0,0)))::(ab,Is (.cells CA 60 (0,0)))::(rtRow y31 l++(rtRow xv l++Z))) A w'→Q .normal { tmps:=#[.pointer (some ⟨ab,0,none⟩),u1,u2,.pointer (some ⟨cb,0,none⟩),u4,u5,u6,u7,u8,u9,u10,u11,u12,u13,u14,u15,u16,u17,u18,u19,u20,u21,y22,y23,y24,y25,y26,y27,y28,y29,y30,y31,y32,y33,u34],defers:=ds } w') :
  (regOf 3 Tryz.f37).wp Tryz.prog Q { tmps:=#[.pointer (some ⟨ab,0,none⟩),u1,u2,.pointer (some ⟨cb,0,none⟩),u4,u5,u6,u7,u8,u9,u10,u11,u12,u13,u14,u15,u16,u17,u18,u19,u20,u21,u22,u23,u24,u25,u26,u27,u28,u29,u30,u31,u32,u33,u34],defers:=ds } w:=by
 have HM:=Lib.hid (show Tryz.prog.follows .mixedOrders=true by kernel_rfl)
 conv=>arg 2;whnf
 refine qbu (A:=?A) (hA:=?hA) HM.out (phiL [fun v=>v=.pointer (some ⟨cb,0,none⟩),fun v=>v=.pointer (some ⟨cb,0,none⟩),fun v=>v=.pointer (some ⟨cb,0,none⟩),fun v=>v=.pointer (some ⟨cb,1,none⟩),fun v=>v=.slice none 0 0,fun v=>v=.pointer (some ⟨ab,0,none⟩),fun v=>v=.pointer (some ⟨ab,0,none⟩),fun v=>v=.pointer (some ⟨ab,1,none⟩),fun v=>v=.slice sl l.length cap,fun _=>True,fun v=>v=.pointer (some ⟨cb,0,none⟩),fun v=>v=.pointer (some ⟨cb,1,none⟩),fun _=>True])
  (fun vs1 W=>match vs1 with
  | []=>Turns F1 (rtRow (.slice none 0 0) []++((cb,Is (.cells CC 60 (0,0)))::(ab,Is (.cells CA 60 (0,0)))::(rtRow xv l++Z))) A W
  | [u]=>rtOk u l∧Turns F1 (rtRow u l++((cb,Is (.cells CC 60 (0,0)))::(ab,Is (.cells CA 60 (0,0)))::(rtRow xv l++Z))) A W
  | [u,_]=>rtOk u l∧Turns F1 ((cb,Is (.cells (CC.setIfInBounds 1 u) 60 (0,0)))::(ab,Is (.cells CA 60 (0,0)))::(rtRow u l++(rtRow xv l++Z))) A W
  | _=>False)
  (fun W=>W.heap[cb]?=some (.cells CC 60 (0,0))∧W.heap[ab]?=some (.cells CA 60 (0,0))) [9,12] ?hC (by kernel_rfl) (by kernel_rfl) (by kernel_rfl) (by decide) (by decide) ?h0 ?hs ?he
 case hA=>intro x;simp only [qam,Act.put,List.setIfInBounds_toArray,List.set_cons_zero,List.set_cons_succ,Nat.reduceAdd];rfl
 case hs =>
  refine ⟨qab rfl rfl (fun x wq hd hC K hK hKw=>?_),qab rfl rfl (fun x wq hd hC K hK hKw=>?_),qab rfl rfl (fun x wq hd hC K hK hKw=>?_),qab rfl rfl (fun x wq hd hC K hK hKw=>?_),qab rfl rfl (fun x wq hd hC K hK hKw=>?_),qab rfl rfl (fun x wq hd hC K hK hKw=>?_),qab rfl rfl (fun x wq hd hC K hK hKw=>?_),qab rfl rfl (fun x wq hd hC K hK hKw=>?_),qab rfl rfl (fun x wq hd hC K hK hKw=>?_),qap 0 rfl rfl (fun x wq hd hS K hK=>?_),qab rfl rfl (fun x wq hd hC K hK hKw=>?_),qab rfl rfl (fun x wq hd hC K hK hKw=>?_),qap 1 rfl rfl (fun x wq hd hS K hK=>?_),trivial⟩
  ·exact qag (by kernel_rfl) (hK _ rfl)
  ·exact qag (by kernel_rfl) (hK _ rfl)
  ·have h1:x 1=.pointer (some ⟨cb,0,none⟩):=qae hd 1 (by kernel_rfl)
   exact qag (by rw [h1];kernel_rfl) (hK _ rfl)
  ·have h2:x 2=.pointer (some ⟨cb,0,none⟩):=qae hd 2 (by kernel_rfl)
   exact qag (by rw [h2];kernel_rfl) (hK _ rfl)
  ·have h3:x 3=.pointer (some ⟨cb,1,none⟩):=qae hd 3 (by kernel_rfl)
   exact qat Tryz.underlying58 rfl rfl (by rw [h3];rfl) (qac hC.1 1 hcc) (hK _ rfl)
  ·exact qag (by kernel_rfl) (hK _ rfl)
  ·have h5:x 5=.pointer (some ⟨ab,0,none⟩):=qae hd 5 (by kernel_rfl)
   exact qag (by rw [h5];kernel_rfl) (hK _ rfl)
  ·have h6:x 6=.pointer (some ⟨ab,0,none⟩):=qae hd 6 (by kernel_rfl)
   exact qag (by rw [h6];kernel_rfl) (hK _ rfl)
  ·have h7:x 7=.pointer (some ⟨ab,1,none⟩):=qae hd 7 (by kernel_rfl)
   exact qat Tryz.underlying58 rfl rfl (by rw [h7];rfl) (qac hC.2 1 hca) (hK _ rfl)
  ·have h4:x 4=.slice none 0 0:=qae hd 4 (by kernel_rfl)
   have h8:x 8=.slice sl l.length cap:=qae hd 8 (by kernel_rfl)
   have hrow:=hS.sat.sub (G:=rtRow xv l) (fun _=>by simp only [qad,qaa,qah]<;>omega)
   obtain ⟨a',c',e1,_,_,hcells,_⟩:=qcq hrow hok (by decide)
   rw [hxv] at e1
   simp only [Value.slice.injEq] at e1
   obtain ⟨rfl,_,_⟩:=e1
   exact qwd (.tmp 26) (.tmp 30) rfl (.slice none 0 0) [] (by rw [h4];rfl) hS ⟨rfl,fun _=>⟨rfl,rfl⟩⟩ sl l.length cap (by rw [h8];rfl) l rfl hcells  (by simpa using hl) (fun v1 w1 k1 k2=>hK _ _ trivial ⟨by simpa using k1,by simpa using k2⟩)
  ·have h0:x 0=.pointer (some ⟨cb,0,none⟩):=qae hd 0 (by kernel_rfl)
   exact qag (by rw [h0];kernel_rfl) (hK _ rfl)
  ·have h10:x 10=.pointer (some ⟨cb,0,none⟩):=qae hd 10 (by kernel_rfl)
   exact qag (by rw [h10];kernel_rfl) (hK _ rfl)
  ·have h11:x 11=.pointer (some ⟨cb,1,none⟩):=qae hd 11 (by kernel_rfl)
   obtain ⟨ho,hT⟩:=hS
   have h1:=qdv hT.sat.left ho
   refine qa0 58 (.tmp 33) (.tmp 31) rfl cb 1 CC 60 (x 9) (hT.to (H:=(cb,Is (.cells CC 60 (0,0)))::((ab,Is (.cells CA 60 (0,0)))::(rtRow (x 9) l++(rtRow xv l++Z)))) (qaf fun _=>by simp only [qad,qaa,qah]<;>omega)) (by rw [h11];rfl) rfl hsz (by kernel_rfl) h1.1 h1.2.1 (fun w9 h9=>hK _ _ trivial ⟨ho,h9⟩)
 case hC =>
  intro vs1 W hlt hS
  match vs1,hS,hlt with
  | [],hT,_=>exact ⟨hT.sat.memIs (by simp),hT.sat.memIs (by simp)⟩
  | [_],⟨_,hT⟩,_=>exact ⟨hT.sat.memIs (by simp),hT.sat.memIs (by simp)⟩
  | [_,_],_,hlt=>exact absurd hlt (Nat.lt_irrefl _)
 case h0 =>
  exact (show Turns F1 (rtRow (.slice none 0 0) []++((cb,Is (.cells CC 60 (0,0)))::(ab,Is (.cells CA 60 (0,0)))::(rtRow xv l++Z))) A w from hT).drew
 case he =>
  intro x w3 hφ hS
  exact hk (x 0) (x 1) (x 2) (x 3) (x 4) (x 5) (x 6) (x 7) (x 8) (x 9) (x 10) (x 11) w3 hS.1 hS.2
def qwh (R:RefL) (w:World) (e:Ending) (w':World):Prop :=
 ∃ b' vv' tv',e=.returned (.pointer (some ⟨b',0,none⟩))∧RefOk { R with blk:=b',vv:=vv',tv:=tv',closed:=false }∧Turns (refF R) (refF { R with blk:=b',vv:=vv',tv:=tv',closed:=false }++refF R) w w'
theorem qss (R:RefL) (w:World) (h:Sat w (refF R)) (hok:RefOk R) (h1:∀ v∈R.vs,v.cv.oneCell'=true) (hl:R.vs.length≤1000000∧R.ts.length≤1000000) :
  Calls Tryz.prog 37 #[.pointer (some ⟨R.blk,0,none⟩)] w (qwh R w):=by
 obtain ⟨-,-,sl,cap,e1,-,-⟩:=qdv h.tail.left hok.vs
 obtain ⟨-,-,tl,tcap,e2,-,-⟩:=qdv h.tail.right hok.ts
 have c2:w.cell? ⟨R.blk,2,none⟩=some (.int .i64 R.quota):=qac h.headIs 2 rfl
 have hbl:=qal h.headIs
 have HH:=Lib.hid (And.intro h (And.intro hok (And.intro h1 (And.intro hl (And.intro e1 e2)))))
 clear h hok h1 hl e1 e2
 go_enter Tryz.func37,Tryz.ntmps37
 go_wp2_with fail
 obtain ⟨cb,hcb⟩:∃ cb,cb=w.heap.size:=⟨_,rfl⟩
 rw [← hcb]
 refine copy2 (refF R) (rtRow R.tv R.ts) w cb R.blk #[.slice none 0 0,.slice none 0 0,.int .i64 R.quota,.bool false] (qbw R) sl cap R.vs R.vv ?_ rfl ?_ (by simp) HH.out.2.1.vs HH.out.2.2.2.2.1 HH.out.2.2.1 HH.out.2.2.2.1.1 ?_
 ·rw [hcb]
  exact ((Turns.refl HH.out.1).allocIs _).to (by unfold refF refO;exact (qaf fun _=>by simp only [qad,qaa,qah]<;>omega))
 ·rw [← HH.out.2.2.2.2.1];rfl
 intro _ _ _ _ _ _ _ _ _ vv2 _ _ w2 hv2 hT2
 have HT2:=Lib.hid (And.intro hv2 hT2)
 clear hv2 hT2
 go_wp2_with fail
 refine copy3 (refF R) (rvRow vv2 R.vs++rvRow R.vv R.vs) w cb R.blk (#[.slice none 0 0,.slice none 0 0,.int .i64 R.quota,.bool false].setIfInBounds 0 vv2) (qbw R) tl tcap R.ts R.tv ?_ rfl ?_ (by simp) HH.out.2.1.ts HH.out.2.2.2.2.2 HH.out.2.2.2.1.2 ?_
 ·exact HT2.out.2.to (qaf fun _=>by simp only [qad,qaa,qah]<;>omega)
 ·rw [← HH.out.2.2.2.2.2];rfl
 intro _ _ _ _ _ _ _ _ _ tv3 _ _ w3 hv3 hT3
 have HT3:=Lib.hid (And.intro hv3 hT3)
 clear hv3 hT3
 go_wp2_with fail
 refine bodyPost_ret (results_tmp rfl _ _ _) rfl ⟨cb,vv2,tv3,rfl,⟨HT2.out.1,HT3.out.1⟩,?_⟩
 have hT4:=HT3.out.2
 have e4:((#[.slice none 0 0,.slice none 0 0,.int .i64 R.quota,.bool false]:Array Value).setIfInBounds 0 vv2).setIfInBounds 1 tv3=qbw { R with blk:=cb,vv:=vv2,tv:=tv3,closed:=false }:=rfl
 rw [e4] at hT4
 exact hT4.to (by unfold refF refO;exact (qaf fun _=>by simp only [qad,qaa,qah]<;>omega))
end Go.Proofs.YtdhobpbngkainaaGreatDoor
namespace Go.Proofs.YtdhobpbngkainaaGreatDoor
open Go.RowKit
inductive RecR where
 | ver (p:Bs) (num size:Nat) (ats:List Int)
 | gone (p:Bs) (ns:List Int)
 | pin (k:UInt8) (p name:Bs) (num:Nat)
def recV:RecR→Value→Value
 | .ver p n s _,v=>.iface 173 (.agg #[.int .u8 2,str p,.int .i64 n,.int .i64 s,v])
 | .gone p _,v=>.iface 286 (.agg #[.int .u8 3,str p,v])
 | .pin k p m n,_=>.iface 233 (.agg #[.int .u8 k.toNat,str p,str m,.int .i64 n])
def recNs:RecR→List Int
 | .ver _ _ _ a=>a
 | .gone _ a=>a
 | .pin _ _ _ _=>[]
def rN (s:Bs×Bool) (n:Nat):Bs×Bool:=(qdb s.1 s.2 n,rdBad s.1 s.2 n)
def rT (s:Bs×Bool):Bs×Bool:=(qlr s.1 s.2,qq1 s.1 s.2)
def readR (k:UInt8) (body:Bs):Option RecR :=
 let p:=qg7 body false
 let s1:=rT (body,false)
 if k=2 then
  let s2:=rN s1 4
  let s3:=rN s2 2
  if s3.2=false∧s3.1.length%4=0 then some (.ver p (rdNum s1.1 s1.2 4) (rdNum s2.1 s2.2 2) (nums4 s3.1)) else none
 else if k=3 then
  if s1.2=false∧s1.1.length%4=0 then some (.gone p (nums4 s1.1)) else none
 else if k=4∨k=5 then
  let s2:=rT s1
  let s3:=rN s2 4
  if s3.2=false∧s3.1=[] then some (.pin k p (qg7 s1.1 s1.2) (rdNum s2.1 s2.2 4)) else none
 else none
def RdT (A:World) (G:HF) (rb:Nat) (s:Bs×Bool) (W:World):Prop:=Turns [] (G++rbF rb) A W∧Rd W rb s.1 s.2
theorem RdT.to {A W:World} {G H:HF} {rb:Nat} {s:Bs×Bool} (h:RdT A G rb s W) (hp:G.Perm H):RdT A H rb s W:=⟨h.1.to (hp.append_right _),h.2⟩
theorem RdT.is {A W:World} {G:HF} {rb:Nat} {s:Bs×Bool} (h:RdT A G rb s W):∃ o,Turns [] (G++[(rb,Is o)]) A W∧W.heap[rb]?=some o:=by
 obtain ⟨a,c,h1,-⟩:=h.2
 exact ⟨_,rd_is (Mods.refl _ W) h.1 h1,h1⟩
theorem RdT.on {A W W':World} {G G':HF} {rb:Nat} {s:Bs×Bool} {o:Obj} (h:RdT A G rb s W) (hrb:rb=A.heap.size) (ho:W.heap[rb]?=some o) (hT:Turns [] (G'++[(rb,Is o)]) A W'):RdT A G' rb s W':=by
 refine ⟨qum hT,?_⟩
 have ho':=hT.sat.memIs (b:=rb) (o:=o) (by simp)
 obtain ⟨a,cap,e1,e2,e3,e4⟩:=h.2
 refine ⟨a,cap,?_,e2,fun hp=>?_,e4⟩
 ·unfold RdAt at e1 ⊢;rw [ho',← ho];exact e1
 ·obtain ⟨g,off,ha,hc⟩:=e3 hp
  have hg:g<rb:=e4 _ ha
  refine ⟨g,off,ha,fun j hj=>?_⟩
  rw [← hc j hj]
  exact World.cell?_of_block ((hT.mods.block g (by omega) (by simp)).trans (h.1.mods.block g (by omega) (by simp)).symm)
theorem RdT.alloc {A W:World} {G:HF} {rb:Nat} {s:Bs×Bool} (h:RdT A G rb s W) (hrb:rb=A.heap.size) (o:Obj):RdT A ((W.heap.size,Is o)::G) rb s (W.alloc o):=by
 obtain ⟨o',h1,h2⟩:=h.is
 exact h.on hrb h2 ((h1.allocIs o).to (qaf fun _=>by simp only [qad,qaa,qah]<;>omega))
theorem RdT.drew {A W:World} {G:HF} {rb:Nat} {s:Bs×Bool} (h:RdT A G rb s W) (hrb:rb=A.heap.size):RdT A G rb s W.drew:=by
 obtain ⟨o',h1,h2⟩:=h.is
 exact h.on hrb h2 h1.drew
theorem RdT.call {A W W':World} {G:HF} {rb:Nat} {s s':Bs×Bool} (h:RdT A G rb s W) (hm:Mods (fun k=>k=rb) W W') (hR:Rd W' rb s'.1 s'.2):RdT A G rb s' W':=by
 obtain ⟨a,c,h1,-⟩:=id hR
 exact ⟨qum (rd_is hm h.1 h1),hR⟩
theorem RdT.nums {A W W':World} {G H:HF} {rb:Nat} {s s':Bs×Bool} (h:RdT A G rb s W) (hT:Turns (rbF rb) (H++rbF rb) W W') (hR:Rd W' rb s'.1 s'.2):RdT A (H++G) rb s' W' :=
 ⟨(h.1.step (R:=G) (by unfold rbF;exact List.perm_append_comm) hT).to (by unfold rbF;exact (qaf fun _=>by simp only [qad,qaa,qah]<;>omega)),hR⟩
def headO (k:UInt8) (p:Bs):Obj:=.cells #[.int .u8 k.toNat,str p] 170 (0,0)
def verO0:Obj:=.cells #[.int .u8 0,.string ⟨#[]⟩,.int .i64 0,.int .i64 0,.slice none 0 0] 173 (0,0)
def verO1 (p:Bs) (n m:Nat) (v:Value):Obj:=.cells #[.int .u8 2,str p,.int .i64 n,.int .i64 m,v] 173 (0,0)
def zF (o:Option Value):HF:=match o with | some (.pointer (some a))=>[(a.block,Is verO0)] | _=>[]
def selS (o2 o4:Option Value) (s1 s2 s3:Bs×Bool):Bs×Bool:=match o4 with | some _=>s3 | none=>match o2 with | some _=>s2 | none=>s1
structure Rd6 (A:World) (hb:Nat) (p:Bs) (rb:Nat) (s1 s2 s3:Bs×Bool) (n m:Nat) (s:Nat→Option Value) (W:World):Prop where
 o4:s 4≠none→s 2≠none
 o7:s 7≠none→s 4≠none∧s 6≠none
 o6:∀ v,s 6=some v→∃ c:Nat,v=.pointer (some ⟨c,0,none⟩)
 st:s 7=none→RdT A (zF (s 6)++[(hb,Is (headO 2 p))]) rb (selS (s 2) (s 4) s1 s2 s3) W
 dn:s 7≠none→∃ c:Nat,s 6=some (.pointer (some ⟨c,0,none⟩))∧RdT A [(c,Is (verO1 p n m (.slice none 0 0))),(hb,Is (headO 2 p))] rb s3 W
theorem Rd6.head {A:World} {hb:Nat} {p:Bs} {rb:Nat} {s1 s2 s3:Bs×Bool} {n m:Nat} {s:Nat→Option Value} {W:World} (h:Rd6 A hb p rb s1 s2 s3 n m s W):W.heap[hb]?=some (headO 2 p):=by
 cases h7:s 7 with
 | none=>exact (h.st h7).1.sat.memIs (by simp)
 | some v=>obtain ⟨c,-,h1⟩:=h.dn (by rw [h7];simp);exact h1.1.sat.memIs (by simp)
theorem qkm {rb:Nat} {s:Bs×Bool} {n:Nat} {w w':World} {e:Ending} (h:qf1 rb s.1 s.2 n w e w'):e=.returned (.int .i64 (rdNum s.1 s.2 n))∧Rd w' rb (rN s n).1 (rN s n).2∧Mods (fun k=>k=rb) w w':=⟨h.1,h.2.1,h.2.2.1⟩
theorem read6 (A:World) (hb:Nat) (p:Bs) (rb:Nat) (s1:Bs×Bool) (hrb:rb=A.heap.size) {Q:Exit→Act→World→Prop} {w:World} {u1 u2 u3 u4 u7 u8 u9 u10 u11 u12 u13 u14 u15 u16 u17 u18 u19 u20 u21 u22 u23 u24 u25 u26 u27 u28 u29 u30 u31 u32 u33 u34 u35 u36 u37 u38 u39 u40 u41 u42 u43 u44 u45 u46 u47 u48 u49 u50 u51 u52 u53 u54 u55 u56 u57 u58 u59:Value} {ds:List Deferred} (hT:RdT A [(hb,Is (headO 2 p))] rb s1 w) (hl:s1.1.length≤70000)
  (hk:∀ (c:Nat) (y19 y20 y21 y22 y23 y24:Value) (w':World),RdT A [(c,Is (verO1 p (rdNum s1.1 s1.2 4) (rdNum (rN s1 4).1 (rN s1 4).2 2) (.slice none 0 0))),(hb,Is (headO 2 p))] rb (rN (rN s1 4) 2) w'→Q .normal { tmps:=#[.int .u8 2,u1,u2,u3,u4,.pointer (some ⟨rb,0,none⟩),.pointer (some ⟨hb,0,none⟩),u7,.pointer (some ⟨c,0,none⟩),u9,u10,u11,u12,u13,u14,u15,u16,u17,u18,y19,y20,y21,y22,y23,y24,u25,u26,u27,u28,u29,u30,u31,u32,u33,u34,u35,u36,u37,u38,u39,u40,u41,u42,u43,u44,u45,u46,u47,u48,u49,u50,u51,u52,u53,u54,u55,u56,u57,u58,u59],defers:=ds } w') :
  (regOf 6 Tryz.f101).wp Tryz.prog Q { tmps:=#[.int .u8 2,u1,u2,u3,u4,.pointer (some ⟨rb,0,none⟩),.pointer (some ⟨hb,0,none⟩),u7,u8,u9,u10,u11,u12,u13,u14,u15,u16,u17,u18,u19,u20,u21,u22,u23,u24,u25,u26,u27,u28,u29,u30,u31,u32,u33,u34,u35,u36,u37,u38,u39,u40,u41,u42,u43,u44,u45,u46,u47,u48,u49,u50,u51,u52,u53,u54,u55,u56,u57,u58,u59],defers:=ds } w:=by
 have HM:=Lib.hid (show Tryz.prog.follows .mixedOrders=true by kernel_rfl)
 have hl2:(rN s1 4).1.length≤70000:=Nat.le_trans (qea _ _ _) hl
 obtain ⟨s2,hs2⟩:∃ s2,s2=rN s1 4:=⟨_,rfl⟩
 obtain ⟨s3,hs3⟩:∃ s3,s3=rN s2 2:=⟨_,rfl⟩
 obtain ⟨n,hn⟩:∃ n,n=rdNum s1.1 s1.2 4:=⟨_,rfl⟩
 obtain ⟨m,hm⟩:∃ m,m=rdNum s2.1 s2.2 2:=⟨_,rfl⟩
 rw [← hs2] at hk hl2
 rw [← hs3,← hn,← hm] at hk
 conv=>arg 2;whnf
 refine qpx (A:=?A) (hA:=?hA) HM.out (phiL [fun v=>v=.agg #[.int .u8 2,str p],fun v=>v=.pointer (some ⟨rb,0,none⟩),fun v=>v=.int .i64 n,fun v=>v=.pointer (some ⟨rb,0,none⟩),fun v=>v=.int .i64 m,fun v=>v=.agg #[.int .u8 2,str p,.int .i64 n,.int .i64 m,.slice none 0 0],fun v=>∃ c:Nat,v=.pointer (some ⟨c,0,none⟩),fun _=>True]) (Rd6 A hb p rb s1 s2 s3 n m) [2,4,6,7] (by kernel_rfl) ?h0 ?hs ?he
 case hA=>intro x;simp only [qam,Act.put,List.setIfInBounds_toArray,List.set_cons_zero,List.set_cons_succ,Nat.reduceAdd];rfl
 case h0=>exact ⟨fun h=>absurd rfl h,fun h=>absurd rfl h,(fun v h=>by cases h),fun _=>hT.drew hrb,fun h=>absurd rfl h⟩
 case hs =>
  refine ⟨qie (by decide) rfl (fun x s wq hd hJ K hK=>?_),qie (by decide) rfl (fun x s wq hd hJ K hK=>?_),qil (by decide) rfl (fun x s wq hd hsx hsi hJ K hK=>?_),qie (by decide) rfl (fun x s wq hd hJ K hK=>?_),qil (by decide) rfl (fun x s wq hd hsx hsi hJ K hK=>?_),qie (by decide) rfl (fun x s wq hd hJ K hK=>?_),qil (by decide) rfl (fun x s wq hd hsx hsi hJ K hK=>?_),qil (by decide) rfl (fun x s wq hd hsx hsi hJ K hK=>?_),trivial⟩
  ·exact wp_load_mid 170 (.tmp 6) rfl hb 0 rfl [.int .u8 2,str p] _ (fun j v hv=>qac hJ.head (0+j) (by rw [Nat.zero_add,← Array.getElem?_toList];exact hv)) Tryz.underlying170 rfl (by kernel_rfl) (hK _ rfl)
  ·exact qag (by kernel_rfl) (hK _ rfl)
  ·have h1:x 1=.pointer (some ⟨rb,0,none⟩):=qae hd 1 (by kernel_rfl)
   have h4n:s 4=none:=by
    cases h4:s 4 with
    | none=>rfl
    | some v=>exact absurd hsi (hJ.o4 (by rw [h4];simp))
   have h7n:s 7=none:=by
    cases h7:s 7 with
    | none=>rfl
    | some v=>exact absurd h4n (hJ.o7 (by rw [h7];simp)).1
   have hst:=hJ.st h7n
   rw [hsi,h4n] at hst
   refine qbe (by rw [h1];kernel_rfl) (qc9 rb s1.1 s1.2 4 wq hst.2 (by omega) (by omega)) ?_
   intro e w3 hp
   obtain ⟨rfl,hR,hM⟩:=qkm hp
   refine ⟨_,rfl,hK _ _ (by rw [hn];rfl) ⟨fun h=>by rw [qel];simp,fun h=>?_,fun v hv=>hJ.o6 v (by rw [← hv,qbb (by decide)]),fun h=>?_,fun h=>?_⟩⟩
   ·rw [qbb (by decide)] at h;exact absurd h7n h
   ·rw [qbb (i:=2) (k:=6) (by decide),qbb (i:=2) (k:=4) (by decide),h4n,qel,hs2]
    exact hst.call hM hR
   ·rw [qbb (by decide)] at h;exact absurd h7n h
  ·exact qag (by kernel_rfl) (hK _ rfl)
  ·have h3:x 3=.pointer (some ⟨rb,0,none⟩):=qae hd 3 (by kernel_rfl)
   have h2s:=qgq hsx 2 (by kernel_rfl) (by decide)
   have h7n:s 7=none:=by
    cases h7:s 7 with
    | none=>rfl
    | some v=>exact absurd hsi (hJ.o7 (by rw [h7];simp)).1
   have hst:=hJ.st h7n
   rw [hsi,h2s] at hst
   refine qbe (by rw [h3];kernel_rfl) (qc9 rb s2.1 s2.2 2 wq hst.2 (by omega) (by omega)) ?_
   intro e w3 hp
   obtain ⟨rfl,hR,hM⟩:=qkm hp
   refine ⟨_,rfl,hK _ _ (by rw [hm];rfl) ⟨fun h=>by rw [qbb (by decide),h2s];simp,fun h=>?_,fun v hv=>hJ.o6 v (by rw [← hv,qbb (by decide)]),fun h=>?_,fun h=>?_⟩⟩
   ·rw [qbb (by decide)] at h;exact absurd h7n h
   ·rw [qbb (i:=4) (k:=6) (by decide),qel,hs3]
    exact hst.call hM hR
   ·rw [qbb (by decide)] at h;exact absurd h7n h
  ·have h0:x 0=.agg #[.int .u8 2,str p]:=qae hd 0 (by kernel_rfl)
   have h2:x 2=.int .i64 n:=qae hd 2 (by kernel_rfl)
   have h4:x 4=.int .i64 m:=qae hd 4 (by kernel_rfl)
   exact qag (by rw [h0,h2,h4];kernel_rfl) (hK _ rfl)
  ·have h7n:s 7=none:=by
    cases h7:s 7 with
    | none=>rfl
    | some v=>exact absurd hsi (hJ.o7 (by rw [h7];simp)).2
   have hst:=hJ.st h7n
   rw [hsi] at hst
   refine qag (v:=.pointer (some ⟨wq.heap.size,0,none⟩)) (w':=wq.alloc verO0) (by kernel_rfl) (hK _ _ ⟨_,rfl⟩ ⟨fun h=>?_,fun h=>?_,fun v hv=>?_,fun h=>?_,fun h=>?_⟩)
   ·rw [qbb (by decide)] at h ⊢;exact hJ.o4 h
   ·rw [qbb (by decide)] at h;exact absurd h7n h
   ·rw [qel] at hv;exact ⟨_,(Option.some.inj hv).symm⟩
   ·rw [qel,qbb (i:=6) (k:=2) (by decide),qbb (i:=6) (k:=4) (by decide)]
    exact hst.alloc hrb verO0
   ·rw [qbb (by decide)] at h;exact absurd h7n h
  ·obtain ⟨c,h6⟩:∃ c:Nat,x 6=.pointer (some ⟨c,0,none⟩):=qae hd 6 (by kernel_rfl)
   have h5:x 5=.agg #[.int .u8 2,str p,.int .i64 n,.int .i64 m,.slice none 0 0]:=qae hd 5 (by kernel_rfl)
   have h6s:=qgq hsx 6 (by kernel_rfl) (by decide)
   have h4s:=qgq hsx 4 (by kernel_rfl) (by decide)
   have hst:=hJ.st hsi
   rw [h6s,h4s,h6] at hst
   change RdT A ([(c,Is verO0)]++[(hb,Is (headO 2 p))]) rb s3 wq at hst
   obtain ⟨o',h8,h9⟩:=hst.is
   refine q4u 173 (.tmp 8) (.tmp 24) rfl c #[.int .u8 0,.string ⟨#[]⟩,.int .i64 0,.int .i64 0,.slice none 0 0] #[.int .u8 2,str p,.int .i64 n,.int .i64 m,.slice none 0 0] 173 (h8.to (H:=(c,Is (.cells #[.int .u8 0,.string ⟨#[]⟩,.int .i64 0,.int .i64 0,.slice none 0 0] 173 (0,0)))::[(hb,Is (headO 2 p)),(rb,Is o')]) (by unfold verO0;exact (qaf fun _=>by simp only [qad,qaa,qah]<;>omega))) (by rw [h6];rfl) (by rw [h5];rfl) rfl (by kernel_rfl) (by simp [Value.oneCell',str]) ?_
   intro w3 h10
   have h11:=hst.on hrb h9 (G':=[(c,Is (verO1 p n m (.slice none 0 0))),(hb,Is (headO 2 p))]) (h10.to (by unfold verO1;exact (qaf fun _=>by simp only [qad,qaa,qah]<;>omega)))
   refine hK _ _ trivial ⟨fun h=>?_,fun h=>?_,fun v hv=>?_,fun h=>?_,fun h=>?_⟩
   ·rw [qbb (by decide)] at h ⊢;exact hJ.o4 h
   ·rw [qbb (by decide),qbb (by decide),h4s,h6s];simp
   ·rw [qbb (by decide)] at hv;exact hJ.o6 v hv
   ·rw [qel] at h;cases h
   ·rw [qbb (by decide),h6s,h6];exact ⟨c,rfl,h11⟩
 case he =>
  intro x w3 hφ hS
  obtain ⟨c,hc,hT3⟩:=hS.dn (by simp)
  have hc:x 6=.pointer (some ⟨c,0,none⟩):=by simpa using hc
  simp only [hc]
  exact hk c (x 0) (x 1) (x 2) (x 3) (x 4) (x 5) w3 hT3
theorem qnk (body:Bs):readR 2 body=if (rN (rN (rT (body,false)) 4) 2).2=false∧(rN (rN (rT (body,false)) 4) 2).1.length%4=0 then some (.ver (qg7 body false) (rdNum (rT (body,false)).1 (rT (body,false)).2 4) (rdNum (rN (rT (body,false)) 4).1 (rN (rT (body,false)) 4).2 2) (nums4 (rN (rN (rT (body,false)) 4) 2).1)) else none:=by
 unfold readR
 rw [if_pos rfl]
def qe8 (k:UInt8) (body:Bs) (w:World) (e:Ending) (w':World):Prop :=
 match readR k body with
 | none=>e=.returned .nilIface∧Same w w'
 | some r=>∃ v,e=.returned (recV r v)∧iOk v (recNs r)∧Turns [] (iRow v (recNs r)) w w'
theorem qw2 (a:Option Addr) (cap:Nat) (body:Bs) (w:World) (h:qaj w a (body.map enc8)) (hcap:body.length≤cap) (ha:∀ x,a=some x→x.block<w.heap.size) (hl:body.length≤70000) :
  Calls Tryz.prog 101 #[.int .u8 2,.slice a body.length cap] w (qe8 2 body w):=by
 obtain ⟨rb,hrb⟩:∃ rb,rb=w.heap.size:=⟨_,rfl⟩
 have hR0:RdT w [] rb (body,false) (w.alloc (.cells #[.slice a body.length cap,.bool false] 282)):=by
  refine ⟨?_,a,cap,?_,hcap,h.keep ((Mods.refl (fun _=>False) w).alloc _) (fun _ _ _=>id),fun x hx=>hrb ▸ ha x hx⟩
  ·rw [hrb];exact (Turns.refl (Sat.nil w)).allocIn (φ:=fun _=>True) trivial
  ·unfold RdAt;rw [hrb];exact qa7 w _
 have HT:=Lib.hid (qw3 rb body false _ hR0.2 (by omega))
 have H0:=Lib.hid (And.intro hR0 hrb)
 rw [hrb] at HT
 clear h ha hcap hR0
 go_enter Tryz.func101,Tryz.ntmps101
 go_wp2_with fail
 refine HT.out.mono ?_
 rintro e w2 ⟨rfl,hR2,hm2⟩
 rw [← hrb] at hR2 hm2 ⊢
 have hR3:RdT w [] rb (rT (body,false)) w2:=H0.out.1.call hm2 hR2
 obtain ⟨p,hp⟩:∃ p,p=qg7 body false:=⟨_,rfl⟩
 obtain ⟨s1,hs1⟩:∃ s1,s1=rT (body,false):=⟨_,rfl⟩
 have hl1:s1.1.length≤70000:=by rw [hs1];exact Nat.le_trans (qna _ _) hl
 rw [← hs1] at hR3
 rw [← hp]
 have H2:=Lib.hid (And.intro hR3 (And.intro hp hs1))
 clear hR2 hm2 hR3 hp hs1 hrb
 go_upto_region 6 with (fail)
 obtain ⟨hb,hhb⟩:∃ hb,hb=w2.heap.size:=⟨_,rfl⟩
 rw [← hhb]
 refine read6 w hb p rb s1 H0.out.2 ?_ hl1 ?_
 ·rw [hhb];exact H2.out.1.alloc H0.out.2 (headO 2 p)
 intro c _ _ _ _ _ _ w3 hT3
 obtain ⟨n,hn⟩:∃ n,n=rdNum s1.1 s1.2 4:=⟨_,rfl⟩
 obtain ⟨m,hm⟩:∃ m,m=rdNum (rN s1 4).1 (rN s1 4).2 2:=⟨_,rfl⟩
 obtain ⟨s3,hs3⟩:∃ s3,s3=rN (rN s1 4) 2:=⟨_,rfl⟩
 rw [← hn,← hm,← hs3] at hT3
 have hl3:s3.1.length≤70000:=by rw [hs3];exact Nat.le_trans (Nat.le_trans (qea _ _ _) (qea _ _ _)) hl1
 have HN:=Lib.hid (qs2 rb s3.1 s3.2 w3 hT3.2 hl3)
 have H3:=Lib.hid (And.intro hT3 (And.intro hn (And.intro hm hs3)))
 have hcl:c<w3.heap.size:=hT3.1.sat.lt (by simp)
 clear hT3 hn hm hs3 hhb
 go_wp2_with fail
 refine HN.out.mono ?_
 rintro e w4 ⟨v,ns,l',b',rfl,hio,hT4,hR4,hres⟩
 have hT5:RdT w (iRow v ns++[(c,Is (verO1 p n m (.slice none 0 0))),(hb,Is (headO 2 p))]) rb (l',b') w4:=RdT.nums (s':=(l',b')) H3.out.1 hT4 hR4
 obtain ⟨o',h8,h9⟩:=hT5.is
 have hcl4:c<w4.heap.size:=hT5.1.sat.lt (by simp)
 have hv1:=qdv hT5.1.sat.left.left hio
 have H5:=Lib.hid (And.intro hT5 (And.intro hio (And.intro trivial (And.intro h8 (And.intro h9 hv1)))))
 clear hT4 hR4 hio hT5 h8 h9 hv1
 rcases hres with ⟨hb',hs2,hl4,hl',hns⟩ | ⟨hb',hbad,-⟩
 ·subst hb';subst hl'
  have HX:=Lib.hid (And.intro hs2 (And.intro hl4 hns))
  clear hs2 hl4 hns
  go_wp2_with (first | (refine qak rfl (qa0 171 (.tmp 27) (.tmp 26) rfl c 4 #[.int .u8 2,str p,.int .i64 n,.int .i64 m,.slice none 0 0] 173 v (H5.out.2.2.2.1.to (H:=(c,Is (.cells #[.int .u8 2,str p,.int .i64 n,.int .i64 m,.slice none 0 0] 173 (0,0)))::(iRow v ns++[(hb,Is (headO 2 p)),(rb,Is o')])) (by unfold verO1;exact (qaf fun _=>by simp only [qad,qaa,qah]<;>omega))) rfl rfl (by simp) (by kernel_rfl) H5.out.2.2.2.2.2.1 H5.out.2.2.2.2.2.2.1 ?_);intro w5 hT6;have hR6:=RdT.on H5.out.1 H0.out.2 H5.out.2.2.2.2.1 (G':=(c,Is (verO1 p n m v))::(iRow v ns++[(hb,Is (headO 2 p))])) ((show Turns [] ((c,Is (verO1 p n m v))::(iRow v ns++[(hb,Is (headO 2 p)),(rb,Is o')])) w w5 from hT6).to (qaf fun _=>by simp only [qad,qaa,qah]<;>omega));have hb6:=hR6.1.sat.headIs;have d0:=qac (v:=.int .u8 2) hb6 0 rfl;have d1:=qac (v:=str p) hb6 1 rfl;have d2:=qac (v:=.int .i64 n) hb6 2 rfl;have d3:=qac (v:=.int .i64 m) hb6 3 rfl;have d4:=qac (v:=v) hb6 4 rfl;have hcl6:=qal hb6;obtain ⟨ra,rc,hra,-,-,-⟩:=id hR6.2;have f0:=qac hra 0 rfl;have f1:=qac hra 1 rfl;have hrl6:=qal hra;have H6:=Lib.hid hR6;clear hT6 hR6 hb6 hra;simp only [Act.put]) | fail)
  have hrd:readR 2 body=some (.ver p n m ns):=by
   rw [qnk,← H2.out.2.2,← H2.out.2.1,← H3.out.2.1,← H3.out.2.2.1,← H3.out.2.2.2,if_pos ⟨HX.out.1,HX.out.2.1⟩,HX.out.2.2]
  have hfin:qe8 2 body w (.returned (.iface 173 (.agg #[.int .u8 2,str p,.int .i64 n,.int .i64 m,v]))) w5:=by
   unfold qe8
   rw [hrd]
   exact ⟨v,rfl,H5.out.2.1,H6.out.1.drop (fun x=>by show cnt x (iRow v ns)≤_;simp only [qad,qaa];omega)⟩
  exact bodyPost_ret (results_tmp rfl _ _ _) rfl (by exact hfin)
 ·subst hb'
  have HX:=Lib.hid hbad
  clear hbad
  go_wp2_with (first | (refine qak rfl (qa0 171 (.tmp 27) (.tmp 26) rfl c 4 #[.int .u8 2,str p,.int .i64 n,.int .i64 m,.slice none 0 0] 173 v (H5.out.2.2.2.1.to (H:=(c,Is (.cells #[.int .u8 2,str p,.int .i64 n,.int .i64 m,.slice none 0 0] 173 (0,0)))::(iRow v ns++[(hb,Is (headO 2 p)),(rb,Is o')])) (by unfold verO1;exact (qaf fun _=>by simp only [qad,qaa,qah]<;>omega))) rfl rfl (by simp) (by kernel_rfl) H5.out.2.2.2.2.2.1 H5.out.2.2.2.2.2.2.1 ?_);intro w5 hT6;have hR6:=RdT.on H5.out.1 H0.out.2 H5.out.2.2.2.2.1 (G':=(c,Is (verO1 p n m v))::(iRow v ns++[(hb,Is (headO 2 p))])) ((show Turns [] ((c,Is (verO1 p n m v))::(iRow v ns++[(hb,Is (headO 2 p)),(rb,Is o')])) w w5 from hT6).to (qaf fun _=>by simp only [qad,qaa,qah]<;>omega));have hb6:=hR6.1.sat.headIs;have d0:=qac (v:=.int .u8 2) hb6 0 rfl;have d1:=qac (v:=str p) hb6 1 rfl;have d2:=qac (v:=.int .i64 n) hb6 2 rfl;have d3:=qac (v:=.int .i64 m) hb6 3 rfl;have d4:=qac (v:=v) hb6 4 rfl;have hcl6:=qal hb6;obtain ⟨ra,rc,hra,-,-,-⟩:=id hR6.2;have f0:=qac hra 0 rfl;have f1:=qac hra 1 rfl;have hrl6:=qal hra;have H6:=Lib.hid hR6;clear hT6 hR6 hb6 hra;simp only [Act.put]) | fail)
  have hrd:readR 2 body=none:=by
   rw [qnk,← H2.out.2.2,← H3.out.2.2.2,if_neg]
   rintro ⟨h1,h2⟩
   rcases HX.out with h | h
   ·rw [h1] at h;cases h
   ·exact h h2
  have hfin:qe8 2 body w (.returned .nilIface) w5:=by
   unfold qe8
   rw [hrd]
   exact ⟨rfl,H6.out.1.news⟩
  exact bodyPost_ret (results_tmp rfl _ _ _) rfl (by exact hfin)
end Go.Proofs.YtdhobpbngkainaaGreatDoor
namespace Go.Proofs.YtdhobpbngkainaaGreatDoor
def gearI (c:Int):Int :=
 bits BinOp.xor IntKind.u32
  (bits BinOp.xor IntKind.u32 ((c+1)*2654435769%4294967296) ((c+1)*2654435769%4294967296 / 65536)*2246822507%4294967296)
  (bits BinOp.xor IntKind.u32 ((c+1)*2654435769%4294967296) ((c+1)*2654435769%4294967296 / 65536)*2246822507%4294967296 / 8192)
def hashI (h c:Int):Int:=(h*2+gearI c)%4294967296
def endsB (h:Int) (n:Nat):Bool :=
 if 256≤n then true
 else if 64≤n then !(bits BinOp.and IntKind.u32 h 15 != 0)
 else if 16≤n then !(bits BinOp.and IntKind.u32 h 255 != 0)
 else false
theorem qlm {h:Int} {n:Nat} (h1:256≤n):endsB h n=true:=by unfold endsB;rw [if_pos h1]
theorem qxt {h:Int} {n:Nat} {v:Bool} (h1:n<256) (h2:64≤n) (hv:(bits BinOp.and IntKind.u32 h 15 != 0)=v):endsB h n = !v:=by
 unfold endsB;rw [if_neg (by omega),if_pos h2,hv]
theorem qxj {h:Int} {n:Nat} {v:Bool} (h1:n<64) (h2:16≤n) (hv:(bits BinOp.and IntKind.u32 h 255 != 0)=v):endsB h n = !v:=by
 unfold endsB;rw [if_neg (by omega),if_neg (by omega),if_pos h2,hv]
theorem q2i {h:Int} {n:Nat} (h1:n<16):endsB h n=false:=by unfold endsB;rw [if_neg (by omega),if_neg (by omega),if_neg (by omega)]
def qqc:Array Value:=((List.range 256).map fun k:Nat=>Value.int .u32 (gearI k)).toArray
def cutC (h:Int) (n:Nat):Array Value:=qqc++#[.int .u32 h,.int .i64 n]
def qfv (k:Nat):Array Value:=((List.range k).map (fun k:Nat=>Value.int .u32 (gearI k))++(List.replicate (256-k) (Value.int .u32 0)++[Value.int .u32 0,Value.int .i64 0])).toArray
theorem qf8:qqc.size=256:=by simp [qqc]
theorem q64 (h:Int) (n:Nat):(cutC h n)[256]?=some (.int .u32 h):=by
 simp [cutC,Array.getElem?_append,qf8]
theorem q6r (h:Int) (n:Nat):(cutC h n)[257]?=some (.int .i64 n):=by
 simp [cutC,Array.getElem?_append,qf8]
theorem q7h (h:Int) (n c:Nat) (hc:c<256):(cutC h n)[c]?=some (.int .u32 (gearI c)):=by
 rw [cutC,Array.getElem?_append,if_pos (by rw [qf8];exact hc)]
 simp [qqc,hc]
theorem q1u (g:Array Value) (a b a':Value) (k:Nat) (hk:g.size=k):(g++#[a,b]).setIfInBounds k a'=g++#[a',b]:=by
 subst hk
 rw [Array.setIfInBounds_append_right (Nat.le_refl _)];simp
theorem qzq (g:Array Value) (a b b':Value) (k:Nat) (hk:g.size+1=k):(g++#[a,b]).setIfInBounds k b'=g++#[a,b']:=by
 subst hk
 rw [Array.setIfInBounds_append_right (by omega)];simp
theorem qzt (h h':Int) (n:Nat):(cutC h n).setIfInBounds 256 (.int .u32 h')=cutC h' n:=q1u _ _ _ _ _ qf8
theorem qyz (h:Int) (n n':Nat) (v:Value) (hv:v=.int .i64 n'):(cutC h n).setIfInBounds 257 v=cutC h n':=by
 subst hv;exact qzq _ _ _ _ _ (by rw [qf8])
theorem quz:qfv 256=cutC 0 0:=by
 simp [qfv,cutC,qqc]
theorem qwn (k:Nat) (hk:k<256):(qfv k).setIfInBounds k (.int .u32 (gearI k))=qfv (k+1):=by
 apply Array.ext'
 simp only [qfv,Array.toList_setIfInBounds]
 rw [List.set_append,if_neg (by simp)]
 obtain ⟨m,hm⟩:∃ m,256-k=m+1:=⟨256-k-1,by omega⟩
 have hm':256-(k+1)=m:=by omega
 rw [hm,hm']
 simp [List.range_succ,List.replicate_succ]
theorem qwt (k:Nat) (hk:k<256):(qfv k)[k]?=some (.int .u32 0):=by
 simp only [qfv,List.getElem?_toArray]
 rw [List.getElem?_append_right (by simp)]
 obtain ⟨m,hm⟩:∃ m,256-k=m+1:=⟨256-k-1,by omega⟩
 rw [hm];simp [List.replicate_succ]
theorem qn4 (h c:Int):0≤hashI h c∧hashI h c<4294967296:=by unfold hashI;omega
theorem q1t (x:Int):(bits BinOp.and IntKind.u32 x 0 != 0)=false:=by
 have h:bits BinOp.and IntKind.u32 x 0=0:=by
  show IntKind.u32.wrap ((BitVec.ofInt 32 x &&& BitVec.ofInt 32 0).toNat:Int)=0
  rw [show BitVec.ofInt 32 0=0#32 from rfl,BitVec.and_zero];rfl
 simp [h]
def cutsN:Int→Nat→List UInt8→List Nat
 | _,_,[]=>[]
 | h,n,c::cs=>if endsB (hashI h c.toNat) (n+1) || cs.isEmpty then (n+1)::cutsN 0 0 cs else cutsN (hashI h c.toNat) (n+1) cs
def qas (data:List UInt8):List Nat:=cutsN 0 0 data
theorem qne (h:Int) (n:Nat) (c:UInt8) (cs:List UInt8) (e:endsB (hashI h c.toNat) (n+1)=true):cutsN h n (c::cs)=(n+1)::cutsN 0 0 cs:=by
 rw [cutsN];simp [e]
theorem qk1 (h:Int) (n:Nat) (c:UInt8):cutsN h n [c]=[n+1]:=by rw [cutsN];simp [cutsN]
theorem qoy (h:Int) (n:Nat) (c:UInt8) (cs:List UInt8) (e:endsB (hashI h c.toNat) (n+1)=false) (hcs:cs≠[]):cutsN h n (c::cs)=cutsN (hashI h c.toNat) (n+1) cs:=by
 rw [cutsN];simp [e,hcs]
theorem qpf (l:List UInt8):∀ h n,(cutsN h n l).length≤l.length:=by
 induction l with
 | nil=>intro h n;simp [cutsN]
 | cons c cs ih =>
  intro h n
  rw [cutsN]
  split
  ·have:=ih 0 0;simp;omega
  ·have:=ih (hashI h c.toNat) (n+1);simp;omega
theorem q2o (l:List UInt8):∀ h n,l≠[]→(cutsN h n l).sum=l.length+n:=by
 induction l with
 | nil=>intro h n hl;exact absurd rfl hl
 | cons c cs ih =>
  intro h n _
  rw [cutsN]
  split
  ·by_cases hc:cs=[]
   ·subst hc;simp [cutsN];omega
   ·have:=ih 0 0 hc;simp;omega
  ·rename_i hn
   have hc:cs≠[]:=by intro hc;subst hc;simp at hn
   have:=ih (hashI h c.toNat) (n+1) hc;simp;omega
theorem qex (l:List UInt8):(qas l).sum=l.length:=by
 by_cases h:l=[]
 ·subst h;simp [qas,cutsN]
 ·have:=q2o l 0 0 h;simpa [qas] using this
theorem qcy (l:List UInt8):(qas l).length≤l.length:=qpf l 0 0
def qdj (w:World) (d off:Nat) (l:List UInt8):Prop:=∀ j (h:j<l.length),w.cell? ⟨d,off+j,none⟩=some (.int .u8 ((l[j]'h).toNat:Nat))
theorem qdj.keep {S:Nat→Prop} {w w':World} {d off:Nat} {l:List UInt8} (h:qdj w d off l) (hm:Mods S w w') (hS:¬ S d):qdj w' d off l:=fun j hj=>by
 have hc:=h j hj
 have hlt:=World.block_lt_of_cell? w _ hc
 exact (World.cell?_of_block (w:=w) (hm.block d hlt hS)).trans hc
end Go.Proofs.YtdhobpbngkainaaGreatDoor
namespace Go.Proofs.YtdhobpbngkainaaGreatDoor
open Go.RowKit Go.Maps
def qav (D:Bs):List Bs:=qck (qas D) D
def qc7 (l:List VerL):Nat:=(l.getLast?.map (·.num)).getD 0
def qa8 (S:AS) (D:Bs):List Bs:=qbp (S.K.map (·.1)) [] (qav D)
def qb4 (l:List Bs):Bs:=(l.map (frame 1)).flatten
structure PutStep (S S':AS) (l D:Bs) (V:VerL):Prop where
 a:S'.a=S.a
 quota:S'.X.quota=S.X.quota
 closed:S'.X.closed=S.X.closed
 ep:S'.X.ep=S.X.ep
 d:S'.X.d=S.X.d
 n:S'.L.n=S.L.n
 sc:S'.X.sc=S.X.sc+(qa8 S D).length
 sb:S'.X.sb=S.X.sb+((qa8 S D).map List.length).sum
 used:S'.X.used=S.X.used+D.length
 K:S'.K=S.K++qbo S.data.length (qa8 S D)
 ts:S'.ts=S.ts
 vers:∀ m,qaq S'.ps m=if m=l then qaq S.ps l++[V] else qaq S.ps m
 num:V.num=qc7 (qaq S.ps l)+1
 size:V.size=D.length
 held:V.held=0
 nchs:V.chs.length=(qav D).length
 chs:∀ e∈(qav D).zip V.chs,e∈S'.K
 data:S'.data=S.data++qb4 (qa8 S D)++frame 2 (verB l V.num V.size (atsOf V.chs))
 other:∀ f2 c2,(f2+c2≤S.A.first∨S.A.first+S.A.count≤f2)→qax S'.L.now f2 c2=qax S.L.now f2 c2
def PutB (S:AS) (D:Bs) (b:Nat) (S':AS):Prop:=∀ b',b+(qa8 S D).length+2≤b'→(qav D).length≤b'→ArB S' b'
def qqx (S:AS) (l D:Bs) (b:Nat) (w:World) (e:Ending) (w':World):Prop :=
 (∃ n,e=.returned (.tuple #[.int .i64 0,errV n])∧Turns (arF S) (arF S) w w' ∧
  (
   (S.X.closed=true∧n=9)∨(S.X.closed=false∧qa6 l=false∧n=1)∨(S.X.closed=false∧qa6 l=true∧4000<D.length∧n=2) ∨
   (S.X.closed=false∧qa6 l=true∧D.length≤4000∧S.X.quota<S.X.used+D.length∧n=7))) ∨
 (S.X.closed=false∧qa6 l=true∧D.length≤4000∧S.X.used+D.length≤S.X.quota ∧
  (
   (∃ sp chs,e=.returned (.tuple #[.int .i64 0,errV 8])∧AreaOk { S.A with spare:=sp }∧Turns (arF S) (arF { S with A:={ S.A with spare:=sp } }) w w' ∧
     128*S.A.count<S.data.length+(qb4 (qa8 S D)).length+(frame 2 (verB l (qc7 (qaq S.ps l)+1) D.length (atsOf chs))).length∧chs.length=(qav D).length) ∨
   (∃ S' V,e=.returned (.tuple #[.int .i64 (qc7 (qaq S.ps l)+1),.nilIface])∧PutStep S S' l D V∧ArOk S'∧PutB S D b S'∧Turns (arF S) (arF S') w w')))
end Go.Proofs.YtdhobpbngkainaaGreatDoor
namespace Go.Proofs.YtdhobpbngkainaaGreatDoor
open Go.RowKit
def qcp (w:World) (b:Nat) (h:Int) (n:Nat):Prop:=w.heap[b]?=some (.cells (cutC h n) 296 (0,0))
def zcut:Array Value:=qfv 0
theorem q6j (w:World):(zeroValue 296).run Tryz.prog w=.ok (.agg zcut) w:=by kernel_rfl
def qsx (w:World) (e:Ending) (w':World):Prop :=
 e=.returned (.pointer (some ⟨w.heap.size,0,none⟩))∧qcp w' w.heap.size 0 0∧Same w w'
theorem qpk (w:World):Calls Tryz.prog 124 #[] w (qsx w):=by
 have hz:=q6j
 go_enter Tryz.func124,Tryz.ntmps124
 go_wp2
 clear hz
 go_loopw [6] (fun i wr=>∃ k:Nat,k≤256∧i=.int .i64 k∧wr.heap[w.heap.size]?=some (.cells (qfv k) 296 (0,0))∧Same w wr)
  (fun i _=>256-(intOf i).toNat)
 case atStart=>exact ⟨0,by omega,rfl,qa7 w _,(Mods.refl _ _).alloc _⟩
 case round =>
  obtain ⟨k,hk,rfl,hcs,hs⟩:=hrel
  by_cases hlt:k<256
  ·have hc:=qac hcs k (qwt k hlt)
   have hf:=qa9 hcs k
   have HC:=Lib.hid hcs
   clear hcs
   go_wp2
   go_roundw
   case rel =>
    refine ⟨k+1,by omega,by go_num,?_,hs.setCell (.inr (Nat.le_refl _)) _⟩
    rw [qbf HC.out]
    exact congrArg some (congrArg (fun c=>Obj.cells c _ _) (qwn k hlt))
   case measure=>simp [intOf];omega
  ·obtain rfl:k=256:=by omega
   have HC:=Lib.hid hcs
   clear hcs
   go_wp2
   go_ret
   exact ⟨rfl,by unfold qcp;rw [HC.out,quz],hs⟩
def qox (w:World) (b:Nat) (h:Int) (n:Nat) (e:Ending) (w':World):Prop :=
 e=.returned (.bool (endsB h n))∧qcp w' b (if endsB h n then 0 else h) (if endsB h n then 0 else n)∧Mods (·=b) w w'∧w'.heap.size=w.heap.size
theorem qdp {w:World} {b:Nat} {h:Int} {n:Nat} (hC:qcp w b h n) (h' m:Int) (hm:m=h'):qcp (w.setCell ⟨b,256,none⟩ (.int .u32 m)) b h' n :=
 (qbf hC 256 _).trans (by rw [hm,qzt])
theorem qdq {w:World} {b:Nat} {h:Int} {n:Nat} (hC:qcp w b h n) (n':Nat) (m:Int) (hm:m=n'):qcp (w.setCell ⟨b,257,none⟩ (.int .i64 m)) b h n' :=
 (qbf hC 257 _).trans (by rw [qyz h n n' _ (by rw [hm])])
theorem qd4 {w:World} {b:Nat} {h:Int} {n:Nat} (hC:qcp w b h n):qcp w.drew b h n:=hC
theorem qja {w w':World} {b:Nat} {h:Int} {n:Nat} (e:endsB h n=true) (hC:qcp w' b 0 0) (hM:Mods (·=b) w w') (hz:w'.heap.size=w.heap.size) :
  qox w b h n (.returned (.bool true)) w':=by
 refine ⟨by rw [e],?_,hM,hz⟩;rw [e];exact hC
theorem qj4 {w w':World} {b:Nat} {h:Int} {n:Nat} (e:endsB h n=false) (hC:qcp w' b h n) (hM:Mods (·=b) w w') (hz:w'.heap.size=w.heap.size) :
  qox w b h n (.returned (.bool false)) w':=by
 refine ⟨by rw [e],?_,hM,hz⟩;rw [e];exact hC
theorem qpc (w:World) (b:Nat) (h:Int) (n c:Nat) (hc:c<256) (hn:n<256) (hC:qcp w b h n) :
  Calls Tryz.prog 125 #[.pointer (some ⟨b,0,none⟩),.int .u8 c] w (qox w b (hashI h c) (n+1)):=by
 have h1:=qac hC c (q7h h n c hc)
 have h2:=qac hC 256 (q64 h n)
 have h3:=qac hC 257 (q6r h n)
 have f2:=qa9 hC 256
 have f3:=qa9 hC 257
 have HC:=Lib.hid hC
 clear hC
 have b0:=q1t
 go_enter Tryz.func125,Tryz.ntmps125
 go_wp2
 go_region
 all_goals go_wp2
 all_goals go_ret
 ·refine qja (qlm (by omega)) ?_ ?_ ?_
  ·exact qd4 (qdq (qdp (qdq (qdp HC.out (hashI h c) _ rfl) (n+1) _ rfl) 0 0 rfl) 0 0 rfl)
  ·repeat (first | exact Mods.refl _ _ | refine Mods.drew ?_ | refine Mods.set1 ?_ _)
  ·simp [World.drew]
 ·refine qj4 (qxt (v:=true) (by omega) (by omega) (by assumption)) ?_ ?_ ?_
  ·exact qd4 (qdq (qdp HC.out (hashI h c) _ rfl) (n+1) _ rfl)
  ·repeat (first | exact Mods.refl _ _ | refine Mods.drew ?_ | refine Mods.set1 ?_ _)
  ·simp [World.drew]
 ·refine qja (qxt (v:=false) (by omega) (by omega) (by assumption)) ?_ ?_ ?_
  ·exact qd4 (qdq (qdp (qdq (qdp HC.out (hashI h c) _ rfl) (n+1) _ rfl) 0 0 rfl) 0 0 rfl)
  ·repeat (first | exact Mods.refl _ _ | refine Mods.drew ?_ | refine Mods.set1 ?_ _)
  ·simp [World.drew]
 ·refine qj4 (qxj (v:=true) (by omega) (by omega) (by assumption)) ?_ ?_ ?_
  ·exact qd4 (qdq (qdp HC.out (hashI h c) _ rfl) (n+1) _ rfl)
  ·repeat (first | exact Mods.refl _ _ | refine Mods.drew ?_ | refine Mods.set1 ?_ _)
  ·simp [World.drew]
 ·refine qja (qxj (v:=false) (by omega) (by omega) (by assumption)) ?_ ?_ ?_
  ·exact qd4 (qdq (qdp (qdq (qdp HC.out (hashI h c) _ rfl) (n+1) _ rfl) 0 0 rfl) 0 0 rfl)
  ·repeat (first | exact Mods.refl _ _ | refine Mods.drew ?_ | refine Mods.set1 ?_ _)
  ·simp [World.drew]
 ·refine qj4 (q2i (by omega)) ?_ ?_ ?_
  ·exact qd4 (qdq (qdp HC.out (hashI h c) _ rfl) (n+1) _ rfl)
  ·repeat (first | exact Mods.refl _ _ | refine Mods.drew ?_ | refine Mods.set1 ?_ _)
  ·simp [World.drew]
end Go.Proofs.YtdhobpbngkainaaGreatDoor
namespace Go.Proofs.YtdhobpbngkainaaGreatDoor
open Go.RowKit Go.Shelf
attribute [local go_sem] Oper.semAt_some
abbrev FW:Fence:=Fence.wide
def qjq (J Jx:Nat→(Nat→Prop)→World→Prop) (i:Nat) (S:Nat→Prop) (A:World) (e:Ending) (B:World):Prop :=
 (e=.returned (.bool true)∧∃ S',J (i+1) S' B∧Mods S A B∧∀ k,S' k→k<B.heap.size∧(S k∨A.heap.size≤k)) ∨
 (e=.returned (.bool false)∧∃ S',Jx i S' B∧Mods S A B∧∀ k,S' k→k<B.heap.size∧(S k∨A.heap.size≤k))
def qkp (J Jx:Nat→(Nat→Prop)→World→Prop) (N:Nat) (S:Nat→Prop) (W:World) (e:Ending) (B:World):Prop :=
 (∃ v,e=.returned v)∧∃ S',(J N S' B∨∃ i,i<N∧Jx i S' B)∧Mods S W B∧∀ k,S' k→k<B.heap.size∧(S k∨W.heap.size≤k)
def qqp (J:Nat→(Nat→Prop)→World→Prop) (data:List UInt8) (S0:Nat→Prop) (W:World) (c box d:Nat) (k:Nat) (i frm:Nat) (wr:World):Prop :=
 ∃ S,J i S wr∧¬ S c∧¬ S box∧¬ S d∧(∀ q,S q→q<wr.heap.size∧(S0 q∨W.heap.size≤q))∧Mods S0 W wr∧c<wr.heap.size ∧
  i≤(qas data).length∧(k=data.length→i=(qas data).length) ∧
  (k<data.length→∃ h n,qcp wr c h n∧n<256∧frm+n=k∧frm=((qas data).take i).sum∧(qas data).drop i=cutsN h n (data.drop k))
theorem qo9 {l:List Nat} {i a:Nat} {r:List Nat} (h:l.drop i=a::r):∃ hi:i<l.length,l[i]=a∧l.drop (i+1)=r∧(l.take (i+1)).sum=(l.take i).sum+a:=by
 have hi:i<l.length:=by
  rcases Nat.lt_or_ge i l.length with h' | h'
  ·exact h'
  ·rw [List.drop_of_length_le h'] at h;cases h
 have e:l[i]=a:=by
  have:=List.getElem?_drop (xs:=l) (i:=i) (j:=0)
  rw [h] at this
  simp at this
  exact (List.getElem?_eq_some_iff.1 this.symm).2
 refine ⟨hi,e,?_,?_⟩
 ·rw [← List.drop_drop,h];rfl
 ·rw [List.take_succ_eq_append_getElem hi,List.sum_append,e];simp
theorem qn6 {data:List UInt8} {k i frm m:Nat} {h:Int} {x:UInt8} (hlt:k<data.length) (hx:x=data[k]) (hfm:frm+m=k) (hfr:frm=((qas data).take i).sum)
  (hdr:(qas data).drop i=cutsN h m (data.drop k)) (he:endsB (hashI h x.toNat) (m+1)=true∨k+1=data.length) :
  ∃ hi:i<(qas data).length,(qas data)[i]=k+1-frm∧(qas data).drop (i+1)=cutsN 0 0 (data.drop (k+1))∧k+1=((qas data).take (i+1)).sum:=by
 have hd:data.drop k=x::data.drop (k+1):=by rw [hx];exact List.drop_eq_getElem_cons hlt
 have h2:(qas data).drop i=(m+1)::cutsN 0 0 (data.drop (k+1)):=by
  rw [hdr,hd]
  rcases he with he | he
  ·exact qne _ _ _ _ he
  ·rw [List.drop_of_length_le (by omega)];rw [qk1];rfl
 obtain ⟨hi,h3,h4,h5⟩:=qo9 h2
 exact ⟨hi,by omega,h4,by omega⟩
section
variable {J Jx : Nat → (Nat → Prop) → World → Prop} {data : List UInt8} {S0 S : Nat → Prop} {W wr w2 w3 : World} {c box d k i frm m : Nat} {h : Int} {x : UInt8}
theorem q2f (hlt:k<data.length) (hx:x=data[k]) (hfm:frm+m=k) (hfr:frm=((qas data).take i).sum)
  (hdr:(qas data).drop i=cutsN h m (data.drop k)) (he:endsB (hashI h x.toNat) (m+1)=true∨k+1=data.length)
  (hSc:¬ S c) (hSb:¬ S box) (hSd:¬ S d) (hSu:∀ q,S q→q<wr.heap.size∧(S0 q∨W.heap.size≤q)) (hM:Mods S0 W wr) (hcW:W.heap.size≤c) (hcl:c<wr.heap.size)
  (hbW:box<W.heap.size) (hdl:d<W.heap.size)
  (hM2:Mods (·=c) wr w2) (hC2:k+1<data.length→qcp w2 c 0 0) {S':Nat→Prop} (hJ:J (i+1) S' w3) (hM3:Mods S w2 w3) (hS':∀ q,S' q→q<w3.heap.size∧(S q∨w2.heap.size≤q)) :
  qqp J data S0 W c box d (k+1) (i+1) (k+1) w3:=by
 obtain ⟨hi,h3,h4,h5⟩:=qn6 hlt hx hfm hfr hdr he
 have z2:=hM2.size
 have z3:=hM3.size
 have z1:=hM.size
 refine ⟨S',hJ,?_,?_,?_,?_,?_,by omega,by omega,?_,?_⟩
 ·intro hc;rcases (hS' c hc).2 with h' | h'
  ·exact hSc h'
  ·omega
 ·intro hc;rcases (hS' box hc).2 with h' | h'
  ·exact hSb h'
  ·omega
 ·intro hc;rcases (hS' d hc).2 with h' | h'
  ·exact hSd h'
  ·omega
 ·intro q hq
  refine ⟨(hS' q hq).1,?_⟩
  rcases (hS' q hq).2 with h' | h'
  ·exact (hSu q h').2
  ·omega
 ·refine (hM.trans' hM2 (fun q hq=>?_)).trans' hM3 (fun q hq=>(hSu q hq).2)
  subst hq;exact .inr hcW
 ·intro hk
  rw [show data.drop (k+1)=[] from List.drop_of_length_le (by omega)] at h4
  simp only [cutsN] at h4
  have:=List.drop_eq_nil_iff.1 h4
  omega
 ·intro hk
  exact ⟨0,0,hM3.at (hC2 hk) hSc,by omega,by omega,h5,h4⟩
theorem q10 (hlt:k+1<data.length) (hx:x=data[k]) (hfm:frm+m=k) (hfr:frm=((qas data).take i).sum) (hi:i≤(qas data).length)
  (hdr:(qas data).drop i=cutsN h m (data.drop k)) (he:endsB (hashI h x.toNat) (m+1)=false)
  (hJ:J i S wr) (hfrm:∀ i S A B,J i S A→(∀ k,S k→k<A.heap.size)→Mods (fun k=>¬ S k) A B→J i S B)
  (hSc:¬ S c) (hSb:¬ S box) (hSd:¬ S d) (hSu:∀ q,S q→q<wr.heap.size∧(S0 q∨W.heap.size≤q)) (hM:Mods S0 W wr) (hcW:W.heap.size≤c) (hcl:c<wr.heap.size)
  (hM2:Mods (·=c) wr w2) (hC2:qcp w2 c (hashI h x.toNat) (m+1)) :
  qqp J data S0 W c box d (k+1) i frm w2:=by
 have z2:=hM2.size
 refine ⟨S,hfrm i S wr w2 hJ (fun q hq=>(hSu q hq).1) (hM2.mono (fun q hq=>.inl (by subst hq;exact hSc))),hSc,hSb,hSd,fun q hq=>⟨by have:=(hSu q hq).1;omega,(hSu q hq).2⟩,?_,by omega,hi,by omega,?_⟩
 ·refine hM.trans' hM2 (fun q hq=>?_)
  subst hq;exact .inr hcW
 ·intro _
  have hd:data.drop k=x::data.drop (k+1):=by rw [hx];exact List.drop_eq_getElem_cons (by omega)
  refine ⟨hashI h x.toNat,m+1,hC2,?_,by omega,hfr,?_⟩
  ·rcases Nat.lt_or_ge (m+1) 256 with h' | h'
   ·exact h'
   ·rw [qlm h'] at he;cases he
  ·rw [hdr,hd,qoy _ _ _ _ he]
   intro hn
   have:=List.drop_eq_nil_iff.1 hn
   omega
end
def qr4 (P:Program) (n l d off:Nat) (data:List UInt8) (J Jx:Nat→(Nat→Prop)→World→Prop):Prop :=
  ∀ i S A (hi:i<(qas data).length),J i S A→qdj A d off data→(∀ k,S k→k<A.heap.size)→¬ S d →
   YieldAt FW n P l #[.slice (some ⟨d,off+((qas data).take i).sum,none⟩) (qas data)[i] (qas data)[i]] A (qjq J Jx i S A)
def qps (J:Nat→(Nat→Prop)→World→Prop):Prop:=∀ i S A B,J i S A→(∀ k,S k→k<A.heap.size)→Mods (fun k=>¬ S k) A B→J i S B
theorem qym {n l d off:Nat} {data:List UInt8} {J Jx:Nat→(Nat→Prop)→World→Prop} (hround:qr4 Tryz.prog n l d off data J Jx) (hfrm:qps J)
  {k i frm m:Nat} {h:Int} {x:UInt8} (hlt:k<data.length) (hx:x=data[k]) (hfm:frm+m=k) (hfr:frm=((qas data).take i).sum)
  (hdr:(qas data).drop i=cutsN h m (data.drop k)) (he:endsB (hashI h x.toNat) (m+1)=true∨k+1=data.length)
  {S S0:Nat→Prop} {W wr w2:World} {c:Nat} (hJ:J i S wr) (hd:qdj W d off data) (hSu:∀ q,S q→q<wr.heap.size∧(S0 q∨W.heap.size≤q)) (hM:Mods S0 W wr)
  (hSd0:¬ S0 d) (hSd:¬ S d) (hSc:¬ S c) (hM2:Mods (·=c) wr w2) (hdc:d≠c) :
  YieldAt FW n Tryz.prog l #[.slice (some ⟨d,off+frm,none⟩) (k+1-frm) (k+1-frm)] w2 (qjq J Jx i S w2)∧i<(qas data).length:=by
 obtain ⟨hi,h3,h4,h5⟩:=qn6 hlt hx hfm hfr hdr he
 have:=hround i S w2 hi (hfrm i S wr w2 hJ (fun q hq=>(hSu q hq).1) (hM2.mono (fun q hq=>.inl (by subst hq;exact hSc)))) ((hd.keep hM hSd0).keep hM2 hdc)
  (fun q hq=>Nat.lt_of_lt_of_le (hSu q hq).1 hM2.size) hSd
 rw [h3,← hfr] at this
 exact ⟨this,hi⟩
theorem qwy (n l box d off cap:Nat) (a:Option Addr) (data:List UInt8) (J Jx:Nat→(Nat→Prop)→World→Prop) (W:World) (S0:Nat→Prop)
  (ha:0<data.length→a=some ⟨d,off,none⟩) (hcap:data.length≤cap) (hmax:data.length≤140737488351232)
  (hbox:W.heap[box]?=some (.cells #[.slice a data.length cap] 38 (0,0))) (hd:qdj W d off data)
  (hSb:¬ S0 box) (hSd:¬ S0 d) (hSo:∀ k,S0 k→k<W.heap.size) (h0:J 0 S0 W) (hfrm:qps J) (hround:qr4 Tryz.prog n l d off data J Jx) :
  CallsIn FW (n+1) Tryz.prog 123 #[.func (.yield l) #[] #[],.pointer (some ⟨box,0,none⟩)] W (qkp J Jx (qas data).length S0 W):=by
 have hbW:=qal hbox
 refine callsIn_of_wp Tryz.func123 rfl trivial ?_ rfl
 simp only [Tryz.ntmps123,List.size_toArray,List.length_cons,List.length_nil,Nat.reduceAdd,Nat.reduceSub,Array.replicate_succ,Array.replicate_zero,List.push_toArray,List.append_toArray,List.nil_append,List.cons_append]
 gi_wp2_with fail
 refine ⟨trivial,(callsIn_wide.2 (qpk _)).mono ?_⟩
 rintro e w1 ⟨rfl,hC1,hs1⟩
 obtain ⟨c,hcdef⟩:∃ c,c=W.heap.size:=⟨_,rfl⟩
 rw [← hcdef] at hC1 ⊢
 have hbox1:=qac (hs1.at hbox id) 0 (v:=.slice a data.length cap) (by simp)
 have HC1:=Lib.hid (And.intro hC1 (And.intro hcdef (And.intro h0 (And.intro hSo (And.intro hbox hs1)))))
 clear hC1 hcdef h0 hSo hbox hs1
 have HR:=Lib.hid hround
 have HF:=Lib.hid hfrm
 have HD:=Lib.hid hd
 clear hround hfrm hd
 gi_wp2_with fail
 gi_loopw [4,10] (fun fr kk wr=>∃ (k i frm:Nat),k≤data.length∧fr=.int .i64 frm∧kk=.int .i64 k∧qqp J data S0 W c box d k i frm wr)
  (fun _ kk _=>data.length-(intOf kk).toNat)
 case atStart =>
  obtain ⟨hC1,hc,h0,hSo,hbox,hs1⟩:=HC1.out
  refine ⟨0,0,0,by omega,rfl,rfl,S0,HF.out 0 S0 W w1 h0 hSo (hs1.mods _),?_,hSb,hSd,fun q hq=>⟨by have:=hSo q hq;have:=hs1.size;omega,.inl hq⟩,hs1.mods _,?_,by omega,?_,?_⟩
  ·intro hq;have:=hSo _ hq;omega
  ·have:=qal hC1;exact this
  ·intro hk
   have:data=[]:=List.eq_nil_of_length_eq_zero hk.symm
   subst this;simp [qas,cutsN]
  ·intro hk;exact ⟨0,0,hC1,by omega,rfl,by simp,by simp [qas]⟩
 case round =>
  obtain ⟨k,i,frm,hk,rfl,rfl,hR⟩:=hrel
  by_cases hlt:k<data.length
  ·obtain ⟨S,hJ,hSc,hSb',hSd',hSu,hM,hcl,hi,_,hst⟩:=hR
   obtain ⟨h,m,hC,hm,hfm,hfr',hdr⟩:=hst hlt
   obtain rfl:=ha (by omega)
   have hbx:=qac (hM.at HC1.out.2.2.2.2.1 hSb) 0 (v:=.slice (some ⟨d,off,none⟩) data.length cap) (by simp)
   have hdk:=(HD.out.keep hM hSd) k hlt
   have hdl:d<W.heap.size:=World.block_lt_of_cell? W _ (HD.out k hlt)
   have hcW:W.heap.size≤c:=by have:=HC1.out.2.1;omega
   have hbx':∀ w2:World,Mods (·=c) wr w2→w2.cell? ⟨box,0,none⟩=some (.slice (some ⟨d,off,none⟩) data.length cap):=fun w2 h2=>by
    have e:=h2.block box (by have:=hM.size;omega) (by omega)
    exact (World.cell?_of_block (w:=wr) e).trans hbx
   have HI:=Lib.hid (And.intro hJ (And.intro hSu (And.intro hM (And.intro hC (And.intro hfr' hdr)))))
   have HB:=Lib.hid hbx'
   clear hJ hSu hM hC hfr' hdr hst hbx'
   obtain ⟨x,hx⟩:∃ x:UInt8,x=data[k]:=⟨_,rfl⟩
   rw [← hx] at hdk
   have Hx:=Lib.hid hx
   clear hx
   have hxl:=x.toNat_lt
   have hfk:frm≤k:=by omega
   have hfc:frm<cap:=by omega
   have HFM:=Lib.hid hfm
   clear hfm
   by_cases hE:endsB (hashI h x.toNat) (m+1)=true∨k+1=data.length
   ·-- A CHUNK ENDS BEHIND BYTE k
    obtain ⟨z,hz⟩:∃ z,endsB (hashI h x.toNat) (m+1)=z:=⟨_,rfl⟩
    have HE:=Lib.hid hE
    have HZ:=Lib.hid hz
    clear hE hz
    gi_wp2_with fail
    refine ⟨trivial,(callsIn_wide.2 (qpc wr c h m x.toNat hxl (by omega) HI.out.2.2.2.1)).mono ?_⟩
    rintro e w2 ⟨rfl,hC2,hM2,hz2⟩
    rw [HZ.out] at hC2 ⊢
    have hb2:=HB.out w2 hM2
    have hlast:z=false→((k:Int)==(data.length:Int)-1)=true:=fun hzf=>by
     rcases HE.out with h' | h'
     ·rw [HZ.out,hzf] at h';cases h'
     ·simp;omega
    obtain ⟨hI1,hI2,hI3,hI4,hI5,hI6⟩:=HI.out
    obtain ⟨⟨fn,tmps,assign,body,hy,hRd⟩,hil⟩:=qym HR.out HF.out hlt Hx.out HFM.out hI5 hI6 HE.out hI1 HD.out hI2 hI3 hSd hSd' hSc hM2 (by omega)
    have hCz:k+1<data.length→qcp w2 c 0 0:=fun hk1=>by
     rcases HE.out with h' | h'
     ·rw [HZ.out] at h';rw [h'] at hC2;exact hC2
     ·omega
    have HN:=Lib.hid (fun (w3:World) (S':Nat→Prop) (hJ3:J (i+1) S' w3) (hM3:Mods S w2 w3) (hS3:∀ q,S' q→q<w3.heap.size∧(S q∨w2.heap.size≤q)) =>
     q2f (box:=box) hlt Hx.out HFM.out hI5 hI6 HE.out hSc hSb' hSd' hI2 hI3 hcW hcl hbW hdl hM2 hCz hJ3 hM3 hS3)
    have HX:=Lib.hid (And.intro hil (And.intro (hI3.trans' hM2 (T:=(·=c)) (fun q hq=>.inr (by omega))) (And.intro hI2 (And.intro hM2.size hI3.size))))
    clear hC2 hM2 hz2 hI1 hI2 hI3 hI4 hI5 hI6 hCz hil
    cases z
    ·have hl:=hlast rfl
     clear hlast
     gi_wp2_with fail
     refine hRd.mono ?_
     rintro e w3 (⟨rfl,S',hJ3,hM3,hS3⟩ | ⟨rfl,S',hJ3,hM3,hS3⟩)
     ·have HR3:=Lib.hid (HN.out w3 S' hJ3 hM3 hS3)
      clear hJ3 hM3 hS3 hy
      gi_wp2
      go_roundw
      case rel=>exact ⟨k+1,i+1,k+1,by omega,by go_num,by go_num,HR3.out⟩
      case measure=>simp [intOf];omega
     ·obtain ⟨hil,hM02,hI2,hz2,hz1⟩:=HX.out
      have HP:Hid (qkp J Jx (qas data).length S0 W (.returned (.tuple #[])) w3) :=
       ⟨⟨_,rfl⟩,S',.inr ⟨i,hil,hJ3⟩,hM02.trans' hM3 (fun q hq=>(hI2 q hq).2),fun q hq=>⟨(hS3 q hq).1,by
        rcases (hS3 q hq).2 with h' | h'
        ·exact (hI2 q h').2
        ·exact .inr (by omega)⟩⟩
      clear hJ3 hM3 hS3 hy hil hM02 hI2 hz2 hz1
      gi_wp2
      refine bodyPost_ret (results_none rfl _ _ _) rfl ?_
      exact HP.out
    ·clear hlast
     gi_wp2_with fail
     refine hRd.mono ?_
     rintro e w3 (⟨rfl,S',hJ3,hM3,hS3⟩ | ⟨rfl,S',hJ3,hM3,hS3⟩)
     ·have HR3:=Lib.hid (HN.out w3 S' hJ3 hM3 hS3)
      clear hJ3 hM3 hS3 hy
      gi_wp2
      go_roundw
      case rel=>exact ⟨k+1,i+1,k+1,by omega,by go_num,by go_num,HR3.out⟩
      case measure=>simp [intOf];omega
     ·obtain ⟨hil,hM02,hI2,hz2,hz1⟩:=HX.out
      have HP:Hid (qkp J Jx (qas data).length S0 W (.returned (.tuple #[])) w3) :=
       ⟨⟨_,rfl⟩,S',.inr ⟨i,hil,hJ3⟩,hM02.trans' hM3 (fun q hq=>(hI2 q hq).2),fun q hq=>⟨(hS3 q hq).1,by
        rcases (hS3 q hq).2 with h' | h'
        ·exact (hI2 q h').2
        ·exact .inr (by omega)⟩⟩
      clear hJ3 hM3 hS3 hy hil hM02 hI2 hz2 hz1
      gi_wp2
      refine bodyPost_ret (results_none rfl _ _ _) rfl ?_
      exact HP.out
   ·-- NO CHUNK ENDS HERE
    have hk1:k+1<data.length:=by
     rcases Nat.lt_or_ge (k+1) data.length with h' | h'
     ·exact h'
     ·exact absurd (.inr (by omega)) hE
    have hz:endsB (hashI h x.toNat) (m+1)=false:=by
     cases hz:endsB (hashI h x.toNat) (m+1)
     ·rfl
     ·exact absurd (.inl hz) hE
    have hne:((k:Int)==(data.length:Int)-1)=false:=by simp;omega
    have HZ:=Lib.hid hz
    clear hE hz
    gi_wp2_with fail
    refine ⟨trivial,(callsIn_wide.2 (qpc wr c h m x.toNat hxl (by omega) HI.out.2.2.2.1)).mono ?_⟩
    rintro e w2 ⟨rfl,hC2,hM2,hz2⟩
    rw [HZ.out] at hC2 ⊢
    have hb2:=HB.out w2 hM2
    obtain ⟨hI1,hI2,hI3,hI4,hI5,hI6⟩:=HI.out
    have HN:=Lib.hid (q10 (box:=box) (d:=d) hk1 Hx.out HFM.out hI5 hi hI6 HZ.out hI1 HF.out hSc hSb' hSd' hI2 hI3 hcW hcl hM2 hC2)
    clear hC2 hM2 hz2 hI1 hI2 hI3 hI4 hI5 hI6
    gi_wp2
    go_roundw
    case rel=>exact ⟨k+1,i,frm,by omega,rfl,by go_num,HN.out⟩
    case measure=>simp [intOf];omega
  ·obtain rfl:k=data.length:=by omega
   obtain ⟨S,hJ,hSc,hSb',hSd',hSu,hM,hcl,hi,hil,hst⟩:=hR
   have HP:Hid (qkp J Jx (qas data).length S0 W (.returned (.tuple #[])) wr) :=
    ⟨⟨_,rfl⟩,S,.inl (by rw [hil rfl] at hJ;exact hJ),hM,hSu⟩
   clear hJ hSu hM hil hst
   gi_wp2
   go_end0
   exact HP.out
end Go.Proofs.YtdhobpbngkainaaGreatDoor
