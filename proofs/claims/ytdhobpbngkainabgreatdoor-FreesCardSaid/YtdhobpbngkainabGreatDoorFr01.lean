/- Ours. A part of the proof, made small by a program. -/
import Derived.WalkKit
import Derived.RangeFuncRecord
import Derived.WalkSpells
import Derived.Lib.Hide
import Derived.WalkLawsBesides
import Derived.Test.YtdhobpbngkainabGreatDoorProg
import Derived.LaidEql
import Derived.Stop.Asserts
import Derived.RowKitTokens
import Derived.Test.YtdhobpbngkainabGreatDoorCards
import Derived.Test.YtdhobpbngkainabGreatDoorTie
import Derived.ProofKit
import Derived.OpenShut
import Derived.Deep.DeepHandedRow
import Derived.Lib.LaidTab
import Derived.LaidHandle
import Derived.Stop.Joined
import Derived.OwnWalkIn
import Derived.Maps.AppendAt
import Derived.Laws.CopyOwn
import Derived.Orders
import Derived.StillTailTactics
import Derived.OrdersIn
import Derived.RangeFuncIn
import Derived.TacticsIn
import Derived.RegionTactic
import Derived.RangeFuncBox
import Derived.Laws.RangeAny
import Derived.Laws.Closers25b
import Derived.BigQuiet
import Derived.Deep.QuietTactic
import Derived.Deep.RegionHeld3
import Derived.Deep.RegionWith
import Derived.Maps.Keyed
import Derived.Deep.MidRow
import Derived.Laws.Rows
import Derived.Deep.RegionLaw
import Derived.Great.BuildSlice
import Derived.Carry
import Derived.Conc.LoneSelect
import Derived.Conc.SmallLaws
import Derived.Deep.CutBlock
import Derived.Lib.SliceRun
import Derived.DeepKeys
import Derived.ChangeKeys
import Derived.Defers
import Derived.Lib.MinMax
import Derived.Deep.Cut
import Derived.Maps.OwnOps
import Derived.LaidEqlPtr
import Derived.DeepKeys4
import Derived.Laws.BytesArg
import Derived.Maps.RangeRun
import Derived.Shelf.SlSortCmp.WholeK
import Derived.Lib.Bytealg
import Derived.Lib.Strings
import Derived.Laws.Externs
import Derived.Laws.Strings3
import Derived.Shelf.SlSortCmp.NoneTotal
import Derived.RangeFuncNested
import Derived.RangeFuncBound
import Derived.RangeFuncCalls
import Derived.RangeFuncLeaves
import Derived.Shelf.Abstract
import Derived.TacticsInMore
import Derived.LoopNIn
import Derived.LoopIn
import Derived.Lib.ConvBytes
import Derived.Shelf.SlIter.Nil
import Derived.Shelf.SortM.Plain
import Derived.Shelf.SortM.SortNone
import Derived.ShutString
import Derived.ChangeOld
import Derived.SliceStrings
import Derived.SizedLaws
set_option maxRecDepth 100000
set_option maxHeartbeats 4000000
namespace Go.Proofs.YtdhobpbngkainabGreatDoor
open List
theorem QA{α:Type}(a:List α)(i:Nat)(v:α):a.toArray.setIfInBounds i v=(a.set i v).toArray:=List.setIfInBounds_toArray ..
theorem QB{α:Type}(a b:α)(l:List α):(a::l).set 0 b=b::l:=rfl
theorem QC{α:Type}(a b:α)(l:List α)(n:Nat):(a::l).set (n+1) b=a::l.set n b:=rfl
theorem QD{α:Type}(a:α)(l:List α)(n:Nat):(a::l).drop (n+1)=l.drop n:=rfl
theorem QE{α:Type}(a:α)(l:List α)(n:Nat):(a::l).take (n+1)=a::l.take n:=rfl
theorem QF{α:Type}(a d:α)(l:List α):(a::l).getD 0 d=a:=rfl
theorem QG{α:Type}(a d:α)(l:List α)(n:Nat):(a::l).getD (n+1) d=l.getD n d:=rfl
theorem QH{α:Type}{n:Nat}{l:List α}(h:n<l.length):l.take (n+1)=l.take n++[l[n]]:=List.take_succ_eq_append_getElem h
section
open Go.RowKit
theorem qqH{p:Prop}(h:p):RowKit.Hid p:=h
theorem HM:RowKit.Hid (Tryz.prog.follows .mixedOrders=true):=qqH (by kernel_rfl)
theorem Hq2{p0 p1:Prop}(h0:p0)(h1:p1):RowKit.Hid (p0∧p1):=⟨h0,h1⟩
theorem Hq3{p0 p1 p2:Prop}(h0:p0)(h1:p1)(h2:p2):RowKit.Hid (p0∧p1∧p2):=⟨h0,h1,h2⟩
theorem Hq4{p0 p1 p2 p3:Prop}(h0:p0)(h1:p1)(h2:p2)(h3:p3):RowKit.Hid (p0∧p1∧p2∧p3):=⟨h0,h1,h2,h3⟩
theorem Hq5{p0 p1 p2 p3 p4:Prop}(h0:p0)(h1:p1)(h2:p2)(h3:p3)(h4:p4):RowKit.Hid (p0∧p1∧p2∧p3∧p4):=⟨h0,h1,h2,h3,h4⟩
theorem Hq6{p0 p1 p2 p3 p4 p5:Prop}(h0:p0)(h1:p1)(h2:p2)(h3:p3)(h4:p4)(h5:p5):RowKit.Hid (p0∧p1∧p2∧p3∧p4∧p5):=⟨h0,h1,h2,h3,h4,h5⟩
theorem Hq7{p0 p1 p2 p3 p4 p5 p6:Prop}(h0:p0)(h1:p1)(h2:p2)(h3:p3)(h4:p4)(h5:p5)(h6:p6):RowKit.Hid (p0∧p1∧p2∧p3∧p4∧p5∧p6):=⟨h0,h1,h2,h3,h4,h5,h6⟩
theorem Hq8{p0 p1 p2 p3 p4 p5 p6 p7:Prop}(h0:p0)(h1:p1)(h2:p2)(h3:p3)(h4:p4)(h5:p5)(h6:p6)(h7:p7):RowKit.Hid (p0∧p1∧p2∧p3∧p4∧p5∧p6∧p7):=⟨h0,h1,h2,h3,h4,h5,h6,h7⟩
theorem Hq9{p0 p1 p2 p3 p4 p5 p6 p7 p8:Prop}(h0:p0)(h1:p1)(h2:p2)(h3:p3)(h4:p4)(h5:p5)(h6:p6)(h7:p7)(h8:p8):RowKit.Hid (p0∧p1∧p2∧p3∧p4∧p5∧p6∧p7∧p8):=⟨h0,h1,h2,h3,h4,h5,h6,h7,h8⟩
theorem _root_.Go.RowKit.Hid.a{p0 p1:Prop}(h:RowKit.Hid (p0∧p1)):p0:=h.out.1
theorem _root_.Go.RowKit.Hid.b{p0 p1 p2:Prop}(h:RowKit.Hid (p0∧p1∧p2)):p1:=h.out.2.1
theorem _root_.Go.RowKit.Hid.c{p0 p1 p2 p3:Prop}(h:RowKit.Hid (p0∧p1∧p2∧p3)):p2:=h.out.2.2.1
theorem _root_.Go.RowKit.Hid.d{p0 p1 p2 p3 p4:Prop}(h:RowKit.Hid (p0∧p1∧p2∧p3∧p4)):p3:=h.out.2.2.2.1
theorem _root_.Go.RowKit.Hid.e{p0 p1 p2 p3 p4 p5:Prop}(h:RowKit.Hid (p0∧p1∧p2∧p3∧p4∧p5)):p4:=h.out.2.2.2.2.1
theorem _root_.Go.RowKit.Hid.f{p0 p1 p2 p3 p4 p5 p6:Prop}(h:RowKit.Hid (p0∧p1∧p2∧p3∧p4∧p5∧p6)):p5:=h.out.2.2.2.2.2.1
theorem _root_.Go.RowKit.Hid.g{p0 p1 p2 p3 p4 p5 p6 p7:Prop}(h:RowKit.Hid (p0∧p1∧p2∧p3∧p4∧p5∧p6∧p7)):p6:=h.out.2.2.2.2.2.2.1
theorem _root_.Go.RowKit.Hid.h{p0 p1 p2 p3 p4 p5 p6 p7 p8:Prop}(h:RowKit.Hid (p0∧p1∧p2∧p3∧p4∧p5∧p6∧p7∧p8)):p7:=h.out.2.2.2.2.2.2.2.1
theorem _root_.Go.RowKit.Hid.z{p0 p1:Prop}(h:RowKit.Hid (p0∧p1)):p1:=h.out.2
theorem _root_.Go.RowKit.Hid.y{p0 p1 p2:Prop}(h:RowKit.Hid (p0∧p1∧p2)):p2:=h.out.2.2
theorem _root_.Go.RowKit.Hid.x{p0 p1 p2 p3:Prop}(h:RowKit.Hid (p0∧p1∧p2∧p3)):p3:=h.out.2.2.2
theorem _root_.Go.RowKit.Hid.w{p0 p1 p2 p3 p4:Prop}(h:RowKit.Hid (p0∧p1∧p2∧p3∧p4)):p4:=h.out.2.2.2.2
theorem _root_.Go.RowKit.Hid.v{p0 p1 p2 p3 p4 p5:Prop}(h:RowKit.Hid (p0∧p1∧p2∧p3∧p4∧p5)):p5:=h.out.2.2.2.2.2
theorem _root_.Go.RowKit.Hid.u{p0 p1 p2 p3 p4 p5 p6:Prop}(h:RowKit.Hid (p0∧p1∧p2∧p3∧p4∧p5∧p6)):p6:=h.out.2.2.2.2.2.2
theorem _root_.Go.RowKit.Hid.t{p0 p1 p2 p3 p4 p5 p6 p7:Prop}(h:RowKit.Hid (p0∧p1∧p2∧p3∧p4∧p5∧p6∧p7)):p7:=h.out.2.2.2.2.2.2.2
structure Mods (S:Nat->Prop) (w w':World):Prop where
 os:w'.os=w.os
 tape:w'.tape=w.tape
 output:w'.output=w.output
 size:w.heap.size<=w'.heap.size
 block:∀k,k<w.heap.size->¬S k->w'.heap[k]?=w.heap[k]?
abbrev aQ(w w':World):Prop:=Mods (fun _=>False) w w'
theorem Mods.refl(S:Nat->Prop)(w:World):Mods S w w:=⟨rfl,rfl,rfl,Nat.le_refl _,fun _ _ _=>rfl⟩
theorem Mods.trans{S:Nat->Prop}{a b c:World}(h:Mods S a b)(k:Mods S b c):Mods S a c :=
 ⟨k.os.trans h.os,k.tape.trans h.tape,k.output.trans h.output,Nat.le_trans h.size k.size,
  fun i hi hs=>(k.block i (Nat.lt_of_lt_of_le hi h.size) hs).trans (h.block i hi hs)⟩
theorem Mods.trans'{S T:Nat->Prop}{a b c:World}(h:Mods S a b)(k:Mods T b c)(hT:∀i,T i->S i\/a.heap.size<=i):Mods S a c :=
 ⟨k.os.trans h.os,k.tape.trans h.tape,k.output.trans h.output,Nat.le_trans h.size k.size,
  fun i hi hs=>(k.block i (Nat.lt_of_lt_of_le hi h.size) (fun ht=>by rcases hT i ht with h'|h'<;>first|exact absurd h' hs|omega)).trans (h.block i hi hs)⟩
theorem Mods.mono{S T:Nat->Prop}{a b:World}(h:Mods S a b)(hT:∀i,S i->T i\/a.heap.size<=i):Mods T a b :=
 ⟨h.os,h.tape,h.output,h.size,fun i hi hs=>h.block i hi (fun ht=>by rcases hT i ht with h'|h'<;>first|exact absurd h' hs|omega)⟩
theorem Mods.drew{S:Nat->Prop}{a w:World}(h:Mods S a w):Mods S a w.drew:=⟨h.os,h.tape,h.output,h.size,h.block⟩
theorem Mods.drewN{S:Nat->Prop}{a w:World}(h:Mods S a w)(n:Nat):Mods S a (w.drewN n):=⟨h.os,h.tape,h.output,h.size,h.block⟩
theorem Mods.alloc{S:Nat->Prop}{a w:World}(h:Mods S a w)(o:Obj):Mods S a (w.alloc o) :=
 ⟨h.os,h.tape,h.output,Nat.le_trans h.size (by simp),fun k hk hs=>(Below.heap_alloc w o k (Nat.lt_of_lt_of_le hk h.size)).trans (h.block k hk hs)⟩
theorem Mods.setCell{S:Nat->Prop}{a w:World}(h:Mods S a w){p:Addr}(hp:S p.block\/a.heap.size<=p.block)(u:Value):Mods S a (w.setCell p u) :=
 ⟨h.os,h.tape,h.output,by simpa[World.setCell]using h.size,
  fun k hk hs=>(Below.heap_setCell w p u k (fun e=>by subst e;rcases hp with h'|h'<;>first|exact absurd h' hs|omega)).trans (h.block k hk hs)⟩
theorem Mods.set1{b i:Nat}{a w:World}(h:Mods (fun x=>x=b) a w)(v:Value):Mods (fun x=>x=b) a (w.setCell ⟨b,i,none⟩ v):=h.setCell (p:=⟨b,i,none⟩) (.inl rfl) v
theorem Mods.Qj{S:Nat->Prop}{b i:Nat}{a w:World}(hb:a.heap.size<=b)(h:Mods S a w)(v:Value):Mods S a (w.setCell ⟨b,i,none⟩ v):=h.setCell (p:=⟨b,i,none⟩) (.inr hb) v
theorem Mods.putObj{S:Nat->Prop}{a w:World}(h:Mods S a w){r:Nat}(hr:S r\/a.heap.size<=r)(o:Obj):Mods S a (w.putObj r o) :=
 ⟨h.os,h.tape,h.output,by simpa using h.size,
  fun k hk hs=>(World.putObj_heap_other (fun e=>by subst e;rcases hr with h'|h'<;>first|exact absurd h' hs|omega)).trans (h.block k hk hs)⟩
theorem Mods.grown{S:Nat->Prop}{a w w':World}{row:Option Nat}(h:Mods S a w)(hg:w.grownBy w' row)(hr:∀k,row=some k->S k\/a.heap.size<=k):Mods S a w' :=
 ⟨hg.os.trans h.os,hg.tape.trans h.tape,hg.output.trans h.output,Nat.le_trans h.size hg.size,
  fun k hk hs=>(hg.block k (Nat.lt_of_lt_of_le hk h.size) (fun e=>by rcases hr k e.symm with h'|h'<;>first|exact absurd h' hs|omega)).trans (h.block k hk hs)⟩
theorem aQ.below{w w':World}(h:aQ w w'):Below w.heap.size w w':=⟨h.os,h.tape,h.output,h.size,fun k hk=>h.block k hk id⟩
theorem aQ.of_below{w w':World}(h:Below w.heap.size w w'):aQ w w':=⟨h.os,h.tape,h.output,h.size,fun k hk _=>h.block k hk⟩
theorem aQ.mods{w w':World}(h:aQ w w')(S:Nat->Prop):Mods S w w':=h.mono (fun _ hf=>hf.elim)
theorem Mods.at{S:Nat->Prop}{w w':World}(h:Mods S w w'){b:Nat}{o:Obj}(hb:w.heap[b]?=some o)(hS:¬S b):w'.heap[b]?=some o :=
 (h.block b (Array.getElem?_eq_some_iff.1 hb).1 hS).trans hb
theorem ae{w:World}{b:Nat}{o:Obj}(h:w.heap[b]?=some o):b<w.heap.size:=(Array.getElem?_eq_some_iff.1 h).1
theorem aa{w:World}{b:Nat}{c:Array Value}{t:TypeId}{fz:Nat×Nat}(h:w.heap[b]?=some (.cells c t fz))(i:Nat){v:Value}(hv:c[i]?=some v):
  w.cell? ⟨b,i,none⟩=some v:=by simp[World.cell?,h,hv]
theorem bc{w:World}{b:Nat}{c:Array Value}{t:TypeId}(h:w.heap[b]?=some (.cells c t (0,0)))(i:Nat):w.frozen? ⟨b,i,none⟩=false:=by simp[World.frozen?,h]
theorem bn{w:World}{b:Nat}{c:Array Value}{t:TypeId}{fz:Nat×Nat}(h:w.heap[b]?=some (.cells c t fz))(i:Nat)(v:Value):
  (w.setCell ⟨b,i,none⟩ v).heap[b]?=some (.cells (c.setIfInBounds i v) t fz):=by
 simp only[World.setCell,Array.getElem?_modify,if_true,h,Option.map_some];rfl
theorem dR{w:World}{o:Obj}{k:Nat}(h:k<w.heap.size):(w.alloc o).heap[k]?=w.heap[k]?:=Below.heap_alloc w o k h
theorem aK(w:World)(o:Obj):(w.alloc o).heap[w.heap.size]?=some o:=World.alloc_heap_new w o
def ak(w:World)(a:Option Addr)(xs:List Value):Prop:=0<xs.length->∃g off,a=some ⟨g,off,none⟩/\∀j (h:j<xs.length),w.cell? ⟨g,off+j,none⟩=some (xs[j]'h)
theorem ak.keep{S:Nat->Prop}{w w':World}{a:Option Addr}{xs:List Value}(h:ak w a xs)(hm:Mods S w w')(hS:∀g off,a=some ⟨g,off,none⟩->¬S g):ak w' a xs:=fun hp=>by
 obtain⟨g,off,ha,hc⟩:=h hp
 refine⟨g,off,ha,fun j hj=>?_⟩
 have hlt:=World.block_lt_of_cell? w _ (hc j hj)
 exact(World.cell?_of_block (w:=w) (hm.block g hlt (hS g off ha))).trans (hc j hj)
theorem ak.of_heap{w W:World}(e:W.heap=w.heap){a:Option Addr}{xs:List Value}(h:ak w a xs):ak W a xs:=fun hp=>by
 obtain⟨g,off,ha,hc⟩:=h hp
 exact⟨g,off,ha,fun j hj=>by rw[<- hc j hj];simp[World.cell?,e]⟩
def al(x:UInt8):Value:=.int .u8 (x.toNat:Nat)
def di(x:Int):Value:=.int .i64 x
def gE(w w':World):Prop:=∃n,w'=w.drewN n
theorem gE.refl(w:World):gE w w:=⟨0,rfl⟩
theorem gE.same{w w':World}:gE w w'->aQ w w'|⟨n,h⟩=>h ▸ (Mods.refl _ w).drewN n
theorem gE.trans{a b c:World}:gE a b->gE b c->gE a c|⟨n,h⟩,⟨m,k⟩=>⟨n+m,by subst h;subst k;simp[World.drewN,Nat.add_assoc]⟩
theorem gE.drew{a b:World}:gE a b->gE a b.drew|⟨n,h⟩=>⟨n+1,by subst h;rfl⟩
theorem gE.drewN{a b:World}(h:gE a b)(m:Nat):gE a (b.drewN m):=h.trans ⟨m,rfl⟩
theorem ET{k:IntKind}{a b:Int}(h:a=b):Ending.returned (.int k a)=.returned (.int k b):=by rw[h]
theorem lB{a b:Bool}(h:a=b):Ending.returned (.bool a)=.returned (.bool b):=by rw[h]
end
section
open Go.RowKit Go.Extern.Stop Go.Stop Go.Extern
theorem rF(t:Addr)(w:World):(ReflectliteValue.unpack (.iface 149 (.pointer (some t)))).run Tryz.prog w
  = .ok (.agg #[.pointer (some ⟨2,149,none⟩),.pointer (some ⟨w.heap.size,0,none⟩),.int .u64 150]) (w.alloc (.cells #[.pointer (some t)] 149)):=by kernel_rfl
theorem z7(a:Addr)(w:World):(ReflectliteValue.methodAny (ReflectliteValue.valueError "reflectlite.Value.Type" 0) (fun t _ _ _=>ReflectliteType.toType t) #[.agg #[.pointer (some ⟨2,149,none⟩),.pointer (some a),.int .u64 150]]).run Tryz.prog w
  = .ok (.iface 250 (.agg #[.pointer (some ⟨2,149,none⟩)])) w:=by kernel_rfl
theorem zZ(w:World):((ReflectliteType.abiMethod fun t=>(fun a:Nat=>Value.int IntKind.u8 (a:Int)) <$> Rtype.kind t) #[.pointer (some ⟨2,149,none⟩)]).run Tryz.prog w=.ok (.int .u8 22) w:=by kernel_rfl
theorem zY(w:World):((ReflectliteType.abiMethod fun t=>(fun a:Nat=>Value.int IntKind.u8 (a:Int)) <$> Rtype.kind t) #[.pointer (some ⟨2,60,none⟩)]).run Tryz.prog w=.ok (.int .u8 2) w:=by kernel_rfl
theorem Ie(z:Sem Value)(f:TypeId->Addr->Nat->Nat->Sem Value)(v:Value):
  ReflectliteValue.method z f #[v]=(do match <- ReflectliteValue.parts v with|none=>z|some (t,a,fl)=>f t a fl (fl%32)):=rfl
theorem wA(a:Addr)(w:World):(ReflectliteValue.parts (.agg #[.pointer (some ⟨2,149,none⟩),.pointer (some a),.int .u64 150])).run Tryz.prog w=.ok (some (149,a,150)) w:=by kernel_rfl
theorem wz(a p:Addr)(W:World)(ha:W.cell? a=some (.pointer (some p))):
  (ReflectliteValue.method (ReflectliteValue.valueError "reflectlite.Value.IsNil" 0) ReflectliteValue.isNil #[.agg #[.pointer (some ⟨2,149,none⟩),.pointer (some a),.int .u64 150]]).run Tryz.prog W=.ok (.bool false) W:=by
 rw[Ie];simp only[Sem.run_bind,wA,Result.andThen];simp[ReflectliteValue.isNil,loadVar,isAgg,underlying,Tryz.underlying149,ha,Result.andThen]
theorem zR(w:World):(ReflectliteType.method ReflectliteType.elem #[.agg #[.pointer (some ⟨2,149,none⟩)]]).run Tryz.prog w=.ok (.iface 250 (.agg #[.pointer (some ⟨2,60,none⟩)])) w:=by kernel_rfl
theorem zX(w:World):(ReflectliteType.relation "Implements" ReflectliteType.implements_ #[.agg #[.pointer (some ⟨2,60,none⟩)],.iface 250 (.agg #[.pointer (some ⟨2,30,none⟩)])]).run Tryz.prog w=.ok (.bool true) w:=by kernel_rfl
theorem tw(v:Value)(w:World):(ReflectliteType.typeOf #[.iface 60 v]).run Tryz.prog w=.ok (.iface 250 (.agg #[.pointer (some ⟨2,60,none⟩)])) w:=by kernel_rfl
theorem CK(v:Value)(w:World):(ReflectliteType.typeOf #[.iface 223 v]).run Tryz.prog w=.ok (.iface 250 (.agg #[.pointer (some ⟨2,223,none⟩)])) w:=by kernel_rfl
theorem tr(w:World):(ReflectliteType.relation "AssignableTo" ReflectliteType.assignableTo #[.agg #[.pointer (some ⟨2,60,none⟩)],.iface 250 (.agg #[.pointer (some ⟨2,60,none⟩)])]).run Tryz.prog w=.ok (.bool true) w:=by kernel_rfl
theorem CH(w:World):(ReflectliteType.relation "AssignableTo" ReflectliteType.assignableTo #[.agg #[.pointer (some ⟨2,223,none⟩)],.iface 250 (.agg #[.pointer (some ⟨2,60,none⟩)])]).run Tryz.prog w=.ok (.bool false) w:=by kernel_rfl
theorem rE(n:Int)(w:World):(ReflectliteValue.unpack (.iface 60 (.int .i64 n))).run Tryz.prog w
  = .ok (.agg #[.pointer (some ⟨2,60,none⟩),.pointer (some ⟨w.heap.size,0,none⟩),.int .u64 130]) (w.alloc (.cells #[.int .i64 n] 60)):=by kernel_rfl
theorem CI(w:World):(Rtype.elem? 149).run Tryz.prog w=.ok (some 60) w:=by kernel_rfl
theorem Lm(p:Addr)(w:World):(ReflectliteValue.mk 60 p ReflectliteValue.flagAddr).run Tryz.prog w=.ok (.agg #[.pointer (some ⟨2,60,none⟩),.pointer (some p),.int .u64 386]) w:=by kernel_rfl
theorem zS(a p:Addr)(W:World)(ha:W.cell? a=some (.pointer (some p))):
  (ReflectliteValue.method (ReflectliteValue.valueError "reflectlite.Value.Elem" 0) ReflectliteValue.elem #[.agg #[.pointer (some ⟨2,149,none⟩),.pointer (some a),.int .u64 150]]).run Tryz.prog W
   = .ok (.agg #[.pointer (some ⟨2,60,none⟩),.pointer (some p),.int .u64 386]) W:=by
 rw[Ie];simp only[Sem.run_bind,wA,Result.andThen];simp[ReflectliteValue.elem,loadVar,isAgg,underlying,Tryz.underlying149,ha,Result.andThen,CI,Lm]
theorem Ln(v x:Value):ReflectliteValue.set #[v,x]=(do
  let (some (dst,a,fl),some (src,b,_)):=(<- ReflectliteValue.parts v,<- ReflectliteValue.parts x)
   | unsupported (.noEntry "extern/(internal/reflectlite.Value).Set.zeroValue")
  if fl / ReflectliteValue.flagAddr%2==0 then unsupported (.noEntry "extern/(internal/reflectlite.Value).Set.unaddressable")
  let val <- loadVar src b
  if <- Rtype.directlyAssignable dst src then storeVar dst a val
  else if <- Rtype.implements dst src then
   if(<- Rtype.kind src)==20 then
    match val with
    | .nilIface=>unsupported (.noEntry "extern/reflectlite: a nil value of one interface type handed on as a value of another")
    | _=>storeVar dst a val
   else storeVar dst a (.iface src val)
  else panicString ("reflectlite.Set: value of type " ++ (<- Rtype.spelt src) ++ " is not assignable to type " ++ (<- Rtype.spelt dst))
  pure (.tuple #[])):=rfl
theorem Fv(a:Addr)(w:World):(ReflectliteValue.parts (.agg #[.pointer (some ⟨2,60,none⟩),.pointer (some a),.int .u64 386])).run Tryz.prog w=.ok (some (60,a,386)) w:=by kernel_rfl
theorem CJ(a:Addr)(w:World):(ReflectliteValue.parts (.agg #[.pointer (some ⟨2,60,none⟩),.pointer (some a),.int .u64 130])).run Tryz.prog w=.ok (some (60,a,130)) w:=by kernel_rfl
theorem Fu(w:World):(Rtype.directlyAssignable 60 60).run Tryz.prog w=.ok true w:=by kernel_rfl
theorem Ig(ta b:Addr)(n:Int)(old:Value)(W:World)(hb:W.cell? b=some (.int .i64 n))(ht:W.cell? ta=some old)(hf:W.frozen? ta=false):
  (ReflectliteValue.set #[.agg #[.pointer (some ⟨2,60,none⟩),.pointer (some ta),.int .u64 386],.agg #[.pointer (some ⟨2,60,none⟩),.pointer (some b),.int .u64 130]]).run Tryz.prog W
   = .ok (.tuple #[]) (W.setCell ta (.int .i64 n)):=by
 rw[Ln];simp only[Sem.run_bind,Fv,CJ,Result.andThen];simp[ReflectliteValue.flagAddr,loadVar,isAgg,underlying,Tryz.underlying60,hb,Result.andThen,Fu,storeVar,Value.cells,storeCells,Addr.add];rw[run_store Tryz.prog W ta _ _ (by rfl)];simp[ht,hf]
theorem om(h:Value)(w:World):(Go.method 434 250 (.agg #[h]) "Kind").run Tryz.prog w=.ok (186,h) w:=by kernel_rfl
theorem oh(h:Value)(w:World):(Go.method 434 250 (.agg #[h]) "Elem").run Tryz.prog w=.ok (203,.agg #[h]) w:=by kernel_rfl
theorem ol(h:Value)(w:World):(Go.method 434 250 (.agg #[h]) "Implements").run Tryz.prog w=.ok (204,.agg #[h]) w:=by kernel_rfl
theorem mw(h:Value)(w:World):(Go.method 434 250 (.agg #[h]) "AssignableTo").run Tryz.prog w=.ok (201,.agg #[h]) w:=by kernel_rfl
theorem rD(args:Array Value)(w:World):(callFunc 97 args).run Tryz.prog w=(((fun args=>ReflectliteValue.unpack (args.getD 0 (.tuple #[]))) args).run Tryz.prog w).andThen fun v w'=>.ok (.value v) w' :=
 run_callFunc_extern (e:=(fun args=>ReflectliteValue.unpack (args.getD 0 (.tuple #[])))) Tryz.func97 (by kernel_rfl) (by kernel_rfl) (by kernel_rfl) (by kernel_rfl) args w
theorem zW(args:Array Value)(w:World):(callFunc 98 args).run Tryz.prog w=(((ReflectliteValue.methodAny (ReflectliteValue.valueError "reflectlite.Value.Type" 0) (fun t _ _ _=>ReflectliteType.toType t)) args).run Tryz.prog w).andThen fun v w'=>.ok (.value v) w' :=
 run_callFunc_extern (e:=(ReflectliteValue.methodAny (ReflectliteValue.valueError "reflectlite.Value.Type" 0) (fun t _ _ _=>ReflectliteType.toType t))) Tryz.func98 (by kernel_rfl) (by kernel_rfl) (by kernel_rfl) (by kernel_rfl) args w
theorem wx(args:Array Value)(w:World):(callFunc 99 args).run Tryz.prog w=(((ReflectliteValue.method (ReflectliteValue.valueError "reflectlite.Value.IsNil" 0) ReflectliteValue.isNil) args).run Tryz.prog w).andThen fun v w'=>.ok (.value v) w' :=
 run_callFunc_extern (e:=(ReflectliteValue.method (ReflectliteValue.valueError "reflectlite.Value.IsNil" 0) ReflectliteValue.isNil)) Tryz.func99 (by kernel_rfl) (by kernel_rfl) (by kernel_rfl) (by kernel_rfl) args w
theorem zV(args:Array Value)(w:World):(callFunc 186 args).run Tryz.prog w=(((ReflectliteType.abiMethod fun t=>do pure (.int .u8 (<- Rtype.kind t))) args).run Tryz.prog w).andThen fun v w'=>.ok (.value v) w' :=
 run_callFunc_extern (e:=(ReflectliteType.abiMethod fun t=>do pure (.int .u8 (<- Rtype.kind t)))) Tryz.func186 (by kernel_rfl) (by kernel_rfl) (by kernel_rfl) (by kernel_rfl) args w
theorem zT(args:Array Value)(w:World):(callFunc 203 args).run Tryz.prog w=(((ReflectliteType.method ReflectliteType.elem) args).run Tryz.prog w).andThen fun v w'=>.ok (.value v) w' :=
 run_callFunc_extern (e:=(ReflectliteType.method ReflectliteType.elem)) Tryz.func203 (by kernel_rfl) (by kernel_rfl) (by kernel_rfl) (by kernel_rfl) args w
theorem zU(args:Array Value)(w:World):(callFunc 204 args).run Tryz.prog w=(((ReflectliteType.relation "Implements" ReflectliteType.implements_) args).run Tryz.prog w).andThen fun v w'=>.ok (.value v) w' :=
 run_callFunc_extern (e:=(ReflectliteType.relation "Implements" ReflectliteType.implements_)) Tryz.func204 (by kernel_rfl) (by kernel_rfl) (by kernel_rfl) (by kernel_rfl) args w
theorem tu(args:Array Value)(w:World):(callFunc 123 args).run Tryz.prog w=((ReflectliteType.typeOf args).run Tryz.prog w).andThen fun v w'=>.ok (.value v) w' :=
 run_callFunc_extern (e:=ReflectliteType.typeOf) Tryz.func123 (by kernel_rfl) (by kernel_rfl) (by kernel_rfl) (by kernel_rfl) args w
theorem tt(args:Array Value)(w:World):(callFunc 201 args).run Tryz.prog w=(((ReflectliteType.relation "AssignableTo" ReflectliteType.assignableTo) args).run Tryz.prog w).andThen fun v w'=>.ok (.value v) w' :=
 run_callFunc_extern (e:=(ReflectliteType.relation "AssignableTo" ReflectliteType.assignableTo)) Tryz.func201 (by kernel_rfl) (by kernel_rfl) (by kernel_rfl) (by kernel_rfl) args w
theorem wy(args:Array Value)(w:World):(callFunc 124 args).run Tryz.prog w=(((ReflectliteValue.method (ReflectliteValue.valueError "reflectlite.Value.Elem" 0) ReflectliteValue.elem) args).run Tryz.prog w).andThen fun v w'=>.ok (.value v) w' :=
 run_callFunc_extern (e:=(ReflectliteValue.method (ReflectliteValue.valueError "reflectlite.Value.Elem" 0) ReflectliteValue.elem)) Tryz.func124 (by kernel_rfl) (by kernel_rfl) (by kernel_rfl) (by kernel_rfl) args w
theorem Es(args:Array Value)(w:World):(callFunc 125 args).run Tryz.prog w=((ReflectliteValue.set args).run Tryz.prog w).andThen fun v w'=>.ok (.value v) w' :=
 run_callFunc_extern (e:=ReflectliteValue.set) Tryz.func125 (by kernel_rfl) (by kernel_rfl) (by kernel_rfl) (by kernel_rfl) args w
theorem JY(a:Addr)(w:World):(Instr.typeAssert (.iface 223 (.pointer (some a))) 30 255 true).run Tryz.prog w=.ok (.tuple #[.nilIface,.bool false]) w :=
 run_typeAssert_lacksB Tryz.underlying255 (by kernel_rfl) (by kernel_rfl) (.pointer (some a)) 30 w
theorem JZ(a:Addr)(w:World):(Instr.typeAssert (.iface 223 (.pointer (some a))) 30 258 true).run Tryz.prog w=.ok (.tuple #[.iface 223 (.pointer (some a)),.bool true]) w:=by kernel_rfl
theorem z6(a:Addr)(w:World):(Go.method 434 223 (.pointer (some a)) "Unwrap").run Tryz.prog w=.ok (199,.pointer (some a)) w:=by kernel_rfl
def aW(w:World):Prop:=w.cell? ⟨0,0,none⟩=some (.iface 250 (.agg #[.pointer (some ⟨2,30,none⟩)]))
theorem JW(n:Int)(t:Addr)(old:Value)(w:World)(hg:w.cell? ⟨0,0,none⟩=some (.iface 250 (.agg #[.pointer (some ⟨2,30,none⟩)])))(ht0:w.cell? t=some old)(hf0:w.frozen? t=false):
  Calls Tryz.prog 61 #[.iface 60 (.int .i64 n),.iface 149 (.pointer (some t))] w fun ev w'=>ev=.returned (.bool true) /\
   w'=(((((w.alloc (.cells #[.pointer (some t)] 149)).alloc (.cells #[.pointer (some ⟨2,149,none⟩),.pointer (some ⟨w.heap.size,0,none⟩),.int .u64 150] 208)).alloc (.cells #[.pointer (some ⟨2,149,none⟩),.pointer (some ⟨w.heap.size,0,none⟩),.int .u64 150] 208)).alloc (.cells #[.int .i64 n] 60)).setCell t (.int .i64 n)):=by
 have h1:=rD;have h2:=zW;have h3:=wx;have h4:=zV;have h5:=zT;have h6:=zU;have h7:=tu;have h8:=tt;have h9:=wy;have h10:=Es;have x1:=rF;have x2:=z7;have x3:=zZ;have x4:=zY;have x6:=zR;have x7:=zX;have x8:=tw;have x9:=tr;have y1:=rE;have m1:=om;have m2:=oh;have m3:=ol;have m4:=mw;have n8:=wz ⟨w.heap.size,0,none⟩ t ((w.alloc (.cells #[.pointer (some t)] 149)).alloc (.cells #[.pointer (some ⟨2,149,none⟩),.pointer (some ⟨w.heap.size,0,none⟩),.int .u64 150] 208)) (by simp)
 have hlt:0<w.heap.size:=by
  rcases Nat.eq_zero_or_pos w.heap.size with h0|h
  ·simp[World.cell?,h0]at hg
  ·exact h
 have hg2:((w.alloc (.cells #[.pointer (some t)] 149)).alloc (.cells #[.pointer (some ⟨2,149,none⟩),.pointer (some ⟨w.heap.size,0,none⟩),.int .u64 150] 208)).cell? ⟨0,0,none⟩=some (.iface 250 (.agg #[.pointer (some ⟨2,30,none⟩)])):=by
  rw[World.cell?_alloc_lt _ _ ⟨0,0,none⟩ (by simp),World.cell?_alloc_lt _ _ ⟨0,0,none⟩ hlt];exact hg
 have htl:t.block<w.heap.size:=by
  rcases Nat.lt_or_ge t.block w.heap.size with h|h
  ·exact h
  ·simp[World.cell?,Array.getElem?_eq_none h]at ht0
 have el:=zS ⟨w.heap.size,0,none⟩ t (((w.alloc (.cells #[.pointer (some t)] 149)).alloc (.cells #[.pointer (some ⟨2,149,none⟩),.pointer (some ⟨w.heap.size,0,none⟩),.int .u64 150] 208)).alloc (.cells #[.pointer (some ⟨2,149,none⟩),.pointer (some ⟨w.heap.size,0,none⟩),.int .u64 150] 208)) (by rw[World.cell?_alloc_lt _ _ ⟨w.heap.size,0,none⟩ (by simp;omega)];simp)
 have st:=Ig t ⟨w.heap.size+1+1+1,0,none⟩ n old ((((w.alloc (.cells #[.pointer (some t)] 149)).alloc (.cells #[.pointer (some ⟨2,149,none⟩),.pointer (some ⟨w.heap.size,0,none⟩),.int .u64 150] 208)).alloc (.cells #[.pointer (some ⟨2,149,none⟩),.pointer (some ⟨w.heap.size,0,none⟩),.int .u64 150] 208)).alloc (.cells #[.int .i64 n] 60))
  (by rw[World.cell?_alloc_at _ _ _ _ (by simp)];rfl)
  (by rw[World.cell?_alloc_lt _ _ t (by simp;omega),World.cell?_alloc_lt _ _ t (by simp;omega),World.cell?_alloc_lt _ _ t (by simp;omega),World.cell?_alloc_lt _ _ t htl];exact ht0)
  (by rw[World.frozen?_alloc_old _ _ t (by simp;omega),World.frozen?_alloc_old _ _ t (by simp;omega),World.frozen?_alloc_old _ _ t (by simp;omega),World.frozen?_alloc_old _ _ t (Nat.ne_of_lt htl)];exact hf0)
 go_enter Tryz.func61,Tryz.ntmps61;go_wp2;refine wp_loop_rounds 1 ?_;rw[rounds_succ];go_wp2;go_ret;exact⟨rfl,rfl⟩
theorem JX(p:Nat)(n:Int)(t:Addr)(old:Value)(w:World)(hg:w.cell? ⟨0,0,none⟩=some (.iface 250 (.agg #[.pointer (some ⟨2,30,none⟩)])))(hp:w.cell? ⟨p,1,none⟩=some (.int .i64 n))(ht0:w.cell? t=some old)(hf0:w.frozen? t=false):
  Calls Tryz.prog 61 #[.iface 223 (.pointer (some ⟨p,0,none⟩)),.iface 149 (.pointer (some t))] w fun ev w'=>ev=.returned (.bool true) /\
   w'=(((((w.alloc (.cells #[.pointer (some t)] 149)).alloc (.cells #[.pointer (some ⟨2,149,none⟩),.pointer (some ⟨w.heap.size,0,none⟩),.int .u64 150] 208)).alloc (.cells #[.pointer (some ⟨2,149,none⟩),.pointer (some ⟨w.heap.size,0,none⟩),.int .u64 150] 208)).alloc (.cells #[.int .i64 n] 60)).setCell t (.int .i64 n)):=by
 have h1:=rD;have h2:=zW;have h3:=wx;have h4:=zV;have h5:=zT;have h6:=zU;have h7:=tu;have h8:=tt;have h9:=wy;have h10:=Es;have x1:=rF;have x2:=z7;have x3:=zZ;have x4:=zY;have x6:=zR;have x7:=zX;have x8:=tw;have z8:=CK;have z9:=CH;have za:=JY;have zu:=JZ;have zm:=z6;have x9:=tr;have y1:=rE;have m1:=om;have m2:=oh;have m3:=ol;have m4:=mw;have n8:=wz ⟨w.heap.size,0,none⟩ t ((w.alloc (.cells #[.pointer (some t)] 149)).alloc (.cells #[.pointer (some ⟨2,149,none⟩),.pointer (some ⟨w.heap.size,0,none⟩),.int .u64 150] 208)) (by simp)
 have hlt:0<w.heap.size:=by
  rcases Nat.eq_zero_or_pos w.heap.size with h0|h
  ·simp[World.cell?,h0]at hg
  ·exact h
 have hg2:((w.alloc (.cells #[.pointer (some t)] 149)).alloc (.cells #[.pointer (some ⟨2,149,none⟩),.pointer (some ⟨w.heap.size,0,none⟩),.int .u64 150] 208)).cell? ⟨0,0,none⟩=some (.iface 250 (.agg #[.pointer (some ⟨2,30,none⟩)])):=by
  rw[World.cell?_alloc_lt _ _ ⟨0,0,none⟩ (by simp),World.cell?_alloc_lt _ _ ⟨0,0,none⟩ hlt];exact hg
 have htl:t.block<w.heap.size:=by
  rcases Nat.lt_or_ge t.block w.heap.size with h|h
  ·exact h
  ·simp[World.cell?,Array.getElem?_eq_none h]at ht0
 have el:=zS ⟨w.heap.size,0,none⟩ t (((w.alloc (.cells #[.pointer (some t)] 149)).alloc (.cells #[.pointer (some ⟨2,149,none⟩),.pointer (some ⟨w.heap.size,0,none⟩),.int .u64 150] 208)).alloc (.cells #[.pointer (some ⟨2,149,none⟩),.pointer (some ⟨w.heap.size,0,none⟩),.int .u64 150] 208)) (by rw[World.cell?_alloc_lt _ _ ⟨w.heap.size,0,none⟩ (by simp;omega)];simp)
 have st:=Ig t ⟨w.heap.size+1+1+1,0,none⟩ n old ((((w.alloc (.cells #[.pointer (some t)] 149)).alloc (.cells #[.pointer (some ⟨2,149,none⟩),.pointer (some ⟨w.heap.size,0,none⟩),.int .u64 150] 208)).alloc (.cells #[.pointer (some ⟨2,149,none⟩),.pointer (some ⟨w.heap.size,0,none⟩),.int .u64 150] 208)).alloc (.cells #[.int .i64 n] 60))
  (by rw[World.cell?_alloc_at _ _ _ _ (by simp)];rfl)
  (by rw[World.cell?_alloc_lt _ _ t (by simp;omega),World.cell?_alloc_lt _ _ t (by simp;omega),World.cell?_alloc_lt _ _ t (by simp;omega),World.cell?_alloc_lt _ _ t htl];exact ht0)
  (by rw[World.frozen?_alloc_old _ _ t (by simp;omega),World.frozen?_alloc_old _ _ t (by simp;omega),World.frozen?_alloc_old _ _ t (by simp;omega),World.frozen?_alloc_old _ _ t (Nat.ne_of_lt htl)];exact hf0)
 have hpl:p<w.heap.size:=World.block_lt_of_cell? w _ hp
 have hp3:(((w.alloc (.cells #[.pointer (some t)] 149)).alloc (.cells #[.pointer (some ⟨2,149,none⟩),.pointer (some ⟨w.heap.size,0,none⟩),.int .u64 150] 208)).alloc (.cells #[.pointer (some ⟨2,149,none⟩),.pointer (some ⟨w.heap.size,0,none⟩),.int .u64 150] 208)).cell? ⟨p,1,none⟩=some (.int .i64 n):=by
  rw[World.cell?_alloc_lt _ _ ⟨p,1,none⟩ (by simp;omega),World.cell?_alloc_lt _ _ ⟨p,1,none⟩ (by simp;omega),World.cell?_alloc_lt _ _ ⟨p,1,none⟩ hpl];exact hp
 go_enter Tryz.func61,Tryz.ntmps61;go_wp2;refine wp_loop_rounds 2 ?_;rw[rounds_succ];go_wp2;rw[rounds_succ];go_wp2;go_ret;exact⟨rfl,rfl⟩
end
section
open Go.RowKit
def KW(w:World)(v:Value)(n:Int):Prop :=
 (v=.nilIface/\n=0)\/v=.iface 60 (.int .i64 n)\/∃p,v=.iface 223 (.pointer (some ⟨p,0,none⟩))/\w.cell? ⟨p,1,none⟩=some (.int .i64 n)
theorem lR{w:World}(h:aW w):w.cell? ⟨0,0,none⟩=some (.iface 250 (.agg #[.pointer (some ⟨2,30,none⟩)])):=h
theorem aW.keep{S:Nat->Prop}{w w':World}(h:aW w)(hm:Mods S w w')(hS:¬S 0):aW w':=(World.cell?_of_block (w:=w) (hm.block 0 (World.block_lt_of_cell? w _ h) hS)).trans h
def Hv(n:Int)(w:World)(e:Ending)(w':World):Prop:=e=.returned (.int .i64 n)/\aQ w w'
theorem cz(v:Value)(n:Int)(w:World)(hL:aW w)(hv:KW w v n):Calls Tryz.prog 16 #[v] w (Hv n w):=by
 rcases hv with⟨rfl,rfl⟩|rfl|⟨p,rfl,hp⟩
 ·go_enter Tryz.func16,Tryz.ntmps16;go_wp2;go_ret;exact⟨rfl,(Mods.refl _ w).alloc _⟩
 ·have h0:0<w.heap.size:=World.block_lt_of_cell? w _ hL;have hg:(w.alloc (.cells #[.int .i64 0] 60)).cell? ⟨0,0,none⟩=_:=(World.cell?_alloc_lt _ _ ⟨0,0,none⟩ h0).trans (lR hL);have hc:=JW n ⟨w.heap.size,0,none⟩ (.int .i64 0) _ hg (by simp) (bc (aK w _) 0);have HC:=qqH hc;clear hc hg hL;go_enter Tryz.func16,Tryz.ntmps16;go_wp2_with fail;refine HC.out.mono ?_;rintro e w' ⟨rfl,hw⟩
  have hcell:w'.cell? ⟨w.heap.size,0,none⟩=some (.int .i64 n):=by
   rw[hw];exact aa (bn (b:=w.heap.size) (c:=#[.int .i64 0]) (t:=60) (fz:=(0,0)) (by rw[dR (by simp;omega),dR (by simp;omega),dR (by simp;omega),dR (by simp)];exact aK w _) 0 (.int .i64 n)) 0 rfl
  have hs:aQ w w':=by
   rw[hw];exact Mods.Qj (Nat.le_refl _) (((((((Mods.refl _ w).alloc _).alloc _).alloc _).alloc _).alloc _)) _
  have HS:=qqH hs;clear hw hs;go_wp2;go_ret;exact⟨rfl,HS.out⟩
 ·have h0:0<w.heap.size:=World.block_lt_of_cell? w _ hL;have hg:(w.alloc (.cells #[.int .i64 0] 60)).cell? ⟨0,0,none⟩=_:=(World.cell?_alloc_lt _ _ ⟨0,0,none⟩ h0).trans (lR hL);have hp':(w.alloc (.cells #[.int .i64 0] 60)).cell? ⟨p,1,none⟩=some (.int .i64 n):=(World.cell?_alloc_lt _ _ ⟨p,1,none⟩ (World.block_lt_of_cell? w _ hp)).trans hp;have hc:=JX p n ⟨w.heap.size,0,none⟩ (.int .i64 0) _ hg hp' (by simp) (bc (aK w _) 0);have HC:=qqH hc;clear hc hg hL hp hp';go_enter Tryz.func16,Tryz.ntmps16;go_wp2_with fail;refine HC.out.mono ?_;rintro e w' ⟨rfl,hw⟩
  have hcell:w'.cell? ⟨w.heap.size,0,none⟩=some (.int .i64 n):=by
   rw[hw];exact aa (bn (b:=w.heap.size) (c:=#[.int .i64 0]) (t:=60) (fz:=(0,0)) (by rw[dR (by simp;omega),dR (by simp;omega),dR (by simp;omega),dR (by simp)];exact aK w _) 0 (.int .i64 n)) 0 rfl
  have hs:aQ w w':=by
   rw[hw];exact Mods.Qj (Nat.le_refl _) (((((((Mods.refl _ w).alloc _).alloc _).alloc _).alloc _).alloc _)) _
  have HS:=qqH hs;clear hw hs;go_wp2;go_ret;exact⟨rfl,HS.out⟩
end
section
open Go.ChangeShapes Go.WideShapes Go.RowKit
theorem LD:ownKnob Tryz.prog.godebug=none:=by kernel_rfl
theorem LR:Tryz.prog.globalNamed "errors.errorType" = some 0:=by kernel_rfl
theorem LS:(Tryz.prog.cutTypes.find? (·.1 == "internal/reflectlite.rtype")).map (·.2)=some 250:=by kernel_rfl
theorem Gc:((range 334).filter fun t=>Tryz.prog.rowNamed t [101,114,114,111,114])=[30]:=by kernel_rfl
theorem Kq:Tryz.prog.types.size=334:=by kernel_rfl
theorem C8{W:World}(h:laidMetH Tryz.prog [("errors.errorType",Rows.laid_errors_errorType)] W):aW W:=by
 have h':laidMet Tryz.prog [] W/\handlesMet Tryz.prog [("errors.errorType",Rows.laid_errors_errorType)] W:=h;obtain⟨name,u,ty,e1,e2,e3,e4,e5⟩:=h'.2 _ (mem_singleton.2 rfl);have en:name=[101,114,114,111,114]:=(Option.some.inj e1).symm;subst en;obtain rfl:=Option.some.inj (LS.symm.trans e2);have hm:ty∈(range 334).filter fun t=>Tryz.prog.rowNamed t [101,114,114,111,114]:=mem_filter.2 ⟨mem_range.2 (by rw[<- Kq];exact e3),e4⟩
 rw[Gc]at hm;obtain rfl:=mem_singleton.1 hm;have hh:typeHandle Tryz.prog 30=.pointer (some ⟨2,30,none⟩):=by kernel_rfl
 rw[hh]at e5;unfold aW;simpa using World.var?_cell LR e5 0
noncomputable def qU(os:Os):World :=
 let w0:=World.holding Tryz.prog os ⟨#[],#[],[]⟩
 { w0 with heap:=w0.heap.modify 0 fun
   | .cells _ t frozen=>.cells #[.iface 250 (.agg #[.pointer (some ⟨2,30,none⟩)])] t frozen
   | o=>o }
theorem vE(os:Os)(args:Array Value):laidMetH Tryz.prog [("errors.errorType",Rows.laid_errors_errorType)] ((qU os).forCall (fun _ _=>0) ⟨#[],args,[]⟩).memory :=
 laidMetH_of_parts (laidMet_nil _ _) (by kernel_rfl)
theorem LB{n:Int}(h:(Lit.int IntKind.i64 n).wf=true): -9223372036854775808<=n/\n<=9223372036854775807:=by
 simp only[Lit.wf,IntKind.min,IntKind.max,IntKind.signed,IntKind.bits,Bool.and_eq_true,decide_eq_true_eq,if_true]at h;omega
end
section
open Go.RowKit
section
variable {P:Program} (w:World)
theorem jk(t ty e:TypeId)(i:TypeInfo)(z:Value)(size bytes:Nat)(ht:P.underlying t=some (.slice e))(hi:P.info? e=some i)(hz:i.zero=some z)(hsize:i.size=size)(hby:i.bytes=bytes)(hzs:z.cells.size=size)(hsz:0<size)(v:Value)(n:Nat)(xs:List Value)(hown:w.ownsRow 0 e size v n xs)(a:Addr)(m c:Nat)(news:List Value)(hl:news.length=m*size)(hnews:∀j u,news[j]?=some u->w.cell? (a.add j)=some u)(h1:∀u∈news,u.oneCell'=true)(h63:n+m<=maxLen)(hbytes:(n+m)*bytes<=140737488355328):
  ∃v' w',(Builtin.append_ #[t,t] ty #[v,.slice (some a) m c]).run P w=.ok v' w'/\w'.ownsRow 0 e size v' (n+m) (xs++news)/\w.grownBy w' v.ownBlock /\
   (v'=.slice none 0 0↔v=.slice none 0 0/\m=0)/\(∀g,v'.ownBlock=some g->v.ownBlock=some g\/w.heap.size<=g):=by
 obtain⟨v',w',hr,h2,h3,h4⟩:=run_append_own (P:=P) w 0 t ty e i z size bytes ht hi hz hsize hby hzs hsz v n xs hown a m c news hl hnews h1 h63 hbytes (Nat.zero_le _);refine⟨v',w',hr,h2,h3,h4,?_⟩;rcases hown.2 with⟨rfl,rfl⟩|⟨g,cap,cur,rfl,hbg,hg,hnc,hcm,hcs,htake⟩
 ·have hx:xs=[]:=eq_nil_of_length_eq_zero (by simpa using hown.1);subst hx;obtain⟨v2,w2,hr2,h22,_⟩:=run_append_own (P:=P) w w.heap.size t ty e i z size bytes ht hi hz hsize hby hzs hsz _ 0 [] (World.ownsRow_nil w w.heap.size e size) a m c news hl hnews h1 h63 hbytes (Nat.le_refl _);rw[hr]at hr2
  cases hr2
  exact fun g hg=>.inr (h22.lt g hg).1
 ·subst hsize;subst hby
  have hsmall:n+m<=9223372036854775807:=by simp only[maxLen]at h63;omega
  by_cases hroom:n+m<=cap
  ·have hfit:n*i.size+news.length<=cur.size:=by rw[hl,hcs,<- Nat.add_mul];exact Nat.mul_le_mul_right _ hroom
   have hr2:=run_append_room (P:=P) w t ty e i ht hi g n cap cur hg a m c news hl hnews h1 hroom hfit;rw[hr]at hr2
   cases hr2
   exact fun g' hg'=>.inl hg'
  ·have holds:∀j u,xs[j]?=some u->w.cell? ((⟨g,0,none⟩:Addr).add j)=some u:=hown.cells (g:=g) rfl;have hr2:=run_append_grow (P:=P) w t ty e i z ht hi hz ⟨g,0,none⟩ n cap xs hown.1 holds a m c news hl hnews (by omega) (by omega) (growslice_fits (by omega) hbytes);rw[hr]at hr2
   cases hr2
   exact fun g' hg'=>by simp[Value.ownBlock]at hg';exact .inr (by omega)
end
section
variable {P:Program} (w:World)
theorem mA(t ty e:TypeId)(i:TypeInfo)(size:Nat)(ht:P.underlying t=some (.slice e))(hi:P.info? e=some i)(v:Value)(n:Nat)(xs:List Value)(hown:w.ownsRow 0 e size v n xs)(sa:Option Addr)(c:Nat):
  (Builtin.append_ #[t,t] ty #[v,.slice sa 0 c]).run P w=.ok v w:=by
 cases sa<;>rcases hown.2 with⟨rfl,rfl⟩|⟨g,cap,cur,rfl,_,_,hnc,_⟩ <;>
  simp[Builtin.append_,run_underlying ht,sizeOf,typeInfo,Builtin.lenOf,Builtin.firstCells,loadCells,loadCellsFrom,storeCells, *]
theorem uF(t ty e:TypeId)(i:TypeInfo)(z:Value)(bytes:Nat)(ht:P.underlying t=some (.slice e))(hi:P.info? e=some i)(hz:i.zero=some z)(hsize:i.size=1)(hby:i.bytes=bytes)(hzs:z.cells.size=1)(v:Value)(n:Nat)(xs:List Value)(hown:w.ownsRow 0 e 1 v n xs)(sa:Option Addr)(c:Nat)(news:List Value)(hnews:ak w sa news)(h1:∀u∈news,u.oneCell'=true)(h63:n+news.length<=maxLen)(hbytes:(n+news.length)*bytes<=140737488355328):
  ∃v' w',(Builtin.append_ #[t,t] ty #[v,.slice sa news.length c]).run P w=.ok v' w'/\w'.ownsRow 0 e 1 v' (n+news.length) (xs++news)/\w.grownBy w' v.ownBlock/\(∀g,v'.ownBlock=some g->v.ownBlock=some g\/w.heap.size<=g):=by
 by_cases hp:0<news.length
 ·obtain⟨g,off,rfl,hc⟩:=hnews hp
  obtain⟨v',w',r,r1,r2,r3,r4⟩:=jk (P:=P) w t ty e i z 1 bytes ht hi hz hsize hby hzs (by decide) v n xs hown ⟨g,off,none⟩ news.length c news (by simp)
   (fun j u hu=>by obtain⟨hj,rfl⟩:=List.getElem?_eq_some_iff.1 hu;rw[Addr.add_lit];exact hc j hj) h1 h63 hbytes
  exact⟨v',w',r,r1,r2,r4⟩
 ·obtain rfl:news=[]:=eq_nil_of_length_eq_zero (by omega);exact⟨v,w,mA (P:=P) w t ty e i 1 ht hi v n xs hown sa c,by simpa using hown,⟨rfl,rfl,rfl,Nat.le_refl _,fun _ _ _=>rfl⟩,fun g h=>.inl h⟩
end
section
variable {F:Fence} {nn:Nat} {P:Program}
theorem qA(w:World){ops:Array Oper}{rest:List Oper}{o:Oper}{a:Act}{Q:Exit->Act->World->Prop}(hg:o.guard=none)(s x:Operand)(t:TypeId)(hop:o.op=Op.call { callee:=Callee.builtin Builtin.append,args:=#[s,x],argTypes:=#[t,t] })(e:TypeId)(i:TypeInfo)(z:Value)(bytes:Nat)(h1:P.underlying t=some (.slice e))(h2:P.info? e=some i)(h3:i.zero=some z)(h4:i.size=1)(h5:i.bytes=bytes)(h6:z.cells.size=1)(v:Value)(k:Nat)(xs:List Value)(hs:a.eval s=v)(hown:w.ownsRow 0 e 1 v k xs)(sa:Option Addr)(m c:Nat)(news:List Value)(hx:a.eval x=.slice sa m c)(hn:news.length=m)(hc:ak w sa news)(h1c:∀u∈news,u.oneCell'=true)(b1:k+m<=maxLen)(b2:(k+m)*bytes<=140737488355328)(hK:∀v' w',w'.ownsRow 0 e 1 v' (k+m) (xs++news)->w.grownBy w' v.ownBlock->(∀g,v'.ownBlock=some g->v.ownBlock=some g\/w.heap.size<=g)->wpList P ops Q rest (a.put o.dst v') w'):
  wpList P ops Q (o::rest) a w:=by
 subst hn;refine wpList_plain hg fun K hK'=>?_
 obtain⟨v',w',hr,r1,r2,r4⟩:=uF (P:=P) w t o.type e i z bytes h1 h2 h3 h4 h5 h6 v k xs hown sa c news hc h1c b1 b2;unfold Oper.wp execOp;simp only[hop,resolve,invoke,builtin,Sem.run_bind,Sem.run_pure,Result.andThen_ok,map_toArray,map_cons,map_nil,hs,hx,hr];exact hK' _ _ (hK v' w' r1 r2 r4)
theorem gB(w:World){ops:Array Oper}{rest:List Oper}{o:Oper}{a:Act}{Q:Exit->Act->World->Prop}(hg:o.guard=none)(s x:Operand)(t:TypeId)(hop:o.op=Op.call { callee:=Callee.builtin Builtin.append,args:=#[s,x],argTypes:=#[t,t] })(e:TypeId)(i:TypeInfo)(z:Value)(size bytes:Nat)(h1:P.underlying t=some (.slice e))(h2:P.info? e=some i)(h3:i.zero=some z)(h4:i.size=size)(h5:i.bytes=bytes)(h6:z.cells.size=size)(h7:0<size)(v:Value)(k:Nat)(xs:List Value)(hs:a.eval s=v)(hown:w.ownsRow 0 e size v k xs)(ad:Addr)(m c:Nat)(news:List Value)(hx:a.eval x=.slice (some ad) m c)(hn:news.length=m*size)(hc:∀j u,news[j]?=some u->w.cell? (ad.add j)=some u)(h1c:∀u∈news,u.oneCell'=true)(b1:k+m<=maxLen)(b2:(k+m)*bytes<=140737488355328)(hK:∀v' w',w'.ownsRow 0 e size v' (k+m) (xs++news)->w.grownBy w' v.ownBlock->(v'=.slice none 0 0↔v=.slice none 0 0/\m=0)->(∀g,v'.ownBlock=some g->v.ownBlock=some g\/w.heap.size<=g) ->
   wpList P ops Q rest (a.put o.dst v') w'):
  wpList P ops Q (o::rest) a w:=by
 refine wpList_plain hg fun K hK'=>?_
 obtain⟨v',w',hr,r1,r2,r3,r4⟩:=jk (P:=P) w t o.type e i z size bytes h1 h2 h3 h4 h5 h6 h7 v k xs hown ad m c news hn hc h1c b1 b2;unfold Oper.wp execOp;simp only[hop,resolve,invoke,builtin,Sem.run_bind,Sem.run_pure,Result.andThen_ok,map_toArray,map_cons,map_nil,hs,hx,hr];exact hK' _ _ (hK v' w' r1 r2 r3 r4)
end
theorem yL{w:World}{b b' e size n:Nat}{v:Value}{xs:List Value}(h:w.ownsRow b e size v n xs)(hb:∀g,v.ownBlock=some g->b'<=g):w.ownsRow b' e size v n xs:=by
 refine⟨h.1,?_⟩;rcases h.2 with hn|⟨g,cap,cur,rfl,hbg,hgg,rest⟩
 ·exact .inl hn
 ·exact .inr ⟨g,cap,cur,rfl,hb g rfl,hgg,rest⟩
theorem Mods.Qk{w w':World}{row:Option Nat}(h:w.grownBy w' row):Mods (fun k=>row=some k) w w' :=
 ⟨h.os,h.tape,h.output,h.size,fun k hk hS=>h.block k hk (fun e=>hS e.symm)⟩
theorem Mods.setRow{S:Nat->Prop}{a w:World}{g:Nat}(h:Mods S a w)(hg:S g\/a.heap.size<=g)(cs:Array Value):Mods S a (w.setRow g cs) :=
 ⟨h.os,h.tape,h.output,by simpa[World.setRow]using h.size,fun k hk hs=>(setRow_other w g k cs (fun e=>by subst e;rcases hg with h'|h'<;>first|exact absurd h' hs|omega)).trans (h.block k hk hs)⟩
theorem gr{P:Program}{w:World}{ops:Array Oper}{rest:List Oper}{o:Oper}{a:Act}{Q:Exit->Act->World->Prop}(hgd:o.guard=none)(d s:Operand)(dT sT:TypeId)(ho:o.op=.call { callee:=.builtin .copy,args:=#[d,s],argTypes:=#[dT,sT] })(elem:TypeId)(hu:P.underlying dT=some (.slice elem))(hsz:(P.info? elem).map (·.size)=some 1)(dp sp:Option Addr)(dLen dCap sLen sCap:Nat)(hd:a.eval d=.slice dp dLen dCap)(hs:a.eval s=.slice sp sLen sCap)(g off:Nat)(cur:List Value)(t:TypeId)(hg:w.heap[g]?=some (.cells cur.toArray t (0,0)))(cs:List Value)(hn:cs.length=Nat.min sLen dLen)(hpos:0<cs.length->dp=some ⟨g,off,none⟩/\∃ad,sp=some ad/\∀j v,cs[j]?=some v->w.cell? (ad.add j)=some v)(hfit:off+cs.length<=cur.length)(h1:∀v∈cs,v.oneCell'=true)(h:∀w',w'.heap[g]?=some (.cells (splice cur off cs).toArray t (0,0))->Mods (fun k=>k=g) w w'->w'.heap.size=w.heap.size->wpList P ops Q rest (a.put o.dst (goInt cs.length)) w'):
  wpList P ops Q (o::rest) a w:=by
 by_cases h0:cs.length=0
 ·obtain rfl:cs=[]:=eq_nil_of_length_eq_zero h0;refine wpList_copy_nothing hgd d s dT sT ho elem hu hsz dp sp dLen dCap sLen sCap hd hs (by simpa using hn.symm) ?_;exact h w (show _=_ by simpa[splice]using hg) (Mods.refl _ _) rfl
 ·obtain⟨rfl,ad,rfl,hsrc⟩:=hpos (by omega);refine wpList_copy_own hgd d s dT sT ho elem hu hsz g off dLen dCap ad sLen sCap hd hs cur.toArray t hg cs hn hsrc (by simpa using hfit) h1 ?_;exact h _ (show _=_ by simpa[splice]using setRow_heap w g _ _ t _ hg) (Mods.setRow (S:=fun k=>k=g) (Mods.refl _ _) (.inl rfl) _) (by simp[World.setRow])
end
section
open Go.RowKit
theorem dW(l:List UInt8):∀v∈l.map al,v.oneCell'=true:=fun v hv=>by
 obtain⟨x,_,rfl⟩:=mem_map.1 hv;rfl
abbrev HF:=List (Nat×(Obj->Prop))
def dom(F:HF):List Nat:=F.map (·.1)
@[simp] theorem L0:dom []=[]:=rfl
@[simp] theorem gI (p:Nat×(Obj->Prop)) (F:HF):dom (p::F)=p.1::dom F:=rfl
@[simp] theorem cF (F G:HF):dom (F++G)=dom F++dom G:=by simp[dom]
def Is(x o:Obj):Prop:=o=x
theorem Is.rfl{x:Obj}:Is x x:=by unfold Is;exact Eq.refl x
structure Sat (w:World) (F:HF):Prop where
 nodup:(dom F).Nodup
 sat:∀p∈F,∃o,w.heap[p.1]?=some o/\p.2 o
structure Turns (F F':HF) (w w':World):Prop where
 mods:Mods (fun b=>b∈dom F) w w'
 sat:Sat w' F'
 fresh:∀b∈dom F',b∈dom F\/w.heap.size<=b
theorem mN{F G:HF}(h:F.Perm G):(dom F).Perm (dom G):=h.map _
theorem Sat.lt{w:World}{F:HF}(h:Sat w F){b:Nat}(hb:b∈dom F):b<w.heap.size:=by
 obtain⟨p,hp,rfl⟩:=mem_map.1 hb;obtain⟨o,ho,_⟩:=h.sat p hp;exact ae ho
theorem Sat.perm{w:World}{F G:HF}(h:Sat w F)(hp:F.Perm G):Sat w G :=
 ⟨(mN hp).nodup_iff.1 h.nodup,fun p hq=>h.sat p (hp.mem_iff.2 hq)⟩
theorem Sat.left{w:World}{F G:HF}(h:Sat w (F++G)):Sat w F :=
 ⟨by have:=h.nodup;rw[cF]at this;exact(nodup_append.1 this).1,fun p hp=>h.sat p (mem_append_left _ hp)⟩
theorem Sat.right{w:World}{F G:HF}(h:Sat w (F++G)):Sat w G :=
 ⟨by have:=h.nodup;rw[cF]at this;exact(nodup_append.1 this).2.1,fun p hp=>h.sat p (mem_append_right _ hp)⟩
theorem Sat.Qh{w:World}{F G:HF}(h:Sat w (F++G)){b:Nat}(hb:b∈dom F):b∉dom G:=by
 have:=h.nodup;rw[cF]at this;intro hg;exact(nodup_append.1 this).2.2 b hb b hg rfl
theorem Sat.join{w:World}{F G:HF}(h:Sat w F)(k:Sat w G)(hd:∀b∈dom F,b∉dom G):Sat w (F++G) :=
 ⟨by rw[cF];exact nodup_append.2 ⟨h.nodup,k.nodup,fun a ha b hb e=>hd a ha (e ▸ hb)⟩,
  fun p hp=>by rcases mem_append.1 hp with h'|h';exact h.sat p h';exact k.sat p h'⟩
theorem Sat.nil(w:World):Sat w []:=⟨nodup_nil,fun p hp=>by simp at hp⟩
theorem Sat.one{w:World}{b:Nat}{φ:Obj->Prop}{o:Obj}(h:w.heap[b]?=some o)(ho:φ o):Sat w [(b,φ)] :=
 ⟨by simp[dom],fun p hp=>by simp at hp;subst hp;exact⟨o,h,ho⟩⟩
theorem Sat.frame{S:Nat->Prop}{w w':World}{F:HF}(h:Sat w F)(hm:Mods S w w')(hS:∀b∈dom F,¬S b):Sat w' F :=
 ⟨h.nodup,fun p hp=>by
  obtain⟨o,ho,hφ⟩:=h.sat p hp
  exact⟨o,hm.at ho (hS p.1 (mem_map.2 ⟨p,hp,rfl⟩)),hφ⟩⟩
theorem Sat.same{w w':World}{F:HF}(h:Sat w F)(hm:aQ w w'):Sat w' F:=h.frame hm (fun _ _=>id)
theorem Sat.weak{w:World}{b:Nat}{φ ψ:Obj->Prop}{F:HF}(h:Sat w ((b,φ)::F))(hw:∀o,φ o->ψ o):Sat w ((b,ψ)::F) :=
 ⟨h.nodup,fun p hp=>by
  rcases mem_cons.1 hp with rfl|hp
  ·obtain⟨o,ho,hφ⟩:=h.sat (b,φ) (by simp)
   exact⟨o,ho,hw o hφ⟩
  ·exact h.sat p (mem_cons_of_mem _ hp)⟩
theorem Sat.head{w:World}{b:Nat}{φ:Obj->Prop}{F:HF}(h:Sat w ((b,φ)::F)):∃o,w.heap[b]?=some o/\φ o:=h.sat (b,φ) (by simp)
theorem Sat.tail{w:World}{p:Nat×(Obj->Prop)}{F:HF}(h:Sat w (p::F)):Sat w F:=Sat.right (F:=[p]) h
theorem Sat.notMem{w:World}{b:Nat}{φ:Obj->Prop}{F:HF}(h:Sat w ((b,φ)::F)):b∉dom F:=(nodup_cons.1 h.nodup).1
theorem Sat.put{w w':World}{b:Nat}{φ ψ:Obj->Prop}{F:HF}{o:Obj}(h:Sat w ((b,φ)::F))(hm:Mods (fun k=>k=b) w w')(ho:w'.heap[b]?=some o)(hψ:ψ o):Sat w' ((b,ψ)::F) :=
 Sat.join (F:=[(b,ψ)]) (Sat.one ho hψ) (h.tail.frame hm (fun k hk e=>h.notMem (e ▸ hk))) (fun k hk=>by simp at hk;subst hk;exact h.notMem)
theorem Turns.refl{w:World}{F:HF}(h:Sat w F):Turns F F w w:=⟨Mods.refl _ _,h,fun _ hb=>.inl hb⟩
theorem Turns.trans{a b c:World}{F G H:HF}(h:Turns F G a b)(k:Turns G H b c):Turns F H a c :=
 ⟨h.mods.trans' k.mods h.fresh,k.sat,fun q hq=>by
  rcases k.fresh q hq with h'|h'
  ·exact h.fresh q h'
  ·exact .inr (Nat.le_trans h.mods.size h')⟩
theorem Turns.frame{w w':World}{F F':HF}(h:Turns F F' w w'){R:HF}(hs:Sat w (F++R)):Turns (F++R) (F'++R) w w' :=
 ⟨h.mods.mono (fun b hb=>.inl (by simp[hb])),h.sat.join (hs.right.frame h.mods (fun b hb hf=>hs.Qh hf hb)) (fun b hb hr=>by
   rcases h.fresh b hb with h'|h'
   ·exact hs.Qh h' hr
   ·have:=hs.right.lt hr;omega),
  fun b hb=>by
  rw[cF]at hb ⊢
  rcases mem_append.1 hb with h'|h'
  ·rcases h.fresh b h' with h''|h''
   ·exact .inl (mem_append_left _ h'')
   ·exact .inr h''
  ·exact .inl (mem_append_right _ h')⟩
theorem Turns.perm{w w':World}{F F' G G':HF}(h:Turns F F' w w')(hp:F.Perm G)(hp':F'.Perm G'):Turns G G' w w' :=
 ⟨h.mods.mono (fun b hb=>.inl ((mN hp).mem_iff.1 hb)),h.sat.perm hp',fun b hb=>by
  rcases h.fresh b ((mN hp').mem_iff.2 hb)with h'|h'
  ·exact .inl ((mN hp).mem_iff.1 h')
  ·exact .inr h'⟩
theorem Turns.left{w w':World}{F G H:HF}(h:Turns F (G++H) w w'):Turns F G w w':=⟨h.mods,h.sat.left,fun b hb=>h.fresh b (by simp[hb])⟩
theorem Turns.right{w w':World}{F G H:HF}(h:Turns F (G++H) w w'):Turns F H w w':=⟨h.mods,h.sat.right,fun b hb=>h.fresh b (by simp[hb])⟩
theorem Turns.same{w w':World}{F:HF}(hs:Sat w F)(h:aQ w w'):Turns F F w w':=⟨h.mods _,hs.same h,fun _ hb=>.inl hb⟩
theorem Turns.Q9{a b c:World}{F G:HF}(h:Turns F G a b)(k:aQ b c):Turns F G a c:=h.trans (Turns.same h.sat k)
theorem Turns.Qg{a b c:World}{F G:HF}(hs:Sat a F)(h:aQ a b)(k:Turns F G b c):Turns F G a c:=(Turns.same hs h).trans k
theorem Turns.drewN{a b:World}{F G:HF}(h:Turns F G a b)(n:Nat):Turns F G a (b.drewN n):=h.Q9 ((Mods.refl _ b).drewN n)
theorem Turns.drew{a b:World}{F G:HF}(h:Turns F G a b):Turns F G a b.drew:=h.Q9 (Mods.refl _ b).drew
theorem Turns.alloc{a b:World}{F G:HF}(h:Turns F G a b)(o:Obj):Turns F G a (b.alloc o):=h.Q9 ((Mods.refl _ b).alloc o)
theorem Turns.Qe{a b:World}{F G:HF}(h:Turns F G a b){o:Obj}{φ:Obj->Prop}(ho:φ o):Turns F ((b.heap.size,φ)::G) a (b.alloc o) :=
 ⟨h.mods.alloc o,Sat.join (F:=[(b.heap.size,φ)]) (Sat.one (aK b o) ho) (h.sat.same ((Mods.refl _ b).alloc o)) (fun k hk hg=>by
   simp at hk;subst hk;have:=h.sat.lt hg;omega),
  fun k hk=>by
  rcases mem_cons.1 hk with rfl|h'
  ·exact .inr h.mods.size
  ·exact h.fresh k h'⟩
theorem Turns.put{a w w':World}{F G:HF}{b:Nat}{φ ψ:Obj->Prop}{o:Obj}(h:Turns F ((b,φ)::G) a w)(hm:Mods (fun k=>k=b) w w')(ho:w'.heap[b]?=some o)(hψ:ψ o):Turns F ((b,ψ)::G) a w' :=
 h.trans ⟨hm.mono (fun k hk=>.inl (by simp[hk])),h.sat.put hm ho hψ,fun k hk=>.inl (by simpa using hk)⟩
theorem Turns.Qa{a w w':World}{F G:HF}{b:Nat}{φ:Obj->Prop}{o:Obj}(h:Turns F ((b,φ)::G) a w)(hm:Mods (fun k=>k=b) w w')(ho:w'.heap[b]?=some o):Turns F ((b,Is o)::G) a w':=h.put hm ho Is.rfl
theorem Turns.Q8{a b:World}{F G:HF}(h:Turns F G a b)(o:Obj):Turns F ((b.heap.size,Is o)::G) a (b.alloc o):=h.Qe Is.rfl
theorem Sat.Q5{w:World}{b:Nat}{o:Obj}{F:HF}(h:Sat w ((b,Is o)::F)):w.heap[b]?=some o:=by
 obtain⟨o',ho,hi⟩:=h.head;unfold Is at hi;subst hi;exact ho
def bK(e size:Nat)(v:Value)(n:Nat)(xs:List Value):HF :=
 match v.ownBlock with
 | none=>[]
 | some g=>[(g,fun o=>∃cap cur,v=.slice (some ⟨g,0,none⟩) n cap/\o=.cells cur e (0,0)/\n<=cap/\cap<=maxLen/\cur.size=cap*size/\cur.toList.take (n*size)=xs)]
def et(size:Nat)(v:Value)(n:Nat)(xs:List Value):Prop:=xs.length=n*size/\(v.ownBlock=none->v=.slice none 0 0/\n=0)
theorem aR{w:World}{e size n:Nat}{v:Value}{xs:List Value}(h:Sat w (bK e size v n xs))(k:et size v n xs):w.ownsRow 0 e size v n xs:=by
 refine⟨k.1,?_⟩;unfold bK at h
 cases hv:v.ownBlock with
 | none=>exact .inl (k.2 hv)
 | some g =>
  rw[hv]at h;obtain⟨o,ho,cap,cur,hvv,rfl,h1,h2,h3,h4⟩:=h.head;exact .inr ⟨g,cap,cur,hvv,Nat.zero_le _,ho,h1,h2,h3,h4⟩
theorem fg{w:World}{b e size n:Nat}{v:Value}{xs:List Value}(h:w.ownsRow b e size v n xs):Sat w (bK e size v n xs)/\et size v n xs:=by
 rcases h.2 with⟨rfl,rfl⟩|⟨g,cap,cur,rfl,hb,hg,h1,h2,h3,h4⟩
 ·exact⟨by simpa[bK,Value.ownBlock]using Sat.nil w,h.1,fun _=>⟨rfl,rfl⟩⟩
 ·refine⟨?_,h.1,fun hn=>by simp[Value.ownBlock]at hn⟩;simp only[bK,Value.ownBlock];exact Sat.one hg ⟨cap,cur,rfl,rfl,h1,h2,h3,h4⟩
theorem eK(e size n:Nat)(v:Value)(xs:List Value)(b:Nat):b∈dom (bK e size v n xs)↔v.ownBlock=some b:=by
 unfold bK
 cases v.ownBlock with
 | none=>simp
 | some g=>simp[dom,eq_comm]
theorem Turns.grow{a w w':World}{F G:HF}{e size n m:Nat}{v v':Value}{xs ys:List Value}(h:Turns F (bK e size v n xs++G) a w)(hown:w'.ownsRow 0 e size v' m ys)(hgrow:w.grownBy w' v.ownBlock)(hg:∀g,v'.ownBlock=some g->v.ownBlock=some g\/w.heap.size<=g):Turns F (bK e size v' m ys++G) a w':=by
 have ht:Turns (bK e size v n xs) (bK e size v' m ys) w w' :=
  ⟨(
   Mods.Qk hgrow).mono (fun b hb=>.inl ((eK _ _ _ _ _ _).2 hb)),(fg hown).1,fun b hb=>by
   rcases hg b ((eK _ _ _ _ _ _).1 hb)with h'|h'
   ·exact .inl ((eK _ _ _ _ _ _).2 h')
   ·exact .inr h'⟩
 exact h.trans (ht.frame h.sat)
end
section
theorem Sat.Q7{w:World}{F:HF}(h:Sat w F){b:Nat}{o:Obj}(hm:(b,Is o)∈F):w.heap[b]?=some o:=by
 obtain⟨o',ho,hi⟩:=h.sat _ hm;have hi:o'=o:=hi;subst hi;exact ho
open Classical in
noncomputable def cnt(a:Nat×(Obj->Prop))(F:HF):Nat:=F.countP (fun b=>decide (b=a))
open Classical in
noncomputable def Iq(a b:Nat×(Obj->Prop)):Nat:=if b=a then 1 else 0
theorem ee(a:Nat×(Obj->Prop)):cnt a []=0:=rfl
theorem ao(a b:Nat×(Obj->Prop))(F:HF):cnt a (b::F)=Iq a b+cnt a F:=by
 unfold cnt Iq;rw[countP_cons];by_cases h:b=a<;>simp[h,Nat.add_comm]
theorem ai(a:Nat×(Obj->Prop))(F G:HF):cnt a (F++G)=cnt a F+cnt a G:=countP_append
open Classical in
theorem Be{F G:HF}(h:∀a,cnt a F=cnt a G):F.Perm G:=by
 rw[perm_iff_count];intro a;have:=h a;unfold cnt at this
 have e:(fun b:Nat×(Obj->Prop)=>decide (b=a))=(fun b=>b==a):=by
  funext b;by_cases hb:b=a
  ·subst hb;simp
  ·simp[hb]
 rw[e]at this;exact this
theorem ac{F G:HF}(h:∀a,cnt a F=cnt a G:=by intro _;simp only[ao,ai,ee]<;>omega):F.Perm G:=Be h
theorem bB{F G:HF}(h:∀a,cnt a F<=cnt a G:=by intro _;simp only[ao,ai,ee]<;>omega):∀a,cnt a F<=cnt a G:=h
theorem pr{G:HF}:∀{F:HF},(∀a,cnt a G<=cnt a F)->∃R,F.Perm (G++R):=by
 induction G with
 | nil=>intro F _;exact⟨F,Perm.refl _⟩
 | cons g G ih =>
  intro F h
  have hg:g∈F:=by
   have:=h g;rw[ao]at this;have h1:Iq g g=1:=by unfold Iq;simp
   have h2:0<cnt g F:=by omega
   unfold cnt at h2;rw[countP_pos_iff]at h2;obtain⟨b,hb,he⟩:=h2;have he:b=g:=by simpa using he
   exact he ▸ hb
  obtain⟨s,t,rfl⟩:=append_of_mem hg;obtain⟨R,hR⟩:=ih (F:=s++t) (fun a=>by have:=h a;simp only[ao,ai]at this ⊢;omega);exact⟨R,perm_middle.trans (hR.cons g)⟩
theorem Sat.sub{w:World}{F G:HF}(h:Sat w F)(hp:∀a,cnt a G<=cnt a F):Sat w G:=by
 obtain⟨R,hR⟩:=pr hp;exact(h.perm hR).left
theorem Turns.step{a b c:World}{F0 G F F' R:HF}(h:Turns F0 G a b)(hp:G.Perm (F++R))(k:Turns F F' b c):Turns F0 (F'++R) a c :=
 (h.perm (Perm.refl _) hp).trans (k.frame (h.sat.perm hp))
theorem Turns.to{a b:World}{F G H:HF}(h:Turns F G a b)(hp:G.Perm H):Turns F H a b:=h.perm (Perm.refl _) hp
theorem Turns.drop{a b:World}{F G H:HF}(h:Turns F G a b)(hp:∀x,cnt x H<=cnt x G):Turns F H a b:=by
 obtain⟨R,hR⟩:=pr hp;exact(h.to hR).left
theorem Turns.Qb{a b c:World}{F G H:HF}(h:Turns F G a b)(k:Turns [] H b c):Turns F (H++G) a c:=by
 have:=k.frame (R:=G) (by simpa using h.sat);simp only[nil_append]at this;exact h.trans this
theorem nA{P:Program}{o:Oper}{a:Act}{w w':World}{v:Value}{K:Act->World->Prop}{Q:Exit->Act->World->Prop}(h:(execOp a.eval o).run P w=.ok (.value v) w')(hk:K (a.put o.dst v) w'):o.wp P a w K Q:=by
 unfold Oper.wp;rw[h];exact hk
theorem aU{P:Program}{o:Oper}{a:Act}{w:World}{f:FuncId}{args:Array Value}{R:Ending->World->Prop}{K:Act->World->Prop}{Q:Exit->Act->World->Prop}(h:(execOp a.eval o).run P w=.ok (.enter f args) w)(hc:Calls P f args w R)(hk:∀e w',R e w'->∃v,e=.returned v/\K (a.put o.dst v) w'):o.wp P a w K Q:=by
 unfold Oper.wp;rw[h];refine hc.mono (fun e w' hr=>?_);obtain⟨v,rfl,hv⟩:=hk e w' hr;exact hv
def kJ:TypeDesc->Bool
 | .struct _|.array _ _=>false
 | _=>true
end
section
section
variable {P:Program} {ops:Array Oper} {N:Nat->Bool} {D:Nat->Nat->Bool} {Q:Act->World->Prop}
def noQ:Exit->Act->World->Prop:=fun _ _ _=>False
def zy(P:Program)(ops:Array Oper)(w:World)(a:Act)(q:Nat):Prop:=∃o v,ops[q]?=some o/\YieldsAt P ops w o v a/\a.put o.dst v=a
def Seq(P:Program)(ops:Array Oper)(N:Nat->Bool)(D:Nat->Nat->Bool)(Q:Act->World->Prop):List Nat->List Nat->Act->World->Prop
 | [],_,a,w=>Q a w
 | i::r,f,a,w=>if N i=true then ∃o,ops[i]?=some o/\o.guard=none/\o.wp P a w (fun c v=>(∀q∈f,D i q=false->zy P ops v c q)/\Seq P ops N D Q r f c v) noQ
  else stOp P ops w i (fun c=>Seq P ops N D Q r (i::f) c w) a
theorem Seq.mono:∀{s f g:List Nat} {a:Act} {w:World},(∀q∈g,q∈f)->Seq P ops N D Q s f a w->Seq P ops N D Q s g a w
 | [],_,_,_,_,_,h=>h
 | i::r,f,g,a,w,hg,h=>by
  unfold Seq at h ⊢
  split
  ·rename_i hn
   rw[if_pos hn]at h
   obtain⟨o,h1,h2,h3⟩:=h
   exact⟨o,h1,h2,Oper.wp_mono (fun c v hc=>⟨fun q hq=>hc.1 q (hg q hq),hc.2.mono hg⟩) h3⟩
  ·rename_i hn
   rw[if_neg hn]at h
   exact stOp_mono (fun c hc=>hc.mono (by simp only[mem_cons];rintro q (hq|hq)<;>simp[hq,hg])) h
theorem I8{a:Act}{x y:Option Tmp}{u v:Value}(hne:∀d,x=some d->y≠some d)(h:(a.put x v).put y u=a.put x v):a.put y u=a:=by
 cases y with
 | none=>rfl
 | some e =>
  cases x with
  | none=>exact h
  | some d =>
   have hde:d≠e:=fun he=>hne d rfl (by rw[he])
   obtain⟨t,df⟩:=a;simp only[Act.put,Act.mk.injEq,and_true]at h ⊢;refine Array.ext_getElem? fun k=>?_
   by_cases hk:e=k
   ·subst hk;have h1:=congrArg (·[e]?) h;simp only[Array.getElem?_setIfInBounds_ne hde]at h1;rw[<- h1];rcases Nat.lt_or_ge e t.size with h2|h2
    ·simp[h2]
    ·simp[Nat.not_lt.2 h2]
   ·rw[Array.getElem?_setIfInBounds_ne hk]
theorem KS{oj:Oper}{x:Option Tmp}{v:Value}{K:Act->World->Prop}{a:Act}{w:World}(hs:∀cs b,oj.op ≠ .select cs b)(h1:∀d,x=some d->d∉oj.looksAt ops)(h2:∀d,x=some d->oj.dst≠some d)(h:oj.wp P (a.put x v) w K noQ):oj.wp P a w (fun c u=>K (c.put x v) u) noQ:=by
 unfold Oper.wp at *
 rw[execOp_put oj hs a x v h1]at h;generalize (execOp a.eval oj).run P w=r at *
 cases r with
 | ok n w' =>
  cases n<;>simp only[Oper.upon]at h ⊢
  case value u=>rw[<- Act.put_comm a v u h2];exact h
  case skip=>rw[<- Act.put_comm a v undef h2];exact h
  case defer d=>rw[<- Act.put_comm _ v undef h2,<- Act.put_defers];exact h
  case enter f args =>
   refine Calls.mono h fun e w'' he=>?_
   cases e with
   | returned u=>have he:K ((a.put x v).put oj.dst u) w'':=he;rw[Act.put_comm a v u h2]at he;exact he
   | panicked c=>exact he
   | outgrown=>exact he
  case row row args=>exact Rows.mono h fun u w'' he=>by rw[<- Act.put_comm a v u h2];exact he
 | halt x w'=>cases x<;>simp only[Oper.upon]at h ⊢;exact h.elim
structure MixOk (ops:Array Oper) (D:Nat->Nat->Bool) (E:Nat->Bool):Prop where
 sel:Region.noSelect ops=true
 lt:∀i k,Region.waitsFor .any ops i k=true->k<i
 dst:∀(i k:Nat) (oi ok:Oper) (d:Tmp),i≠k->ops[i]?=some oi->ops[k]?=some ok->oi.dst=some d->ok.dst≠some d
 look:∀(i k:Nat) (oi ok:Oper) (d:Tmp),ops[i]?=some oi->ops[k]?=some ok->oi.dst=some d->d∈ok.looksAt ops->Region.waitsFor .any ops k i=true\/(Region.waitsFor .any ops i k=true/\E i=true)
 dep:∀i q,D i q=true->∃k,Region.waitsFor .any ops i k=true/\(k=q\/D k q=true)
variable {E:Nat->Bool} (H:MixOk ops D E)
include H
theorem MixOk.away{i k:Nat}{oi ok:Oper}(hi:ops[i]?=some oi)(hk:ops[k]?=some ok)(hw:Region.waitsFor .any ops k i=false)(h2:Region.waitsFor .any ops i k=false\/E i=false)(d:Tmp)(hd:oi.dst=some d):d∉ok.looksAt ops:=fun hm=>by
 rcases H.look i k oi ok d hi hk hd hm with h|⟨h,h'⟩
 ·rw[h]at hw;cases hw
 ·rw[h,h']at h2;simp at h2
theorem MixOk.self(i:Nat):Region.waitsFor .any ops i i=false:=by
 cases h:Region.waitsFor .any ops i i with
 | false=>rfl
 | true=>exact absurd (H.lt i i h) (Nat.lt_irrefl _)
theorem MixOk.keep{w:World}{i k:Nat}{oi ok:Oper}{a:Act}{v u:Value}(hi:ops[i]?=some oi)(hk:ops[k]?=some ok)(hw:Region.waitsFor .any ops k i=false)(h2:Region.waitsFor .any ops i k=false\/E i=false):
  YieldsAt P ops w ok u (a.put oi.dst v)↔YieldsAt P ops w ok u a:=by
 have h3:=H.away hi hk hw h2;have hs:=fun cs b=>Region.noSelect_spec H.sel k ok cs b hk
 have e1:=execOp_put ok hs a oi.dst v h3;have e2:=wanted_put ok a oi.dst v h3;exact⟨fun h=>h.of_same e1.symm e2.symm,fun h=>h.of_same e1 e2⟩
theorem MixOk.ahead{s:List Nat}(hc:∀i k,Region.waitsFor .any ops i k=true->i∉s->k∉s):∀(i:Nat),(∀k,Region.waitsFor .any ops i k=true->k∉s)->∀q,D i q=true->q∉s:=by
 intro i;induction i using Nat.strongRecOn with
 | _ i ih =>
  intro hi q hq;obtain⟨k,hk,h⟩:=H.dep i q hq;rcases h with rfl|h
  ·exact hi k hk
  ·exact ih k (H.lt i k hk) (fun k' hk'=>hc k k' hk' (hi k hk)) q h
omit H
def row(R:Nat->Nat->Prop):List Nat->Prop
 | []=>True
 | x::r=>(∀j∈r,R x j)/\row R r
theorem row.cut{R:Nat->Nat->Prop}:∀{s1:List Nat} {j:Nat} {s2:List Nat},row R (s1++j::s2)->row R (s1++s2)
 | [],_,_,h=>h.2
 | x::s1,j,s2,h=>by
  have h:row R (x::(s1++j::s2)):=h
  refine⟨fun k hk=>h.1 k ?_,row.cut (s1:=s1) h.2⟩
  rcases mem_append.1 hk with hk|hk<;>simp[hk]
def Far(ops:Array Oper)(x j:Nat):Prop:=x≠j/\Region.waitsFor .any ops x j=false
include H
theorem Seq.move{j:Nat}{s2:List Nat}:∀(s1 f:List Nat) (a:Act) (w:World),(∀i∈s1++j::s2,i<ops.size)->row (Far ops) (s1++j::s2)->(∀x∈s1,N x=false)->(N j=true->∀x∈s1,E x=false)->(∀q,Region.waitsFor .any ops j q=true\/D j q=true->q∉s1) ->
  (∀q∈f,∀x∈s1++j::s2,q≠x/\Region.waitsFor .any ops q x=false)->Seq P ops N D Q (s1++j::s2) f a w ->
  if N j=true then ∃o,ops[j]?=some o/\o.guard=none/\o.wp P a w (fun c v=>(∀q∈f,D j q=false->zy P ops v c q)/\Seq P ops N D Q (s1++s2) f c v) noQ
  else stOp P ops w j (fun c=>Seq P ops N D Q (s1++s2) f c w) a
 | [],f,a,w,_,_,_,_,_,_,h=>by
  rw[nil_append]at h
  unfold Seq at h
  split
  ·rename_i hn;rw[if_pos hn]at h;exact h
  ·rename_i hn;rw[if_neg hn]at h
   exact stOp_mono (fun c hc=>hc.mono (fun q hq=>mem_cons_of_mem _ hq)) h
 | x::s1,f,a,w,hlt,hr,hfi,hE,hd,hf,h=>by
  have hjm:j∈s1++j::s2:=by simp
  have hx:=hr.1 j hjm
  have hxn:¬N x=true:=by rw[hfi x (by simp)];simp
  rw[cons_append]at h
  unfold Seq at h
  rw[if_neg hxn]at h
  obtain⟨ox,hox⟩:∃o,ops[x]?=some o:=⟨_,Array.getElem?_eq_getElem (hlt x (by simp))⟩
  obtain⟨oj,hoj⟩:∃o,ops[j]?=some o:=⟨_,Array.getElem?_eq_getElem (hlt j (by simp))⟩
  obtain⟨v,hy,h⟩:=yieldsAt_of_stOp hox h
  have hjx:Region.waitsFor .any ops j x=false:=by
   cases hw:Region.waitsFor .any ops j x with
   | false=>rfl
   | true=>exact(hd x (.inl hw) (by simp)).elim
  have hdx:D j x=false:=by
   cases hw:D j x with
   | false=>rfl
   | true=>exact(hd x (.inr hw) (by simp)).elim
  have hsel:=fun i o hi cs b=>Region.noSelect_spec H.sel i o cs b hi
  have a1:=H.away hox hoj hjx (.inl hx.2);have a2:=fun d hd=>H.dst x j ox oj d hx.1 hox hoj hd
  have a3:=H.away hoj hox hx.2 (.inl hjx)
  have hf':∀q∈x::f,∀y∈s1++j::s2,q≠y/\Region.waitsFor .any ops q y=false:=by
   intro q hq y hy;rcases mem_cons.1 hq with rfl|hq
   ·exact hr.1 y hy
   ·exact hf q hq y (mem_cons_of_mem _ hy)
  have ih:=Seq.move s1 (x::f) (a.put ox.dst v) w (fun i hi=>hlt i (mem_cons_of_mem _ hi)) hr.2 (fun y hy=>hfi y (mem_cons_of_mem _ hy)) (fun hn y hy=>hE hn y (mem_cons_of_mem _ hy)) (fun q hq hm=>hd q hq (mem_cons_of_mem _ hm)) hf' h;by_cases hn:N j=true
  ·rw[if_pos hn]at ih ⊢;obtain⟨o,ho,hg,ih⟩:=ih;obtain rfl:=Option.some.inj (hoj.symm.trans ho);refine⟨oj,ho,hg,Oper.wp_mono ?_ (KS (hsel j oj hoj) a1 a2 ih)⟩;rintro c u ⟨hst,hsq⟩;refine⟨fun q hq hdq=>?_,?_⟩
   ·obtain⟨oq,vq,hoq,hyq,hpq⟩:=hst q (mem_cons_of_mem _ hq) hdq;have:=hf q hq x (by simp);exact⟨oq,vq,hoq,(H.keep hox hoq this.2 (.inr (hE hn x (by simp)))).1 hyq,I8 (fun d hd=>H.dst x q ox oq d (Ne.symm this.1) hox hoq hd) hpq⟩
   ·obtain⟨o',v',ho',hy',hp'⟩:=hst x (by simp) hdx;obtain rfl:=Option.some.inj (hox.symm.trans ho');rw[cons_append];unfold Seq;rw[if_neg hxn];refine((H.keep hox hox (H.self x) (.inl (H.self x))).1 hy').stOp hox ?_
    have e:c.put ox.dst v'=c.put ox.dst v:=by
     have:(c.put ox.dst v).put ox.dst v'=c.put ox.dst v':=by cases ox.dst<;>simp[Act.put]
     rw[<- this];exact hp'
    rw[e];exact hsq
  ·rw[if_neg hn]at ih ⊢
   refine stOp_mono (fun c hc=>?_) (stOp_put hoj (by
    simp only[Oper.apart,Bool.and_eq_true];constructor
    ·cases hd:ox.dst with
     | none=>rfl
     | some d=>simp[a1 d hd,a2 d hd]
    ·cases hd:oj.dst with
     | none=>rfl
     | some d=>simp[a3 d hd]) (hsel x ox hox) (hsel j oj hoj) hy ih)
   rw[cons_append];unfold Seq;rw[if_neg hxn];exact hc.1.stOp hox hc.2
omit H
structure Un (ops:Array Oper) (L:Array Bool) (s:List Nat):Prop where
 un:∀i,L.getD i true=false↔i∈s
 lt:∀i∈s,i<ops.size
 sz:L.size=ops.size
 cl:∀i k,Region.waitsFor .any ops i k=true->i∉s->k∉s
theorem Un.congr{L:Array Bool}{s t:List Nat}(h:Un ops L s)(e:∀i,i∈s↔i∈t):Un ops L t :=
 ⟨fun i=>(h.un i).trans (e i),fun i hi=>h.lt i ((e i).2 hi),h.sz,fun i k hw hi hk=>h.cl i k hw (fun m=>hi ((e i).1 m)) ((e k).2 hk)⟩
include H
theorem Un.ready{L:Array Bool}{s:List Nat}(h:Un ops L s){j:Nat}(hj:j∈s)(hk:∀k,Region.waitsFor .any ops j k=true->k∉s):j∈Region.ready .any ops L:=by
 obtain⟨o,ho⟩:∃o,ops[j]?=some o:=⟨_,Array.getElem?_eq_getElem (h.lt j hj)⟩;refine mem_ready.2 ⟨(h.un j).2 hj,_,ho,fun e he hb=>?_⟩
 have hw:Region.waitsFor .any ops j e.on=true:=by
  unfold Region.waitsFor;rw[ho];exact Array.any_eq_true'.2 ⟨e,he,by simp[hb]⟩
 have h1:=hk e.on hw;have h2:=H.lt j e.on hw;have h3:=h.lt j hj;have h4:=h.sz
 cases hl:L.getD e.on false with
 | true=>rfl
 | false =>
  refine absurd ((h.un e.on).1 ?_) h1;simp only[Array.getD_eq_getD_getElem?,Array.getElem?_eq_getElem (show e.on<L.size by omega),Option.getD_some]at hl ⊢;exact hl
theorem Un.head{L:Array Bool}{x:Nat}{r:List Nat}(h:Un ops L (x::r))(hr:row (Far ops) (x::r)):Region.ready .any ops L≠[]:=fun h0=>by
 have:=h.ready H (j:=x) (by simp) (fun k hk hm=>by
  rcases mem_cons.1 hm with rfl|hm
  ·rw[H.self]at hk;cases hk
  ·rw[(hr.1 k hm).2]at hk;cases hk)
 rw[h0]at this;cases this
omit H
theorem Un.waits{L:Array Bool}{s:List Nat}(h:Un ops L s){j:Nat}(hj:j∈Region.ready .any ops L):j∈s/\∀k,Region.waitsFor .any ops j k=true->k∉s:=by
 obtain⟨hj1,oj,hoj,hj2⟩:=mem_ready.1 hj;refine⟨(h.un j).1 hj1,fun k hk hm=>?_⟩;obtain⟨o',ho',e,he,hb,rfl⟩:=Region.waitsFor_spec hk;obtain rfl:=Option.some.inj (hoj.symm.trans ho');have h1:=hj2 e he hb;have h2:=(h.un e.on).2 hm;have h3:=h.lt _ hm;have h4:=h.sz;simp only[Array.getD_eq_getD_getElem?,Array.getElem?_eq_getElem (show e.on<L.size by omega),Option.getD_some]at h1 h2;rw[h1]at h2;cases h2
theorem Un.step{L:Array Bool}{s1 s2:List Nat}{j:Nat}(h:Un ops L (s1++j::s2))(hr:row (Far ops) (s1++j::s2))(hw:∀k,Region.waitsFor .any ops j k=true->k∉s1++j::s2):Un ops (L.setIfInBounds j true) (s1++s2):=by
 have hnd:∀i,i∈s1++s2->i≠j:=by
  have:∀(s1:List Nat),row (Far ops) (s1++j::s2)->∀i,i∈s1++s2->i≠j:=by
   intro s1;induction s1 with
   | nil=>intro hr i hi he;exact(hr.1 i hi).1 he.symm
   | cons x s1 ih2 =>
    intro hr i hi;rcases mem_cons.1 hi with rfl|hi
    ·exact(hr.1 j (by simp)).1
    ·exact ih2 hr.2 i hi
  exact this s1 hr
 have hsub:∀i,i∈s1++s2->i∈s1++j::s2:=fun i hi=>by
  rcases mem_append.1 hi with hi|hi<;>simp[hi]
 refine⟨fun i=>?_,fun i hi=>h.lt i (hsub i hi),by simp[h.sz],fun i k hik hi hk=>?_⟩
 ·by_cases hij:j=i
  ·subst hij;have:j<L.size:=by rw[h.sz];exact h.lt j (by simp)
   exact⟨fun h=>by simp[this]at h,fun h=>absurd rfl (hnd j h)⟩
  ·rw[getD_set_ne true hij,h.un i];simp only[mem_append,mem_cons];exact⟨fun h=>by rcases h with h|h|h<;>simp_all,fun h=>by rcases h with h|h<;>simp[h]⟩
 ·by_cases hij:i=j
  ·subst hij;exact hw k hik (hsub k hk)
  ·exact h.cl i k hik (fun hm=>hi (by simp only[mem_append,mem_cons]at hm ⊢;rcases hm with h|h|h<;>simp_all)) (hsub k hk)
theorem K5{Q':Exit->Act->World->Prop}{j:Nat}{f:List Nat}{R:Act->World->Prop}{a:Act}{w:World}(hm:if N j=true then ∃o,ops[j]?=some o/\o.guard=none/\o.wp P a w (fun c v=>(∀q∈f,D j q=false->zy P ops v c q)/\R c v) noQ else stOp P ops w j (fun c=>R c w) a){K:Act->World->Prop}(nx:∀c v,R c v->K c v):wpOp P ops Q' j K a w:=by
 split at hm
 ·obtain⟨o,ho,hg,hm⟩:=hm;unfold wpOp;simp only[ho];rw[if_pos (by simp[Region.wanted,hg])];refine .inl ?_;unfold Oper.wp at *
  generalize (execOp a.eval o).run P w=r at *
  cases r with
  | ok n w' =>
   cases n<;>simp only[Oper.upon]at hm ⊢ <;>
    first
     | exact nx _ _ hm.2
     | exact Calls.mono hm (fun e w'' he=>by cases e<;>first|exact nx _ _ he.2|exact False.elim he|exact(show LetsOut noQ from he).elim fun _ h=>h.elim fun _ h=>False.elim h)
     | exact Rows.mono hm (fun _ _ he=>nx _ _ he.2)
  | halt x w'=>cases x<;>simp only[Oper.upon]at hm ⊢<;>exact hm.elim
 ·exact wpOp_of_stOp (fun c hc=>nx c w hc) hm
theorem yZ{t F:List Nat}{Z:Act->World->Prop}(hZ:∀a w,Z a w->Seq P ops N D Q t F a w):∀{q f g:List Nat} {a:Act} {w:World},(∀i∈q,N i=false)->(∀i,i∈q\/i∈f->i∈F)->Seq P ops N D Z q g a w->Seq P ops N D Q (q++t) f a w
 | [],f,g,a,w,_,hf,h=>(hZ a w h).mono (fun i hi=>hf i (.inr hi))
 | i::q,f,g,a,w,hq,hf,h=>by
  have hn:¬N i=true:=by rw[hq i (by simp)];simp
  rw[cons_append]
  unfold Seq at h ⊢
  rw[if_neg hn]at h ⊢
  exact stOp_mono (fun c hc=>yZ hZ (fun k hk=>hq k (by simp[hk])) (fun k hk=>hf k (hk.elim (fun hk=>.inl (mem_cons_of_mem _ hk)) (fun hk=>(mem_cons.1 hk).elim (fun e=>.inl (e ▸ mem_cons_self)) .inr))) hc) h
inductive Tree where
 | fin
 | one (i:Nat) (f q:List Nat) (t:Tree)
 | two (i:Nat) (f q:List Nat) (t:Tree) (j:Nat) (g r:List Nat) (u:Tree)
def G5(P:Program)(ops:Array Oper)(D:Nat->Nat->Bool)(i:Nat)(F:List Nat)(Z:Act->World->Prop)(a:Act)(w:World):Prop :=
 ∃o,ops[i]?=some o/\o.guard=none/\o.wp P a w (fun c v=>(∀q∈F,D i q=false->zy P ops v c q)/\Z c v) noQ
def Pre(P:Program)(ops:Array Oper)(N:Nat->Bool)(D:Nat->Nat->Bool)(Q:Act->World->Prop):Tree->List Nat->Act->World->Prop
 | .fin,_,a,w=>Q a w
 | .one i _ q t,F,a,w=>G5 P ops D i F (Seq P ops N D (Pre P ops N D Q t (q++F)) q F) a w
 | .two i _ q t j _ r u,F,a,w=>G5 P ops D i F (Seq P ops N D (Pre P ops N D Q t (q++F)) q F) a w/\G5 P ops D j F (Seq P ops N D (Pre P ops N D Q u (r++F)) r F) a w
def Tree.flat:Tree->List Nat
 | .fin=>[]
 | .one i _ q t=>i::(q++t.flat)
 | .two i _ q t _ _ _ _=>i::(q++t.flat)
def sM(_:Array Oper)(N:Nat->Bool)(E:Nat->Bool)(i:Nat)(q:List Nat)(t:Tree):Prop :=
 N i=true/\(∀x∈q,N x=false)/\((∀x∈q,E x=false)\/t=.fin)
def Tree.Ok(ops:Array Oper)(N E:Nat->Bool):Tree->Prop
 | .fin=>True
 | .one i _ q t=>sM ops N E i q t/\(∀k∈q++t.flat,∃m∈i::(q++t.flat),Region.waitsFor .any ops k m=true)/\t.Ok ops N E
 | .two i _ q t j _ r u=>sM ops N E i q t/\sM ops N E j r u/\(∀k∈i::(q++t.flat),k=i\/k=j\/∃m∈i::(q++t.flat),Region.waitsFor .any ops k m=true)/\(∀k,k∈i::(q++t.flat)↔k∈j::(r++u.flat))/\(i::(q++t.flat)).length=(j::(r++u.flat)).length/\t.Ok ops N E/\u.Ok ops N E
def Tree.Rows(ops:Array Oper):Tree->List Nat->Prop
 | .fin,U=>row (Far ops) U
 | .one i _ q t,U=>t.Rows ops (U++i::q)
 | .two i _ q t j _ r u,U=>t.Rows ops (U++i::q)/\u.Rows ops (U++j::r)
theorem Tree.Rows.cut:∀{t:Tree} {s1:List Nat} {j:Nat} {s2:List Nat},t.Rows ops (s1++j::s2)->t.Rows ops (s1++s2)
 | .fin,_,_,_,h=>row.cut h
 | .one i f q t,s1,j,s2,h=>by
  have h:t.Rows ops (s1++j::(s2++i::q)):=by simpa[Tree.Rows]using h
  have:=h.cut
  show t.Rows ops _
  rwa [append_assoc]
 | .two i f q t j' g r u,s1,j,s2,h=>by
  have h1:t.Rows ops (s1++j::(s2++i::q)):=by simpa using h.1
  have h2:u.Rows ops (s1++j::(s2++j'::r)):=by simpa using h.2
  refine⟨?_,?_⟩
  ·have:=h1.cut;rwa [append_assoc]
  ·have:=h2.cut;rwa [append_assoc]
theorem row.left{R:Nat->Nat->Prop}:∀{l r:List Nat},row R (l++r)->row R l
 | [],_,_=>trivial
 | _::_,_,h=>⟨fun k hk=>h.1 k (by simp[hk]),row.left h.2⟩
theorem Tree.Rows.flat:∀{t:Tree} {U:List Nat},t.Rows ops U->row (Far ops) (U++t.flat)
 | .fin,U,h=>by rw[Tree.flat,append_nil];exact h
 | .one i f q t,U,h=>by have:=Tree.Rows.flat (t:=t) h;simpa[Tree.flat]using this
 | .two i f q t j g r u,U,h=>by have:=Tree.Rows.flat (t:=t) h.1;simpa[Tree.flat]using this
theorem Tree.Rows.head1{t:Tree}{U q:List Nat}{i:Nat}(h:t.Rows ops (U++i::q)):row (Far ops) (U++[i]):=by
 have:=h.flat;have e:U++i::q++t.flat=(U++[i])++(q++t.flat):=by simp
 rw[e]at this;exact this.left
include H
theorem Ic{Q':Exit->Act->World->Prop}(hQ:∀a w,Q a w->Q' .normal a w):∀(n:Nat) (T:Tree) (U F:List Nat) (L:Array Bool) (a:Act) (w:World),(U++T.flat).length=n->Un ops L (U++T.flat)->(∀i∈U,N i=false/\i∈F)->((∀i∈U,E i=false)\/T=.fin) ->
  T.Ok ops N E->T.Rows ops U->Seq P ops N D (Pre P ops N D Q T F) U [] a w->wpAny P .any ops Q' n L a w:=by
 intro n;induction n with
 | zero =>
  intro T U F L a w hn hL _ _ _ _ h;rw[length_append]at hn;obtain rfl:U=[]:=length_eq_zero_iff.1 (by omega)
  have ht:T=.fin:=by
   cases T with
   | fin=>rfl
   | one=>simp[Tree.flat]at hn
   | two=>simp[Tree.flat]at hn
  subst ht;exact⟨eq_nil_iff_forall_not_mem.2 fun i hi=>(by have:=(hL.waits hi).1;simp[Tree.flat]at this),hQ _ _ h⟩
 | succ n ih =>
  intro T U F L a w hn hL hU hE hok hrw h;have hr:=hrw.flat;refine⟨fun h0=>?_,fun j hj=>?_⟩
  ·cases hs:U++T.flat with
   | nil=>rw[hs]at hn;cases hn
   | cons x r=>rw[hs]at hL hr;exact absurd h0 (hL.head H hr)
  ·obtain⟨hjs,hw⟩:=hL.waits hj;have hD:=H.ahead hL.cl j hw;rcases mem_append.1 hjs with hjq|hjT
   ·obtain⟨s1,s2,rfl⟩:=append_of_mem hjq;have hn1:¬N j=true:=by rw[(hU j hjq).1];simp
    have hm:=Seq.move H s1 [] a w (fun i hi=>hL.lt i (by simp only[mem_append]at hi ⊢;exact .inl hi)) hr.left (fun x hx=>(hU x (by simp[hx])).1) (fun hn=>absurd hn hn1) (fun k hk hk1=>by
     rcases hk with hk|hk
     ·exact hw k hk (by simp[hk1])
     ·exact hD k hk (by simp[hk1])) (fun _ h=>(nomatch h)) h
    have e:s1++j::s2++T.flat=s1++j::(s2++T.flat):=by simp
    rw[e]at hL hr hw hn
    refine K5 hm fun c v hs=>ih T (s1++s2) F _ c v (by simp at hn ⊢;omega) (by rw[append_assoc];exact hL.step hr hw) (fun i hi=>hU i (by rcases mem_append.1 hi with hi|hi<;>simp[hi]))
     (hE.imp (fun h i hi=>h i (by rcases mem_append.1 hi with hi|hi<;>simp[hi])) id) hok hrw.cut hs
   ·have branch:∀{i:Nat} {q:List Nat} {t:Tree},i=j->(∀k,k∈U++T.flat↔k∈U++i::(q++t.flat))->(U++T.flat).length=(U++i::(q++t.flat)).length->sM ops N E i q t->(∀x∈U,E x=false)->t.Ok ops N E->t.Rows ops (U++i::q) ->
      (∀a w,Pre P ops N D Q T F a w->G5 P ops D i F (Seq P ops N D (Pre P ops N D Q t (q++F)) q F) a w)->wpOp P ops Q' j (wpAny P .any ops Q' n (L.setIfInBounds j true)) a w:=by
     intro i q t hij hmem hlen hb hEU hokt hrt hpre;subst hij
     have h1:Seq P ops N D (Seq P ops N D (Pre P ops N D Q t (q++F)) q F) (U++[i]) [] a w:=yZ (t:=[i]) (F:=F) (fun a w hz=>by
      obtain⟨o,h1,h2,h3⟩:=hpre a w hz;unfold Seq;rw[if_pos hb.1];exact⟨o,h1,h2,h3⟩) (fun x hx=>(hU x hx).1) (fun x hx=>hx.elim (fun hx=>(hU x hx).2) (fun hx=>nomatch hx)) h
     have hm:=Seq.move H U [] a w (fun x hx=>hL.lt x ((hmem x).2 (by simp only[mem_append,mem_cons,not_mem_nil,or_false]at hx ⊢;rcases hx with hx|hx<;>simp[hx]))) hrt.head1 (fun x hx=>(hU x hx).1) (fun _=>hEU) (fun k hk hk1=>by
      rcases hk with hk|hk
      ·exact hw k hk (by simp[hk1])
      ·exact hD k hk (by simp[hk1])) (fun _ h=>(nomatch h)) h1
     have hr2:=hrt.flat;have e2:U++i::q++t.flat=U++i::(q++t.flat):=by simp
     rw[e2]at hr2;have hst:=(hL.congr hmem).step hr2 (fun k hk hm=>hw k hk ((hmem k).2 hm));refine K5 hm fun c v hs=>ih t (U++q) (q++F) _ c v (by rw[hlen]at hn;simp at hn ⊢;omega) (by rw[append_assoc];exact hst) (fun x hx=>?_) ?_ hokt hrt.cut ?_
     ·rcases mem_append.1 hx with hx|hx
      ·exact⟨(hU x hx).1,by simp[(hU x hx).2]⟩
      ·exact⟨hb.2.1 x hx,by simp[hx]⟩
     ·refine hb.2.2.imp (fun h x hx=>?_) id;rcases mem_append.1 hx with hx|hx
      ·exact hEU x hx
      ·exact h x hx
     ·rw[append_nil]at hs;exact yZ (t:=q) (F:=F) (fun a w hz=>hz) (fun x hx=>(hU x hx).1) (fun x hx=>hx.elim (fun hx=>(hU x hx).2) (fun hx=>nomatch hx)) hs
    cases T with
    | fin=>cases hjT
    | one i f q t =>
     have hEU:=hE.resolve_right (by simp);rcases mem_cons.1 hjT with rfl|hj2
     ·exact branch rfl (fun _=>Iff.rfl) rfl hok.1 hEU hok.2.2 hrw (fun _ _ h=>h)
     ·obtain⟨m,hm1,hm2⟩:=hok.2.1 j hj2;exact absurd (mem_append_right U hm1) (hw m hm2)
    | two i f q t i2 g r u =>
     have hEU:=hE.resolve_right (by simp);obtain⟨b1,b2,hh,hmem,hlen,o1,o2⟩:=hok;rcases hh j hjT with rfl|rfl|⟨m,hm1,hm2⟩
     ·exact branch rfl (fun _=>Iff.rfl) rfl b1 hEU o1 hrw.1 (fun _ _ h=>h.1)
     ·exact branch rfl (fun k=>by simp only[mem_append];exact or_congr Iff.rfl (hmem k)) (by rw[length_append,length_append];exact congrArg _ hlen) b2 hEU o2 hrw.2 (fun _ _ h=>h.2)
     ·exact absurd (mem_append_right U hm1) (hw m hm2)
omit H
def nth(l:List Oper)(i:Nat):Oper:=l.getD i default
def waits(ops:Array Oper)(n:Nat):List Nat:=(range n).map fun i=>(range i).foldl (fun m k=>if Region.waitsFor .any ops i k then m ||| (1 <<< k)else m) 0
def bit(t:List Nat)(i k:Nat):Bool:=(t.getD i 0).testBit k
def J9(ws:List Nat)(n:Nat):List Nat:=(range n).foldl (fun t i=>t++[(range i).foldl (fun m k=>if bit ws i k then m ||| t.getD k 0 else m) (ws.getD i 0)]) []
def Kr(ops:Array Oper)(i k:Nat):Bool:=decide (i<ops.size)&&decide (k<ops.size)&&bit (J9 (waits ops ops.size) ops.size) i k
def okB(ops:Array Oper)(D:Nat->Nat->Bool)(E:Nat->Bool):Bool :=
 Region.noSelect ops&&(range ops.size).all fun k=>match ops[k]? with
  | none=>true
  | some ok=>(ok.after.all fun e => !Region.binds .any e || decide (e.on<k))&&(range ops.size).all fun i=>match ops[i]? with
   | none=>true
   | some oi=>(match oi.dst with|none=>true|some d=>(i==k || ok.dst != some d)&&(!(ok.looksAt ops).contains d || (Region.waitsFor .any ops k i || (Region.waitsFor .any ops i k&&E i)))) &&
     (!D k i || (range k).any fun m=>Region.waitsFor .any ops k m&&(m==i || D m i))
def KC(ops:Array Oper):List Nat->Bool
 | []=>true
 | x::r=>(r.all fun j=>x != j && !Region.waitsFor .any ops x j)&&KC ops r
def yI:List Nat->Bool
 | []=>true
 | x::r => !r.contains x&&yI r
def Tree.noisy:Tree->List Nat
 | .fin=>[]
 | .one i _ _ t=>i::t.noisy
 | .two i _ _ t _ _ _ _=>i::t.noisy
def Tree.last:Tree->List Nat->List Nat
 | .fin,q=>q
 | .one _ _ q t,_=>t.last q
 | .two _ _ q t _ _ r u,_=>t.last q++u.last r
def Tree.isFin:Tree->Bool
 | .fin=>true
 | _=>false
section
variable (l:List Oper) (D:Nat->Nat->Bool) (N E:Nat->Bool)
def nL(i:Nat)(f q:List Nat)(t:Tree)(F:List Nat):Bool :=
 N i&&decide (i<l.length)&&(nth l i).guard.isNone&&yI f&&(f.all fun x=>decide (x<l.length))&&(F.all fun x=>D i x || f.contains x)&&(q.all fun x => !N x&&decide (x<l.length))&&((q.all fun x => !E x) || t.isFin)
def oK:Tree->List Nat->Bool
 | .fin,_=>true
 | .one i f q t,F=>nL l D N E i f q t F&&((q++t.flat).all fun k=>(i::(q++t.flat)).any fun m=>Region.waitsFor .any l.toArray k m)&&oK t (q++F)
 | .two i f q t j g r u,F=>nL l D N E i f q t F&&nL l D N E j g r u F&&((i::(q++t.flat)).all fun k=>k==i || (k==j || (i::(q++t.flat)).any fun m=>Region.waitsFor .any l.toArray k m)) &&
   ((i::(q++t.flat)).all fun k=>(j::(r++u.flat)).contains k)&&((j::(r++u.flat)).all fun k=>(i::(q++t.flat)).contains k)&&((i::(q++t.flat)).length==(j::(r++u.flat)).length)&&oK t (q++F)&&oK u (r++F)
end
def xw(ops:Array Oper):Tree->List Nat->Bool
 | .fin,U=>KC ops U
 | .one i _ q t,U=>xw ops t (U++i::q)
 | .two i _ q t j _ r u,U=>xw ops t (U++i::q)&&xw ops u (U++j::r)
def IU(l:List Oper)(q:List Nat)(T:Tree):Bool :=
 let D:=Kr l.toArray
 let N:=fun i=>T.noisy.contains i
 let E:=fun i=>(T.last q).contains i
 okB l.toArray D E&&oK l D N E T q&&xw l.toArray T q&&(q.all fun x => !N x&&decide (x<l.length))&&((q.all fun x => !E x) || T.isFin)&&((q++T.flat).all fun i=>decide (i<l.length))&&((q++T.flat).length==l.length)&&(range l.length).all fun i=>(q++T.flat).contains i
theorem A8:∀{l:List Nat},yI l=true->l.Nodup
 | [],_=>nodup_nil
 | x::r,h=>by
  simp only[yI,Bool.and_eq_true,Bool.not_eq_true',contains_eq_mem,decide_eq_false_iff_not]at h
  exact nodup_cons.2 ⟨h.1,A8 h.2⟩
theorem lY{l:List Oper}{i:Nat}(h:i<l.length):l.toArray[i]?=some (nth l i):=by simp[nth,h]
theorem wu{n:Nat}{p:Nat->Bool}(h:(range n).all p=true){i:Nat}(hi:i<n):p i=true:=all_eq_true.1 h i (mem_range.2 hi)
theorem LU{D:Nat->Nat->Bool}{E:Nat->Bool}(h:okB ops D E=true)(hD:∀i q,D i q=true->i<ops.size/\q<ops.size):MixOk ops D E:=by
 simp only[okB,Bool.and_eq_true]at h
 have H:∀{k i:Nat} {ok oi:Oper},ops[k]?=some ok->ops[i]?=some oi->_:=fun {k i ok oi} hk hi=>by
  have h1:=wu h.2 (Array.getElem?_eq_some_iff.1 hk).1;rw[hk]at h1;simp only[Bool.and_eq_true]at h1;have h2:=wu h1.2 (Array.getElem?_eq_some_iff.1 hi).1;rw[hi]at h2;simp only[Bool.and_eq_true]at h2;exact And.intro h1.1 h2
 refine⟨h.1,fun i k hw=>?_,fun i k oi ok d hne hi hk hd=>?_,fun i k oi ok d hi hk hd hm=>?_,fun i q hq=>?_⟩
 ·obtain⟨oi,hoi,e,he,hb,rfl⟩:=Region.waitsFor_spec hw;have:=Array.all_eq_true_iff_forall_mem.1 (H hoi hoi).1 e he;simpa[hb]using this
 ·have:=(H hk hi).2.1;simp only[hd,Bool.and_eq_true,Bool.or_eq_true,beq_iff_eq,bne_iff_ne]at this;exact this.1.resolve_left hne
 ·have:=(H hk hi).2.1;simp only[hd,Bool.and_eq_true,Bool.or_eq_true,Bool.not_eq_true',contains_eq_mem,decide_eq_false_iff_not]at this;exact this.2.resolve_left (fun h=>h hm)
 ·obtain⟨h1,h2⟩:=hD i q hq;have:=(H (Array.getElem?_eq_getElem h1) (Array.getElem?_eq_getElem h2)).2.2;rw[hq]at this;simp only[Bool.not_true,Bool.false_or,any_eq_true,Bool.and_eq_true,Bool.or_eq_true,beq_iff_eq]at this;obtain⟨m,-,hw,hm⟩:=this;exact⟨m,hw,hm⟩
theorem Jg:∀{s:List Nat},KC ops s=true->row (Far ops) s
 | [],_=>trivial
 | x::r,h=>by
  simp only[KC,Bool.and_eq_true,all_eq_true,bne_iff_ne,Bool.not_eq_true']at h
  exact⟨fun j hj=>h.1 j hj,Jg h.2⟩
theorem sH:∀{T:Tree} {U:List Nat},xw ops T U=true->T.Rows ops U
 | .fin,_,h=>Jg h
 | .one _ _ _ t,_,h=>sH (T:=t) h
 | .two _ _ _ t _ _ _ u,_,h=>by
  simp only[xw,Bool.and_eq_true]at h
  exact⟨sH (T:=t) h.1,sH (T:=u) h.2⟩
theorem AQ{t:Tree}(h:t.isFin=true):t=.fin:=by cases t<;>simp[Tree.isFin]at h ⊢
end
section
variable {P:Program} {l:List Oper} {N:Nat->Bool} {D:Nat->Nat->Bool} {E:Nat->Bool} {Q:Act->World->Prop} {w:World}
theorem nM{i:Nat}{f q F:List Nat}{t:Tree}(h:nL l D N E i f q t F=true):sM l.toArray N E i q t/\i<l.length/\(nth l i).guard=none/\f.Nodup/\(∀x∈f,x<l.length)/\(∀x∈F,D i x=false->x∈f)/\∀x∈q,N x=false/\x<l.length:=by
 simp only[nL,Bool.and_eq_true,Bool.or_eq_true,all_eq_true,decide_eq_true_eq,Bool.not_eq_true',Option.isNone_iff_eq_none,contains_eq_mem]at h;obtain⟨⟨⟨⟨⟨⟨⟨h1,h2⟩,h3⟩,h4⟩,h5⟩,h6⟩,h7⟩,h8⟩:=h;exact⟨⟨h1,fun x hx=>(h7 x hx).1,h8.imp id AQ⟩,h2,h3,A8 h4,h5,fun x hx hd=>(h6 x hx).resolve_left (by rw[hd];simp),h7⟩
theorem sJ:∀{T:Tree} {F:List Nat},oK l D N E T F=true->T.Ok l.toArray N E
 | .fin,_,_=>trivial
 | .one i f q t,F,h=>by
  simp only[oK,Bool.and_eq_true,all_eq_true,any_eq_true]at h
  exact⟨(nM h.1.1).1,h.1.2,sJ h.2⟩
 | .two i f q t j g r u,F,h=>by
  simp only[oK,Bool.and_eq_true]at h
  obtain⟨⟨⟨⟨⟨⟨⟨h1,h2⟩,h3⟩,h4⟩,h5⟩,h6⟩,h7⟩,h8⟩:=h
  simp only[all_eq_true,any_eq_true,Bool.or_eq_true,beq_iff_eq,contains_iff_mem]at h3 h4 h5 h6
  exact⟨(nM h1).1,(nM h2).1,h3,fun k=>⟨h4 k,h5 k⟩,h6,sJ h7,sJ h8⟩
theorem qB{K K':Act->Prop}(hk:∀a,K a->K' a):∀{s:List Oper} {a:Act},wpStill P l.toArray w K s a->wpStill P l.toArray w K' s a
 | [],_,h=>hk _ h
 | o::s,a,h=>by
  unfold wpStill at h ⊢
  split
  ·rename_i hw;rw[if_pos hw]at h;exact Oper.still_mono (fun _=>qB hk) h
  ·rename_i hw;rw[if_neg hw]at h;exact qB hk h
theorem rp{r:List Nat}:∀{q f:List Nat} {a:Act},(∀i∈q,N i=false/\i<l.length)->wpStill P l.toArray w (fun b=>Seq P l.toArray N D Q r (q.reverse++f) b w) (q.map (nth l)) a->Seq P l.toArray N D Q (q++r) f a w
 | [],f,a,_,h=>h
 | i::q,f,a,hq,h=>by
  have hi:=hq i (by simp)
  rw[cons_append]
  unfold Seq
  rw[if_neg (by rw[hi.1];simp)]
  unfold stOp
  rw[lY hi.2]
  have h2:wpStill P l.toArray w (fun b=>Seq P l.toArray N D Q r (q.reverse++(i::f)) b w) (nth l i::q.map (nth l)) a:=by
   simpa using h
  have nx:∀c,wpStill P l.toArray w (fun b=>Seq P l.toArray N D Q r (q.reverse++(i::f)) b w) (q.map (nth l)) c->Seq P l.toArray N D Q (q++r) (i::f) c w :=
   fun c hc=>rp (fun i hi=>hq i (by simp[hi])) hc
  unfold wpStill at h2;simp only;split
  ·rename_i hw;rw[if_pos hw]at h2;exact Oper.still_mono nx h2
  ·rename_i hw;rw[if_neg hw]at h2;exact nx _ h2
theorem uQ{c:Act}:∀{q:List Nat} {b:Act},(∀i∈q,i<l.length)->wpStill P l.toArray w (fun d=>d=c) (q.map (nth l)) b->b.defers=c.defers/\∀t,(∀k∈q,(nth l k).dst≠some t)->b.tmps[t]?=c.tmps[t]?
 | [],b,_,h=>by
  have:b=c:=h
  subst this;exact⟨rfl,fun _ _=>rfl⟩
 | i::q,b,hq,h=>by
  have hs:stOp P l.toArray w i (wpStill P l.toArray w (fun d=>d=c) (q.map (nth l))) b:=by unfold stOp;rw[lY (hq i (by simp))];exact h
  obtain⟨v,-,h2⟩:=yieldsAt_of_stOp (lY (hq i (by simp))) hs
  obtain⟨e1,e2⟩:=uQ (fun i hi=>hq i (by simp[hi])) h2
  refine⟨?_,fun t ht=>?_⟩
  ·rw[<- e1];cases (nth l i).dst<;>rfl
  ·rw[<- e2 t (fun k hk=>ht k (by simp[hk]))]
   cases hd:(nth l i).dst with
   | none=>rfl
   | some d=>simp only[Act.put];rw[Array.getElem?_setIfInBounds_ne (fun e=>ht i (by simp) (by rw[hd,e]))]
theorem xj(hd:∀i k t,i≠k->i<l.length->k<l.length->(nth l i).dst=some t->(nth l k).dst≠some t){c:Act}:∀{q:List Nat},q.Nodup->(∀i∈q,i<l.length)->wpStill P l.toArray w (fun d=>d=c) (q.map (nth l)) c->∀i∈q,zy P l.toArray w c i
 | [],_,_,_,i,hi=>nomatch hi
 | x::q,hn,hq,h,i,hi=>by
  have hx:=hq x (by simp)
  have hq':=fun i hi=>hq i (mem_cons_of_mem x hi)
  have hs:stOp P l.toArray w x (wpStill P l.toArray w (fun d=>d=c) (q.map (nth l))) c:=by unfold stOp;rw[lY hx];exact h
  obtain⟨v,hy,h2⟩:=yieldsAt_of_stOp (lY hx) hs
  have e:c.put (nth l x).dst v=c:=by
   obtain⟨e1,e2⟩:=uQ hq' h2
   cases ht:(nth l x).dst with
   | none=>rfl
   | some t =>
    rw[ht]at e1 e2;have:=e2 t (fun k hk hk2=>hd x k t (fun e=>(nodup_cons.1 hn).1 (e ▸ hk)) hx (hq' k hk) ht hk2);obtain⟨tm,df⟩:=c;simp only[Act.put,Act.mk.injEq,and_true]at this ⊢;refine Array.ext_getElem? fun k=>?_
    by_cases hk:t=k
    ·subst hk;exact this
    ·rw[Array.getElem?_setIfInBounds_ne hk]
  rcases mem_cons.1 hi with rfl|hi
  ·exact⟨_,v,lY hx,hy,e⟩
  ·rw[e]at h2;exact xj hd (nodup_cons.1 hn).2 hq' h2 i hi
def sS(P:Program)(l:List Oper)(Q:Act->World->Prop):Tree->Act->World->Prop
 | .fin,a,w=>Q a w
 | .one i f q t,a,w=>(nth l i).wp P a w (fun c v=>wpStill P l.toArray v (fun d=>d=c) (f.map (nth l)) c/\wpStill P l.toArray v (fun b=>sS P l Q t b v) (q.map (nth l)) c) noQ
 | .two i f q t j g r u,a,w=>(nth l i).wp P a w (fun c v=>wpStill P l.toArray v (fun d=>d=c) (f.map (nth l)) c/\wpStill P l.toArray v (fun b=>sS P l Q t b v) (q.map (nth l)) c) noQ /\
   (nth l j).wp P a w (fun c v=>wpStill P l.toArray v (fun d=>d=c) (g.map (nth l)) c/\wpStill P l.toArray v (fun b=>sS P l Q u b v) (r.map (nth l)) c) noQ
theorem IV(hd:∀i k t,i≠k->i<l.length->k<l.length->(nth l i).dst=some t->(nth l k).dst≠some t):∀{T:Tree} {F:List Nat} {a:Act} {w:World},oK l D N E T F=true->sS P l Q T a w->Pre P l.toArray N D Q T F a w:=by
 have one:∀{i:Nat} {f q F:List Nat} {t:Tree} {a:Act} {w:World} {Z:Act->World->Prop},nL l D N E i f q t F=true->(∀a w,sS P l Q t a w->Z a w) ->
   (nth l i).wp P a w (fun c v=>wpStill P l.toArray v (fun d=>d=c) (f.map (nth l)) c/\wpStill P l.toArray v (fun b=>sS P l Q t b v) (q.map (nth l)) c) noQ->G5 P l.toArray D i F (Seq P l.toArray N D Z q F) a w:=by
  intro i f q F t a w Z hb hZ h;obtain⟨-,h1,h2,h3,h4,h5,h6⟩:=nM hb;refine⟨_,lY h1,h2,Oper.wp_mono (fun c v hc=>⟨fun x hx hdx=>xj hd h3 h4 hc.1 x (h5 x hx hdx),?_⟩) h⟩;have:=rp (P:=P) (N:=N) (D:=D) (Q:=Z) (r:=[]) (q:=q) (f:=F) (a:=c) (w:=v) h6 (qB (fun b hb=>hZ b v hb) hc.2);rwa [append_nil]at this
 intro T;induction T with
 | fin=>intro F a w _ h;exact h
 | one i f q t ih =>
  intro F a w hB h;simp only[oK,Bool.and_eq_true]at hB;exact one hB.1.1 (fun a w=>ih hB.2) h
 | two i f q t j g r u ih1 ih2 =>
  intro F a w hB h;simp only[oK,Bool.and_eq_true]at hB;exact⟨one hB.1.1.1.1.1.1.1 (fun a w=>ih1 hB.1.2) h.1,one hB.1.1.1.1.1.1.2 (fun a w=>ih2 hB.2) h.2⟩
theorem Er{Q':Exit->Act->World->Prop}(q:List Nat)(T:Tree)(hB:IU l q T=true){a:Act}(h:wpStill P l.toArray w (fun b=>sS P l (fun a w=>Q' .normal a w) T b w) (q.map (nth l)) a):
  wpAny P .any l.toArray Q' l.toArray.size (Array.replicate l.toArray.size false) a w:=by
 simp only[IU,Bool.and_eq_true]at hB;obtain⟨⟨⟨⟨⟨⟨⟨h1,h2⟩,h3⟩,h4⟩,h5⟩,h6⟩,h7⟩,h8⟩:=hB;simp only[all_eq_true,decide_eq_true_eq,beq_iff_eq,Bool.not_eq_true',Bool.or_eq_true,Bool.and_eq_true,contains_iff_mem]at h4 h5 h6 h7 h8;have H:=LU h1 (fun i q h=>by simp only[Kr,Bool.and_eq_true,decide_eq_true_eq]at h;exact h.1)
 have hs:=rp (P:=P) (l:=l) (w:=w) (N:=fun i=>T.noisy.contains i) (D:=Kr l.toArray) (Q:=Pre P l.toArray (fun i=>T.noisy.contains i) (Kr l.toArray) (fun a w=>Q' .normal a w) T q) (r:=[]) (q:=q) (f:=[]) (a:=a) h4
  (qB (fun b hb=>IV (fun i k t hne hi hk hd=>H.dst i k _ _ t hne (lY hi) (lY hk) hd) h2 hb) h)
 rw[append_nil]at hs;refine Ic H (Q:=fun a w=>Q' .normal a w) (fun _ _ h=>h) _ T q q _ a w (by rw[size_toArray];exact h7) ⟨fun i=>?_,by simpa using h6,by simp,fun i k hw hi hk=>hi (h8 i (mem_range.2 ?_))⟩ (fun i hi=>⟨(h4 i hi).1,hi⟩) (h5.imp id AQ) (sJ h2) (sH h3) hs
 ·rcases Nat.lt_or_ge i l.length with hi|hi
  ·have:=h8 i (mem_range.2 hi);simp[hi,mem_append.1 this]
  ·have:¬i∈q++T.flat:=fun hm=>Nat.not_lt.2 hi (h6 i hm)
   rw[mem_append]at this;simp[Nat.not_lt.2 hi,this]
 ·obtain⟨o,ho,_⟩:=Region.waitsFor_spec hw;simpa using(Array.getElem?_eq_some_iff.1 ho).1
theorem zj{id:Nat}{Q:Exit->Act->World->Prop}{a:Act}(q:List Nat)(T:Tree)(hm:P.follows .mixedOrders=true)(hB:IU l q T=true)(h:∀W,(∀{F G:HF} {b:World},Turns F G b w->Turns F G b W)->wpStill P l.toArray W (fun b=>sS P l (fun a w=>Q .normal a w) T b W) (q.map (nth l)) a):(Code.region id l.toArray true).wp P Q a w :=
 wp_region_any hm (Er q T hB (h _ fun h=>h.drew))
def Mix(P:Program)(l:List Oper)(Q:Act->World->Prop):List (List Nat×Nat×List Nat)->List Nat->Act->World->Prop
 | [],e,a,w=>wpStill P l.toArray w (fun b=>Q b w) (e.map (nth l)) a
 | (q,i,f)::r,e,a,w=>wpStill P l.toArray w (fun b=>(nth l i).wp P b w (fun c v=>wpStill P l.toArray v (fun d=>d=c) (f.map (nth l)) c/\Mix P l Q r e c v) noQ) (q.map (nth l)) a
def lin:List (List Nat×Nat×List Nat)->List Nat->List Nat×Tree
 | [],e=>(e,.fin)
 | (q,i,f)::r,e=>(q,.one i f (lin r e).1 (lin r e).2)
theorem yH:∀{pl:List (List Nat×Nat×List Nat)} {e:List Nat} {a:Act} {w:World},Mix P l Q pl e a w->wpStill P l.toArray w (fun b=>sS P l Q (lin pl e).2 b w) ((lin pl e).1.map (nth l)) a
 | [],_,_,_,h=>h
 | (_,_,_)::_,_,_,_,h=>qB (fun _ hb=>Oper.wp_mono (fun _ _ hc=>⟨hc.1,yH hc.2⟩) hb) h
theorem db{id:Nat}{Q:Exit->Act->World->Prop}{a:Act}(pl:List (List Nat×Nat×List Nat))(e:List Nat)(hm:P.follows .mixedOrders=true)(hB:IU l (lin pl e).1 (lin pl e).2=true)(h:∀W,(∀{F G:HF} {b:World},Turns F G b w->Turns F G b W)->Mix P l (fun a w=>Q .normal a w) pl e a W):(Code.region id l.toArray true).wp P Q a w :=
 zj _ _ hm hB fun W tW=>yH (h W tW)
theorem sL{ops:Array Oper}{Q:Act->Prop}{o:Oper}{r:List Oper}{a:Act}{v:Value}(hg:Region.wanted o (yielded ops a.tmps)=true)(h:(execOp a.eval o).run P w=.ok (.value v) w)(hk:wpStill P ops w Q r (a.put o.dst v)):wpStill P ops w Q (o::r) a:=by
 unfold wpStill;rw[if_pos hg];unfold Oper.still;rw[h];exact⟨rfl,hk⟩
theorem eG{ops:Array Oper}{Q:Act->Prop}{o:Oper}{r:List Oper}{a:Act}{v:Value}(hg:o.guard=none)(h:(execOp a.eval o).run P w=.ok (.value v) w)(hk:wpStill P ops w Q r (a.put o.dst v)):wpStill P ops w Q (o::r) a :=
 sL (by simp[Region.wanted,hg]) h hk
end
end
section
open Go.RowKit
def nS(o:Oper):Bool:=match o.op with|.defer _=>false|_=>true
theorem Ab{l n:Nat}{P:Program}{f:FuncId}{args:Array Value}{w:World}{R:Ending->World->Prop}(h:Calls P f args w R):CallsIn (Fence.wide.inRound l) n P f args w R :=
 ⟨trivial,fun cs _=>(callsIn_wide (n:=n).2 h).2 cs (room_wide _)⟩
theorem KE{l n:Nat}{P:Program}{r:String}{args:Array Value}{w:World}{R:Value->World->Prop}(h:Rows P r args w R):RowsIn (Fence.wide.inRound l) n P r args w R :=
 fun c cs _=>let ⟨v,w',r,s⟩:=h c cs;⟨v,w',r,stepsIn_wide.2 s⟩
theorem EN{l n:Nat}{P:Program}{o:Oper}{a:Act}{w:World}{K:Act->World->Prop}{Q:Exit->Act->World->Prop}(hd:nS o=true)(h:o.wp P a w K Q):o.wpIn (Fence.wide.inRound l) n P a w K Q:=by
 refine⟨fun _ _=>trivial,?_⟩;have e:Oper.semAt (Fence.wide.inRound l).round a.eval o=execOp a.eval o:=Oper.semAt_eq _ _ _ (fun c hc=>by simp[nS,hc]at hd);rw[e];unfold Oper.wp at h;generalize (execOp a.eval o).run P w=r at h ⊢;have hdp:(Fence.wide.inRound l).depth.isSome=true->1<=n:=fun hx=>by simp[Fence.wide]at hx
 cases r with
 | ok x w' =>
  cases x with
  | enter f args=>exact⟨hdp,(Ab h).mono (fun e w'' he=>by cases e<;>exact he)⟩
  | row r args=>exact⟨hdp,(KE h).mono (fun _ _ he=>he)⟩
  | value v=>exact h
  | skip=>exact h
  | defer d=>exact h
  | _=>exact h.elim
 | halt x w' =>
  cases x with
  | panic v=>exact h
  | _=>exact h.elim
theorem nz{l n:Nat}{P:Program}{ops:Array Oper}{rest:List Oper}{o:Oper}{a:Act}{w:World}{Q:Exit->Act->World->Prop}(hg:o.guard=none)(hd:nS o=true)(h:o.wp P a w (wpListIn (Fence.wide.inRound l) n P ops Q rest) Q):
  wpListIn (Fence.wide.inRound l) n P ops Q (o::rest) a w:=wpListIn_plain hg fun _ hK=>Oper.wpIn_mono hK (EN hd h)
theorem Jv{l n:Nat}{P:Program}{md:Region.Mode}{ops:Array Oper}{Q:Exit->Act->World->Prop}(hn:ops.all nS=true)(hQ:¬LetsOut Q):
  ∀(fuel:Nat) (listed:Array Bool) (a:Act) (w:World),wpAny P md ops Q fuel listed a w->wpAnyIn (Fence.wide.inRound l) n P md ops Q fuel listed a w:=by
 intro fuel;induction fuel with
 | zero=>exact fun _ _ _ h=>h
 | succ fuel ih =>
  intro listed a w h;refine⟨h.1,fun i hi=>?_⟩;have h2:=h.2 i hi;unfold wpOp at h2;unfold wpOpIn
  cases ho:ops[i]? with
  | none=>rw[ho]at h2;exact ih _ _ _ h2
  | some o =>
   rw[ho]at h2;simp only at h2 ⊢
   have hd:nS o=true:=by
    obtain⟨hlt,rfl⟩:=Array.getElem?_eq_some_iff.1 ho;exact Array.all_eq_true.1 hn i hlt
   split
   ·rename_i hw;rw[if_pos hw]at h2;rcases h2 with h2|⟨_,h2⟩
    ·exact Oper.wpIn_mono (fun a w h=>ih _ _ _ h) (EN hd h2)
    ·exact absurd h2 hQ
   ·rename_i hw;rw[if_neg hw]at h2;exact⟨fun _ _=>trivial,ih _ _ _ h2⟩
theorem vi{b n id:Nat}{P:Program}{l:List Oper}{Q:Exit->Act->World->Prop}{a:Act}{w:World}(pl:List (List Nat×Nat×List Nat))(e:List Nat)(hm:P.follows .mixedOrders=true)(hn:l.toArray.all nS=true)(hQ:¬LetsOut Q)(hB:IU l (lin pl e).1 (lin pl e).2=true)(h:∀W,(∀{F G:HF} {b:World},Turns F G b w->Turns F G b W)->Mix P l (fun a w=>Q .normal a w) pl e a W):(Code.region id l.toArray true).wpIn (Fence.wide.inRound b) n P Q a w :=
 wpIn_region_any hm (Jv hn hQ _ _ _ _ (Er _ _ hB (yH (h _ fun h=>h.drew))))
end
section
abbrev Bs:=List UInt8
def ym(c:Nat):Nat:=(c / 2) ^^^ (c%2*3988292384)
def gR:Nat->Nat->Nat
 | 0,c=>c
 | n+1,c=>gR n (ym c)
def io(c:Nat)(x:UInt8):Nat:=gR 8 (c ^^^ x.toNat)
def ip(c:Nat)(b:Bs):Nat:=b.foldl io c
def dq(k:UInt8)(b:Bs):Nat:=4294967295 ^^^ ip (io 4294967295 k) b
theorem nD{a b:Nat}(ha:a<4294967296)(hb:b<4294967296):a ^^^ b<4294967296:=Nat.xor_lt_two_pow (n:=32) ha hb
theorem FH{c:Nat}(h:c<4294967296):ym c<4294967296:=by
 unfold ym;refine nD (by omega) ?_;have:c%2<2:=Nat.mod_lt _ (by omega);have h2:c%2*3988292384<=1*3988292384:=Nat.mul_le_mul_right _ (by omega);omega
theorem tJ(n:Nat):∀{c:Nat},c<4294967296->gR n c<4294967296:=by
 induction n with
 | zero=>intro c h;exact h
 | succ n ih=>intro c h;exact ih (FH h)
theorem vC(n:Nat):∀c,gR (n+1) c=ym (gR n c):=by
 induction n with
 | zero=>intro c;rfl
 | succ n ih=>intro c;rw[gR,ih];rfl
theorem ze(x:UInt8):x.toNat<4294967296:=by have:=UInt8.toNat_lt x;omega
theorem lO{c:Nat}(h:c<4294967296)(x:UInt8):io c x<4294967296:=tJ 8 (nD h (ze x))
theorem oY(b:Bs):∀{c:Nat},c<4294967296->ip c b<4294967296:=by
 induction b with
 | nil=>intro c h;exact h
 | cons x r ih=>intro c h;exact ih (lO h x)
theorem nj(k:UInt8)(b:Bs):dq k b<4294967296:=nD (by omega) (oY b (lO (by omega) k))
def be:Nat->Nat->Bs
 | _,0=>[]
 | n,k+1=>UInt8.ofNat (n / 256 ^ k)::be n k
def bz(b:Bs):Nat:=b.foldl (fun n x=>n*256+x.toNat) 0
theorem cd(n k:Nat):(be n k).length=k:=by
 induction k with
 | zero=>rfl
 | succ k ih=>simp[be,ih]
theorem Ik(b:Bs):∀a,b.foldl (fun n x=>n*256+x.toNat) a=a*256 ^ b.length+bz b:=by
 unfold bz;induction b with
 | nil=>intro a;simp
 | cons x r ih =>
  intro a;simp only[foldl_cons,length_cons];rw[ih (a*256+x.toNat),ih (0*256+x.toNat),Nat.pow_succ];rw[Nat.zero_mul,Nat.zero_add,Nat.add_mul,Nat.mul_assoc,Nat.mul_comm 256,Nat.add_assoc]
theorem oS(x:UInt8)(r:Bs):bz (x::r)=x.toNat*256 ^ r.length+bz r:=by
 have:=Ik r x.toNat;unfold bz at *
 simpa using this
theorem pJ(n k:Nat):bz (be n k)=n%256 ^ k:=by
 induction k with
 | zero=>simp[be,bz,Nat.mod_one]
 | succ k ih =>
  rw[be,oS,ih,cd,UInt8.toNat_ofNat'];have e:n%256 ^ (k+1)=n%256 ^ k+256 ^ k*(n / 256 ^ k%256):=by rw[Nat.pow_succ,Nat.mod_mul]
  rw[e,Nat.mul_comm,Nat.add_comm]
theorem im(b:Bs):bz b<256 ^ b.length:=by
 induction b with
 | nil=>simp[bz]
 | cons x r ih =>
  rw[oS,length_cons,Nat.pow_succ];have:=UInt8.toNat_lt x;have h1:x.toNat*256 ^ r.length<=255*256 ^ r.length:=Nat.mul_le_mul_right _ (by omega);have h2:(256:Nat) ^ r.length*256=255*256 ^ r.length+256 ^ r.length:=by omega
  omega
theorem oT(b:Bs)(x:UInt8):bz (b++[x])=bz b*256+x.toNat:=by simp[bz,foldl_append]
def frame(k:UInt8)(body:Bs):Bs:=(k::be body.length 2)++be (65535-body.length%65536) 2++body++be (dq k body) 4
theorem aX(k:UInt8)(body:Bs):(frame k body).length=body.length+9:=by simp[frame,cd];omega
def ce(b:Bs):Option (UInt8×Bs×Nat) :=
 if b.length<9 then none
 else if b.getD 0 0=0 then none
 else
  let n:=(b.getD 1 0).toNat*256+(b.getD 2 0).toNat
  if n≠(255-(b.getD 3 0).toNat)*256+(255-(b.getD 4 0).toNat)then none
  else if b.length<n+9 then none
  else
   let body:=(b.drop 5).take n
   if bz ((b.drop (5+n)).take 4)≠dq (b.getD 0 0) body then none
   else some (b.getD 0 0,body,n+9)
theorem be2(n:Nat):be n 2=[UInt8.ofNat (n / 256),UInt8.ofNat n]:=by simp[be]
theorem jt(k:UInt8)(body rest:Bs)(hk:k≠0)(hl:body.length<65536):ce (frame k body++rest)=some (k,body,body.length+9):=by
 have e:frame k body++rest=k::UInt8.ofNat (body.length / 256)::UInt8.ofNat body.length::UInt8.ofNat ((65535-body.length) / 256)::UInt8.ofNat (65535-body.length)::(body++(be (dq k body) 4++rest)):=by
  unfold frame;rw[be2,be2,Nat.mod_eq_of_lt hl];generalize be (dq k body) 4=s;generalize 65535-body.length=z;simp only[cons_append,nil_append,append_assoc]
 have hn:(UInt8.ofNat (body.length / 256)).toNat*256+(UInt8.ofNat body.length).toNat=body.length:=by
  rw[UInt8.toNat_ofNat',UInt8.toNat_ofNat'];omega
 have hm:(255-(UInt8.ofNat ((65535-body.length) / 256)).toNat)*256+(255-(UInt8.ofNat (65535-body.length)).toNat)=body.length:=by
  obtain⟨z,hz,hz2⟩:∃z,65535-body.length=z/\z+body.length=65535:=⟨_,rfl,by omega⟩;rw[hz,UInt8.toNat_ofNat',UInt8.toNat_ofNat'];omega
 rw[e];unfold ce;simp only[length_cons,length_append,cd,QF,QG];rw[if_neg (by omega),if_neg hk];simp only[hn,hm];rw[if_neg (by simp),if_neg (by omega)];have d1:drop 5 (k::UInt8.ofNat (body.length / 256)::UInt8.ofNat body.length::UInt8.ofNat ((65535-body.length) / 256)::UInt8.ofNat (65535-body.length)::(body++(be (dq k body) 4++rest)))=body++(be (dq k body) 4++rest):=rfl;rw[<- drop_drop,d1,take_left' rfl,drop_left' rfl,take_left' (cd _ _),pJ,Nat.mod_eq_of_lt (nj k body)];simp
theorem eD{b:Bs}{k:UInt8}{body:Bs}{n:Nat}(h:ce b=some (k,body,n)):k≠0/\n=body.length+9/\n<=b.length/\body=(b.drop 5).take (n-9)/\body.length<65536:=by
 unfold ce at h;split at h
 ·cases h
 split at h
 ·cases h
 simp only at h;split at h
 ·cases h
 split at h
 ·cases h
 split at h
 ·cases h
 rename_i h1 h2 h3 h4 h5;simp only[Option.some.injEq,Prod.mk.injEq]at h;obtain⟨rfl,rfl,rfl⟩:=h;have:=UInt8.toNat_lt (b.getD 1 0);have:=UInt8.toNat_lt (b.getD 2 0)
 have hl:((b.drop 5).take ((b.getD 1 0).toNat*256+(b.getD 2 0).toNat)).length=(b.getD 1 0).toNat*256+(b.getD 2 0).toNat:=by
  rw[length_take,length_drop,Nat.min_eq_left];omega
 exact⟨h2,by rw[hl],Nat.le_of_not_lt h4,by rw[Nat.add_sub_cancel],by rw[hl];omega⟩
end
section
open Go.RowKit
section
variable {α:Type} (enc:α->Value)
theorem qv{xs ys:List α}{k:Nat}(h:xs.take k=ys.take k)(hx:k<xs.length)(hy:k<ys.length)(he:xs[k]=ys[k]):xs.take (k+1)=ys.take (k+1):=by
 rw[QH hx,QH hy,h,he]
theorem kE{w:World}{a:Option Addr}{xs:List α}(h:ak w a (xs.map enc))(hp:0<xs.length):∃g off,a=some ⟨g,off,none⟩/\∀j (h:j<xs.length),w.cell? ⟨g,off+j,none⟩=some (enc (xs[j]'h)):=by
 obtain⟨g,off,ha,hc⟩:=h (by simpa using hp);exact⟨g,off,ha,fun j hj=>by rw[hc j (by simpa using hj)];simp⟩
end
theorem ix:(Tryz.prog.info? 5).map (fun i=>(i.zero,i.size,i.bytes))=some (some (.int .u8 0),1,1):=by kernel_rfl
def aw(l:List UInt8):Array Value:=(l.map al).toArray
theorem gi(l:List UInt8)(j:Nat)(h:j<l.length):(aw l)[j]?=some (al l[j]):=by simp[aw,h]
theorem uB(l:List UInt8)(j:Nat)(x:UInt8):(aw l).setIfInBounds j (al x)=aw (l.set j x):=by
 apply Array.ext';simp[aw,map_set]
end
section
open Go.RowKit
def aA(v:Value)(l:Bs):HF:=bK 5 1 v l.length (l.map al)
def bOk(v:Value)(l:Bs):Prop:=et 1 v l.length (l.map al)
theorem cZ{w:World}{v:Value}{l:Bs}(h:Sat w (aA v l))(k:bOk v l):w.ownsRow 0 5 1 v l.length (l.map al):=aR h k
def jB(v:Value)(l l':Bs)(w:World)(e:Ending)(w':World):Prop:=∃v',e=.returned v'/\bOk v' l'/\Turns (aA v l) (aA v' l') w w'
theorem lp:aA (.slice none 0 0) []=[]:=rfl
theorem fi:bOk (.slice none 0 0) []:=⟨rfl,fun _=>⟨rfl,rfl⟩⟩
def beI:Int->Nat->Bs
 | _,0=>[]
 | n,k+1=>UInt8.ofNat (n / 256 ^ k%256).toNat::beI n k
theorem bM(n:Int)(k:Nat):(beI n k).length=k:=by
 induction k with
 | zero=>rfl
 | succ k ih=>simp[beI,ih]
theorem Ij(n:Int)(k j:Nat)(h:j<=k):(beI n k).drop (k-j)=beI n j:=by
 induction k with
 | zero =>
  obtain rfl:j=0:=by omega
  rfl
 | succ k ih =>
  by_cases e:j=k+1
  ·subst e;simp
  ·rw[show k+1-j=(k-j)+1 by omega,beI,QD];exact ih (by omega)
theorem vA(n:Int)(k j:Nat)(h:j+1<=k):(beI n k).take (k-j)=(beI n k).take (k-(j+1))++[UInt8.ofNat (n / 256 ^ j%256).toNat]:=by
 have hl:k-(j+1)<(beI n k).length:=by rw[bM];omega
 rw[show k-j=(k-(j+1))+1 by omega,QH hl];congr 2;have hd:=Ij n k (j+1) h;rw[drop_eq_getElem_cons hl,beI]at hd;exact(List.cons.inj hd).1
theorem yd(n k:Nat):beI (n:Int) k=be n k:=by
 induction k with
 | zero=>rfl
 | succ k ih =>
  rw[beI,be,ih];congr 1;apply UInt8.toNat_inj.1;rw[UInt8.toNat_ofNat',UInt8.toNat_ofNat']
  have:((n:Int) / 256 ^ k%256).toNat=n / 256 ^ k%256:=by
   have e:((n:Int) / 256 ^ k%256)=((n / 256 ^ k%256:Nat):Int):=by simp
   exact(congrArg Int.toNat e).trans (Int.toNat_natCast _)
  rw[this];omega
theorem J0(n:Nat):beI (-(n:Int)-1) 2=be (65535-n%65536) 2:=by
 have e1:((-(n:Int)-1) / 256 ^ 1%256).toNat=(65535-n%65536) / 256%256:=by omega
 have e2:((-(n:Int)-1) / 256 ^ 0%256).toNat=(65535-n%65536)%256:=by omega
 simp only[beI,be,e1,e2,Nat.pow_one,Nat.pow_zero,Nat.div_one];congr 1
 ·apply UInt8.toNat_inj.1;rw[UInt8.toNat_ofNat',UInt8.toNat_ofNat'];omega
 ·congr 1;apply UInt8.toNat_inj.1;rw[UInt8.toNat_ofNat',UInt8.toNat_ofNat'];omega
def Hc(v0:Value)(l:Bs)(n:Int)(m:Nat)(w:World)(v i:Value)(wr:World):Prop :=
 ∃j:Nat,j<=m/\i=.int .i64 ((j:Int)-1)/\bOk v (l++(beI n m).take (m-j))/\Turns (aA v0 l) (aA v (l++(beI n m).take (m-j))) w wr
theorem Fx{F G:HF}{a w w':World}{v v':Value}{l:Bs}{o:Obj}{x:UInt8}{y:Value}(hT:Turns F (aA v l++G) a w)(hx:y=al x)(hown:w'.ownsRow 0 5 1 v' (l.length+1) (l.map al++[y]))(hgrow:(w.alloc o).grownBy w' v.ownBlock)(hg:∀g,v'.ownBlock=some g->v.ownBlock=some g\/(w.alloc o).heap.size<=g):bOk v' (l++[x])/\Turns F (aA v' (l++[x])++G) a w':=by
 subst hx;have e:l.map al++[al x]=(l++[x]).map al:=by simp
 have en:l.length+1=(l++[x]).length:=by simp
 rw[e,en]at hown;exact⟨(fg hown).2,(hT.alloc o).grow hown hgrow hg⟩
theorem A9{v0 v v':Value}{l:Bs}{n:Int}{m j:Nat}{w wr w3:World}{o:Obj}{y:Value}(h0:0<j)(hj:j<=m)(hT:Turns (aA v0 l) (aA v (l++(beI n m).take (m-j))) w wr)(hown:w3.ownsRow 0 5 1 v' ((l++(beI n m).take (m-j)).length+1) ((l++(beI n m).take (m-j)).map al++[y]))(hy:y=.int .u8 (n / 2 ^ (8*(j-1))%256))(hgrow:(wr.alloc o).grownBy w3 v.ownBlock)(hg:∀g,v'.ownBlock=some g->v.ownBlock=some g\/(wr.alloc o).heap.size<=g)(i:Value)(hi:i=.int .i64 ((j:Int)-1-1)):Hc v0 l n m w v' i w3:=by
 have hx:y=al (UInt8.ofNat (n / 256 ^ (j-1)%256).toNat):=by
  rw[hy];have e2:(2:Int) ^ (8*(j-1))=256 ^ (j-1):=by rw[Int.pow_mul];rfl
  rw[e2];generalize n / 256 ^ (j-1)=q;simp only[al,UInt8.toNat_ofNat'];congr 1;omega
 have e:(beI n m).take (m-(j-1))=(beI n m).take (m-j)++[UInt8.ofNat (n / 256 ^ (j-1)%256).toNat]:=by
  have:=vA n m (j-1) (by omega);rwa [show j-1+1=j by omega]at this
 have hT':Turns (aA v0 l) (aA v (l++(beI n m).take (m-j))++[]) w wr:=by simpa using hT
 obtain⟨h1,h2⟩:=Fx hT' hx hown hgrow hg;refine⟨j-1,by omega,by rw[hi];congr 1;omega,?_,?_⟩
 ·rw[e,<- append_assoc];exact h1
 ·rw[e,<- append_assoc];simpa using h2
theorem ew(v:Value)(l:Bs)(n:Int)(m:Nat)(w:World)(hm:m<=8)(hl:l.length<=1099511627776)(_ : -9223372036854775808<=n)(_:n<=9223372036854775807)(h:Sat w (aA v l))(hv:bOk v l):
  Calls Tryz.prog 94 #[v,.int .i64 n,.int .i64 m] w (jB v l (l++beI n m) w):=by
 have H:=Hq2 h hv;clear h hv;go_enter Tryz.func94,Tryz.ntmps94;go_wp2;go_loopw [0,7] (fun v' i wr=>Hc v l n m w v' i wr) (fun _ i _=>(intOf i+1).toNat)
 case atStart=>exact⟨m,Nat.le_refl _,rfl,by simpa using H.z,by simpa using Turns.refl H.a⟩
 case round =>
  obtain⟨j,hj,rfl,hok,hT⟩:=hrel;by_cases hlt:0<j
  ·obtain⟨i0,hi0,hz1,hz2,hz3⟩:=info_parts ix;have HT:=Hq2 hok hT;have hown:=cZ hT.sat hok;have HO:=qqH hown;have HI:=Hq4 hi0 hz1 hz2 hz3;clear hok hT hown hi0 hz1 hz2 hz3;go_wp2_with (refine gB _ rfl _ _ 35 rfl 5 i0 (.int .u8 0) 1 1 Tryz.underlying35 HI.a HI.b HI.c HI.x rfl (by decide) _ _ _ rfl (HO.out.alloc _) ⟨wr.heap.size,0,none⟩ 1 1 [_] rfl rfl (cell_one_new _ _ _) (by simp[Value.oneCell']) (by unfold maxLen;simp;omega) (by simp;omega) ?_;intro v' w3 hown' hgrow _ hgb);exact⟨A9 hlt hj HT.z hown' rfl hgrow hgb _ rfl,by simp[intOf];omega⟩
  ·obtain rfl:j=0:=by omega
   have HT:=Hq2 hok hT;clear hok hT;go_wp2;go_ret;obtain⟨hok,hT⟩:=HT.out;rw[Nat.sub_zero,take_of_length_le (by rw[bM];omega)]at hok hT;exact⟨_,rfl,hok,hT⟩
theorem oU(a b:Nat)(ha:a<4294967296)(hb:b<4294967296):bits BinOp.xor IntKind.u32 (a:Int) (b:Int)=((a ^^^ b:Nat):Int):=by
 have e1:(BitVec.ofInt 32 (a:Int)).toNat=a:=by rw[BitVec.ofInt_natCast,BitVec.toNat_ofNat];exact Nat.mod_eq_of_lt (by omega)
 have e2:(BitVec.ofInt 32 (b:Int)).toNat=b:=by rw[BitVec.ofInt_natCast,BitVec.toNat_ofNat];exact Nat.mod_eq_of_lt (by omega)
 show IntKind.u32.wrap ((BitVec.ofInt 32 (a:Int) ^^^ BitVec.ofInt 32 (b:Int)).toNat:Int)=_;rw[BitVec.toNat_xor,e1,e2,IntKind.wrap_u32];have:=nD ha hb;omega
theorem Fz(a:Nat)(ha:a<4294967296):bits BinOp.and IntKind.u32 (a:Int) 1=((a%2:Nat):Int):=by
 have e1:(BitVec.ofInt 32 (a:Int)).toNat=a:=by rw[BitVec.ofInt_natCast,BitVec.toNat_ofNat];exact Nat.mod_eq_of_lt (by omega)
 show IntKind.u32.wrap ((BitVec.ofInt 32 (a:Int) &&& BitVec.ofInt 32 (1:Int)).toNat:Int)=_;rw[BitVec.toNat_and,e1,show(BitVec.ofInt 32 (1:Int)).toNat=1 from rfl,Nat.and_one_is_mod,IntKind.wrap_u32];omega
def lH(w:World)(b:Nat)(c:Nat):Prop:=w.heap[b]?=some (.cells #[.int .u32 c] 57 (0,0))
def Jz(b c:Nat)(x:UInt8)(w:World)(e:Ending)(w':World):Prop:=e=.returned (.tuple #[])/\lH w' b (io c x)/\Mods (fun k=>k=b) w w'
theorem yo(k c:Nat):gR (k+1) c=(gR k c / 2) ^^^ (gR k c%2*3988292384):=by rw[vC];rfl
theorem FI{wr:World}{b q:Nat}(h:lH wr b q)(hq:q<4294967296):lH (wr.setCell ⟨b,0,none⟩ (.int .u32 (bits BinOp.xor IntKind.u32 ((q:Int) / 2) ((q:Int)%2*3988292384)))) b ((q / 2) ^^^ (q%2*3988292384)):=by
 have hm:q%2<2:=Nat.mod_lt _ (by omega);have h2:=oU (q / 2) (q%2*3988292384) (by omega) (by omega);have e:((q:Int)%2*3988292384)=((q%2*3988292384:Nat):Int):=by omega
 have e2:((q:Int) / 2)=((q / 2:Nat):Int):=by omega
 rw[e,e2,h2];exact bn h 0 _
theorem sZ(b c:Nat)(x:UInt8)(w:World)(hc:c<4294967296)(h:lH w b c):Calls Tryz.prog 122 #[.int .u8 x.toNat,.pointer (some ⟨b,0,none⟩)] w (Jz b c x w):=by
 have h0:=aa h 0 (v:=.int .u32 c) (by simp);have f0:=bc h 0;have hx:=oU c x.toNat hc (ze x);have hx2:=ze x;have hx3:=UInt8.toNat_lt x;have H:=qqH h;clear h;go_enter Tryz.func122,Tryz.ntmps122;go_wp2;clear hx h0 f0;go_loopw [7] (fun i wr=>∃k:Nat,k<=8/\i=.int .i64 k/\lH wr b (gR k (c ^^^ x.toNat))/\Mods (fun k=>k=b) w wr) (fun i _=>8-(intOf i).toNat)
 case atStart=>exact⟨0,by omega,rfl,bn H.out 0 _,(Mods.refl (fun k=>k=b) w).set1 _⟩
 case round =>
  obtain⟨k,hk,rfl,hcell,hM⟩:=hrel;by_cases hlt:k<8
  ·have hlt32:=tJ k (nD hc hx2);have hnx:=yo k (c ^^^ x.toNat);have hc0:=aa hcell 0 (v:=.int .u32 (gR k (c ^^^ x.toNat))) (by simp);have hf0:=bc hcell 0;have HC:=Hq2 hcell hM;have HN:=qqH hnx;clear hcell hM hnx;generalize gR k (c ^^^ x.toNat)=q at *
   have h1:=Fz q hlt32;have hm:q%2<2:=Nat.mod_lt _ (by omega);go_wp2;exact⟨⟨k+1,by omega,by go_num,by rw[HN.out];exact FI HC.a hlt32,HC.z.set1 _⟩,by simp[intOf];omega⟩
  ·obtain rfl:k=8:=by omega
   have HC:=Hq2 hcell hM;clear hcell hM;go_wp2;go_end0;exact⟨rfl,HC.a,HC.z⟩
def pE(k:UInt8)(l:Bs)(w:World)(e:Ending)(w':World):Prop:=e=.returned (.int .u32 (dq k l))/\aQ w w'
def Hr(k:UInt8)(l:Bs)(w:World)(i:Value)(wr:World):Prop :=
 ∃j:Nat,j<=l.length/\i=.int .i64 j/\lH wr w.heap.size (ip (io 4294967295 k) (l.take j))/\aQ w wr
theorem yq{c:Nat}{l:Bs}{j:Nat}(h:j<l.length):ip c (l.take (j+1))=io (ip c (l.take j)) l[j]:=by
 unfold ip;rw[QH h,foldl_append];rfl
theorem KK{k:UInt8}{l:Bs}:bits BinOp.xor IntKind.u32 IntKind.u32.max ((ip (io 4294967295 k) l:Nat):Int)=(dq k l:Nat):=by
 have:=oU 4294967295 (ip (io 4294967295 k) l) (by omega) (oY l (lO (by omega) k));exact this
theorem jO(a:Option Addr)(cap:Nat)(k:UInt8)(l:Bs)(w:World)(h:ak w a (l.map al))(hl:l.length<=1099511627776):Calls Tryz.prog 95 #[.int .u8 k.toNat,.slice a l.length cap] w (pE k l w):=by
 have H:=qqH h;have hk:=UInt8.toNat_lt k;have HS:=qqH (fun(w1:World) (hc:lH w1 w.heap.size 4294967295)=>sZ w.heap.size 4294967295 k w1 (by omega) hc);clear h;go_enter Tryz.func95,Tryz.ntmps95;go_wp2_with fail;refine(HS.out _ (aK w _)).mono ?_;rintro e w1 ⟨rfl,hc1,hM1⟩;have HM:=qqH (show Hr k l w (.int .i64 0) w1 from⟨0,Nat.zero_le _,rfl,by simpa[ip]using hc1,((Mods.refl _ w).alloc _).trans' hM1 (fun i hi=>.inr (by omega))⟩);clear hc1 hM1 HS;go_wp2_with fail;go_loopw [15] (fun i wr=>Hr k l w i wr) (fun i _=>l.length-(intOf i).toNat)
 case atStart=>exact HM.out
 case round =>
  obtain⟨j,hj,rfl,hcell,hs⟩:=hrel;by_cases hlt:j<l.length
  ·obtain⟨g,off,rfl,hc⟩:=(H.out.keep hs (fun _ _ _=>id)) (by simp;omega);have hcj:=hc j (by simpa using hlt);simp only[getElem_map]at hcj;unfold al at hcj;have hlt32:ip (io 4294967295 k) (l.take j)<4294967296:=oY _ (lO (by omega) k);have HC:=qqH (sZ w.heap.size _ l[j] wr hlt32 hcell);have HT:=Hq2 (yq (c:=io 4294967295 k) hlt) hs;clear hc hcell hs HM H;go_wp2_with fail;refine HC.out.mono ?_;rintro e w2 ⟨rfl,hc2,hM2⟩;have HF:=Hq2 hc2 (HT.z.trans' hM2 (fun i hi=>.inr (by omega)));clear hc2 hM2 hcj HC;go_wp2_with fail;exact⟨⟨j+1,by omega,by go_num,by rw[HT.a];exact HF.a,HF.z⟩,by simp[intOf];omega⟩
  ·obtain rfl:j=l.length:=by omega
   rw[take_length]at hcell;have hc0:=aa hcell 0 (v:=.int .u32 (ip (io 4294967295 k) l)) (by simp);have hse:=KK (k:=k) (l:=l);have HF:=qqH hs;clear hs hcell HM H;go_wp2_with fail;go_ret;exact⟨rfl,HF.out⟩
def Hq(n:Int)(w:World)(e:Ending)(w':World):Prop:=e=.returned (.int .i64 (n+9))/\w=w'
theorem gU(n:Int)(h0:0<=n)(h1:n<=1099511627776)(w:World):Calls Tryz.prog 53 #[.int .i64 n] w (Hq n w):=by
 go_enter Tryz.func53,Tryz.ntmps53;go_wp2;go_ret;exact⟨ET (by omega),rfl⟩
def eJ(l':Bs)(w:World)(e:Ending)(w':World):Prop:=∃v',e=.returned v'/\bOk v' l'/\Turns [] (aA v' l') w w'
theorem Turns.news{F:HF}{w w':World}(h:Turns [] F w w'):aQ w w':=h.mods.mono (fun b hb=>by simp at hb)
theorem Turns.Qs{F:HF}{w w':World}(h:Turns [] F w w'){b:Nat}(hb:b∈dom F):w.heap.size<=b:=by
 rcases h.fresh b hb with h'|h'
 ·simp at h'
 ·exact h'
theorem ak.turns{F:HF}{w w':World}{a:Option Addr}{xs:List Value}(h:ak w a xs)(hT:Turns [] F w w'):ak w' a xs:=h.keep hT.news (fun _ _ _=>id)
theorem Ih(w:World)(k:UInt8):Turns [] (aA (.slice (some ⟨w.heap.size,0,none⟩) 1 1) [k]) w (w.alloc (.cells #[.int .u8 k.toNat] 5))/\bOk (.slice (some ⟨w.heap.size,0,none⟩) 1 1) [k]:=by
 refine⟨?_,rfl,fun h=>by simp[Value.ownBlock]at h⟩
 have:=(Turns.refl (Sat.nil w)).Qe (φ:=fun o=>∃cap cur,(Value.slice (some ⟨w.heap.size,0,none⟩) 1 1)=.slice (some ⟨w.heap.size,0,none⟩) 1 cap/\o=.cells cur 5 (0,0)/\1<=cap/\cap<=maxLen/\cur.size=cap*1/\cur.toList.take (1*1)=[k].map al)
  (o:=.cells #[.int .u8 k.toNat] 5) ⟨1,_,rfl,rfl,Nat.le_refl _,by unfold maxLen;omega,rfl,rfl⟩
 exact this
theorem jB.news{v:Value}{l l':Bs}{w w1 w2:World}{e:Ending}(hT:Turns [] (aA v l) w w1)(h:jB v l l' w1 e w2):eJ l' w e w2:=by
 obtain⟨v',he,hok,hT'⟩:=h;exact⟨v',he,hok,hT.trans hT'⟩
theorem jE{F G:HF}{a w w':World}{v v':Value}{l s:Bs}(hT:Turns F (aA v l++G) a w){n:Nat}(hn:n=s.length)(hown:w'.ownsRow 0 5 1 v' (l.length+n) (l.map al++s.map al))(hgrow:w.grownBy w' v.ownBlock)(hg:∀g,v'.ownBlock=some g->v.ownBlock=some g\/w.heap.size<=g):bOk v' (l++s)/\Turns F (aA v' (l++s)++G) a w':=by
 subst hn;have e:l.map al++s.map al=(l++s).map al:=by simp
 have en:l.length+s.length=(l++s).length:=by simp
 rw[e,en]at hown;exact⟨(fg hown).2,hT.grow hown hgrow hg⟩
theorem CQ(n:Nat)(h:n<=4611686018427387904):bits BinOp.xor IntKind.i64 (-1) (n:Int)=-(n:Int)-1:=by
 have e1:(BitVec.ofInt 64 (-1))=BitVec.allOnes 64:=by decide
 have e2:(BitVec.ofInt 64 (n:Int)).toNat=n:=by rw[BitVec.ofInt_natCast,BitVec.toNat_ofNat];exact Nat.mod_eq_of_lt (by omega)
 show IntKind.i64.wrap ((BitVec.ofInt 64 (-1) ^^^ BitVec.ofInt 64 (n:Int)).toNat:Int)=_;rw[e1,BitVec.allOnes_xor,BitVec.toNat_not,e2];unfold IntKind.wrap;simp[IntKind.bits,IntKind.signed];omega
theorem g8(k:UInt8)(a:Option Addr)(cap:Nat)(body:Bs)(w:World)(h:ak w a (body.map al))(hl:body.length<=68719476736):
  Calls Tryz.prog 52 #[.int .u8 k.toNat,.slice a body.length cap] w (eJ (frame k body) w):=by
 have H:=qqH h;have hbn:=CQ body.length (by omega);have hsl:=nj k body;clear h;go_enter Tryz.func52,Tryz.ntmps52;go_wp2_with fail;obtain⟨hT1,hok1⟩:=Ih w k;have H1:=Hq2 hT1 hok1;clear hT1 hok1;refine(ew _ [k] body.length 2 _ (by omega) (by simp) (by omega) (by omega) H1.a.sat H1.z).mono ?_;rintro e w2 hp;obtain⟨v2,rfl,hok2,hT2⟩:=jB.news H1.a hp;have H2:=Hq2 hT2 hok2;clear hT2 hok2 hp H1;go_wp2_with fail;refine(ew v2 _ (-(body.length:Int)-1) 2 w2 (by omega) (by simp[bM]) (by omega) (by omega) H2.a.sat H2.z).mono ?_;rintro e w3 hp;obtain⟨v3,rfl,hok3,hT3⟩:=jB.news H2.a hp;have hown3:=cZ hT3.sat hok3;obtain⟨i0,hi0,hz1,hz2,hz3⟩:=info_parts ix;have H3:=Hq3 hT3 hown3 (H.out.turns hT3);have HI:=Hq4 hi0 hz1 hz2 hz3;clear hT3 hok3 hp H2 hown3 hi0 hz1 hz2 hz3;have hb:(body.map al).length=body.length:=by simp
 have HB:=qqH hb;clear hb;go_wp2_with (refine qA _ rfl (.tmp 15) (.tmp 16) 35 rfl 5 i0 (.int .u8 0) 1 Tryz.underlying35 HI.a HI.b HI.c HI.x rfl _ _ _ rfl H3.b a body.length cap (body.map al) rfl HB.out H3.y (dW body) (by unfold maxLen;simp[bM];omega) (by simp[bM];omega) ?_;intro v4 w4 hown4 hgrow4 hg4);obtain⟨hok4,hT4⟩:=jE (F:=[]) (G:=[]) (v:=v3) (by simpa using H3.a) rfl hown4 hgrow4 hg4;rw[append_nil]at hT4;have H4:=Hq3 hT4 hok4 (H.out.turns hT4);clear hT4 hok4 hown4 hgrow4 hg4;refine(jO a cap k body w4 H4.y (by omega)).mono ?_;rintro e w5 ⟨rfl,hs5⟩;have hT5:=H4.a.Q9 hs5;have H5:=qqH hT5;clear hs5 hT5;go_wp2_with fail;refine(ew v4 _ (dq k body:Nat) 4 w5 (by omega) (by simp[bM];omega) (by omega) (by omega) H5.out.sat H4.b).mono ?_;rintro e w6 hp;obtain⟨v6,rfl,hok6,hT6⟩:=jB.news H5.out hp;have H6:=Hq2 hok6 hT6;clear hok6 hT6 hp;go_wp2_with fail;go_ret
 have e:[k]++beI body.length 2++beI (-(body.length:Int)-1) 2++body++beI (dq k body:Nat) 4=frame k body:=by
  rw[yd,yd,J0];simp[frame]
 rw[<- e];exact⟨v6,rfl,H6.out⟩
theorem aL{w:World}{b e n:Nat}{v:Value}{xs:List Value}(h:w.ownsRow b e 1 v n xs):∃a cap,v=.slice a n cap/\xs.length=n/\n<=cap/\ak w a xs/\∀x,a=some x->v.ownBlock=some x.block:=by
 have hl:xs.length=n:=by simpa using h.1
 rcases h.2 with⟨rfl,rfl⟩|⟨g,cap,cur,rfl,hb,hg,hnc,hcm,hcs,htk⟩
 ·exact⟨none,0,rfl,hl,Nat.le_refl _,fun hp=>by omega,fun x hx=>by cases hx⟩
 ·refine⟨_,cap,rfl,hl,hnc,fun _=>⟨g,0,rfl,fun j hj=>?_⟩,fun x hx=>by simp at hx;subst hx;rfl⟩;rw[Nat.zero_add];refine aa hg j ?_;have:(cur.toList.take (n*1))[j]?=some xs[j]:=by rw[htk];simp[hj]
  rw[getElem?_take]at this;split at this
  ·simpa using this
  ·cases this
theorem uE{P:Program}{w:World}(t ty e:TypeId)(i:TypeInfo)(z:Value)(size bytes:Nat)(ht:P.underlying t=some (.slice e))(hi:P.info? e=some i)(hz:i.zero=some z)(hsize:i.size=size)(hby:i.bytes=bytes)(hzs:z.cells.size=size)(hs0:0<size)(v:Value)(n:Nat)(xs:List Value)(hown:w.ownsRow 0 e size v n xs)(sa:Option Addr)(m c:Nat)(news:List Value)(hnl:news.length=m*size)(hnews:0<m->∃ad,sa=some ad/\∀j u,news[j]?=some u->w.cell? (ad.add j)=some u)(h1:∀u∈news,u.oneCell'=true)(h63:n+m<=maxLen)(hbytes:(n+m)*bytes<=140737488355328):
  ∃v' w',(Builtin.append_ #[t,t] ty #[v,.slice sa m c]).run P w=.ok v' w'/\w'.ownsRow 0 e size v' (n+m) (xs++news)/\w.grownBy w' v.ownBlock/\(∀g,v'.ownBlock=some g->v.ownBlock=some g\/w.heap.size<=g)/\(v'=.slice none 0 0↔v=.slice none 0 0/\m=0):=by
 rcases Nat.eq_zero_or_pos m with rfl|hp
 ·obtain rfl:news=[]:=eq_nil_of_length_eq_zero (by omega);exact⟨v,w,mA (P:=P) w t ty e i size ht hi v n xs hown sa c,by simpa using hown,⟨rfl,rfl,rfl,Nat.le_refl _,fun _ _ _=>rfl⟩,fun g h=>.inl h,by simp⟩
 ·obtain⟨ad,rfl,hc⟩:=hnews hp;obtain⟨v',w',r,r1,r2,r3,r4⟩:=jk (P:=P) w t ty e i z size bytes ht hi hz hsize hby hzs hs0 v n xs hown ad m c news hnl hc h1 h63 hbytes;exact⟨v',w',r,r1,r2,r4,r3⟩
theorem cV{P:Program}{o:Oper}{a:Act}{w a0:World}{K:Act->World->Prop}{Q:Exit->Act->World->Prop}{F G:HF}(s x:Operand)(t e:TypeId)(i:TypeInfo)(z:Value)(size bytes:Nat)(hop:o.op=.call { callee:=.builtin .append,args:=#[s,x],argTypes:=#[t,t] })(ht:P.underlying t=some (.slice e))(hi:P.info? e=some i)(hz:i.zero=some z)(hsize:i.size=size)(hby:i.bytes=bytes)(hzs:z.cells.size=size)(hs0:0<size)(v:Value)(n:Nat)(xs:List Value)(hs:a.eval s=v)(hT:Turns F (bK e size v n xs++G) a0 w)(hok:et size v n xs)(sa:Option Addr)(m c:Nat)(hx:a.eval x=.slice sa m c)(news:List Value)(hnl:news.length=m*size)(hnews:0<m->∃ad,sa=some ad/\∀j u,news[j]?=some u->w.cell? (ad.add j)=some u)(h1:∀u∈news,u.oneCell'=true)(h63:n+m<=maxLen)(hbytes:(n+m)*bytes<=140737488355328)(hk:∀v' w',et size v' (n+m) (xs++news)->Turns F (bK e size v' (n+m) (xs++news)++G) a0 w'->(v'=.slice none 0 0↔v=.slice none 0 0/\m=0)->K (a.put o.dst v') w'):o.wp P a w K Q:=by
 obtain⟨v',w',hr,r1,r2,r3,r4⟩:=uE (P:=P) t o.type e i z size bytes ht hi hz hsize hby hzs hs0 v n xs (aR hT.sat.left hok) sa m c news hnl hnews h1 h63 hbytes;unfold Oper.wp execOp;simp only[hop,resolve,invoke,builtin,Sem.run_bind,Sem.run_pure,Result.andThen_ok,map_toArray,map_cons,map_nil,hs,hx,hr];exact hk v' w' (fg r1).2 (hT.grow r1 r2 r3) r4
theorem fu{o:Oper}{a:Act}{w a0:World}{K:Act->World->Prop}{Q:Exit->Act->World->Prop}{F G:HF}(s x:Operand)(hop:o.op=.call { callee:=.builtin .append,args:=#[s,x],argTypes:=#[35,35] })(v:Value)(l:Bs)(hs:a.eval s=v)(hT:Turns F (aA v l++G) a0 w)(hok:bOk v l)(sa:Option Addr)(m c:Nat)(hx:a.eval x=.slice sa m c)(r:Bs)(hm:m=r.length)(hc:ak w sa (r.map al))(hb:l.length+r.length<=137438953472)(hk:∀av cv w',bOk (.slice av (l++r).length cv) (l++r)->Turns F (aA (.slice av (l++r).length cv) (l++r)++G) a0 w'->(av=none->v=.slice none 0 0/\m=0)->K (a.put o.dst (.slice av (l++r).length cv)) w'):o.wp Tryz.prog a w K Q:=by
 obtain⟨i0,hi0,hz1,hz2,hz3⟩:=info_parts ix;refine cV s x 35 5 i0 (.int .u8 0) 1 1 hop Tryz.underlying35 hi0 hz1 hz2 hz3 rfl (by decide) v l.length (l.map al) hs hT hok sa m c hx (r.map al) (by simp[hm]) (fun hp=>?_) (dW _) (by unfold maxLen;omega) (by omega) (fun v' w' h1 h2 h3=>?_)
 ·obtain⟨g,off,e,hcc⟩:=hc (by simp;omega);exact⟨_,e,fun j u hu=>by obtain⟨hj,rfl⟩:=List.getElem?_eq_some_iff.1 hu;rw[Addr.add_lit];exact hcc j hj⟩
 ·have k1:bOk v' (l++r):=by unfold bOk;rw[length_append,map_append,<- hm];exact h1
  have k2:Turns F (aA v' (l++r)++G) a0 w':=by unfold aA;rw[length_append,map_append,<- hm];exact h2
  obtain⟨av,cv,rfl,-,-,-,-⟩:=aL (cZ k2.sat.left k1)
  exact hk av cv w' k1 k2 (fun hn=>by
   subst hn;refine h3.1 ?_;have:=k1.2 rfl;exact this.1)
theorem ah{P:Program}{ops:Array Oper}{rest:List Oper}{o:Oper}{a:Act}{w:World}{Q:Exit->Act->World->Prop}(hg:o.guard=none)(h:o.wp P a w (wpList P ops Q rest) Q):wpList P ops Q (o::rest) a w:=by
 unfold wpList;rw[if_pos (by simp[Region.wanted,hg])];exact .inl h
theorem Turns.old{F G:HF}{a w:World}(h:Turns F G a w){b:Nat}{o:Obj}(hb:a.heap[b]?=some o)(hn:b∉dom F):w.heap[b]?=some o:=h.mods.at hb hn
theorem ak.Qc{F G:HF}{w w':World}{a:Option Addr}{xs:List Value}(h:ak w a xs)(hT:Turns F G w w')(hn:∀x,a=some x->x.block∉dom F):ak w' a xs:=h.keep hT.mods (fun g off e=>hn ⟨g,off,none⟩ e)
abbrev str(l:List UInt8):Value:=.string ⟨l.toArray⟩
def DF(c:UInt8):Bool:=(97<=c.toNat&&c.toNat<=122) || (48<=c.toNat&&c.toNat<=57) || c.toNat==46 || c.toNat==45 || c.toNat==95
def ld(x:Nat):Bool:=(decide (97<=x)&&decide (x<=122)) || (decide (48<=x)&&decide (x<=57)) || x==46 || x==45 || x==95
theorem uq(c:UInt8):DF c=ld c.toNat:=rfl
def ek:Nat->List UInt8->Bool
 | m,[]=>decide (0<m)
 | m,c::r=>if c.toNat=47/\0<m then ek 0 r else if DF c then ek (m+1) r else false
def aq(l:List UInt8):Bool:=decide (l≠[])&&decide (l.length<=20)&&ek 0 l
theorem yX{P:Program}(w:World)(s:ByteArray)(pos:Nat)(ty:TypeId)(h:pos<s.size):
  (Instr.next (.pointer (some ⟨w.heap.size,0,none⟩)) true ty).run P (w.iter s pos) =
   .ok (.tuple #[.bool true,.int .i64 pos,.int .i32 ((Utf8.decode s pos).1:Nat)]) (w.iter s (pos+(Utf8.decode s pos).2)):=by
 simp only[Instr.next,getObj,setObj,Sem.run_bind,Sem.run,World.iter_heap,Result.andThen,h,if_true,World.iter_set];simp[goInt]
theorem Ao(s:ByteArray)(pos:Nat)(h:pos<s.size)(ha:¬(s[pos]'h).toNat<128):128<=(Utf8.decode s pos).1:=by
 have e:s.get! (pos+0)=s[pos]'h:=by
  show s.get! pos=_;simp[ByteArray.get!,getElem!_pos,h];rfl
 unfold Utf8.decode;simp only[e];rw[if_neg ha];split
 ·split
  ·simp only;omega
  ·simp[Utf8.runeError]
 split
 ·split
  ·rename_i h1;simp only[Bool.and_eq_true,decide_eq_true_eq,ge_iff_le]at h1;simp only;omega
  ·simp[Utf8.runeError]
 split
 ·split
  ·rename_i h1;simp only[Bool.and_eq_true,decide_eq_true_eq,ge_iff_le]at h1;simp only;omega
  ·simp[Utf8.runeError]
 ·simp[Utf8.runeError]
def fU(b:Bool)(w:World)(e:Ending)(w':World):Prop:=e=.returned (.bool b)/\aQ w w'
theorem yF(s:ByteArray)(w:World)(h:s.toList=[]):Calls Tryz.prog 89 #[.string s] w (fU false w):=by
 have h2:s.toList.isEmpty=true:=by rw[h];rfl
 go_enter Tryz.func89,Tryz.ntmps89;go_wp2_with fail;go_ret;exact ⟨rfl,Mods.refl _ _⟩
theorem AR(s:ByteArray)(w:World)(h:¬s.toList=[])(hl:¬(s.size:Int)<=20):Calls Tryz.prog 89 #[.string s] w (fU false w):=by
 have h2:s.toList.isEmpty=false:=by cases h':s.toList;exact absurd h' h;rfl
 have h3:(20:Int)<(s.size:Int):=by omega
 go_enter Tryz.func89,Tryz.ntmps89;go_wp2_with fail;go_ret;exact ⟨rfl,Mods.refl _ _⟩
theorem nR{w a:World}(h:aQ a w)(s:ByteArray)(p:Nat):aQ a (w.iter s p):=h.alloc _
def JJ(s:ByteArray)(w:World)(B:Bool)(v:Value)(wr:World):Prop :=
 ∃k m:Nat,k<=s.size/\m<=k/\v=.int .i64 m/\wr=w.iter s k/\ek m (s.data.toList.drop k)=B
theorem Dp(s:ByteArray)(w:World)(h:¬s.toList=[])(hl:(s.size:Int)<=20):Calls Tryz.prog 89 #[.string s] w (fU (ek 0 s.data.toList) w):=by
 have h2:s.toList.isEmpty=false:=by cases h':s.toList;exact absurd h' h;rfl
 have h3:¬(20:Int)<(s.size:Int):=by omega
 go_enter Tryz.func89,Tryz.ntmps89;go_wp2_with fail;go_loopw [3] (fun v wr=>JJ s w (ek 0 s.data.toList) v wr) (fun _ wr=>s.size-wr.iterPos w.heap.size)
 case atStart=>exact⟨0,0,Nat.zero_le _,Nat.le_refl _,rfl,rfl,by simp⟩
 case round =>
  obtain⟨k,m,hk,hm,rfl,rfl,hB⟩:=hrel;have HB:=qqH hB;clear hB h h2 h3;by_cases hlt:k<s.size
  ·have hnx:=fun ty=>yX (P:=Tryz.prog) w s k ty hlt
   have hsl:s.data.toList.length=s.size:=by simp
   have hdr:s.data.toList.drop k=s[k]::s.data.toList.drop (k+1):=by
    rw[drop_eq_getElem_cons (by omega)];rfl
   have HD:=qqH hdr;clear hdr;by_cases ha:s[k].toNat<128
   ·have hdc:=decode_ascii s k hlt ha;obtain⟨x,hx⟩:∃x,s[k].toNat=x:=⟨_,rfl⟩;simp only[hdc,hx]at hnx;have HX:=qqH hx;rw[hx]at ha;clear hdc hx hsl
    have hB2:(if x=47/\0<m then ek 0 (s.data.toList.drop (k+1))else if ld x then ek (m+1) (s.data.toList.drop (k+1))else false)=ek 0 s.data.toList:=by
     have:=HB.out;rw[HD.out,ek,HX.out,uq,HX.out]at this;exact this
    have HB2:=qqH hB2;clear hB2 HB;have hm1:(m:Int)<=9223372036854775806:=by omega
    by_cases c1:x=47
    ·subst c1;by_cases hm0:0<m
     ·have HB3:=qqH HB2.out;have hm2:(0:Int)<(m:Int):=by omega
      go_wp2_with fail;go_roundw
      case rel=>exact⟨k+1,0,by omega,by omega,rfl,rfl,by have:=HB3.out;rwa [if_pos ⟨rfl,hm0⟩]at this⟩
      case measure=>simp;omega
     ·obtain rfl:m=0:=by omega
      have HB3:=qqH HB2.out;go_wp2_with fail;go_ret;refine ⟨?_,nR (Mods.refl _ w) _ _⟩;have:=HB3.out;rw[if_neg (by omega),if_neg (by decide)]at this;rw[<- this];rfl
    ·by_cases c2:ld x=true
     ·have HC2:=qqH c2;have hne:¬(x:Int)=47:=by omega
      have hp:(97<=x/\x<=122)\/(48<=x/\x<=57)\/x=46\/x=45\/x=95:=by
       unfold ld at c2;simp only[Bool.or_eq_true,Bool.and_eq_true,decide_eq_true_eq,beq_iff_eq]at c2;omega
      clear c2;rcases hp with hp|hp|hp|hp|hp
      all_goals first|subst hp|(obtain⟨hp1,hp2⟩:=hp;have hp3:(x:Int)<=122:=by omega)
      all_goals go_wp2_with fail
      all_goals
       go_roundw
       case rel=>exact⟨k+1,m+1,by omega,by omega,by go_num,rfl,by have:=HB2.out;rwa [if_neg (by omega),if_pos HC2.out]at this⟩
       case measure=>simp;omega
     ·have HC2:=qqH c2
      have hp:¬(97<=x/\x<=122)/\¬(48<=x/\x<=57)/\¬x=46/\¬x=45/\¬x=95:=by
       unfold ld at c2;simp only[Bool.or_eq_true,Bool.and_eq_true,decide_eq_true_eq,beq_iff_eq]at c2;omega
      obtain⟨hp1,hp2,hp3,hp4,hp5⟩:=hp;clear c2;go_wp2_with fail;go_ways
      all_goals
       go_ret;refine ⟨?_,nR (Mods.refl _ w) _ _⟩;have:=HB2.out;rw[if_neg (by omega),if_neg HC2.out]at this;rw[<- this];rfl
   ·have hdc:=Ao s k hlt ha;generalize hc:(Utf8.decode s k).1=c at hdc hnx
    have hB2:false=ek 0 s.data.toList:=by
     have:=HB.out;rw[HD.out]at this;simp only[ek]at this;rw[if_neg (fun h=>ha (by omega))]at this
     have hp:DF s[k]=false:=by
      rw[uq];unfold ld;generalize s[k].toNat=y at ha;simp only[Bool.or_eq_false_iff,Bool.and_eq_false_iff,decide_eq_false_iff_not,beq_eq_false_iff_ne];omega
     rw[hp]at this;exact this
    have HB2:=qqH hB2;clear hB2 HB HD ha;have e47:¬(c:Int)=47:=by omega
    have e1:(97:Int)<=c:=by omega
    have e2:¬(c:Int)<=122:=by omega
    have e3:(48:Int)<=c:=by omega
    have e4:¬(c:Int)<=57:=by omega
    have e5:¬(c:Int)=46:=by omega
    have e6:¬(c:Int)=45:=by omega
    have e7:¬(c:Int)=95:=by omega
    go_wp2_with fail;go_ways
    all_goals
     go_ret;refine ⟨?_,nR (Mods.refl _ w) _ _⟩;rw[<- HB2.out];rfl
  ·obtain rfl:k=s.size:=by omega
   have hnx:=fun ty=>run_next_end (P:=Tryz.prog) w s s.size ty hlt
   have hB3:decide (0<m)=ek 0 s.data.toList:=by
    have:=HB.out;rw[drop_of_length_le (by simp)]at this;exact this
   have HB3:=qqH hB3;clear hB3 HB;go_wp2_with fail;refine bodyPost_end (results_tmp rfl _ _ _) rfl ⟨?_,nR (Mods.refl _ w) _ _⟩;rw[<- HB3.out];simp
theorem yE(l:List UInt8)(w:World):Calls Tryz.prog 89 #[str l] w (fU (aq l) w):=by
 unfold aq;by_cases h0:l=[]
 ·subst h0;exact yF _ w ((toList_nil_iff_emptyBytes _).2 rfl)
 have hne:¬(⟨l.toArray⟩:ByteArray).toList=[]:=by
  intro h;apply h0;have:=congrArg (fun b:ByteArray=>b.data.toList) ((toList_nil_iff_emptyBytes _).1 h);simpa using this
 have hsz:(⟨l.toArray⟩:ByteArray).size=l.length:=by simp[ByteArray.size]
 by_cases h1:l.length<=20
 ·have:=Dp ⟨l.toArray⟩ w hne (by rw[hsz];omega);simpa[h0,h1]using this
 ·have:=AR ⟨l.toArray⟩ w hne (by rw[hsz];omega);simpa[h0,h1]using this
def sW(w:World)(rb:Nat)(a:Option Addr)(n cap:Nat)(bad:Bool):Prop:=w.heap[rb]?=some (.cells #[.slice a n cap,.bool bad] 270 (0,0))
def Rd(w:World)(rb:Nat)(l:Bs)(bad:Bool):Prop:=∃a cap,sW w rb a l.length cap bad/\l.length<=cap/\ak w a (l.map al)/\∀x,a=some x->x.block<rb
def nF(rb:Nat)(l:Bs)(bad:Bool)(n:Nat)(w:World)(e:Ending)(w':World):Prop :=
 (bad=true\/l.length<n->e=.returned (.slice none 0 0)/\Rd w' rb l true) /\
 (bad=false->n<=l.length->(∃a cap,e=.returned (.slice a n cap)/\n<=cap/\ak w' a ((l.take n).map al)/\(∀x,a=some x->x.block<rb))/\Rd w' rb (l.drop n) false) /\
 Mods (fun k=>k=rb) w w'/\w'.heap.size=w.heap.size
theorem j9{w:World}{a:Option Addr}{l:Bs}(h:ak w a (l.map al))(n:Nat)(hn:n<=l.length):ak w a ((l.take n).map al):=fun hp=>by
 simp at hp
 obtain⟨g,off,ha,hc⟩:=h (by simp;omega)
 refine⟨g,off,ha,fun j hj=>?_⟩
 have hj':j<n:=by simp at hj;omega
 rw[hc j (by simp;omega)]
 simp
theorem fW{w:World}{g off:Nat}{l:Bs}(h:ak w (some ⟨g,off,none⟩) (l.map al))(n:Nat)(hn:n<=l.length):ak w (some ⟨g,off+n,none⟩) ((l.drop n).map al):=fun hp=>by
 simp at hp
 obtain⟨g',off',ha,hc⟩:=h (by simp;omega)
 simp only[Option.some.injEq,Addr.mk.injEq,and_true]at ha
 obtain⟨rfl,rfl⟩:=ha
 refine⟨g,off+n,rfl,fun j hj=>?_⟩
 have hj':n+j<l.length:=by simp at hj;omega
 rw[Nat.add_assoc,hc (n+j) (by simpa using hj')]
 simp
theorem Ad{w:World}{a:Option Addr}{l:Bs}(h:ak w a (l.map al))(n:Nat)(hn:n<=l.length):ak w (a.map (·.add n)) ((l.drop n).map al):=fun hp=>by
 simp at hp
 obtain⟨g,off,rfl,hc⟩:=h (by simp;omega)
 have:=fW (fun _=>⟨g,off,rfl,hc⟩) n hn (by simpa using hp)
 simpa[Addr.add_lit]using this
theorem Ep{a:Option Addr}{n rb:Nat}(h:∀x,a=some x->x.block<rb):∀x,a.map (·.add n)=some x->x.block<rb:=fun x hx=>by
 cases a with
 | none=>simp at hx
 | some y =>
  simp at hx;subst hx
  have:=h y rfl
  simpa[Addr.add,apply_ite Addr.block]using this
theorem eu(w:World)(a:Option Addr):ak w a (([]:Bs).map al):=fun hp=>by simp at hp
theorem FD(rb:Nat)(l:Bs)(bad:Bool)(n:Nat)(w:World)(h:Rd w rb l bad)(_:l.length<=1099511627776)(_:n<=1099511627776)(hb:bad=true\/l.length<n):
  Calls Tryz.prog 160 #[.pointer (some ⟨rb,0,none⟩),.int .i64 n] w (nF rb l bad n w):=by
 obtain⟨a,cap,hr,hcap,hc,hne⟩:=h;have h0:=aa hr 0 (v:=.slice a l.length cap) (by simp);have h1:=aa hr 1 (v:=.bool bad) (by simp);have f1:=bc hr 1;have hset:=bn hr 1 (.bool true);have H:=Hq4 hset hcap hc hne;clear hset hcap hc hne hr;rcases hb with rfl|hb
 ·go_enter Tryz.func160,Tryz.ntmps160;go_wp2;go_ret;obtain⟨hset,hcap,hc,hne⟩:=H.out;have hM:Mods (fun k=>k=rb) w (w.setCell ⟨rb,1,none⟩ (.bool true)):=(Mods.refl _ w).set1 _;exact⟨fun _=>⟨rfl,a,cap,by unfold sW;rw[hset];rfl,hcap,hc.keep hM (fun _ _ e=>Nat.ne_of_lt (hne _ e)),hne⟩,(fun h=>by cases h),hM,by simp⟩
 ·cases bad
  ·have hg:decide (l.length<n)=true:=by simpa using hb
   have hg2:((n:Int)<=(l.length:Int))=False:=by simp;omega
   go_enter Tryz.func160,Tryz.ntmps160;go_wp2;go_ret;obtain⟨hset,hcap,hc,hne⟩:=H.out;have hM:Mods (fun k=>k=rb) w (w.setCell ⟨rb,1,none⟩ (.bool true)):=(Mods.refl _ w).set1 _;exact⟨fun _=>⟨rfl,a,cap,by unfold sW;rw[hset];rfl,hcap,hc.keep hM (fun _ _ e=>Nat.ne_of_lt (hne _ e)),hne⟩,(fun _ h=>by omega),hM,by simp⟩
  ·go_enter Tryz.func160,Tryz.ntmps160;go_wp2;go_ret;obtain⟨hset,hcap,hc,hne⟩:=H.out;have hM:Mods (fun k=>k=rb) w (w.setCell ⟨rb,1,none⟩ (.bool true)):=(Mods.refl _ w).set1 _;exact⟨fun _=>⟨rfl,a,cap,by unfold sW;rw[hset];rfl,hcap,hc.keep hM (fun _ _ e=>Nat.ne_of_lt (hne _ e)),hne⟩,(fun h=>by cases h),hM,by simp⟩
theorem CV(rb:Nat)(l:Bs)(n:Nat)(w:World)(h:Rd w rb l false)(_:l.length<=1099511627776)(hn:n<=l.length):
  Calls Tryz.prog 160 #[.pointer (some ⟨rb,0,none⟩),.int .i64 n] w (nF rb l false n w):=by
 obtain⟨a,cap,hr,hcap,hc,hne⟩:=h;have h0:=aa hr 0 (v:=.slice a l.length cap) (by simp);have h1:=aa hr 1 (v:=.bool false) (by simp);have f0:=bc hr 0;have hset:=fun v=>bn hr 0 v
 have H:=Hq4 hset hcap hc hne;have hg:decide (l.length<n)=false:=by simp;omega
 clear hset hc hne hr;go_enter Tryz.func160,Tryz.ntmps160;go_wp2
 all_goals
  go_ret;obtain⟨hset,hcap',hc,hne⟩:=H.out
 ·have hln:l.length=n:=by omega
  have hM:Mods (fun k=>k=rb) w (w.setCell ⟨rb,0,none⟩ (.slice a (l.length-n) 0)):=(Mods.refl _ w).set1 _;have hd:l.drop n=[]:=drop_of_length_le (by omega);refine⟨fun h=>by rcases h with h|h;cases h;omega,fun _ _=>⟨⟨a,n,rfl,Nat.le_refl _,(j9 hc n hn).keep hM (fun _ _ e=>Nat.ne_of_lt (hne _ e)),hne⟩,a,0,?_,?_,by rw[hd];exact eu _ _,hne⟩,hM,by simp⟩
  ·unfold sW;rw[hset];simp
  ·simp;omega
 ·have hM:Mods (fun k=>k=rb) w (w.setCell ⟨rb,0,none⟩ (.slice (Option.map (fun x=>x.add n) a) (l.length-n) (cap-n))):=(Mods.refl _ w).set1 _;refine⟨fun h=>by rcases h with h|h;cases h;omega,fun _ _=>⟨⟨a,cap,rfl,by omega,(j9 hc n hn).keep hM (fun _ _ e=>Nat.ne_of_lt (hne _ e)),hne⟩,Option.map (fun x=>x.add n) a,cap-n,?_,?_,(Ad hc n hn).keep hM (fun _ _ e=>Nat.ne_of_lt (Ep hne _ e)),Ep hne⟩,hM,by simp⟩
  ·unfold sW;rw[hset];simp
  ·simp;omega
theorem rH(rb:Nat)(l:Bs)(bad:Bool)(n:Nat)(w:World)(h:Rd w rb l bad)(hl:l.length<=1099511627776)(hn:n<=1099511627776):
  Calls Tryz.prog 160 #[.pointer (some ⟨rb,0,none⟩),.int .i64 n] w (nF rb l bad n w):=by
 by_cases hb:bad=true\/l.length<n
 ·exact FD rb l bad n w h hl hn hb
 ·have hbad:bad=false:=by cases bad<;>simp_all
  subst hbad;exact CV rb l n w h hl (by simp at hb;exact hb)
def dc(l:Bs)(bad:Bool)(n:Nat):Nat:=if bad=true\/l.length<n then 0 else bz (l.take n)
def fe(l:Bs)(bad:Bool)(n:Nat):Bool:=bad || decide (l.length<n)
def eV(l:Bs)(bad:Bool)(n:Nat):Bs:=if bad=true\/l.length<n then l else l.drop n
def iT(rb:Nat)(l:Bs)(bad:Bool)(n:Nat)(w:World)(e:Ending)(w':World):Prop :=
 e=.returned (.int .i64 (dc l bad n))/\Rd w' rb (eV l bad n) (fe l bad n)/\Mods (fun k=>k=rb) w w'/\w'.heap.size=w.heap.size
theorem ou{rb:Nat}{l:Bs}{bad:Bool}{n:Nat}{w w':World}{e:Ending}(h:nF rb l bad n w e w'):
  ∃a cap bs,e=.returned (.slice a bs.length cap)/\ak w' a (bs.map al)/\(∀x,a=some x->x.block<rb)/\bs=(if bad=true\/l.length<n then[]else l.take n)/\Rd w' rb (eV l bad n) (fe l bad n)/\Mods (fun k=>k=rb) w w'/\w'.heap.size=w.heap.size:=by
 obtain⟨h1,h2,h3,h4⟩:=h;by_cases hb:bad=true\/l.length<n
 ·obtain⟨he,hr⟩:=h1 hb;refine⟨none,0,[],he,eu _ _,fun _ h=>(by cases h),by rw[if_pos hb],?_,h3,h4⟩;have e2:fe l bad n=true:=by unfold fe;rcases hb with rfl|hb;rfl;simp[hb]
  rw[e2];unfold eV;rw[if_pos hb];exact hr
 ·have hbad:bad=false:=by cases bad<;>simp_all
  have hn:n<=l.length:=by simp at hb;omega
  obtain⟨⟨a,cap,he,hc,hca,hne⟩,hr⟩:=h2 hbad hn;have hl:(l.take n).length=n:=by simp;omega
  refine⟨a,cap,l.take n,by rw[hl];exact he,hca,hne,by rw[if_neg hb],?_,h3,h4⟩;have e2:fe l bad n=false:=by unfold fe;rw[hbad];simp;omega
  rw[e2];unfold eV;rw[if_neg hb];exact hr
theorem gt(a b:Nat)(ha:a*256+b<9223372036854775808)(hb:b<256):bits BinOp.or IntKind.i64 ((a:Int)*256) (b:Int)=((a*256+b:Nat):Int):=by
 have e1:(BitVec.ofInt 64 ((a:Int)*256)).toNat=a*256:=by
  rw[show((a:Int)*256)=((a*256:Nat):Int) by omega,BitVec.ofInt_natCast,BitVec.toNat_ofNat];exact Nat.mod_eq_of_lt (by omega)
 have e2:(BitVec.ofInt 64 (b:Int)).toNat=b:=by rw[BitVec.ofInt_natCast,BitVec.toNat_ofNat];exact Nat.mod_eq_of_lt (by omega)
 show IntKind.i64.wrap ((BitVec.ofInt 64 ((a:Int)*256) ||| BitVec.ofInt 64 (b:Int)).toNat:Int)=_
 have e3:a*256 ||| b=a*256+b:=by
  have:=Nat.two_pow_add_eq_or_of_lt (i:=8) hb a;rw[show(256:Nat)=2 ^ 8 from rfl,Nat.mul_comm];exact this.symm
 rw[BitVec.toNat_or,e1,e2,e3];unfold IntKind.wrap;simp[IntKind.bits,IntKind.signed];omega
theorem de(rb:Nat)(l:Bs)(bad:Bool)(n:Nat)(w:World)(h:Rd w rb l bad)(hl:l.length<=1099511627776)(hn:n<=7):
  Calls Tryz.prog 134 #[.pointer (some ⟨rb,0,none⟩),.int .i64 n] w (iT rb l bad n w):=by
 have H:=qqH (rH rb l bad n w h hl (by omega));clear h;go_enter Tryz.func134,Tryz.ntmps134;go_wp2_with fail;refine H.out.mono ?_;rintro e w1 hp;obtain⟨a,cap,bs,rfl,hca,hne,hbs,hr,hM,hsz⟩:=ou hp;have hbl:bs.length<=7:=by rw[hbs];split<;>simp;omega
 have H1:=Hq5 hca hbs hr hM hsz;clear hp H hca hbs hr hM hsz hne;go_wp2_with fail;go_loop [5,12] (fun v i=>∃j:Nat,j<=bs.length/\i=.int .i64 j/\v=.int .i64 (bz (bs.take j))) (fun _ i=>bs.length-(intOf i).toNat)
 case atStart=>exact⟨0,Nat.zero_le _,rfl,rfl⟩
 case round =>
  obtain⟨j,hj,rfl,rfl⟩:=hrel;by_cases hlt:j<bs.length
  ·obtain⟨g,off,rfl,hc⟩:=H1.a (by simp;omega);have hcj:=hc j (by simpa using hlt);simp only[getElem_map]at hcj;unfold al at hcj;have h8:=UInt8.toNat_lt bs[j]
   have hlb:bz (bs.take j)<281474976710656:=by
    have:=im (bs.take j);have h2:(bs.take j).length<=6:=by simp;omega
    have h3:(256:Nat) ^ (bs.take j).length<=256 ^ 6:=Nat.pow_le_pow_right (by omega) h2;omega
   have hor:=gt (bz (bs.take j)) bs[j].toNat (by omega) h8;have hnx:bz (bs.take (j+1))=bz (bs.take j)*256+bs[j].toNat:=by rw[QH hlt,oT]
   have HN:=qqH hnx;clear hc hnx;generalize bs[j].toNat=x at *
   generalize bz (bs.take j)=q at *
   go_wp2_with fail;exact⟨⟨j+1,by omega,by go_num,by rw[HN.out];congr 1⟩,by simp[intOf];omega⟩
  ·obtain rfl:j=bs.length:=by omega
   go_wp2_with fail;go_ret;obtain⟨hca,hbs,hr,hM,hsz⟩:=H1.out;refine⟨ET ?_,hr,hM,hsz⟩;rw[hbs];unfold dc;split<;>rfl
def lm(w:World)(e:Ending)(w':World):Prop:=e=.returned (.tuple #[.int .u8 0,.slice none 0 0,.int .i64 0])/\aQ w w'
def zx(a:Option Addr)(k:UInt8)(body:Bs)(n:Nat)(w:World)(e:Ending)(w':World):Prop :=
 ∃a',e=.returned (.tuple #[.int .u8 k.toNat,.slice a' body.length body.length,.int .i64 n])/\ak w' a' (body.map al)/\(∀x,a'=some x->∃y,a=some y/\x.block=y.block)/\aQ w w'
def er(a:Option Addr)(b:Bs)(w:World)(e:Ending)(w':World):Prop :=
 match ce b with
 | none=>lm w e w'
 | some (k,body,n)=>zx a k body n w e w'
theorem FA(x:Nat)(h:x<256):bits BinOp.xor IntKind.u8 IntKind.u8.max (x:Int)=((255-x:Nat):Int):=by
 have:∀y:Fin 256,bits BinOp.xor IntKind.u8 IntKind.u8.max ((y.1:Nat):Int)=((255-y.1:Nat):Int):=by decide +kernel
 exact this ⟨x,h⟩
theorem fV(x y:Nat)(h:x<256)(hy:255-x=y):bits BinOp.xor IntKind.u8 (if IntKind.u8.signed=true then -1 else IntKind.u8.max) (x:Int)=(y:Int):=by
 subst hy;exact FA x h
theorem Dy(a:Option Addr)(cap:Nat)(b:Bs)(w:World)(hb:b.length<9):Calls Tryz.prog 110 #[.slice a b.length cap] w (lm w):=by
 have hg:decide ((b.length:Int)<9)=true:=by simp;omega
 go_enter Tryz.func110,Tryz.ntmps110;go_wp2;go_ret3;exact⟨rfl,Mods.refl _ _⟩
theorem Gh(g off:Nat)(cap:Nat)(b:Bs)(w:World)(hb:9<=b.length)(hl:b.length<=1099511627776)(h0:w.cell? ⟨g,off+0,none⟩=some (.int .u8 0)):Calls Tryz.prog 110 #[.slice (some ⟨g,off,none⟩) b.length cap] w (lm w):=by
 have hg:decide ((b.length:Int)<9)=false:=by simp;omega
 have hp:(0:Int)<b.length:=by omega
 have h0':w.cell? ⟨g,off,none⟩=some (.int .u8 0):=h0;go_enter Tryz.func110,Tryz.ntmps110;go_wp2;go_ret3;exact⟨rfl,Mods.refl _ _⟩
theorem sF{w:World}{g off cap r m n:Nat}{b:Bs}(hc:ak w (some ⟨g,off,none⟩) (b.map al))(hr:r<=b.length)(hcap:b.length<=cap)(hg:g<w.heap.size)(hn:n=b.length-r):
  Rd ((w.drewN m).alloc (.cells #[.slice (some ⟨g,off+r,none⟩) n (cap-r),.bool false] 270)) w.heap.size (b.drop r) false/\aQ w ((w.drewN m).alloc (.cells #[.slice (some ⟨g,off+r,none⟩) n (cap-r),.bool false] 270)):=by
 have hs:aQ w ((w.drewN m).alloc (.cells #[.slice (some ⟨g,off+r,none⟩) n (cap-r),.bool false] 270)):=((Mods.refl _ w).drewN m).alloc _;have hl:(b.drop r).length=n:=by simp;omega
 refine⟨⟨_,cap-r,?_,by omega,(fW hc r hr).keep hs (fun _ _ _=>id),fun x hx=>?_⟩,hs⟩
 ·unfold sW;rw[hl];exact aK (w.drewN m) _
 ·simp at hx;subst hx;show g<_;omega
theorem IY(g off:Nat)(cap:Nat)(b:Bs)(w:World)(b0 b1 b2 b3 b4:Nat)(hb:9<=b.length)(hl:b.length<=1099511627776)(h0:w.cell? ⟨g,off,none⟩=some (.int .u8 b0))(hb0:b0≠0)(h1:w.cell? ⟨g,off+1,none⟩=some (.int .u8 b1))(h2:w.cell? ⟨g,off+2,none⟩=some (.int .u8 b2))(h3:w.cell? ⟨g,off+3,none⟩=some (.int .u8 b3))(h4:w.cell? ⟨g,off+4,none⟩=some (.int .u8 b4))(l1:b1<256)(l2:b2<256)(l3:b3<256)(l4:b4<256)(hne:b1*256+b2≠(255-b3)*256+(255-b4)):Calls Tryz.prog 110 #[.slice (some ⟨g,off,none⟩) b.length cap] w (lm w):=by
 have hg:decide ((b.length:Int)<9)=false:=by simp;omega
 have hp:(0:Int)<b.length:=by omega
 have hp1:(1:Int)<b.length:=by omega
 have hp2:(2:Int)<b.length:=by omega
 have hp3:(3:Int)<b.length:=by omega
 have hp4:(4:Int)<b.length:=by omega
 have hz:((b0:Int)==0)=false:=by simp;omega
 have o1:=gt b1 b2 (by omega) l2;obtain⟨c3,hc3⟩:∃c:Nat,255-b3=c:=⟨_,rfl⟩;obtain⟨c4,hc4⟩:∃c:Nat,255-b4=c:=⟨_,rfl⟩;have n3:=fV b3 c3 l3 hc3;have n4:=fV b4 c4 l4 hc4;have l3':c3<256:=by omega
 have l4':c4<256:=by omega
 rw[hc3,hc4]at hne;clear hc3 hc4;have o2:=gt c3 c4 (by omega) (by omega);obtain⟨mm,hmm⟩:∃mm:Nat,c3*256+c4=mm:=⟨_,rfl⟩;rw[hmm]at o2 hne;obtain⟨nn,hnn⟩:∃nn:Nat,b1*256+b2=nn:=⟨_,rfl⟩;rw[hnn]at o1 hne;have hq:((nn:Int) != (mm:Int))=true:=by simp only[bne_iff_ne];omega
 have HN:=qqH hnn;clear hmm hnn hne;go_enter Tryz.func110,Tryz.ntmps110;go_wp2_with fail;go_quiet (fail);go_wp2_with fail;have k3:(w.drewN nq).cell? ⟨g,off+3,none⟩=some (.int .u8 b3):=h3;have k4:(w.drewN nq).cell? ⟨g,off+4,none⟩=some (.int .u8 b4):=h4;clear o1 h0 h1 h2 hz hp hp1 hp2;go_quiet (fail);go_wp2_with fail;go_ret3;exact⟨rfl,((Mods.refl _ w).drewN _).drewN _⟩
theorem Gg(g off:Nat)(cap:Nat)(b:Bs)(w:World)(b0 b1 b2 b3 b4:Nat)(hb:9<=b.length)(hl:b.length<=1099511627776)(h0:w.cell? ⟨g,off,none⟩=some (.int .u8 b0))(hb0:b0≠0)(h1:w.cell? ⟨g,off+1,none⟩=some (.int .u8 b1))(h2:w.cell? ⟨g,off+2,none⟩=some (.int .u8 b2))(h3:w.cell? ⟨g,off+3,none⟩=some (.int .u8 b3))(h4:w.cell? ⟨g,off+4,none⟩=some (.int .u8 b4))(l1:b1<256)(l2:b2<256)(l3:b3<256)(l4:b4<256)(hne:b1*256+b2=(255-b3)*256+(255-b4))(hsz:b.length<b1*256+b2+9):Calls Tryz.prog 110 #[.slice (some ⟨g,off,none⟩) b.length cap] w (lm w):=by
 have hg:decide ((b.length:Int)<9)=false:=by simp;omega
 have hp:(0:Int)<b.length:=by omega
 have hp1:(1:Int)<b.length:=by omega
 have hp2:(2:Int)<b.length:=by omega
 have hp3:(3:Int)<b.length:=by omega
 have hp4:(4:Int)<b.length:=by omega
 have hz:((b0:Int)==0)=false:=by simp;omega
 have o1:=gt b1 b2 (by omega) l2;obtain⟨c3,hc3⟩:∃c:Nat,255-b3=c:=⟨_,rfl⟩;obtain⟨c4,hc4⟩:∃c:Nat,255-b4=c:=⟨_,rfl⟩;have n3:=fV b3 c3 l3 hc3;have n4:=fV b4 c4 l4 hc4;have l3':c3<256:=by omega
 have l4':c4<256:=by omega
 rw[hc3,hc4]at hne;clear hc3 hc4;have o2:=gt c3 c4 (by omega) (by omega);obtain⟨mm,hmm⟩:∃mm:Nat,c3*256+c4=mm:=⟨_,rfl⟩;rw[hmm]at o2 hne;obtain⟨nn,hnn⟩:∃nn:Nat,b1*256+b2=nn:=⟨_,rfl⟩;rw[hnn]at o1 hne;rw[hnn]at hsz;subst hne;have hq:((nn:Int) != (nn:Int))=false:=by simp
 have hlt:decide ((b.length:Int)<(nn:Int)+9)=true:=by simp;omega
 have hnn16:nn<65536:=by omega
 have HN:=qqH hnn;clear hmm hnn;go_enter Tryz.func110,Tryz.ntmps110;go_wp2_with fail;go_quiet (fail);go_wp2_with fail;have k3:(w.drewN nq).cell? ⟨g,off+3,none⟩=some (.int .u8 b3):=h3;have k4:(w.drewN nq).cell? ⟨g,off+4,none⟩=some (.int .u8 b4):=h4;clear o1 h0 h1 h2 hz hp hp1 hp2;go_quiet ((go_at_call 53;exact(gU _ (by omega) (by omega) _).mono (fun e w' ⟨he,hw⟩=>⟨he,_,hw.symm⟩)));go_wp2_with fail;go_ret3;exact⟨rfl,((Mods.refl _ w).drewN _).drewN _⟩
theorem IZ(g off:Nat)(cap:Nat)(b:Bs)(w:World)(b0 b1 b2 b3 b4:Nat)(hb:9<=b.length)(hl:b.length<=1099511627776)(h0:w.cell? ⟨g,off,none⟩=some (.int .u8 b0))(hb0:b0≠0)(h1:w.cell? ⟨g,off+1,none⟩=some (.int .u8 b1))(h2:w.cell? ⟨g,off+2,none⟩=some (.int .u8 b2))(h3:w.cell? ⟨g,off+3,none⟩=some (.int .u8 b3))(h4:w.cell? ⟨g,off+4,none⟩=some (.int .u8 b4))(l1:b1<256)(l2:b2<256)(l3:b3<256)(l4:b4<256)(hne:b1*256+b2=(255-b3)*256+(255-b4))(hsz:b1*256+b2+9<=b.length)(hcap:b.length<=cap)(k0:UInt8)(hk0:k0.toNat=b0)(hc:ak w (some ⟨g,off,none⟩) (b.map al))(body:Bs)(hbody:body=(b.drop 5).take (b1*256+b2))(hsum:bz ((b.drop (5+(b1*256+b2))).take 4)≠dq k0 body):Calls Tryz.prog 110 #[.slice (some ⟨g,off,none⟩) b.length cap] w (lm w):=by
 have hg:decide ((b.length:Int)<9)=false:=by simp;omega
 have hp:(0:Int)<b.length:=by omega
 have hp1:(1:Int)<b.length:=by omega
 have hp2:(2:Int)<b.length:=by omega
 have hp3:(3:Int)<b.length:=by omega
 have hp4:(4:Int)<b.length:=by omega
 have hz:((b0:Int)==0)=false:=by simp;omega
 have o1:=gt b1 b2 (by omega) l2;obtain⟨c3,hc3⟩:∃c:Nat,255-b3=c:=⟨_,rfl⟩;obtain⟨c4,hc4⟩:∃c:Nat,255-b4=c:=⟨_,rfl⟩;have n3:=fV b3 c3 l3 hc3;have n4:=fV b4 c4 l4 hc4;have l3':c3<256:=by omega
 have l4':c4<256:=by omega
 rw[hc3,hc4]at hne;clear hc3 hc4;have o2:=gt c3 c4 (by omega) (by omega);obtain⟨mm,hmm⟩:∃mm:Nat,c3*256+c4=mm:=⟨_,rfl⟩;rw[hmm]at o2 hne;obtain⟨nn,hnn⟩:∃nn:Nat,b1*256+b2=nn:=⟨_,rfl⟩;rw[hnn]at o1 hne;rw[hnn]at hsz;subst hne;have hq:((nn:Int) != (nn:Int))=false:=by simp
 have hlt:decide ((b.length:Int)<(nn:Int)+9)=false:=by simp;omega
 have hnn16:nn<65536:=by omega
 rw[hnn]at hbody hsum;have hgl:g<w.heap.size:=World.block_lt_of_cell? w _ h0;have hbl:body.length=nn:=by rw[hbody];simp;omega
 have hrl:(b.drop (5+nn)).length=b.length-(5+nn):=by simp
 have hcb:=j9 (fW hc 5 (by omega)) nn (by simp;omega);have hcr:=fW hc (5+nn) (by omega);rw[<- hbody]at hcb;have hr4:dc (b.drop (5+nn)) false 4=bz ((b.drop (5+nn)).take 4):=by unfold dc;rw[if_neg (by simp;omega)]
 have hr4l:bz ((b.drop (5+nn)).take 4)<4294967296:=by
  have:=im ((b.drop (5+nn)).take 4);have h2:(256:Nat) ^ ((b.drop (5+nn)).take 4).length<=256 ^ 4:=Nat.pow_le_pow_right (by omega) (by simp;omega);omega
 have hsl:=nj k0 body;have HB:=Hq7 hcb hcr hr4 hbl hc hrl hk0;clear hcb hcr hr4 hbl hc hbody hrl hk0;have HN:=qqH hnn;clear hmm hnn;go_enter Tryz.func110,Tryz.ntmps110;go_wp2_with fail;go_quiet (fail);go_wp2_with fail;have k3:(w.drewN nq).cell? ⟨g,off+3,none⟩=some (.int .u8 b3):=h3;have k4:(w.drewN nq).cell? ⟨g,off+4,none⟩=some (.int .u8 b4):=h4;clear o1 h1 h2 hz hp1 hp2;obtain⟨m1,rfl⟩:∃m,m=nq:=⟨_,rfl⟩;go_quiet ((go_at_call 53;exact(gU _ (by omega) (by omega) _).mono (fun e w' ⟨he,hw⟩=>⟨he,_,hw.symm⟩)));obtain⟨m2,rfl⟩:∃m,m=nq:=⟨_,rfl⟩;rcases Nat.eq_zero_or_pos nn with hn0|hn0
 ·subst hn0;simp only[Nat.add_zero]at *
  go_wp2_with fail;obtain⟨hrd,hs1⟩:=sF (m:=m1+m2) HB.e (r:=5) (by omega) hcap hgl rfl;generalize ((w.drewN (m1+m2)).alloc (.cells #[.slice (some ⟨g,off+5,none⟩) (b.length-5) (cap-5),.bool false] 270))=W1 at hrd hs1 ⊢;generalize hrb:w.heap.size=rb at hrd hgl ⊢;have hk1:W1.cell? ⟨g,off,none⟩=some (.int .u8 b0):=by rw[World.cell?_of_block (hs1.block g (by omega) id)];exact h0
  have hcb1:ak W1 (some ⟨g,off,none⟩) (body.map al):=(by rw[eq_nil_of_length_eq_zero HB.d];exact eu _ _);have HR:=Hq4 hrd hs1 hrb hcb1;clear hrd hs1 hrb hcb1;have hw4:IntKind.u32.wrap ((bz ((b.drop 5).take 4):Nat):Int)=((bz ((b.drop 5).take 4):Nat):Int):=by rw[IntKind.wrap_u32];omega
  have hne:(((bz ((b.drop 5).take 4):Nat):Int) != ((dq k0 body:Nat):Int))=true:=by simp only[bne_iff_ne];omega
  generalize bz ((b.drop 5).take 4)=x at *
  have hp0:0<b.length:=by omega
  have HSum:Hid (∀W:World,ak W (some ⟨g,off,none⟩) (body.map al)->Calls Tryz.prog 95 #[.int .u8 b0,.slice (some ⟨g,off,none⟩) 0 0] W (pE k0 body W)):=qqH (fun W h=>by
   have:=jO (some ⟨g,off,none⟩) 0 k0 body W h (by have:=HB.d;omega);rwa [HB.d,HB.u]at this)
  have HNum:=qqH (fun(W:World) (h:Rd W rb (b.drop 5) false)=>(show Calls Tryz.prog 134 #[.pointer (some ⟨rb,0,none⟩),.int .i64 4] W (iT rb (b.drop 5) false 4 W)from de rb (b.drop 5) false 4 W h (by simp;omega) (by omega)));go_region_held3 (fun w'=>w'.cell? ⟨g,off,none⟩=some (.int .u8 b0)) (first|exact hk1|exact hk2|exact hk3) (first|(go_at_call 134;refine(HNum.out _ (by exact HR.a)).mono ?_;rintro e w2 ⟨rfl,hr2,hM2,hz2⟩;rw[HB.c];have hk2:w2.cell? ⟨g,off,none⟩=some (.int .u8 b0):=(World.cell?_of_block (hM2.block g (by have:=HR.b.size;have:=HR.c;show g<W1.heap.size;omega) (by omega))).trans hk1;have H2:=Hq2 hM2 hz2;clear hr2 hM2 hz2)|(go_at_call 95;refine(HSum.out _ (ak.keep (w:=W1.drew) (by exact HR.x) H2.a (fun g' off' e=>by simp at e;omega))).mono ?_;rintro e w3 ⟨rfl,hs3⟩;have hk3:w3.cell? ⟨g,off,none⟩=some (.int .u8 b0):=(World.cell?_of_block (hs3.block g (World.block_lt_of_cell? w2 _ hk2) id)).trans hk2;have H3:=qqH hs3;clear hs3));go_wp2_with fail;go_ret3;exact⟨rfl,(HR.b.trans' ((Mods.refl _ W1).drew.trans H2.a) (fun i hi=>.inr (by have:=HR.c;omega))).trans' H3.out (fun i hi=>hi.elim)⟩
 ·go_wp2_with fail;obtain⟨hrd,hs1⟩:=sF (m:=m1+m2) HB.e (r:=5+nn) (by omega) hcap hgl rfl;generalize ((w.drewN (m1+m2)).alloc (.cells #[.slice (some ⟨g,off+(5+nn),none⟩) (b.length-(5+nn)) (cap-(5+nn)),.bool false] 270))=W1 at hrd hs1 ⊢;generalize hrb:w.heap.size=rb at hrd hgl ⊢;have hk1:W1.cell? ⟨g,off,none⟩=some (.int .u8 b0):=by rw[World.cell?_of_block (hs1.block g (by omega) id)];exact h0
  have hcb1:ak W1 (some ⟨g,off+5,none⟩) (body.map al):=HB.a.keep hs1 (fun _ _ _=>id);have HR:=Hq4 hrd hs1 hrb hcb1;clear hrd hs1 hrb hcb1;have hw4:IntKind.u32.wrap ((bz ((b.drop (5+nn)).take 4):Nat):Int)=((bz ((b.drop (5+nn)).take 4):Nat):Int):=by rw[IntKind.wrap_u32];omega
  have hne:(((bz ((b.drop (5+nn)).take 4):Nat):Int) != ((dq k0 body:Nat):Int))=true:=by simp only[bne_iff_ne];omega
  generalize bz ((b.drop (5+nn)).take 4)=x at *
  have hp0:0<b.length:=by omega
  have HSum:Hid (∀W:World,ak W (some ⟨g,off+5,none⟩) (body.map al)->Calls Tryz.prog 95 #[.int .u8 b0,.slice (some ⟨g,off+5,none⟩) nn nn] W (pE k0 body W)):=qqH (fun W h=>by
   have:=jO (some ⟨g,off+5,none⟩) nn k0 body W h (by have:=HB.d;omega);rwa [HB.d,HB.u]at this)
  have HNum:=qqH (fun(W:World) (h:Rd W rb (b.drop (5+nn)) false)=>(show Calls Tryz.prog 134 #[.pointer (some ⟨rb,0,none⟩),.int .i64 4] W (iT rb (b.drop (5+nn)) false 4 W)from de rb (b.drop (5+nn)) false 4 W h (by simp;omega) (by omega)));go_region_held3 (fun w'=>w'.cell? ⟨g,off,none⟩=some (.int .u8 b0)) (first|exact hk1|exact hk2|exact hk3) (first|(go_at_call 134;refine(HNum.out _ (by exact HR.a)).mono ?_;rintro e w2 ⟨rfl,hr2,hM2,hz2⟩;rw[HB.c];have hk2:w2.cell? ⟨g,off,none⟩=some (.int .u8 b0):=(World.cell?_of_block (hM2.block g (by have:=HR.b.size;have:=HR.c;show g<W1.heap.size;omega) (by omega))).trans hk1;have H2:=Hq2 hM2 hz2;clear hr2 hM2 hz2)|(go_at_call 95;refine(HSum.out _ (ak.keep (w:=W1.drew) (by exact HR.x) H2.a (fun g' off' e=>by simp at e;omega))).mono ?_;rintro e w3 ⟨rfl,hs3⟩;have hk3:w3.cell? ⟨g,off,none⟩=some (.int .u8 b0):=(World.cell?_of_block (hs3.block g (World.block_lt_of_cell? w2 _ hk2) id)).trans hk2;have H3:=qqH hs3;clear hs3));go_wp2_with fail;go_ret3;exact⟨rfl,(HR.b.trans' ((Mods.refl _ W1).drew.trans H2.a) (fun i hi=>.inr (by have:=HR.c;omega))).trans' H3.out (fun i hi=>hi.elim)⟩
theorem Kt(g off:Nat)(cap:Nat)(b:Bs)(w:World)(b0 b1 b2 b3 b4:Nat)(hb:9<=b.length)(hl:b.length<=1099511627776)(h0:w.cell? ⟨g,off,none⟩=some (.int .u8 b0))(hb0:b0≠0)(h1:w.cell? ⟨g,off+1,none⟩=some (.int .u8 b1))(h2:w.cell? ⟨g,off+2,none⟩=some (.int .u8 b2))(h3:w.cell? ⟨g,off+3,none⟩=some (.int .u8 b3))(h4:w.cell? ⟨g,off+4,none⟩=some (.int .u8 b4))(l1:b1<256)(l2:b2<256)(l3:b3<256)(l4:b4<256)(hne:b1*256+b2=(255-b3)*256+(255-b4))(hsz:b1*256+b2+9<=b.length)(hcap:b.length<=cap)(k0:UInt8)(hk0:k0.toNat=b0)(hc:ak w (some ⟨g,off,none⟩) (b.map al))(body:Bs)(hbody:body=(b.drop 5).take (b1*256+b2))(hsum:bz ((b.drop (5+(b1*256+b2))).take 4)=dq k0 body):Calls Tryz.prog 110 #[.slice (some ⟨g,off,none⟩) b.length cap] w (zx (some ⟨g,off,none⟩) k0 body (b1*256+b2+9) w):=by
 have hg:decide ((b.length:Int)<9)=false:=by simp;omega
 have hp:(0:Int)<b.length:=by omega
 have hp1:(1:Int)<b.length:=by omega
 have hp2:(2:Int)<b.length:=by omega
 have hp3:(3:Int)<b.length:=by omega
 have hp4:(4:Int)<b.length:=by omega
 have hz:((b0:Int)==0)=false:=by simp;omega
 have o1:=gt b1 b2 (by omega) l2;obtain⟨c3,hc3⟩:∃c:Nat,255-b3=c:=⟨_,rfl⟩;obtain⟨c4,hc4⟩:∃c:Nat,255-b4=c:=⟨_,rfl⟩;have n3:=fV b3 c3 l3 hc3;have n4:=fV b4 c4 l4 hc4;have l3':c3<256:=by omega
 have l4':c4<256:=by omega
 rw[hc3,hc4]at hne;clear hc3 hc4;have o2:=gt c3 c4 (by omega) (by omega);obtain⟨mm,hmm⟩:∃mm:Nat,c3*256+c4=mm:=⟨_,rfl⟩;rw[hmm]at o2 hne;obtain⟨nn,hnn⟩:∃nn:Nat,b1*256+b2=nn:=⟨_,rfl⟩;rw[hnn]at o1 hne;rw[hnn]at hsz;subst hne;have hq:((nn:Int) != (nn:Int))=false:=by simp
 have hlt:decide ((b.length:Int)<(nn:Int)+9)=false:=by simp;omega
 have hnn16:nn<65536:=by omega
 rw[hnn]at hbody hsum;have hgl:g<w.heap.size:=World.block_lt_of_cell? w _ h0;have hbl:body.length=nn:=by rw[hbody];simp;omega
 have hrl:(b.drop (5+nn)).length=b.length-(5+nn):=by simp
 have hcb:=j9 (fW hc 5 (by omega)) nn (by simp;omega);have hcr:=fW hc (5+nn) (by omega);rw[<- hbody]at hcb;have hr4:dc (b.drop (5+nn)) false 4=bz ((b.drop (5+nn)).take 4):=by unfold dc;rw[if_neg (by simp;omega)]
 have hr4l:bz ((b.drop (5+nn)).take 4)<4294967296:=by
  have:=im ((b.drop (5+nn)).take 4);have h2:(256:Nat) ^ ((b.drop (5+nn)).take 4).length<=256 ^ 4:=Nat.pow_le_pow_right (by omega) (by simp;omega);omega
 have hsl:=nj k0 body;have HB:=Hq7 hcb hcr hr4 hbl hc hrl hk0;clear hcb hcr hr4 hbl hc hbody hrl hk0;have HN:=qqH hnn;clear hmm hnn;go_enter Tryz.func110,Tryz.ntmps110;go_wp2_with fail;go_quiet (fail);go_wp2_with fail;have k3:(w.drewN nq).cell? ⟨g,off+3,none⟩=some (.int .u8 b3):=h3;have k4:(w.drewN nq).cell? ⟨g,off+4,none⟩=some (.int .u8 b4):=h4;clear o1 h1 h2 hz hp1 hp2;obtain⟨m1,rfl⟩:∃m,m=nq:=⟨_,rfl⟩;go_quiet ((go_at_call 53;exact(gU _ (by omega) (by omega) _).mono (fun e w' ⟨he,hw⟩=>⟨he,_,hw.symm⟩)));obtain⟨m2,rfl⟩:∃m,m=nq:=⟨_,rfl⟩;rcases Nat.eq_zero_or_pos nn with hn0|hn0
 ·subst hn0;simp only[Nat.add_zero]at *
  go_wp2_with fail;obtain⟨hrd,hs1⟩:=sF (m:=m1+m2) HB.e (r:=5) (by omega) hcap hgl rfl;generalize ((w.drewN (m1+m2)).alloc (.cells #[.slice (some ⟨g,off+5,none⟩) (b.length-5) (cap-5),.bool false] 270))=W1 at hrd hs1 ⊢;generalize hrb:w.heap.size=rb at hrd hgl ⊢;have hk1:W1.cell? ⟨g,off,none⟩=some (.int .u8 b0):=by rw[World.cell?_of_block (hs1.block g (by omega) id)];exact h0
  have hcb1:ak W1 (some ⟨g,off,none⟩) (body.map al):=(by rw[eq_nil_of_length_eq_zero HB.d];exact eu _ _);have HR:=Hq4 hrd hs1 hrb hcb1;clear hrd hs1 hrb hcb1;have hw4:IntKind.u32.wrap ((bz ((b.drop 5).take 4):Nat):Int)=((bz ((b.drop 5).take 4):Nat):Int):=by rw[IntKind.wrap_u32];omega
  have hne:(((bz ((b.drop 5).take 4):Nat):Int) != ((dq k0 body:Nat):Int))=false:=by rw[hsum];simp
  clear hsum;generalize bz ((b.drop 5).take 4)=x at *
  have hp0:0<b.length:=by omega
  have HSum:Hid (∀W:World,ak W (some ⟨g,off,none⟩) (body.map al)->Calls Tryz.prog 95 #[.int .u8 b0,.slice (some ⟨g,off,none⟩) 0 0] W (pE k0 body W)):=qqH (fun W h=>by
   have:=jO (some ⟨g,off,none⟩) 0 k0 body W h (by have:=HB.d;omega);rwa [HB.d,HB.u]at this)
  have HNum:=qqH (fun(W:World) (h:Rd W rb (b.drop 5) false)=>(show Calls Tryz.prog 134 #[.pointer (some ⟨rb,0,none⟩),.int .i64 4] W (iT rb (b.drop 5) false 4 W)from de rb (b.drop 5) false 4 W h (by simp;omega) (by omega)));go_region_held3 (fun w'=>w'.cell? ⟨g,off,none⟩=some (.int .u8 b0)) (first|exact hk1|exact hk2|exact hk3) (first|(go_at_call 134;refine(HNum.out _ (by exact HR.a)).mono ?_;rintro e w2 ⟨rfl,hr2,hM2,hz2⟩;rw[HB.c];have hk2:w2.cell? ⟨g,off,none⟩=some (.int .u8 b0):=(World.cell?_of_block (hM2.block g (by have:=HR.b.size;have:=HR.c;show g<W1.heap.size;omega) (by omega))).trans hk1;have H2:=Hq2 hM2 hz2;clear hr2 hM2 hz2)|(go_at_call 95;refine(HSum.out _ (ak.keep (w:=W1.drew) (by exact HR.x) H2.a (fun g' off' e=>by simp at e;omega))).mono ?_;rintro e w3 ⟨rfl,hs3⟩;have hk3:w3.cell? ⟨g,off,none⟩=some (.int .u8 b0):=(World.cell?_of_block (hs3.block g (World.block_lt_of_cell? w2 _ hk2) id)).trans hk2;have H3:=qqH hs3;clear hs3));go_wp2_with fail;have hsame:aQ w w3:=(HR.b.trans' ((Mods.refl _ W1).drew.trans H2.a) (fun i hi=>.inr (by have:=HR.c;omega))).trans' H3.out (fun i hi=>hi.elim);have hcb3:ak w3 (some ⟨g,off,none⟩) (body.map al):=by rw[eq_nil_of_length_eq_zero HB.d];exact eu _ _
  have HZ:=Hq2 hsame hcb3;clear hsame hcb3 hk1 hk2;go_quiet ((go_at_call 53;exact(gU _ (by omega) (by omega) _).mono (fun e w' ⟨he,hw⟩=>⟨he,_,hw.symm⟩)));go_wp2_with fail;go_ret3;refine⟨some ⟨g,off,none⟩,?_,HZ.z,fun x hx=>⟨_,rfl,by simp at hx;subst hx;rfl⟩,HZ.a.drewN _⟩;rw[HB.d,HB.u,HN.out];first|rfl|(congr 3)|simp
 ·go_wp2_with fail;obtain⟨hrd,hs1⟩:=sF (m:=m1+m2) HB.e (r:=5+nn) (by omega) hcap hgl rfl;generalize ((w.drewN (m1+m2)).alloc (.cells #[.slice (some ⟨g,off+(5+nn),none⟩) (b.length-(5+nn)) (cap-(5+nn)),.bool false] 270))=W1 at hrd hs1 ⊢;generalize hrb:w.heap.size=rb at hrd hgl ⊢;have hk1:W1.cell? ⟨g,off,none⟩=some (.int .u8 b0):=by rw[World.cell?_of_block (hs1.block g (by omega) id)];exact h0
  have hcb1:ak W1 (some ⟨g,off+5,none⟩) (body.map al):=HB.a.keep hs1 (fun _ _ _=>id);have HR:=Hq4 hrd hs1 hrb hcb1;clear hrd hs1 hrb hcb1;have hw4:IntKind.u32.wrap ((bz ((b.drop (5+nn)).take 4):Nat):Int)=((bz ((b.drop (5+nn)).take 4):Nat):Int):=by rw[IntKind.wrap_u32];omega
  have hne:(((bz ((b.drop (5+nn)).take 4):Nat):Int) != ((dq k0 body:Nat):Int))=false:=by rw[hsum];simp
  clear hsum;generalize bz ((b.drop (5+nn)).take 4)=x at *
  have hp0:0<b.length:=by omega
  have HSum:Hid (∀W:World,ak W (some ⟨g,off+5,none⟩) (body.map al)->Calls Tryz.prog 95 #[.int .u8 b0,.slice (some ⟨g,off+5,none⟩) nn nn] W (pE k0 body W)):=qqH (fun W h=>by
   have:=jO (some ⟨g,off+5,none⟩) nn k0 body W h (by have:=HB.d;omega);rwa [HB.d,HB.u]at this)
  have HNum:=qqH (fun(W:World) (h:Rd W rb (b.drop (5+nn)) false)=>(show Calls Tryz.prog 134 #[.pointer (some ⟨rb,0,none⟩),.int .i64 4] W (iT rb (b.drop (5+nn)) false 4 W)from de rb (b.drop (5+nn)) false 4 W h (by simp;omega) (by omega)));go_region_held3 (fun w'=>w'.cell? ⟨g,off,none⟩=some (.int .u8 b0)) (first|exact hk1|exact hk2|exact hk3) (first|(go_at_call 134;refine(HNum.out _ (by exact HR.a)).mono ?_;rintro e w2 ⟨rfl,hr2,hM2,hz2⟩;rw[HB.c];have hk2:w2.cell? ⟨g,off,none⟩=some (.int .u8 b0):=(World.cell?_of_block (hM2.block g (by have:=HR.b.size;have:=HR.c;show g<W1.heap.size;omega) (by omega))).trans hk1;have H2:=Hq2 hM2 hz2;clear hr2 hM2 hz2)|(go_at_call 95;refine(HSum.out _ (ak.keep (w:=W1.drew) (by exact HR.x) H2.a (fun g' off' e=>by simp at e;omega))).mono ?_;rintro e w3 ⟨rfl,hs3⟩;have hk3:w3.cell? ⟨g,off,none⟩=some (.int .u8 b0):=(World.cell?_of_block (hs3.block g (World.block_lt_of_cell? w2 _ hk2) id)).trans hk2;have H3:=qqH hs3;clear hs3));go_wp2_with fail;have hsame:aQ w w3:=(HR.b.trans' ((Mods.refl _ W1).drew.trans H2.a) (fun i hi=>.inr (by have:=HR.c;omega))).trans' H3.out (fun i hi=>hi.elim);have hcb3:ak w3 (some ⟨g,off+5,none⟩) (body.map al):=HB.a.keep hsame (fun _ _ _=>id);have HZ:=Hq2 hsame hcb3;clear hsame hcb3 hk1 hk2;go_quiet ((go_at_call 53;exact(gU _ (by omega) (by omega) _).mono (fun e w' ⟨he,hw⟩=>⟨he,_,hw.symm⟩)));go_wp2_with fail;go_ret3;refine⟨some ⟨g,off+5,none⟩,?_,HZ.z,fun x hx=>⟨_,rfl,by simp at hx;subst hx;rfl⟩,HZ.a.drewN _⟩;rw[HB.d,HB.u,HN.out];first|rfl|(congr 3)|simp
theorem ji(a:Option Addr)(cap:Nat)(b:Bs)(w:World)(h:ak w a (b.map al))(hl:b.length<=1099511627776)(hcap:b.length<=cap):
  Calls Tryz.prog 110 #[.slice a b.length cap] w (er a b w):=by
 have key:∀{R R':Ending->World->Prop},(∀e w',R e w'->R' e w')->Calls Tryz.prog 110 #[.slice a b.length cap] w R->Calls Tryz.prog 110 #[.slice a b.length cap] w R':=fun hR hc=>hc.mono hR
 by_cases h9:b.length<9
 ·have e:ce b=none:=by unfold ce;rw[if_pos h9]
  exact(Dy a cap b w h9).mono fun e' w' hp=>by unfold er;rw[e];exact hp
 obtain⟨g,off,rfl,hc⟩:=h (by simp;omega)
 have cell:∀j (hj:j<b.length),w.cell? ⟨g,off+j,none⟩=some (.int .u8 (b.getD j 0).toNat):=fun j hj=>by
  rw[hc j (by simpa using hj)];simp[al,getD_eq_getElem?_getD,hj]
 by_cases hz:b.getD 0 0=0
 ·have e:ce b=none:=by unfold ce;rw[if_neg h9,if_pos hz]
  refine(Gh g off cap b w (by omega) hl ?_).mono fun e' w' hp=>by unfold er;rw[e];exact hp
  rw[cell 0 (by omega),hz];rfl
 have hz':(b.getD 0 0).toNat≠0:=fun e=>hz (UInt8.toNat_inj.1 (by simpa using e))
 have c0:=cell 0 (by omega);have c1:=cell 1 (by omega);have c2:=cell 2 (by omega);have c3:=cell 3 (by omega);have c4:=cell 4 (by omega);have l1:=UInt8.toNat_lt (b.getD 1 0);have l2:=UInt8.toNat_lt (b.getD 2 0);have l3:=UInt8.toNat_lt (b.getD 3 0);have l4:=UInt8.toNat_lt (b.getD 4 0);by_cases hne:(b.getD 1 0).toNat*256+(b.getD 2 0).toNat≠(255-(b.getD 3 0).toNat)*256+(255-(b.getD 4 0).toNat)
 ·have e:ce b=none:=by unfold ce;rw[if_neg h9,if_neg hz];simp only;rw[if_pos hne]
  exact(IY g off cap b w _ _ _ _ _ (by omega) hl c0 hz' c1 c2 c3 c4 l1 l2 l3 l4 hne).mono fun e' w' hp=>by unfold er;rw[e];exact hp
 by_cases hsz:b.length<(b.getD 1 0).toNat*256+(b.getD 2 0).toNat+9
 ·have e:ce b=none:=by unfold ce;rw[if_neg h9,if_neg hz];simp only;rw[if_neg hne,if_pos hsz]
  exact(Gg g off cap b w _ _ _ _ _ (by omega) hl c0 hz' c1 c2 c3 c4 l1 l2 l3 l4 (by simpa using hne) hsz).mono fun e' w' hp=>by unfold er;rw[e];exact hp
 by_cases hsum:bz ((b.drop (5+((b.getD 1 0).toNat*256+(b.getD 2 0).toNat))).take 4)≠dq (b.getD 0 0) ((b.drop 5).take ((b.getD 1 0).toNat*256+(b.getD 2 0).toNat))
 ·have e:ce b=none:=by unfold ce;rw[if_neg h9,if_neg hz];simp only;rw[if_neg hne,if_neg hsz,if_pos hsum]
  exact(IZ g off cap b w _ _ _ _ _ (by omega) hl c0 hz' c1 c2 c3 c4 l1 l2 l3 l4 (by simpa using hne) (by omega) hcap _ rfl h _ rfl hsum).mono fun e' w' hp=>by unfold er;rw[e];exact hp
 ·have e:ce b=some (b.getD 0 0,(b.drop 5).take ((b.getD 1 0).toNat*256+(b.getD 2 0).toNat),(b.getD 1 0).toNat*256+(b.getD 2 0).toNat+9):=by unfold ce;rw[if_neg h9,if_neg hz];simp only;rw[if_neg hne,if_neg hsz,if_neg hsum]
  exact(Kt g off cap b w _ _ _ _ _ (by omega) hl c0 hz' c1 c2 c3 c4 l1 l2 l3 l4 (by simpa using hne) (by omega) hcap _ rfl h _ rfl (by simpa using hsum)).mono fun e' w' hp=>by unfold er;rw[e];exact hp
def Fd(ob:Nat)(body:Bs)(w:World)(e:Ending)(w':World):Prop :=
 e=.returned .nilIface/\∃v,bOk v body/\Turns [(ob,Is (.cells #[.slice none 0 0] 35 (0,0)))] ((ob,Is (.cells #[v] 35 (0,0)))::aA v body) w w'
theorem A4(a:Option Addr)(cap:Nat)(b body:Bs)(at_ pb xb ob:Nat)(w:World)(h:ak w a (b.map al))(hl:b.length<=1099511627776)(hcap:b.length<=cap)(ho:ce b=some (1,body,body.length+9))(hp:w.heap[pb]?=some (.cells #[.int .i64 at_,.int .i64 body.length] 128 (0,0)))(hob:w.heap[ob]?=some (.cells #[.slice none 0 0] 35 (0,0)))(hpo:pb≠ob)(hao:∀x,a=some x->x.block≠ob):
  Calls Tryz.prog 109 #[.slice a b.length cap,.pointer (some ⟨pb,0,none⟩),.pointer (some ⟨xb,0,none⟩),.pointer (some ⟨ob,0,none⟩)] w (Fd ob body w):=by
 have hop:=ji a cap b w h hl hcap;unfold er at hop;rw[ho]at hop;have hbl:body.length<65536:=(eD ho).2.2.2.2;have HO:=qqH hop;have HH:=Hq4 hp hob hpo hao;clear h hl hcap hop hp hob hpo hao;go_enter Tryz.func109,Tryz.ntmps109;go_wp2_with fail;refine HO.out.mono ?_;rintro e w1 ⟨a',rfl,hca,hab,hs1⟩;have p1:=aa (hs1.at HH.a id) 1 rfl;have o0:=aa (hs1.at HH.b id) 0 rfl;have of:=bc (hs1.at HH.b id) 0;have hT1:Turns [(ob,Is (.cells #[.slice none 0 0] 35 (0,0)))] (aA (.slice none 0 0) []++[(ob,Is (.cells #[.slice none 0 0] 35 (0,0)))]) w w1:=(Turns.refl (Sat.one HH.b Is.rfl)).Q9 hs1;have H1:=Hq2 hT1 hca;clear hs1 hca hab hT1;go_wp2_with ((refine ah rfl (fu (.tmp 38) (.tmp 39) rfl (.slice none 0 0) [] rfl H1.a fi a' body.length body.length rfl body rfl H1.z (by simp;omega) ?_));intro av cv w2 hok2 hT2 _;rw[nil_append]at hok2 hT2 ⊢;have o2:=aa (hT2.sat.right.Q5) 0 rfl;have of2:=bc (hT2.sat.right.Q5) 0;have H2:=Hq2 hok2 hT2;clear hok2 hT2);go_ret;refine⟨rfl,.slice av body.length cv,H2.a,?_⟩;have h3:=H2.z.to (H:=(ob,Is (.cells #[.slice none 0 0] 35 (0,0)))::aA (.slice av body.length cv) body) ac;exact h3.Qa ((Mods.refl (fun k=>k=ob) w2).set1 (i:=0) _) (bn h3.sat.Q5 0 _)
end
end Go.Proofs.YtdhobpbngkainabGreatDoor
