/- Ours. A part of the proof, made small by a program. -/
import Derived.WalkKit
import Derived.RangeFuncRecord
import Derived.WalkSpells
import Derived.Lib.Hide
import Derived.WalkLawsBesides
import Derived.Test.YtdhobpbngkainaaGreatDoorProg
import Derived.LaidEql
import Derived.Stop.Asserts
import Derived.RowKitTokens
import Derived.Test.YtdhobpbngkainaaGreatDoorCards
import Derived.Test.YtdhobpbngkainaaGreatDoorTie
import Derived.ProofKit
import Derived.OpenShut
import Derived.Deep.DeepHandedRow
import Derived.Lib.LaidTab
import Derived.LaidHandle
import Derived.Stop.Joined
import Derived.OwnWalkIn
import Derived.Maps.AppendAt
import Derived.Laws.CopyOwn
import Derived.RegionTactic
import Derived.Deep.RegionHeld3
import Derived.Deep.MidRow
import Derived.Laws.Rows
import Derived.StillTailTactics
import Derived.Deep.RegionLaw
import Derived.RangeFuncBox
import Derived.Great.BuildSlice
import Derived.Conc.SmallLaws
import Derived.DeepKeys
import Derived.ChangeKeys
import Derived.BigQuiet
import Derived.Deep.QuietTactic
import Derived.Deep.RegionWith
import Derived.Orders
import Derived.OrdersIn
import Derived.RangeFuncIn
import Derived.TacticsIn
import Derived.Laws.RangeAny
import Derived.Laws.Closers25b
import Derived.Maps.Keyed
import Derived.Carry
import Derived.Conc.LoneSelect
import Derived.Deep.CutBlock
import Derived.Lib.SliceRun
import Derived.Defers
import Derived.Lib.MinMax
import Derived.Deep.Cut
import Derived.Maps.OwnOps
import Derived.LaidEqlPtr
import Derived.DeepKeys4
import Derived.Laws.BytesArg
import Derived.Maps.RangeRun
import Derived.RangeFuncNested
import Derived.RangeFuncBound
import Derived.RangeFuncCalls
import Derived.RangeFuncLeaves
import Derived.Shelf.Abstract
import Derived.TacticsInMore
import Derived.LoopNIn
import Derived.LoopIn
import Derived.Lib.ConvBytes
import Derived.Shelf.SlSortCmp.WholeK
import Derived.Lib.Bytealg
import Derived.Lib.Strings
import Derived.Laws.Externs
import Derived.Laws.Strings3
import Derived.Shelf.SlSortCmp.NoneTotal
import Derived.Shelf.SlIter.Nil
import Derived.Shelf.SortM.Plain
import Derived.Shelf.SortM.SortNone
import Derived.Lib.SlBytesConst
import Derived.ShutString
import Derived.ChangeOld
import Derived.SliceStrings
import Derived.SizedLaws
set_option maxRecDepth 100000
set_option maxHeartbeats 4000000
namespace Go.Proofs.YtdhobpbngkainaaGreatDoor
open List
theorem QA{α:Type}(a:List α)(i:Nat)(v:α):a.toArray.setIfInBounds i v=(a.set i v).toArray:=List.setIfInBounds_toArray ..
theorem QB{α:Type}(a b:α)(l:List α):(a::l).set 0 b=b::l:=rfl
theorem QC{α:Type}(a b:α)(l:List α)(n:Nat):(a::l).set (n+1) b=a::l.set n b:=rfl
theorem QD{α:Type}(a:α)(l:List α)(n:Nat):(a::l).drop (n+1)=l.drop n:=rfl
theorem QE{α:Type}(a:α)(l:List α)(n:Nat):(a::l).take (n+1)=a::l.take n:=rfl
theorem QF{α:Type}(a d:α)(l:List α):(a::l).getD 0 d=a:=rfl
theorem QG{α:Type}(a d:α)(l:List α)(n:Nat):(a::l).getD (n+1) d=l.getD n d:=rfl
theorem QH{α:Type}{n:Nat}{l:List α}(h:n<l.length):l.take (n+1)=l.take n++[l[n]]:=List.take_succ_eq_append_getElem h
section
open Go.RowKit
theorem qqH{p:Prop}(h:p):RowKit.Hid p:=h
theorem HM:RowKit.Hid (Tryz.prog.follows .mixedOrders=true):=qqH (by kernel_rfl)
theorem Hq2{p0 p1:Prop}(h0:p0)(h1:p1):RowKit.Hid (p0∧p1):=⟨h0,h1⟩
theorem Hq3{p0 p1 p2:Prop}(h0:p0)(h1:p1)(h2:p2):RowKit.Hid (p0∧p1∧p2):=⟨h0,h1,h2⟩
theorem Hq4{p0 p1 p2 p3:Prop}(h0:p0)(h1:p1)(h2:p2)(h3:p3):RowKit.Hid (p0∧p1∧p2∧p3):=⟨h0,h1,h2,h3⟩
theorem Hq5{p0 p1 p2 p3 p4:Prop}(h0:p0)(h1:p1)(h2:p2)(h3:p3)(h4:p4):RowKit.Hid (p0∧p1∧p2∧p3∧p4):=⟨h0,h1,h2,h3,h4⟩
theorem Hq6{p0 p1 p2 p3 p4 p5:Prop}(h0:p0)(h1:p1)(h2:p2)(h3:p3)(h4:p4)(h5:p5):RowKit.Hid (p0∧p1∧p2∧p3∧p4∧p5):=⟨h0,h1,h2,h3,h4,h5⟩
theorem Hq7{p0 p1 p2 p3 p4 p5 p6:Prop}(h0:p0)(h1:p1)(h2:p2)(h3:p3)(h4:p4)(h5:p5)(h6:p6):RowKit.Hid (p0∧p1∧p2∧p3∧p4∧p5∧p6):=⟨h0,h1,h2,h3,h4,h5,h6⟩
theorem Hq8{p0 p1 p2 p3 p4 p5 p6 p7:Prop}(h0:p0)(h1:p1)(h2:p2)(h3:p3)(h4:p4)(h5:p5)(h6:p6)(h7:p7):RowKit.Hid (p0∧p1∧p2∧p3∧p4∧p5∧p6∧p7):=⟨h0,h1,h2,h3,h4,h5,h6,h7⟩
theorem Hq9{p0 p1 p2 p3 p4 p5 p6 p7 p8:Prop}(h0:p0)(h1:p1)(h2:p2)(h3:p3)(h4:p4)(h5:p5)(h6:p6)(h7:p7)(h8:p8):RowKit.Hid (p0∧p1∧p2∧p3∧p4∧p5∧p6∧p7∧p8):=⟨h0,h1,h2,h3,h4,h5,h6,h7,h8⟩
theorem _root_.Go.RowKit.Hid.a{p0 p1:Prop}(h:RowKit.Hid (p0∧p1)):p0:=h.out.1
theorem _root_.Go.RowKit.Hid.b{p0 p1 p2:Prop}(h:RowKit.Hid (p0∧p1∧p2)):p1:=h.out.2.1
theorem _root_.Go.RowKit.Hid.c{p0 p1 p2 p3:Prop}(h:RowKit.Hid (p0∧p1∧p2∧p3)):p2:=h.out.2.2.1
theorem _root_.Go.RowKit.Hid.d{p0 p1 p2 p3 p4:Prop}(h:RowKit.Hid (p0∧p1∧p2∧p3∧p4)):p3:=h.out.2.2.2.1
theorem _root_.Go.RowKit.Hid.e{p0 p1 p2 p3 p4 p5:Prop}(h:RowKit.Hid (p0∧p1∧p2∧p3∧p4∧p5)):p4:=h.out.2.2.2.2.1
theorem _root_.Go.RowKit.Hid.f{p0 p1 p2 p3 p4 p5 p6:Prop}(h:RowKit.Hid (p0∧p1∧p2∧p3∧p4∧p5∧p6)):p5:=h.out.2.2.2.2.2.1
theorem _root_.Go.RowKit.Hid.g{p0 p1 p2 p3 p4 p5 p6 p7:Prop}(h:RowKit.Hid (p0∧p1∧p2∧p3∧p4∧p5∧p6∧p7)):p6:=h.out.2.2.2.2.2.2.1
theorem _root_.Go.RowKit.Hid.h{p0 p1 p2 p3 p4 p5 p6 p7 p8:Prop}(h:RowKit.Hid (p0∧p1∧p2∧p3∧p4∧p5∧p6∧p7∧p8)):p7:=h.out.2.2.2.2.2.2.2.1
theorem _root_.Go.RowKit.Hid.z{p0 p1:Prop}(h:RowKit.Hid (p0∧p1)):p1:=h.out.2
theorem _root_.Go.RowKit.Hid.y{p0 p1 p2:Prop}(h:RowKit.Hid (p0∧p1∧p2)):p2:=h.out.2.2
theorem _root_.Go.RowKit.Hid.x{p0 p1 p2 p3:Prop}(h:RowKit.Hid (p0∧p1∧p2∧p3)):p3:=h.out.2.2.2
theorem _root_.Go.RowKit.Hid.w{p0 p1 p2 p3 p4:Prop}(h:RowKit.Hid (p0∧p1∧p2∧p3∧p4)):p4:=h.out.2.2.2.2
theorem _root_.Go.RowKit.Hid.v{p0 p1 p2 p3 p4 p5:Prop}(h:RowKit.Hid (p0∧p1∧p2∧p3∧p4∧p5)):p5:=h.out.2.2.2.2.2
theorem _root_.Go.RowKit.Hid.u{p0 p1 p2 p3 p4 p5 p6:Prop}(h:RowKit.Hid (p0∧p1∧p2∧p3∧p4∧p5∧p6)):p6:=h.out.2.2.2.2.2.2
theorem _root_.Go.RowKit.Hid.t{p0 p1 p2 p3 p4 p5 p6 p7:Prop}(h:RowKit.Hid (p0∧p1∧p2∧p3∧p4∧p5∧p6∧p7)):p7:=h.out.2.2.2.2.2.2.2
structure Mods (S:Nat->Prop) (w w':World):Prop where
 os:w'.os=w.os
 tape:w'.tape=w.tape
 output:w'.output=w.output
 size:w.heap.size<=w'.heap.size
 block:∀k,k<w.heap.size->¬S k->w'.heap[k]?=w.heap[k]?
abbrev aX(w w':World):Prop:=Mods (fun _=>False) w w'
theorem Mods.refl(S:Nat->Prop)(w:World):Mods S w w:=⟨rfl,rfl,rfl,Nat.le_refl _,fun _ _ _=>rfl⟩
theorem Mods.trans{S:Nat->Prop}{a b c:World}(h:Mods S a b)(k:Mods S b c):Mods S a c :=
 ⟨k.os.trans h.os,k.tape.trans h.tape,k.output.trans h.output,Nat.le_trans h.size k.size,
  fun i hi hs=>(k.block i (Nat.lt_of_lt_of_le hi h.size) hs).trans (h.block i hi hs)⟩
theorem Mods.trans'{S T:Nat->Prop}{a b c:World}(h:Mods S a b)(k:Mods T b c)(hT:∀i,T i->S i\/a.heap.size<=i):Mods S a c :=
 ⟨k.os.trans h.os,k.tape.trans h.tape,k.output.trans h.output,Nat.le_trans h.size k.size,
  fun i hi hs=>(k.block i (Nat.lt_of_lt_of_le hi h.size) (fun ht=>by rcases hT i ht with h'|h'<;>first|exact absurd h' hs|omega)).trans (h.block i hi hs)⟩
theorem Mods.mono{S T:Nat->Prop}{a b:World}(h:Mods S a b)(hT:∀i,S i->T i\/a.heap.size<=i):Mods T a b :=
 ⟨h.os,h.tape,h.output,h.size,fun i hi hs=>h.block i hi (fun ht=>by rcases hT i ht with h'|h'<;>first|exact absurd h' hs|omega)⟩
theorem Mods.drew{S:Nat->Prop}{a w:World}(h:Mods S a w):Mods S a w.drew:=⟨h.os,h.tape,h.output,h.size,h.block⟩
theorem Mods.drewN{S:Nat->Prop}{a w:World}(h:Mods S a w)(n:Nat):Mods S a (w.drewN n):=⟨h.os,h.tape,h.output,h.size,h.block⟩
theorem Mods.alloc{S:Nat->Prop}{a w:World}(h:Mods S a w)(o:Obj):Mods S a (w.alloc o) :=
 ⟨h.os,h.tape,h.output,Nat.le_trans h.size (by simp),fun k hk hs=>(Below.heap_alloc w o k (Nat.lt_of_lt_of_le hk h.size)).trans (h.block k hk hs)⟩
theorem Mods.setCell{S:Nat->Prop}{a w:World}(h:Mods S a w){p:Addr}(hp:S p.block\/a.heap.size<=p.block)(u:Value):Mods S a (w.setCell p u) :=
 ⟨h.os,h.tape,h.output,by simpa[World.setCell]using h.size,
  fun k hk hs=>(Below.heap_setCell w p u k (fun e=>by subst e;rcases hp with h'|h'<;>first|exact absurd h' hs|omega)).trans (h.block k hk hs)⟩
theorem Mods.set1{b i:Nat}{a w:World}(h:Mods (fun x=>x=b) a w)(v:Value):Mods (fun x=>x=b) a (w.setCell ⟨b,i,none⟩ v):=h.setCell (p:=⟨b,i,none⟩) (.inl rfl) v
theorem Mods.Qp{S:Nat->Prop}{b i:Nat}{a w:World}(hb:a.heap.size<=b)(h:Mods S a w)(v:Value):Mods S a (w.setCell ⟨b,i,none⟩ v):=h.setCell (p:=⟨b,i,none⟩) (.inr hb) v
theorem Mods.putObj{S:Nat->Prop}{a w:World}(h:Mods S a w){r:Nat}(hr:S r\/a.heap.size<=r)(o:Obj):Mods S a (w.putObj r o) :=
 ⟨h.os,h.tape,h.output,by simpa using h.size,
  fun k hk hs=>(World.putObj_heap_other (fun e=>by subst e;rcases hr with h'|h'<;>first|exact absurd h' hs|omega)).trans (h.block k hk hs)⟩
theorem aX.below{w w':World}(h:aX w w'):Below w.heap.size w w':=⟨h.os,h.tape,h.output,h.size,fun k hk=>h.block k hk id⟩
theorem aX.of_below{w w':World}(h:Below w.heap.size w w'):aX w w':=⟨h.os,h.tape,h.output,h.size,fun k hk _=>h.block k hk⟩
theorem aX.mods{w w':World}(h:aX w w')(S:Nat->Prop):Mods S w w':=h.mono (fun _ hf=>hf.elim)
theorem Mods.at{S:Nat->Prop}{w w':World}(h:Mods S w w'){b:Nat}{o:Obj}(hb:w.heap[b]?=some o)(hS:¬S b):w'.heap[b]?=some o :=
 (h.block b (Array.getElem?_eq_some_iff.1 hb).1 hS).trans hb
theorem ac{w:World}{b:Nat}{o:Obj}(h:w.heap[b]?=some o):b<w.heap.size:=(Array.getElem?_eq_some_iff.1 h).1
theorem aa{w:World}{b:Nat}{c:Array Value}{t:TypeId}{fz:Nat×Nat}(h:w.heap[b]?=some (.cells c t fz))(i:Nat){v:Value}(hv:c[i]?=some v):
  w.cell? ⟨b,i,none⟩=some v:=by simp[World.cell?,h,hv]
theorem bf{w:World}{b:Nat}{c:Array Value}{t:TypeId}(h:w.heap[b]?=some (.cells c t (0,0)))(i:Nat):w.frozen? ⟨b,i,none⟩=false:=by simp[World.frozen?,h]
theorem bB{w:World}{b:Nat}{c:Array Value}{t:TypeId}{fz:Nat×Nat}(h:w.heap[b]?=some (.cells c t fz))(i:Nat)(v:Value):
  (w.setCell ⟨b,i,none⟩ v).heap[b]?=some (.cells (c.setIfInBounds i v) t fz):=by
 simp only[World.setCell,Array.getElem?_modify,if_true,h,Option.map_some];rfl
theorem dN{w:World}{o:Obj}{k:Nat}(h:k<w.heap.size):(w.alloc o).heap[k]?=w.heap[k]?:=Below.heap_alloc w o k h
theorem aK(w:World)(o:Obj):(w.alloc o).heap[w.heap.size]?=some o:=World.alloc_heap_new w o
def al(w:World)(a:Option Addr)(xs:List Value):Prop:=0<xs.length->∃g off,a=some ⟨g,off,none⟩/\∀j (h:j<xs.length),w.cell? ⟨g,off+j,none⟩=some (xs[j]'h)
theorem al.keep{S:Nat->Prop}{w w':World}{a:Option Addr}{xs:List Value}(h:al w a xs)(hm:Mods S w w')(hS:∀g off,a=some ⟨g,off,none⟩->¬S g):al w' a xs:=fun hp=>by
 obtain⟨g,off,ha,hc⟩:=h hp
 refine⟨g,off,ha,fun j hj=>?_⟩
 have hlt:=World.block_lt_of_cell? w _ (hc j hj)
 exact(World.cell?_of_block (w:=w) (hm.block g hlt (hS g off ha))).trans (hc j hj)
theorem al.of_heap{w W:World}(e:W.heap=w.heap){a:Option Addr}{xs:List Value}(h:al w a xs):al W a xs:=fun hp=>by
 obtain⟨g,off,ha,hc⟩:=h hp
 exact⟨g,off,ha,fun j hj=>by rw[<- hc j hj];simp[World.cell?,e]⟩
def am(x:UInt8):Value:=.int .u8 (x.toNat:Nat)
def dQ(x:Int):Value:=.int .i64 x
def jw(w w':World):Prop:=∃n,w'=w.drewN n
theorem jw.refl(w:World):jw w w:=⟨0,rfl⟩
theorem jw.same{w w':World}:jw w w'->aX w w'|⟨n,h⟩=>h ▸ (Mods.refl _ w).drewN n
theorem jw.trans{a b c:World}:jw a b->jw b c->jw a c|⟨n,h⟩,⟨m,k⟩=>⟨n+m,by subst h;subst k;simp[World.drewN,Nat.add_assoc]⟩
theorem jw.drew{a b:World}:jw a b->jw a b.drew|⟨n,h⟩=>⟨n+1,by subst h;rfl⟩
theorem jw.drewN{a b:World}(h:jw a b)(m:Nat):jw a (b.drewN m):=h.trans ⟨m,rfl⟩
theorem EE{k:IntKind}{a b:Int}(h:a=b):Ending.returned (.int k a)=.returned (.int k b):=by rw[h]
theorem uA{a b:Bool}(h:a=b):Ending.returned (.bool a)=.returned (.bool b):=by rw[h]
end
section
open Go.RowKit Go.Extern.Stop Go.Stop Go.Extern
theorem ry(t:Addr)(w:World):(ReflectliteValue.unpack (.iface 112 (.pointer (some t)))).run Tryz.prog w
  = .ok (.agg #[.pointer (some ⟨2,112,none⟩),.pointer (some ⟨w.heap.size,0,none⟩),.int .u64 150]) (w.alloc (.cells #[.pointer (some t)] 112)):=by kernel_rfl
theorem zD(a:Addr)(w:World):(ReflectliteValue.methodAny (ReflectliteValue.valueError "reflectlite.Value.Type" 0) (fun t _ _ _=>ReflectliteType.toType t) #[.agg #[.pointer (some ⟨2,112,none⟩),.pointer (some a),.int .u64 150]]).run Tryz.prog w
  = .ok (.iface 268 (.agg #[.pointer (some ⟨2,112,none⟩)])) w:=by kernel_rfl
theorem zB(w:World):((ReflectliteType.abiMethod fun t=>(fun a:Nat=>Value.int IntKind.u8 (a:Int)) <$> Rtype.kind t) #[.pointer (some ⟨2,112,none⟩)]).run Tryz.prog w=.ok (.int .u8 22) w:=by kernel_rfl
theorem zA(w:World):((ReflectliteType.abiMethod fun t=>(fun a:Nat=>Value.int IntKind.u8 (a:Int)) <$> Rtype.kind t) #[.pointer (some ⟨2,49,none⟩)]).run Tryz.prog w=.ok (.int .u8 2) w:=by kernel_rfl
theorem Hq(z:Sem Value)(f:TypeId->Addr->Nat->Nat->Sem Value)(v:Value):
  ReflectliteValue.method z f #[v]=(do match <- ReflectliteValue.parts v with|none=>z|some (t,a,fl)=>f t a fl (fl%32)):=rfl
theorem vX(a:Addr)(w:World):(ReflectliteValue.parts (.agg #[.pointer (some ⟨2,112,none⟩),.pointer (some a),.int .u64 150])).run Tryz.prog w=.ok (some (112,a,150)) w:=by kernel_rfl
theorem vW(a p:Addr)(W:World)(ha:W.cell? a=some (.pointer (some p))):
  (ReflectliteValue.method (ReflectliteValue.valueError "reflectlite.Value.IsNil" 0) ReflectliteValue.isNil #[.agg #[.pointer (some ⟨2,112,none⟩),.pointer (some a),.int .u64 150]]).run Tryz.prog W=.ok (.bool false) W:=by
 rw[Hq];simp only[Sem.run_bind,vX,Result.andThen];simp[ReflectliteValue.isNil,loadVar,isAgg,underlying,Tryz.underlying112,ha,Result.andThen]
theorem zq(w:World):(ReflectliteType.method ReflectliteType.elem #[.agg #[.pointer (some ⟨2,112,none⟩)]]).run Tryz.prog w=.ok (.iface 268 (.agg #[.pointer (some ⟨2,49,none⟩)])) w:=by kernel_rfl
theorem zy(w:World):(ReflectliteType.relation "Implements" ReflectliteType.implements_ #[.agg #[.pointer (some ⟨2,49,none⟩)],.iface 268 (.agg #[.pointer (some ⟨2,45,none⟩)])]).run Tryz.prog w=.ok (.bool true) w:=by kernel_rfl
theorem tq(v:Value)(w:World):(ReflectliteType.typeOf #[.iface 49 v]).run Tryz.prog w=.ok (.iface 268 (.agg #[.pointer (some ⟨2,49,none⟩)])) w:=by kernel_rfl
theorem Cn(v:Value)(w:World):(ReflectliteType.typeOf #[.iface 106 v]).run Tryz.prog w=.ok (.iface 268 (.agg #[.pointer (some ⟨2,106,none⟩)])) w:=by kernel_rfl
theorem tg(w:World):(ReflectliteType.relation "AssignableTo" ReflectliteType.assignableTo #[.agg #[.pointer (some ⟨2,49,none⟩)],.iface 268 (.agg #[.pointer (some ⟨2,49,none⟩)])]).run Tryz.prog w=.ok (.bool true) w:=by kernel_rfl
theorem Ck(w:World):(ReflectliteType.relation "AssignableTo" ReflectliteType.assignableTo #[.agg #[.pointer (some ⟨2,106,none⟩)],.iface 268 (.agg #[.pointer (some ⟨2,49,none⟩)])]).run Tryz.prog w=.ok (.bool false) w:=by kernel_rfl
theorem rx(n:Int)(w:World):(ReflectliteValue.unpack (.iface 49 (.int .i64 n))).run Tryz.prog w
  = .ok (.agg #[.pointer (some ⟨2,49,none⟩),.pointer (some ⟨w.heap.size,0,none⟩),.int .u64 130]) (w.alloc (.cells #[.int .i64 n] 49)):=by kernel_rfl
theorem Cl(w:World):(Rtype.elem? 112).run Tryz.prog w=.ok (some 49) w:=by kernel_rfl
theorem K8(p:Addr)(w:World):(ReflectliteValue.mk 49 p ReflectliteValue.flagAddr).run Tryz.prog w=.ok (.agg #[.pointer (some ⟨2,49,none⟩),.pointer (some p),.int .u64 386]) w:=by kernel_rfl
theorem zr(a p:Addr)(W:World)(ha:W.cell? a=some (.pointer (some p))):
  (ReflectliteValue.method (ReflectliteValue.valueError "reflectlite.Value.Elem" 0) ReflectliteValue.elem #[.agg #[.pointer (some ⟨2,112,none⟩),.pointer (some a),.int .u64 150]]).run Tryz.prog W
   = .ok (.agg #[.pointer (some ⟨2,49,none⟩),.pointer (some p),.int .u64 386]) W:=by
 rw[Hq];simp only[Sem.run_bind,vX,Result.andThen];simp[ReflectliteValue.elem,loadVar,isAgg,underlying,Tryz.underlying112,ha,Result.andThen,Cl,K8]
theorem K9(v x:Value):ReflectliteValue.set #[v,x]=(do
  let (some (dst,a,fl),some (src,b,_)):=(<- ReflectliteValue.parts v,<- ReflectliteValue.parts x)
   | unsupported (.noEntry "extern/(internal/reflectlite.Value).Set.zeroValue")
  if fl / ReflectliteValue.flagAddr%2==0 then unsupported (.noEntry "extern/(internal/reflectlite.Value).Set.unaddressable")
  let val <- loadVar src b
  if <- Rtype.directlyAssignable dst src then storeVar dst a val
  else if <- Rtype.implements dst src then
   if(<- Rtype.kind src)==20 then
    match val with
    | .nilIface=>unsupported (.noEntry "extern/reflectlite: a nil value of one interface type handed on as a value of another")
    | _=>storeVar dst a val
   else storeVar dst a (.iface src val)
  else panicString ("reflectlite.Set: value of type " ++ (<- Rtype.spelt src) ++ " is not assignable to type " ++ (<- Rtype.spelt dst))
  pure (.tuple #[])):=rfl
theorem Fd(a:Addr)(w:World):(ReflectliteValue.parts (.agg #[.pointer (some ⟨2,49,none⟩),.pointer (some a),.int .u64 386])).run Tryz.prog w=.ok (some (49,a,386)) w:=by kernel_rfl
theorem Cm(a:Addr)(w:World):(ReflectliteValue.parts (.agg #[.pointer (some ⟨2,49,none⟩),.pointer (some a),.int .u64 130])).run Tryz.prog w=.ok (some (49,a,130)) w:=by kernel_rfl
theorem Fc(w:World):(Rtype.directlyAssignable 49 49).run Tryz.prog w=.ok true w:=by kernel_rfl
theorem Hr(ta b:Addr)(n:Int)(old:Value)(W:World)(hb:W.cell? b=some (.int .i64 n))(ht:W.cell? ta=some old)(hf:W.frozen? ta=false):
  (ReflectliteValue.set #[.agg #[.pointer (some ⟨2,49,none⟩),.pointer (some ta),.int .u64 386],.agg #[.pointer (some ⟨2,49,none⟩),.pointer (some b),.int .u64 130]]).run Tryz.prog W
   = .ok (.tuple #[]) (W.setCell ta (.int .i64 n)):=by
 rw[K9];simp only[Sem.run_bind,Fd,Cm,Result.andThen];simp[ReflectliteValue.flagAddr,loadVar,isAgg,underlying,Tryz.underlying49,hb,Result.andThen,Fc,storeVar,Value.cells,storeCells,Addr.add];rw[run_store Tryz.prog W ta _ _ (by rfl)];simp[ht,hf]
theorem nV(h:Value)(w:World):(Go.method 462 268 (.agg #[h]) "Kind").run Tryz.prog w=.ok (211,h) w:=by kernel_rfl
theorem nT(h:Value)(w:World):(Go.method 462 268 (.agg #[h]) "Elem").run Tryz.prog w=.ok (226,.agg #[h]) w:=by kernel_rfl
theorem nU(h:Value)(w:World):(Go.method 462 268 (.agg #[h]) "Implements").run Tryz.prog w=.ok (227,.agg #[h]) w:=by kernel_rfl
theorem mn(h:Value)(w:World):(Go.method 462 268 (.agg #[h]) "AssignableTo").run Tryz.prog w=.ok (224,.agg #[h]) w:=by kernel_rfl
theorem ru(args:Array Value)(w:World):(callFunc 93 args).run Tryz.prog w=(((fun args=>ReflectliteValue.unpack (args.getD 0 (.tuple #[]))) args).run Tryz.prog w).andThen fun v w'=>.ok (.value v) w' :=
 run_callFunc_extern (e:=(fun args=>ReflectliteValue.unpack (args.getD 0 (.tuple #[])))) Tryz.func93 (by kernel_rfl) (by kernel_rfl) (by kernel_rfl) (by kernel_rfl) args w
theorem zx(args:Array Value)(w:World):(callFunc 94 args).run Tryz.prog w=(((ReflectliteValue.methodAny (ReflectliteValue.valueError "reflectlite.Value.Type" 0) (fun t _ _ _=>ReflectliteType.toType t)) args).run Tryz.prog w).andThen fun v w'=>.ok (.value v) w' :=
 run_callFunc_extern (e:=(ReflectliteValue.methodAny (ReflectliteValue.valueError "reflectlite.Value.Type" 0) (fun t _ _ _=>ReflectliteType.toType t))) Tryz.func94 (by kernel_rfl) (by kernel_rfl) (by kernel_rfl) (by kernel_rfl) args w
theorem vU(args:Array Value)(w:World):(callFunc 95 args).run Tryz.prog w=(((ReflectliteValue.method (ReflectliteValue.valueError "reflectlite.Value.IsNil" 0) ReflectliteValue.isNil) args).run Tryz.prog w).andThen fun v w'=>.ok (.value v) w' :=
 run_callFunc_extern (e:=(ReflectliteValue.method (ReflectliteValue.valueError "reflectlite.Value.IsNil" 0) ReflectliteValue.isNil)) Tryz.func95 (by kernel_rfl) (by kernel_rfl) (by kernel_rfl) (by kernel_rfl) args w
theorem zw(args:Array Value)(w:World):(callFunc 211 args).run Tryz.prog w=(((ReflectliteType.abiMethod fun t=>do pure (.int .u8 (<- Rtype.kind t))) args).run Tryz.prog w).andThen fun v w'=>.ok (.value v) w' :=
 run_callFunc_extern (e:=(ReflectliteType.abiMethod fun t=>do pure (.int .u8 (<- Rtype.kind t)))) Tryz.func211 (by kernel_rfl) (by kernel_rfl) (by kernel_rfl) (by kernel_rfl) args w
theorem zt(args:Array Value)(w:World):(callFunc 226 args).run Tryz.prog w=(((ReflectliteType.method ReflectliteType.elem) args).run Tryz.prog w).andThen fun v w'=>.ok (.value v) w' :=
 run_callFunc_extern (e:=(ReflectliteType.method ReflectliteType.elem)) Tryz.func226 (by kernel_rfl) (by kernel_rfl) (by kernel_rfl) (by kernel_rfl) args w
theorem zv(args:Array Value)(w:World):(callFunc 227 args).run Tryz.prog w=(((ReflectliteType.relation "Implements" ReflectliteType.implements_) args).run Tryz.prog w).andThen fun v w'=>.ok (.value v) w' :=
 run_callFunc_extern (e:=(ReflectliteType.relation "Implements" ReflectliteType.implements_)) Tryz.func227 (by kernel_rfl) (by kernel_rfl) (by kernel_rfl) (by kernel_rfl) args w
theorem tj(args:Array Value)(w:World):(callFunc 136 args).run Tryz.prog w=((ReflectliteType.typeOf args).run Tryz.prog w).andThen fun v w'=>.ok (.value v) w' :=
 run_callFunc_extern (e:=ReflectliteType.typeOf) Tryz.func136 (by kernel_rfl) (by kernel_rfl) (by kernel_rfl) (by kernel_rfl) args w
theorem ti(args:Array Value)(w:World):(callFunc 224 args).run Tryz.prog w=(((ReflectliteType.relation "AssignableTo" ReflectliteType.assignableTo) args).run Tryz.prog w).andThen fun v w'=>.ok (.value v) w' :=
 run_callFunc_extern (e:=(ReflectliteType.relation "AssignableTo" ReflectliteType.assignableTo)) Tryz.func224 (by kernel_rfl) (by kernel_rfl) (by kernel_rfl) (by kernel_rfl) args w
theorem vV(args:Array Value)(w:World):(callFunc 137 args).run Tryz.prog w=(((ReflectliteValue.method (ReflectliteValue.valueError "reflectlite.Value.Elem" 0) ReflectliteValue.elem) args).run Tryz.prog w).andThen fun v w'=>.ok (.value v) w' :=
 run_callFunc_extern (e:=(ReflectliteValue.method (ReflectliteValue.valueError "reflectlite.Value.Elem" 0) ReflectliteValue.elem)) Tryz.func137 (by kernel_rfl) (by kernel_rfl) (by kernel_rfl) (by kernel_rfl) args w
theorem Eb(args:Array Value)(w:World):(callFunc 138 args).run Tryz.prog w=((ReflectliteValue.set args).run Tryz.prog w).andThen fun v w'=>.ok (.value v) w' :=
 run_callFunc_extern (e:=ReflectliteValue.set) Tryz.func138 (by kernel_rfl) (by kernel_rfl) (by kernel_rfl) (by kernel_rfl) args w
theorem JJ(a:Addr)(w:World):(Instr.typeAssert (.iface 106 (.pointer (some a))) 45 273 true).run Tryz.prog w=.ok (.tuple #[.nilIface,.bool false]) w :=
 run_typeAssert_lacksB Tryz.underlying273 (by kernel_rfl) (by kernel_rfl) (.pointer (some a)) 45 w
theorem JK(a:Addr)(w:World):(Instr.typeAssert (.iface 106 (.pointer (some a))) 45 276 true).run Tryz.prog w=.ok (.tuple #[.iface 106 (.pointer (some a)),.bool true]) w:=by kernel_rfl
theorem zC(a:Addr)(w:World):(Go.method 462 106 (.pointer (some a)) "Unwrap").run Tryz.prog w=.ok (216,.pointer (some a)) w:=by kernel_rfl
def cG(w:World):Prop:=w.cell? ⟨0,0,none⟩=some (.iface 268 (.agg #[.pointer (some ⟨2,45,none⟩)]))
theorem JH(n:Int)(t:Addr)(old:Value)(w:World)(hg:w.cell? ⟨0,0,none⟩=some (.iface 268 (.agg #[.pointer (some ⟨2,45,none⟩)])))(ht0:w.cell? t=some old)(hf0:w.frozen? t=false):
  Calls Tryz.prog 49 #[.iface 49 (.int .i64 n),.iface 112 (.pointer (some t))] w fun ev w'=>ev=.returned (.bool true) /\
   w'=(((((w.alloc (.cells #[.pointer (some t)] 112)).alloc (.cells #[.pointer (some ⟨2,112,none⟩),.pointer (some ⟨w.heap.size,0,none⟩),.int .u64 150] 197)).alloc (.cells #[.pointer (some ⟨2,112,none⟩),.pointer (some ⟨w.heap.size,0,none⟩),.int .u64 150] 197)).alloc (.cells #[.int .i64 n] 49)).setCell t (.int .i64 n)):=by
 have h1:=ru;have h2:=zx;have h3:=vU;have h4:=zw;have h5:=zt;have h6:=zv;have h7:=tj;have h8:=ti;have h9:=vV;have h10:=Eb;have x1:=ry;have x2:=zD;have x3:=zB;have x4:=zA;have x6:=zq;have x7:=zy;have x8:=tq;have x9:=tg;have y1:=rx;have m1:=nV;have m2:=nT;have m3:=nU;have m4:=mn;have n8:=vW ⟨w.heap.size,0,none⟩ t ((w.alloc (.cells #[.pointer (some t)] 112)).alloc (.cells #[.pointer (some ⟨2,112,none⟩),.pointer (some ⟨w.heap.size,0,none⟩),.int .u64 150] 197)) (by simp)
 have hlt:0<w.heap.size:=by
  rcases Nat.eq_zero_or_pos w.heap.size with h0|h
  ·simp[World.cell?,h0]at hg
  ·exact h
 have hg2:((w.alloc (.cells #[.pointer (some t)] 112)).alloc (.cells #[.pointer (some ⟨2,112,none⟩),.pointer (some ⟨w.heap.size,0,none⟩),.int .u64 150] 197)).cell? ⟨0,0,none⟩=some (.iface 268 (.agg #[.pointer (some ⟨2,45,none⟩)])):=by
  rw[World.cell?_alloc_lt _ _ ⟨0,0,none⟩ (by simp),World.cell?_alloc_lt _ _ ⟨0,0,none⟩ hlt];exact hg
 have htl:t.block<w.heap.size:=by
  rcases Nat.lt_or_ge t.block w.heap.size with h|h
  ·exact h
  ·simp[World.cell?,Array.getElem?_eq_none h]at ht0
 have el:=zr ⟨w.heap.size,0,none⟩ t (((w.alloc (.cells #[.pointer (some t)] 112)).alloc (.cells #[.pointer (some ⟨2,112,none⟩),.pointer (some ⟨w.heap.size,0,none⟩),.int .u64 150] 197)).alloc (.cells #[.pointer (some ⟨2,112,none⟩),.pointer (some ⟨w.heap.size,0,none⟩),.int .u64 150] 197)) (by rw[World.cell?_alloc_lt _ _ ⟨w.heap.size,0,none⟩ (by simp;omega)];simp)
 have st:=Hr t ⟨w.heap.size+1+1+1,0,none⟩ n old ((((w.alloc (.cells #[.pointer (some t)] 112)).alloc (.cells #[.pointer (some ⟨2,112,none⟩),.pointer (some ⟨w.heap.size,0,none⟩),.int .u64 150] 197)).alloc (.cells #[.pointer (some ⟨2,112,none⟩),.pointer (some ⟨w.heap.size,0,none⟩),.int .u64 150] 197)).alloc (.cells #[.int .i64 n] 49))
  (by rw[World.cell?_alloc_at _ _ _ _ (by simp)];rfl)
  (by rw[World.cell?_alloc_lt _ _ t (by simp;omega),World.cell?_alloc_lt _ _ t (by simp;omega),World.cell?_alloc_lt _ _ t (by simp;omega),World.cell?_alloc_lt _ _ t htl];exact ht0)
  (by rw[World.frozen?_alloc_old _ _ t (by simp;omega),World.frozen?_alloc_old _ _ t (by simp;omega),World.frozen?_alloc_old _ _ t (by simp;omega),World.frozen?_alloc_old _ _ t (Nat.ne_of_lt htl)];exact hf0)
 go_enter Tryz.func49,Tryz.ntmps49;go_wp2;refine wp_loop_rounds 1 ?_;rw[rounds_succ];go_wp2;go_ret;exact⟨rfl,rfl⟩
theorem JI(p:Nat)(n:Int)(t:Addr)(old:Value)(w:World)(hg:w.cell? ⟨0,0,none⟩=some (.iface 268 (.agg #[.pointer (some ⟨2,45,none⟩)])))(hp:w.cell? ⟨p,1,none⟩=some (.int .i64 n))(ht0:w.cell? t=some old)(hf0:w.frozen? t=false):
  Calls Tryz.prog 49 #[.iface 106 (.pointer (some ⟨p,0,none⟩)),.iface 112 (.pointer (some t))] w fun ev w'=>ev=.returned (.bool true) /\
   w'=(((((w.alloc (.cells #[.pointer (some t)] 112)).alloc (.cells #[.pointer (some ⟨2,112,none⟩),.pointer (some ⟨w.heap.size,0,none⟩),.int .u64 150] 197)).alloc (.cells #[.pointer (some ⟨2,112,none⟩),.pointer (some ⟨w.heap.size,0,none⟩),.int .u64 150] 197)).alloc (.cells #[.int .i64 n] 49)).setCell t (.int .i64 n)):=by
 have h1:=ru;have h2:=zx;have h3:=vU;have h4:=zw;have h5:=zt;have h6:=zv;have h7:=tj;have h8:=ti;have h9:=vV;have h10:=Eb;have x1:=ry;have x2:=zD;have x3:=zB;have x4:=zA;have x6:=zq;have x7:=zy;have x8:=tq;have z8:=Cn;have z9:=Ck;have za:=JJ;have zu:=JK;have zm:=zC;have x9:=tg;have y1:=rx;have m1:=nV;have m2:=nT;have m3:=nU;have m4:=mn;have n8:=vW ⟨w.heap.size,0,none⟩ t ((w.alloc (.cells #[.pointer (some t)] 112)).alloc (.cells #[.pointer (some ⟨2,112,none⟩),.pointer (some ⟨w.heap.size,0,none⟩),.int .u64 150] 197)) (by simp)
 have hlt:0<w.heap.size:=by
  rcases Nat.eq_zero_or_pos w.heap.size with h0|h
  ·simp[World.cell?,h0]at hg
  ·exact h
 have hg2:((w.alloc (.cells #[.pointer (some t)] 112)).alloc (.cells #[.pointer (some ⟨2,112,none⟩),.pointer (some ⟨w.heap.size,0,none⟩),.int .u64 150] 197)).cell? ⟨0,0,none⟩=some (.iface 268 (.agg #[.pointer (some ⟨2,45,none⟩)])):=by
  rw[World.cell?_alloc_lt _ _ ⟨0,0,none⟩ (by simp),World.cell?_alloc_lt _ _ ⟨0,0,none⟩ hlt];exact hg
 have htl:t.block<w.heap.size:=by
  rcases Nat.lt_or_ge t.block w.heap.size with h|h
  ·exact h
  ·simp[World.cell?,Array.getElem?_eq_none h]at ht0
 have el:=zr ⟨w.heap.size,0,none⟩ t (((w.alloc (.cells #[.pointer (some t)] 112)).alloc (.cells #[.pointer (some ⟨2,112,none⟩),.pointer (some ⟨w.heap.size,0,none⟩),.int .u64 150] 197)).alloc (.cells #[.pointer (some ⟨2,112,none⟩),.pointer (some ⟨w.heap.size,0,none⟩),.int .u64 150] 197)) (by rw[World.cell?_alloc_lt _ _ ⟨w.heap.size,0,none⟩ (by simp;omega)];simp)
 have st:=Hr t ⟨w.heap.size+1+1+1,0,none⟩ n old ((((w.alloc (.cells #[.pointer (some t)] 112)).alloc (.cells #[.pointer (some ⟨2,112,none⟩),.pointer (some ⟨w.heap.size,0,none⟩),.int .u64 150] 197)).alloc (.cells #[.pointer (some ⟨2,112,none⟩),.pointer (some ⟨w.heap.size,0,none⟩),.int .u64 150] 197)).alloc (.cells #[.int .i64 n] 49))
  (by rw[World.cell?_alloc_at _ _ _ _ (by simp)];rfl)
  (by rw[World.cell?_alloc_lt _ _ t (by simp;omega),World.cell?_alloc_lt _ _ t (by simp;omega),World.cell?_alloc_lt _ _ t (by simp;omega),World.cell?_alloc_lt _ _ t htl];exact ht0)
  (by rw[World.frozen?_alloc_old _ _ t (by simp;omega),World.frozen?_alloc_old _ _ t (by simp;omega),World.frozen?_alloc_old _ _ t (by simp;omega),World.frozen?_alloc_old _ _ t (Nat.ne_of_lt htl)];exact hf0)
 have hpl:p<w.heap.size:=World.block_lt_of_cell? w _ hp
 have hp3:(((w.alloc (.cells #[.pointer (some t)] 112)).alloc (.cells #[.pointer (some ⟨2,112,none⟩),.pointer (some ⟨w.heap.size,0,none⟩),.int .u64 150] 197)).alloc (.cells #[.pointer (some ⟨2,112,none⟩),.pointer (some ⟨w.heap.size,0,none⟩),.int .u64 150] 197)).cell? ⟨p,1,none⟩=some (.int .i64 n):=by
  rw[World.cell?_alloc_lt _ _ ⟨p,1,none⟩ (by simp;omega),World.cell?_alloc_lt _ _ ⟨p,1,none⟩ (by simp;omega),World.cell?_alloc_lt _ _ ⟨p,1,none⟩ hpl];exact hp
 go_enter Tryz.func49,Tryz.ntmps49;go_wp2;refine wp_loop_rounds 2 ?_;rw[rounds_succ];go_wp2;rw[rounds_succ];go_wp2;go_ret;exact⟨rfl,rfl⟩
end
section
open Go.RowKit
def KE(w:World)(v:Value)(n:Int):Prop :=
 (v=.nilIface/\n=0)\/v=.iface 49 (.int .i64 n)\/∃p,v=.iface 106 (.pointer (some ⟨p,0,none⟩))/\w.cell? ⟨p,1,none⟩=some (.int .i64 n)
theorem pP{w:World}(h:cG w):w.cell? ⟨0,0,none⟩=some (.iface 268 (.agg #[.pointer (some ⟨2,45,none⟩)])):=h
theorem cG.keep{S:Nat->Prop}{w w':World}(h:cG w)(hm:Mods S w w')(hS:¬S 0):cG w':=(World.cell?_of_block (w:=w) (hm.block 0 (World.block_lt_of_cell? w _ h) hS)).trans h
def Hl(n:Int)(w:World)(e:Ending)(w':World):Prop:=e=.returned (.int .i64 n)/\aX w w'
theorem bQ(v:Value)(n:Int)(w:World)(hL:cG w)(hv:KE w v n):Calls Tryz.prog 19 #[v] w (Hl n w):=by
 rcases hv with⟨rfl,rfl⟩|rfl|⟨p,rfl,hp⟩
 ·go_enter Tryz.func19,Tryz.ntmps19;go_wp2;go_ret;exact⟨rfl,(Mods.refl _ w).alloc _⟩
 ·have h0:0<w.heap.size:=World.block_lt_of_cell? w _ hL;have hg:(w.alloc (.cells #[.int .i64 0] 49)).cell? ⟨0,0,none⟩=_:=(World.cell?_alloc_lt _ _ ⟨0,0,none⟩ h0).trans (pP hL);have hc:=JH n ⟨w.heap.size,0,none⟩ (.int .i64 0) _ hg (by simp) (bf (aK w _) 0);have HC:=qqH hc;clear hc hg hL;go_enter Tryz.func19,Tryz.ntmps19;go_wp2_with fail;refine HC.out.mono ?_;rintro e w' ⟨rfl,hw⟩
  have hcell:w'.cell? ⟨w.heap.size,0,none⟩=some (.int .i64 n):=by
   rw[hw];exact aa (bB (b:=w.heap.size) (c:=#[.int .i64 0]) (t:=49) (fz:=(0,0)) (by rw[dN (by simp;omega),dN (by simp;omega),dN (by simp;omega),dN (by simp)];exact aK w _) 0 (.int .i64 n)) 0 rfl
  have hs:aX w w':=by
   rw[hw];exact Mods.Qp (Nat.le_refl _) (((((((Mods.refl _ w).alloc _).alloc _).alloc _).alloc _).alloc _)) _
  have HS:=qqH hs;clear hw hs;go_wp2;go_ret;exact⟨rfl,HS.out⟩
 ·have h0:0<w.heap.size:=World.block_lt_of_cell? w _ hL;have hg:(w.alloc (.cells #[.int .i64 0] 49)).cell? ⟨0,0,none⟩=_:=(World.cell?_alloc_lt _ _ ⟨0,0,none⟩ h0).trans (pP hL);have hp':(w.alloc (.cells #[.int .i64 0] 49)).cell? ⟨p,1,none⟩=some (.int .i64 n):=(World.cell?_alloc_lt _ _ ⟨p,1,none⟩ (World.block_lt_of_cell? w _ hp)).trans hp;have hc:=JI p n ⟨w.heap.size,0,none⟩ (.int .i64 0) _ hg hp' (by simp) (bf (aK w _) 0);have HC:=qqH hc;clear hc hg hL hp hp';go_enter Tryz.func19,Tryz.ntmps19;go_wp2_with fail;refine HC.out.mono ?_;rintro e w' ⟨rfl,hw⟩
  have hcell:w'.cell? ⟨w.heap.size,0,none⟩=some (.int .i64 n):=by
   rw[hw];exact aa (bB (b:=w.heap.size) (c:=#[.int .i64 0]) (t:=49) (fz:=(0,0)) (by rw[dN (by simp;omega),dN (by simp;omega),dN (by simp;omega),dN (by simp)];exact aK w _) 0 (.int .i64 n)) 0 rfl
  have hs:aX w w':=by
   rw[hw];exact Mods.Qp (Nat.le_refl _) (((((((Mods.refl _ w).alloc _).alloc _).alloc _).alloc _).alloc _)) _
  have HS:=qqH hs;clear hw hs;go_wp2;go_ret;exact⟨rfl,HS.out⟩
end
section
open Go.ChangeShapes Go.WideShapes Go.RowKit
theorem Lo:ownKnob Tryz.prog.godebug=none:=by kernel_rfl
theorem LT:Tryz.prog.globalNamed "errors.errorType" = some 0:=by kernel_rfl
theorem LU:(Tryz.prog.cutTypes.find? (·.1 == "internal/reflectlite.rtype")).map (·.2)=some 268:=by kernel_rfl
theorem F3:((range 362).filter fun t=>Tryz.prog.rowNamed t [101,114,114,111,114])=[45]:=by kernel_rfl
theorem Ka:Tryz.prog.types.size=362:=by kernel_rfl
theorem CO{W:World}(h:laidMetH Tryz.prog [("errors.errorType",Rows.laid_errors_errorType)] W):cG W:=by
 have h':laidMet Tryz.prog [] W/\handlesMet Tryz.prog [("errors.errorType",Rows.laid_errors_errorType)] W:=h;obtain⟨name,u,ty,e1,e2,e3,e4,e5⟩:=h'.2 _ (mem_singleton.2 rfl);have en:name=[101,114,114,111,114]:=(Option.some.inj e1).symm;subst en;obtain rfl:=Option.some.inj (LU.symm.trans e2);have hm:ty∈(range 362).filter fun t=>Tryz.prog.rowNamed t [101,114,114,111,114]:=mem_filter.2 ⟨mem_range.2 (by rw[<- Ka];exact e3),e4⟩
 rw[F3]at hm;obtain rfl:=mem_singleton.1 hm;have hh:typeHandle Tryz.prog 45=.pointer (some ⟨2,45,none⟩):=by kernel_rfl
 rw[hh]at e5;unfold cG;simpa using World.var?_cell LT e5 0
noncomputable def qJ(os:Os):World :=
 let w0:=World.holding Tryz.prog os ⟨#[],#[],[]⟩
 { w0 with heap:=w0.heap.modify 0 fun
   | .cells _ t frozen=>.cells #[.iface 268 (.agg #[.pointer (some ⟨2,45,none⟩)])] t frozen
   | o=>o }
theorem vw(os:Os)(args:Array Value):laidMetH Tryz.prog [("errors.errorType",Rows.laid_errors_errorType)] ((qJ os).forCall (fun _ _=>0) ⟨#[],args,[]⟩).memory :=
 laidMetH_of_parts (laidMet_nil _ _) (by kernel_rfl)
end
section
open Go.RowKit
section
variable {P:Program} (w:World)
theorem jg(t ty e:TypeId)(i:TypeInfo)(z:Value)(size bytes:Nat)(ht:P.underlying t=some (.slice e))(hi:P.info? e=some i)(hz:i.zero=some z)(hsize:i.size=size)(hby:i.bytes=bytes)(hzs:z.cells.size=size)(hsz:0<size)(v:Value)(n:Nat)(xs:List Value)(hown:w.ownsRow 0 e size v n xs)(a:Addr)(m c:Nat)(news:List Value)(hl:news.length=m*size)(hnews:∀j u,news[j]?=some u->w.cell? (a.add j)=some u)(h1:∀u∈news,u.oneCell'=true)(h63:n+m<=maxLen)(hbytes:(n+m)*bytes<=140737488355328):
  ∃v' w',(Builtin.append_ #[t,t] ty #[v,.slice (some a) m c]).run P w=.ok v' w'/\w'.ownsRow 0 e size v' (n+m) (xs++news)/\w.grownBy w' v.ownBlock /\
   (v'=.slice none 0 0↔v=.slice none 0 0/\m=0)/\(∀g,v'.ownBlock=some g->v.ownBlock=some g\/w.heap.size<=g):=by
 obtain⟨v',w',hr,h2,h3,h4⟩:=run_append_own (P:=P) w 0 t ty e i z size bytes ht hi hz hsize hby hzs hsz v n xs hown a m c news hl hnews h1 h63 hbytes (Nat.zero_le _);refine⟨v',w',hr,h2,h3,h4,?_⟩;rcases hown.2 with⟨rfl,rfl⟩|⟨g,cap,cur,rfl,hbg,hg,hnc,hcm,hcs,htake⟩
 ·have hx:xs=[]:=eq_nil_of_length_eq_zero (by simpa using hown.1);subst hx;obtain⟨v2,w2,hr2,h22,_⟩:=run_append_own (P:=P) w w.heap.size t ty e i z size bytes ht hi hz hsize hby hzs hsz _ 0 [] (World.ownsRow_nil w w.heap.size e size) a m c news hl hnews h1 h63 hbytes (Nat.le_refl _);rw[hr]at hr2
  cases hr2
  exact fun g hg=>.inr (h22.lt g hg).1
 ·subst hsize;subst hby
  have hsmall:n+m<=9223372036854775807:=by simp only[maxLen]at h63;omega
  by_cases hroom:n+m<=cap
  ·have hfit:n*i.size+news.length<=cur.size:=by rw[hl,hcs,<- Nat.add_mul];exact Nat.mul_le_mul_right _ hroom
   have hr2:=run_append_room (P:=P) w t ty e i ht hi g n cap cur hg a m c news hl hnews h1 hroom hfit;rw[hr]at hr2
   cases hr2
   exact fun g' hg'=>.inl hg'
  ·have holds:∀j u,xs[j]?=some u->w.cell? ((⟨g,0,none⟩:Addr).add j)=some u:=hown.cells (g:=g) rfl;have hr2:=run_append_grow (P:=P) w t ty e i z ht hi hz ⟨g,0,none⟩ n cap xs hown.1 holds a m c news hl hnews (by omega) (by omega) (growslice_fits (by omega) hbytes);rw[hr]at hr2
   cases hr2
   exact fun g' hg'=>by simp[Value.ownBlock]at hg';exact .inr (by omega)
end
section
variable {P:Program} (w:World)
theorem mt(t ty e:TypeId)(i:TypeInfo)(size:Nat)(ht:P.underlying t=some (.slice e))(hi:P.info? e=some i)(v:Value)(n:Nat)(xs:List Value)(hown:w.ownsRow 0 e size v n xs)(sa:Option Addr)(c:Nat):
  (Builtin.append_ #[t,t] ty #[v,.slice sa 0 c]).run P w=.ok v w:=by
 cases sa<;>rcases hown.2 with⟨rfl,rfl⟩|⟨g,cap,cur,rfl,_,_,hnc,_⟩ <;>
  simp[Builtin.append_,run_underlying ht,sizeOf,typeInfo,Builtin.lenOf,Builtin.firstCells,loadCells,loadCellsFrom,storeCells, *]
theorem uE(t ty e:TypeId)(i:TypeInfo)(z:Value)(bytes:Nat)(ht:P.underlying t=some (.slice e))(hi:P.info? e=some i)(hz:i.zero=some z)(hsize:i.size=1)(hby:i.bytes=bytes)(hzs:z.cells.size=1)(v:Value)(n:Nat)(xs:List Value)(hown:w.ownsRow 0 e 1 v n xs)(sa:Option Addr)(c:Nat)(news:List Value)(hnews:al w sa news)(h1:∀u∈news,u.oneCell'=true)(h63:n+news.length<=maxLen)(hbytes:(n+news.length)*bytes<=140737488355328):
  ∃v' w',(Builtin.append_ #[t,t] ty #[v,.slice sa news.length c]).run P w=.ok v' w'/\w'.ownsRow 0 e 1 v' (n+news.length) (xs++news)/\w.grownBy w' v.ownBlock/\(∀g,v'.ownBlock=some g->v.ownBlock=some g\/w.heap.size<=g):=by
 by_cases hp:0<news.length
 ·obtain⟨g,off,rfl,hc⟩:=hnews hp
  obtain⟨v',w',r,r1,r2,r3,r4⟩:=jg (P:=P) w t ty e i z 1 bytes ht hi hz hsize hby hzs (by decide) v n xs hown ⟨g,off,none⟩ news.length c news (by simp)
   (fun j u hu=>by obtain⟨hj,rfl⟩:=List.getElem?_eq_some_iff.1 hu;rw[Addr.add_lit];exact hc j hj) h1 h63 hbytes
  exact⟨v',w',r,r1,r2,r4⟩
 ·obtain rfl:news=[]:=eq_nil_of_length_eq_zero (by omega);exact⟨v,w,mt (P:=P) w t ty e i 1 ht hi v n xs hown sa c,by simpa using hown,⟨rfl,rfl,rfl,Nat.le_refl _,fun _ _ _=>rfl⟩,fun g h=>.inl h⟩
end
section
variable {F:Fence} {nn:Nat} {P:Program}
theorem qr(w:World){ops:Array Oper}{rest:List Oper}{o:Oper}{a:Act}{Q:Exit->Act->World->Prop}(hg:o.guard=none)(s x:Operand)(t:TypeId)(hop:o.op=Op.call { callee:=Callee.builtin Builtin.append,args:=#[s,x],argTypes:=#[t,t] })(e:TypeId)(i:TypeInfo)(z:Value)(bytes:Nat)(h1:P.underlying t=some (.slice e))(h2:P.info? e=some i)(h3:i.zero=some z)(h4:i.size=1)(h5:i.bytes=bytes)(h6:z.cells.size=1)(v:Value)(k:Nat)(xs:List Value)(hs:a.eval s=v)(hown:w.ownsRow 0 e 1 v k xs)(sa:Option Addr)(m c:Nat)(news:List Value)(hx:a.eval x=.slice sa m c)(hn:news.length=m)(hc:al w sa news)(h1c:∀u∈news,u.oneCell'=true)(b1:k+m<=maxLen)(b2:(k+m)*bytes<=140737488355328)(hK:∀v' w',w'.ownsRow 0 e 1 v' (k+m) (xs++news)->w.grownBy w' v.ownBlock->(∀g,v'.ownBlock=some g->v.ownBlock=some g\/w.heap.size<=g)->wpList P ops Q rest (a.put o.dst v') w'):
  wpList P ops Q (o::rest) a w:=by
 subst hn;refine wpList_plain hg fun K hK'=>?_
 obtain⟨v',w',hr,r1,r2,r4⟩:=uE (P:=P) w t o.type e i z bytes h1 h2 h3 h4 h5 h6 v k xs hown sa c news hc h1c b1 b2;unfold Oper.wp execOp;simp only[hop,resolve,invoke,builtin,Sem.run_bind,Sem.run_pure,Result.andThen_ok,map_toArray,map_cons,map_nil,hs,hx,hr];exact hK' _ _ (hK v' w' r1 r2 r4)
theorem i8(w:World){ops:Array Oper}{rest:List Oper}{o:Oper}{a:Act}{Q:Exit->Act->World->Prop}(hg:o.guard=none)(s x:Operand)(t:TypeId)(hop:o.op=Op.call { callee:=Callee.builtin Builtin.append,args:=#[s,x],argTypes:=#[t,t] })(e:TypeId)(i:TypeInfo)(z:Value)(size bytes:Nat)(h1:P.underlying t=some (.slice e))(h2:P.info? e=some i)(h3:i.zero=some z)(h4:i.size=size)(h5:i.bytes=bytes)(h6:z.cells.size=size)(h7:0<size)(v:Value)(k:Nat)(xs:List Value)(hs:a.eval s=v)(hown:w.ownsRow 0 e size v k xs)(ad:Addr)(m c:Nat)(news:List Value)(hx:a.eval x=.slice (some ad) m c)(hn:news.length=m*size)(hc:∀j u,news[j]?=some u->w.cell? (ad.add j)=some u)(h1c:∀u∈news,u.oneCell'=true)(b1:k+m<=maxLen)(b2:(k+m)*bytes<=140737488355328)(hK:∀v' w',w'.ownsRow 0 e size v' (k+m) (xs++news)->w.grownBy w' v.ownBlock->(v'=.slice none 0 0↔v=.slice none 0 0/\m=0)->(∀g,v'.ownBlock=some g->v.ownBlock=some g\/w.heap.size<=g) ->
   wpList P ops Q rest (a.put o.dst v') w'):
  wpList P ops Q (o::rest) a w:=by
 refine wpList_plain hg fun K hK'=>?_
 obtain⟨v',w',hr,r1,r2,r3,r4⟩:=jg (P:=P) w t o.type e i z size bytes h1 h2 h3 h4 h5 h6 h7 v k xs hown ad m c news hn hc h1c b1 b2;unfold Oper.wp execOp;simp only[hop,resolve,invoke,builtin,Sem.run_bind,Sem.run_pure,Result.andThen_ok,map_toArray,map_cons,map_nil,hs,hx,hr];exact hK' _ _ (hK v' w' r1 r2 r3 r4)
end
theorem Mods.Qj{w w':World}{row:Option Nat}(h:w.grownBy w' row):Mods (fun k=>row=some k) w w' :=
 ⟨h.os,h.tape,h.output,h.size,fun k hk hS=>h.block k hk (fun e=>hS e.symm)⟩
theorem Mods.setRow{S:Nat->Prop}{a w:World}{g:Nat}(h:Mods S a w)(hg:S g\/a.heap.size<=g)(cs:Array Value):Mods S a (w.setRow g cs) :=
 ⟨h.os,h.tape,h.output,by simpa[World.setRow]using h.size,fun k hk hs=>(setRow_other w g k cs (fun e=>by subst e;rcases hg with h'|h'<;>first|exact absurd h' hs|omega)).trans (h.block k hk hs)⟩
theorem iJ{P:Program}{w:World}{ops:Array Oper}{rest:List Oper}{o:Oper}{a:Act}{Q:Exit->Act->World->Prop}(hgd:o.guard=none)(d s:Operand)(dT sT:TypeId)(ho:o.op=.call { callee:=.builtin .copy,args:=#[d,s],argTypes:=#[dT,sT] })(elem:TypeId)(hu:P.underlying dT=some (.slice elem))(hsz:(P.info? elem).map (·.size)=some 1)(dp sp:Option Addr)(dLen dCap sLen sCap:Nat)(hd:a.eval d=.slice dp dLen dCap)(hs:a.eval s=.slice sp sLen sCap)(g off:Nat)(cur:List Value)(t:TypeId)(hg:w.heap[g]?=some (.cells cur.toArray t (0,0)))(cs:List Value)(hn:cs.length=Nat.min sLen dLen)(hpos:0<cs.length->dp=some ⟨g,off,none⟩/\∃ad,sp=some ad/\∀j v,cs[j]?=some v->w.cell? (ad.add j)=some v)(hfit:off+cs.length<=cur.length)(h1:∀v∈cs,v.oneCell'=true)(h:∀w',w'.heap[g]?=some (.cells (splice cur off cs).toArray t (0,0))->Mods (fun k=>k=g) w w'->w'.heap.size=w.heap.size->wpList P ops Q rest (a.put o.dst (goInt cs.length)) w'):
  wpList P ops Q (o::rest) a w:=by
 by_cases h0:cs.length=0
 ·obtain rfl:cs=[]:=eq_nil_of_length_eq_zero h0;refine wpList_copy_nothing hgd d s dT sT ho elem hu hsz dp sp dLen dCap sLen sCap hd hs (by simpa using hn.symm) ?_;exact h w (show _=_ by simpa[splice]using hg) (Mods.refl _ _) rfl
 ·obtain⟨rfl,ad,rfl,hsrc⟩:=hpos (by omega);refine wpList_copy_own hgd d s dT sT ho elem hu hsz g off dLen dCap ad sLen sCap hd hs cur.toArray t hg cs hn hsrc (by simpa using hfit) h1 ?_;exact h _ (show _=_ by simpa[splice]using setRow_heap w g _ _ t _ hg) (Mods.setRow (S:=fun k=>k=g) (Mods.refl _ _) (.inl rfl) _) (by simp[World.setRow])
end
section
open Go.RowKit
theorem dA(l:List UInt8):∀v∈l.map am,v.oneCell'=true:=fun v hv=>by
 obtain⟨x,_,rfl⟩:=mem_map.1 hv;rfl
abbrev HF:=List (Nat×(Obj->Prop))
def dom(F:HF):List Nat:=F.map (·.1)
@[simp] theorem L9:dom []=[]:=rfl
@[simp] theorem gF (p:Nat×(Obj->Prop)) (F:HF):dom (p::F)=p.1::dom F:=rfl
@[simp] theorem cJ (F G:HF):dom (F++G)=dom F++dom G:=by simp[dom]
def Is(x o:Obj):Prop:=o=x
theorem Is.rfl{x:Obj}:Is x x:=by unfold Is;exact Eq.refl x
structure Sat (w:World) (F:HF):Prop where
 nodup:(dom F).Nodup
 sat:∀p∈F,∃o,w.heap[p.1]?=some o/\p.2 o
structure Turns (F F':HF) (w w':World):Prop where
 mods:Mods (fun b=>b∈dom F) w w'
 sat:Sat w' F'
 fresh:∀b∈dom F',b∈dom F\/w.heap.size<=b
theorem mH{F G:HF}(h:F.Perm G):(dom F).Perm (dom G):=h.map _
theorem Sat.lt{w:World}{F:HF}(h:Sat w F){b:Nat}(hb:b∈dom F):b<w.heap.size:=by
 obtain⟨p,hp,rfl⟩:=mem_map.1 hb;obtain⟨o,ho,_⟩:=h.sat p hp;exact ac ho
theorem Sat.perm{w:World}{F G:HF}(h:Sat w F)(hp:F.Perm G):Sat w G :=
 ⟨(mH hp).nodup_iff.1 h.nodup,fun p hq=>h.sat p (hp.mem_iff.2 hq)⟩
theorem Sat.left{w:World}{F G:HF}(h:Sat w (F++G)):Sat w F :=
 ⟨by have:=h.nodup;rw[cJ]at this;exact(nodup_append.1 this).1,fun p hp=>h.sat p (mem_append_left _ hp)⟩
theorem Sat.right{w:World}{F G:HF}(h:Sat w (F++G)):Sat w G :=
 ⟨by have:=h.nodup;rw[cJ]at this;exact(nodup_append.1 this).2.1,fun p hp=>h.sat p (mem_append_right _ hp)⟩
theorem Sat.Qh{w:World}{F G:HF}(h:Sat w (F++G)){b:Nat}(hb:b∈dom F):b∉dom G:=by
 have:=h.nodup;rw[cJ]at this;intro hg;exact(nodup_append.1 this).2.2 b hb b hg rfl
theorem Sat.join{w:World}{F G:HF}(h:Sat w F)(k:Sat w G)(hd:∀b∈dom F,b∉dom G):Sat w (F++G) :=
 ⟨by rw[cJ];exact nodup_append.2 ⟨h.nodup,k.nodup,fun a ha b hb e=>hd a ha (e ▸ hb)⟩,
  fun p hp=>by rcases mem_append.1 hp with h'|h';exact h.sat p h';exact k.sat p h'⟩
theorem Sat.nil(w:World):Sat w []:=⟨nodup_nil,fun p hp=>by simp at hp⟩
theorem Sat.one{w:World}{b:Nat}{φ:Obj->Prop}{o:Obj}(h:w.heap[b]?=some o)(ho:φ o):Sat w [(b,φ)] :=
 ⟨by simp[dom],fun p hp=>by simp at hp;subst hp;exact⟨o,h,ho⟩⟩
theorem Sat.frame{S:Nat->Prop}{w w':World}{F:HF}(h:Sat w F)(hm:Mods S w w')(hS:∀b∈dom F,¬S b):Sat w' F :=
 ⟨h.nodup,fun p hp=>by
  obtain⟨o,ho,hφ⟩:=h.sat p hp
  exact⟨o,hm.at ho (hS p.1 (mem_map.2 ⟨p,hp,rfl⟩)),hφ⟩⟩
theorem Sat.same{w w':World}{F:HF}(h:Sat w F)(hm:aX w w'):Sat w' F:=h.frame hm (fun _ _=>id)
theorem Sat.weak{w:World}{b:Nat}{φ ψ:Obj->Prop}{F:HF}(h:Sat w ((b,φ)::F))(hw:∀o,φ o->ψ o):Sat w ((b,ψ)::F) :=
 ⟨h.nodup,fun p hp=>by
  rcases mem_cons.1 hp with rfl|hp
  ·obtain⟨o,ho,hφ⟩:=h.sat (b,φ) (by simp)
   exact⟨o,ho,hw o hφ⟩
  ·exact h.sat p (mem_cons_of_mem _ hp)⟩
theorem Sat.head{w:World}{b:Nat}{φ:Obj->Prop}{F:HF}(h:Sat w ((b,φ)::F)):∃o,w.heap[b]?=some o/\φ o:=h.sat (b,φ) (by simp)
theorem Sat.tail{w:World}{p:Nat×(Obj->Prop)}{F:HF}(h:Sat w (p::F)):Sat w F:=Sat.right (F:=[p]) h
theorem Sat.notMem{w:World}{b:Nat}{φ:Obj->Prop}{F:HF}(h:Sat w ((b,φ)::F)):b∉dom F:=(nodup_cons.1 h.nodup).1
theorem Sat.put{w w':World}{b:Nat}{φ ψ:Obj->Prop}{F:HF}{o:Obj}(h:Sat w ((b,φ)::F))(hm:Mods (fun k=>k=b) w w')(ho:w'.heap[b]?=some o)(hψ:ψ o):Sat w' ((b,ψ)::F) :=
 Sat.join (F:=[(b,ψ)]) (Sat.one ho hψ) (h.tail.frame hm (fun k hk e=>h.notMem (e ▸ hk))) (fun k hk=>by simp at hk;subst hk;exact h.notMem)
theorem Turns.refl{w:World}{F:HF}(h:Sat w F):Turns F F w w:=⟨Mods.refl _ _,h,fun _ hb=>.inl hb⟩
theorem Turns.trans{a b c:World}{F G H:HF}(h:Turns F G a b)(k:Turns G H b c):Turns F H a c :=
 ⟨h.mods.trans' k.mods h.fresh,k.sat,fun q hq=>by
  rcases k.fresh q hq with h'|h'
  ·exact h.fresh q h'
  ·exact .inr (Nat.le_trans h.mods.size h')⟩
theorem Turns.frame{w w':World}{F F':HF}(h:Turns F F' w w'){R:HF}(hs:Sat w (F++R)):Turns (F++R) (F'++R) w w' :=
 ⟨h.mods.mono (fun b hb=>.inl (by simp[hb])),h.sat.join (hs.right.frame h.mods (fun b hb hf=>hs.Qh hf hb)) (fun b hb hr=>by
   rcases h.fresh b hb with h'|h'
   ·exact hs.Qh h' hr
   ·have:=hs.right.lt hr;omega),
  fun b hb=>by
  rw[cJ]at hb ⊢
  rcases mem_append.1 hb with h'|h'
  ·rcases h.fresh b h' with h''|h''
   ·exact .inl (mem_append_left _ h'')
   ·exact .inr h''
  ·exact .inl (mem_append_right _ h')⟩
theorem Turns.perm{w w':World}{F F' G G':HF}(h:Turns F F' w w')(hp:F.Perm G)(hp':F'.Perm G'):Turns G G' w w' :=
 ⟨h.mods.mono (fun b hb=>.inl ((mH hp).mem_iff.1 hb)),h.sat.perm hp',fun b hb=>by
  rcases h.fresh b ((mH hp').mem_iff.2 hb)with h'|h'
  ·exact .inl ((mH hp).mem_iff.1 h')
  ·exact .inr h'⟩
theorem Turns.left{w w':World}{F G H:HF}(h:Turns F (G++H) w w'):Turns F G w w':=⟨h.mods,h.sat.left,fun b hb=>h.fresh b (by simp[hb])⟩
theorem Turns.right{w w':World}{F G H:HF}(h:Turns F (G++H) w w'):Turns F H w w':=⟨h.mods,h.sat.right,fun b hb=>h.fresh b (by simp[hb])⟩
theorem Turns.same{w w':World}{F:HF}(hs:Sat w F)(h:aX w w'):Turns F F w w':=⟨h.mods _,hs.same h,fun _ hb=>.inl hb⟩
theorem Turns.Q9{a b c:World}{F G:HF}(h:Turns F G a b)(k:aX b c):Turns F G a c:=h.trans (Turns.same h.sat k)
theorem Turns.Qg{a b c:World}{F G:HF}(hs:Sat a F)(h:aX a b)(k:Turns F G b c):Turns F G a c:=(Turns.same hs h).trans k
theorem Turns.drewN{a b:World}{F G:HF}(h:Turns F G a b)(n:Nat):Turns F G a (b.drewN n):=h.Q9 ((Mods.refl _ b).drewN n)
theorem Turns.drew{a b:World}{F G:HF}(h:Turns F G a b):Turns F G a b.drew:=h.Q9 (Mods.refl _ b).drew
theorem Turns.alloc{a b:World}{F G:HF}(h:Turns F G a b)(o:Obj):Turns F G a (b.alloc o):=h.Q9 ((Mods.refl _ b).alloc o)
theorem Turns.Qd{a b:World}{F G:HF}(h:Turns F G a b){o:Obj}{φ:Obj->Prop}(ho:φ o):Turns F ((b.heap.size,φ)::G) a (b.alloc o) :=
 ⟨h.mods.alloc o,Sat.join (F:=[(b.heap.size,φ)]) (Sat.one (aK b o) ho) (h.sat.same ((Mods.refl _ b).alloc o)) (fun k hk hg=>by
   simp at hk;subst hk;have:=h.sat.lt hg;omega),
  fun k hk=>by
  rcases mem_cons.1 hk with rfl|h'
  ·exact .inr h.mods.size
  ·exact h.fresh k h'⟩
theorem Turns.put{a w w':World}{F G:HF}{b:Nat}{φ ψ:Obj->Prop}{o:Obj}(h:Turns F ((b,φ)::G) a w)(hm:Mods (fun k=>k=b) w w')(ho:w'.heap[b]?=some o)(hψ:ψ o):Turns F ((b,ψ)::G) a w' :=
 h.trans ⟨hm.mono (fun k hk=>.inl (by simp[hk])),h.sat.put hm ho hψ,fun k hk=>.inl (by simpa using hk)⟩
theorem Turns.Qa{a w w':World}{F G:HF}{b:Nat}{φ:Obj->Prop}{o:Obj}(h:Turns F ((b,φ)::G) a w)(hm:Mods (fun k=>k=b) w w')(ho:w'.heap[b]?=some o):Turns F ((b,Is o)::G) a w':=h.put hm ho Is.rfl
theorem Turns.Q8{a b:World}{F G:HF}(h:Turns F G a b)(o:Obj):Turns F ((b.heap.size,Is o)::G) a (b.alloc o):=h.Qd Is.rfl
theorem Sat.Q5{w:World}{b:Nat}{o:Obj}{F:HF}(h:Sat w ((b,Is o)::F)):w.heap[b]?=some o:=by
 obtain⟨o',ho,hi⟩:=h.head;unfold Is at hi;subst hi;exact ho
def bN(e size:Nat)(v:Value)(n:Nat)(xs:List Value):HF :=
 match v.ownBlock with
 | none=>[]
 | some g=>[(g,fun o=>∃cap cur,v=.slice (some ⟨g,0,none⟩) n cap/\o=.cells cur e (0,0)/\n<=cap/\cap<=maxLen/\cur.size=cap*size/\cur.toList.take (n*size)=xs)]
def eE(size:Nat)(v:Value)(n:Nat)(xs:List Value):Prop:=xs.length=n*size/\(v.ownBlock=none->v=.slice none 0 0/\n=0)
theorem aR{w:World}{e size n:Nat}{v:Value}{xs:List Value}(h:Sat w (bN e size v n xs))(k:eE size v n xs):w.ownsRow 0 e size v n xs:=by
 refine⟨k.1,?_⟩;unfold bN at h
 cases hv:v.ownBlock with
 | none=>exact .inl (k.2 hv)
 | some g =>
  rw[hv]at h;obtain⟨o,ho,cap,cur,hvv,rfl,h1,h2,h3,h4⟩:=h.head;exact .inr ⟨g,cap,cur,hvv,Nat.zero_le _,ho,h1,h2,h3,h4⟩
theorem gl{w:World}{b e size n:Nat}{v:Value}{xs:List Value}(h:w.ownsRow b e size v n xs):Sat w (bN e size v n xs)/\eE size v n xs:=by
 rcases h.2 with⟨rfl,rfl⟩|⟨g,cap,cur,rfl,hb,hg,h1,h2,h3,h4⟩
 ·exact⟨by simpa[bN,Value.ownBlock]using Sat.nil w,h.1,fun _=>⟨rfl,rfl⟩⟩
 ·refine⟨?_,h.1,fun hn=>by simp[Value.ownBlock]at hn⟩;simp only[bN,Value.ownBlock];exact Sat.one hg ⟨cap,cur,rfl,rfl,h1,h2,h3,h4⟩
theorem ff(e size n:Nat)(v:Value)(xs:List Value)(b:Nat):b∈dom (bN e size v n xs)↔v.ownBlock=some b:=by
 unfold bN
 cases v.ownBlock with
 | none=>simp
 | some g=>simp[dom,eq_comm]
theorem Turns.grow{a w w':World}{F G:HF}{e size n m:Nat}{v v':Value}{xs ys:List Value}(h:Turns F (bN e size v n xs++G) a w)(hown:w'.ownsRow 0 e size v' m ys)(hgrow:w.grownBy w' v.ownBlock)(hg:∀g,v'.ownBlock=some g->v.ownBlock=some g\/w.heap.size<=g):Turns F (bN e size v' m ys++G) a w':=by
 have ht:Turns (bN e size v n xs) (bN e size v' m ys) w w' :=
  ⟨(
   Mods.Qj hgrow).mono (fun b hb=>.inl ((ff _ _ _ _ _ _).2 hb)),(gl hown).1,fun b hb=>by
   rcases hg b ((ff _ _ _ _ _ _).1 hb)with h'|h'
   ·exact .inl ((ff _ _ _ _ _ _).2 h')
   ·exact .inr h'⟩
 exact h.trans (ht.frame h.sat)
end
section
abbrev Bs:=List UInt8
def oK(c:Nat):Nat:=(c / 2) ^^^ (c%2*3988292384)
def fO:Nat->Nat->Nat
 | 0,c=>c
 | n+1,c=>fO n (oK c)
def eK(c:Nat)(x:UInt8):Nat:=fO 8 (c ^^^ x.toNat)
def fP(c:Nat)(b:Bs):Nat:=b.foldl eK c
def cF(k:UInt8)(b:Bs):Nat:=4294967295 ^^^ fP (eK 4294967295 k) b
theorem iO{a b:Nat}(ha:a<4294967296)(hb:b<4294967296):a ^^^ b<4294967296:=Nat.xor_lt_two_pow (n:=32) ha hb
theorem qD{c:Nat}(h:c<4294967296):oK c<4294967296:=by
 unfold oK;refine iO (by omega) ?_;have:c%2<2:=Nat.mod_lt _ (by omega);have h2:c%2*3988292384<=1*3988292384:=Nat.mul_le_mul_right _ (by omega);omega
theorem tF(n:Nat):∀{c:Nat},c<4294967296->fO n c<4294967296:=by
 induction n with
 | zero=>intro c h;exact h
 | succ n ih=>intro c h;exact ih (qD h)
theorem vn(n:Nat):∀c,fO (n+1) c=oK (fO n c):=by
 induction n with
 | zero=>intro c;rfl
 | succ n ih=>intro c;rw[fO,ih];rfl
theorem mg(x:UInt8):x.toNat<4294967296:=by have:=UInt8.toNat_lt x;omega
theorem dV{c:Nat}(h:c<4294967296)(x:UInt8):eK c x<4294967296:=tF 8 (iO h (mg x))
theorem lG(b:Bs):∀{c:Nat},c<4294967296->fP c b<4294967296:=by
 induction b with
 | nil=>intro c h;exact h
 | cons x r ih=>intro c h;exact ih (dV h x)
theorem j9(k:UInt8)(b:Bs):cF k b<4294967296:=iO (by omega) (lG b (dV (by omega) k))
theorem iM{a b c:Nat}(h:a ^^^ b=a ^^^ c):b=c:=by
 have:=congrArg (a ^^^ ·) h;simpa[<- Nat.xor_assoc]using this
theorem CF{a b:Nat}(ha:a<4294967296)(hb:b<4294967296)(h:oK a=oK b):a=b:=by
 unfold oK at h
 have bit:∀c,c<4294967296->((c / 2) ^^^ (c%2*3988292384)).testBit 31=decide (c%2=1):=by
  intro c hc;rw[Nat.testBit_xor,Nat.testBit_lt_two_pow (show c / 2<2 ^ 31 by omega)];rcases Nat.mod_two_eq_zero_or_one c with h0|h0
  ·rw[h0];decide
  ·rw[h0];decide
 have e:=bit a ha;rw[h,bit b hb]at e
 have em:a%2=b%2:=by
  rcases Nat.mod_two_eq_zero_or_one a with h0|h0<;>rcases Nat.mod_two_eq_zero_or_one b with h1|h1<;>simp[h0,h1]at e ⊢
 rw[em,Nat.xor_comm (a / 2),Nat.xor_comm (b / 2)]at h;have:=iM h;omega
theorem rC(n:Nat):∀{a b:Nat},a<4294967296->b<4294967296->fO n a=fO n b->a=b:=by
 induction n with
 | zero=>intro a b _ _ h;exact h
 | succ n ih=>intro a b ha hb h;exact CF ha hb (ih (qD ha) (qD hb) h)
theorem vo{a b:Nat}(ha:a<4294967296)(hb:b<4294967296)(x:UInt8)(h:eK a x=eK b x):a=b:=by
 have:=rC 8 (iO ha (mg x)) (iO hb (mg x)) h;rw[Nat.xor_comm a,Nat.xor_comm b]at this;exact iM this
theorem nY{a:Nat}(ha:a<4294967296){x y:UInt8}(h:eK a x=eK a y):x=y :=
 UInt8.toNat_inj.1 (iM (rC 8 (iO ha (mg x)) (iO ha (mg y)) h))
theorem rD(b:Bs):∀{a c:Nat},a<4294967296->c<4294967296->fP a b=fP c b->a=c:=by
 induction b with
 | nil=>intro a c _ _ h;exact h
 | cons x r ih=>intro a c ha hc h;exact vo ha hc x (ih (dV ha x) (dV hc x) h)
theorem Bt(k:UInt8)(p r:Bs){x y:UInt8}(h:cF k (p++x::r)=cF k (p++y::r)):x=y:=by
 have h0:eK 4294967295 k<4294967296:=dV (by omega) k;have hp:=lG p h0;have e:=iM h;unfold fP at e hp;rw[foldl_append,foldl_append]at e;exact nY hp (rD r (dV hp x) (dV hp y) e)
theorem DJ(b:Bs){k l:UInt8}(h:cF k b=cF l b):k=l :=
 nY (by omega) (rD b (dV (by omega) k) (dV (by omega) l) (iM h))
def be:Nat->Nat->Bs
 | _,0=>[]
 | n,k+1=>UInt8.ofNat (n / 256 ^ k)::be n k
def bk(b:Bs):Nat:=b.foldl (fun n x=>n*256+x.toNat) 0
theorem bE(n k:Nat):(be n k).length=k:=by
 induction k with
 | zero=>rfl
 | succ k ih=>simp[be,ih]
theorem Hw(b:Bs):∀a,b.foldl (fun n x=>n*256+x.toNat) a=a*256 ^ b.length+bk b:=by
 unfold bk;induction b with
 | nil=>intro a;simp
 | cons x r ih =>
  intro a;simp only[foldl_cons,length_cons];rw[ih (a*256+x.toNat),ih (0*256+x.toNat),Nat.pow_succ];rw[Nat.zero_mul,Nat.zero_add,Nat.add_mul,Nat.mul_assoc,Nat.mul_comm 256,Nat.add_assoc]
theorem oE(x:UInt8)(r:Bs):bk (x::r)=x.toNat*256 ^ r.length+bk r:=by
 have:=Hw r x.toNat;unfold bk at *
 simpa using this
theorem gC(n k:Nat):bk (be n k)=n%256 ^ k:=by
 induction k with
 | zero=>simp[be,bk,Nat.mod_one]
 | succ k ih =>
  rw[be,oE,ih,bE,UInt8.toNat_ofNat'];have e:n%256 ^ (k+1)=n%256 ^ k+256 ^ k*(n / 256 ^ k%256):=by rw[Nat.pow_succ,Nat.mod_mul]
  rw[e,Nat.mul_comm,Nat.add_comm]
theorem fV(b:Bs):bk b<256 ^ b.length:=by
 induction b with
 | nil=>simp[bk]
 | cons x r ih =>
  rw[oE,length_cons,Nat.pow_succ];have:=UInt8.toNat_lt x;have h1:x.toNat*256 ^ r.length<=255*256 ^ r.length:=Nat.mul_le_mul_right _ (by omega);have h2:(256:Nat) ^ r.length*256=255*256 ^ r.length+256 ^ r.length:=by omega
  omega
theorem oG(b:Bs)(x:UInt8):bk (b++[x])=bk b*256+x.toNat:=by simp[bk,foldl_append]
def frame(k:UInt8)(body:Bs):Bs:=(k::be body.length 2)++be (65535-body.length%65536) 2++body++be (cF k body) 4
theorem aJ(k:UInt8)(body:Bs):(frame k body).length=body.length+9:=by simp[frame,bE];omega
def bM(b:Bs):Option (UInt8×Bs×Nat) :=
 if b.length<9 then none
 else if b.getD 0 0=0 then none
 else
  let n:=(b.getD 1 0).toNat*256+(b.getD 2 0).toNat
  if n≠(255-(b.getD 3 0).toNat)*256+(255-(b.getD 4 0).toNat)then none
  else if b.length<n+9 then none
  else
   let body:=(b.drop 5).take n
   if bk ((b.drop (5+n)).take 4)≠cF (b.getD 0 0) body then none
   else some (b.getD 0 0,body,n+9)
theorem be2(n:Nat):be n 2=[UInt8.ofNat (n / 256),UInt8.ofNat n]:=by simp[be]
theorem ge(k:UInt8)(body rest:Bs)(hk:k≠0)(hl:body.length<65536):bM (frame k body++rest)=some (k,body,body.length+9):=by
 have e:frame k body++rest=k::UInt8.ofNat (body.length / 256)::UInt8.ofNat body.length::UInt8.ofNat ((65535-body.length) / 256)::UInt8.ofNat (65535-body.length)::(body++(be (cF k body) 4++rest)):=by
  unfold frame;rw[be2,be2,Nat.mod_eq_of_lt hl];generalize be (cF k body) 4=s;generalize 65535-body.length=z;simp only[cons_append,nil_append,append_assoc]
 have hn:(UInt8.ofNat (body.length / 256)).toNat*256+(UInt8.ofNat body.length).toNat=body.length:=by
  rw[UInt8.toNat_ofNat',UInt8.toNat_ofNat'];omega
 have hm:(255-(UInt8.ofNat ((65535-body.length) / 256)).toNat)*256+(255-(UInt8.ofNat (65535-body.length)).toNat)=body.length:=by
  obtain⟨z,hz,hz2⟩:∃z,65535-body.length=z/\z+body.length=65535:=⟨_,rfl,by omega⟩;rw[hz,UInt8.toNat_ofNat',UInt8.toNat_ofNat'];omega
 rw[e];unfold bM;simp only[length_cons,length_append,bE,QF,QG];rw[if_neg (by omega),if_neg hk];simp only[hn,hm];rw[if_neg (by simp),if_neg (by omega)];have d1:drop 5 (k::UInt8.ofNat (body.length / 256)::UInt8.ofNat body.length::UInt8.ofNat ((65535-body.length) / 256)::UInt8.ofNat (65535-body.length)::(body++(be (cF k body) 4++rest)))=body++(be (cF k body) 4++rest):=rfl;rw[<- drop_drop,d1,take_left' rfl,drop_left' rfl,take_left' (bE _ _),gC,Nat.mod_eq_of_lt (j9 k body)];simp
theorem dx{b:Bs}{k:UInt8}{body:Bs}{n:Nat}(h:bM b=some (k,body,n)):k≠0/\n=body.length+9/\n<=b.length/\body=(b.drop 5).take (n-9)/\body.length<65536:=by
 unfold bM at h;split at h
 ·cases h
 split at h
 ·cases h
 simp only at h;split at h
 ·cases h
 split at h
 ·cases h
 split at h
 ·cases h
 rename_i h1 h2 h3 h4 h5;simp only[Option.some.injEq,Prod.mk.injEq]at h;obtain⟨rfl,rfl,rfl⟩:=h;have:=UInt8.toNat_lt (b.getD 1 0);have:=UInt8.toNat_lt (b.getD 2 0)
 have hl:((b.drop 5).take ((b.getD 1 0).toNat*256+(b.getD 2 0).toNat)).length=(b.getD 1 0).toNat*256+(b.getD 2 0).toNat:=by
  rw[length_take,length_drop,Nat.min_eq_left];omega
 exact⟨h2,by rw[hl],Nat.le_of_not_lt h4,by rw[Nat.add_sub_cancel],by rw[hl];omega⟩
end
section
open Go.RowKit
section
variable {α:Type} (enc:α->Value)
theorem yH{xs ys:List α}{k:Nat}(h:xs.take k=ys.take k)(hx:k<xs.length)(hy:k<ys.length)(he:xs[k]=ys[k]):xs.take (k+1)=ys.take (k+1):=by
 rw[QH hx,QH hy,h,he]
theorem rB{w:World}{a:Option Addr}{xs:List α}(h:al w a (xs.map enc))(hp:0<xs.length):∃g off,a=some ⟨g,off,none⟩/\∀j (h:j<xs.length),w.cell? ⟨g,off+j,none⟩=some (enc (xs[j]'h)):=by
 obtain⟨g,off,ha,hc⟩:=h (by simpa using hp);exact⟨g,off,ha,fun j hj=>by rw[hc j (by simpa using hj)];simp⟩
end
theorem j5:(Tryz.prog.info? 5).map (fun i=>(i.zero,i.size,i.bytes))=some (some (.int .u8 0),1,1):=by kernel_rfl
def ay(l:List UInt8):Array Value:=(l.map am).toArray
theorem j8(l:List UInt8)(j:Nat)(h:j<l.length):(ay l)[j]?=some (am l[j]):=by simp[ay,h]
theorem I8(l:List UInt8)(j:Nat)(x:UInt8):(ay l).setIfInBounds j (am x)=ay (l.set j x):=by
 apply Array.ext';simp[ay,map_set]
end
section
open Go.RowKit
def ak(n:Nat):Bs:=replicate n 0
def eI:Array Value:=ay (ak 128)
theorem nN(w:World):(zeroValue 43).run Tryz.prog w=.ok (.agg eI) w:=by kernel_rfl
theorem qj:(Tryz.prog.info? 43).map (·.size)=some 128:=by kernel_rfl
theorem Ja:(Tryz.prog.info? 43).map (fun i=>(i.zero,i.size,i.bytes))=some (some (.agg eI),128,128):=by kernel_rfl
def pr:Value:=.agg (#[.int .i64 0]++eI)
theorem Hy:(Tryz.prog.info? 110).map (fun i=>(i.zero,i.size,i.bytes))=some (some pr,129,136):=by kernel_rfl
theorem jT:pr.cells.size=129:=by kernel_rfl
theorem et{w:World}{b:Nat}{l:Bs}{t:TypeId}{fz:Nat×Nat}(h:w.heap[b]?=some (.cells (ay l) t fz))(o n:Nat):w.rangeAt b o (((l.drop o).take n).map am):=fun j v hv=>by
 refine aa h (o+j) ?_
 simp only[ay,getElem?_toArray,getElem?_map]at hv ⊢
 rw[getElem?_take]at hv
 split at hv
 ·rw[getElem?_drop]at hv;exact hv
 ·simp at hv
theorem fJ{w:World}{b:Nat}{l:Bs}{t:TypeId}(h:w.heap[b]?=some (.cells (ay l) t (0,0)))(o n:Nat)(hn:o+n<=l.length):w.there b o n:=fun j hj=>by
 rw[aa h (o+j) (j8 l (o+j) (by omega))]
 exact⟨rfl,bf h _⟩
theorem ig{s:Bs}(h:s.length=128):(Tryz.prog.info? 43).map (·.size)=some (s.map am).length:=by rw[length_map,h];exact qj
theorem ii{s:Bs}(h:s.length=128):(Tryz.prog.info? 43).map (·.size)=some (ay s).size:=by rw[ay,size_toArray];exact ig h
theorem bR(s:Bs):(ay s).size=s.length:=by simp[ay]
theorem cU(s:Bs):(ay s).all (·.oneCell')=true:=all_oneCell_toArray (dA s)
theorem sr{P:Program}{fn:Func}{p q:Tmp}{ty:TypeId}(h:fn.results=#[.cell p ty,.tmp q])(tmps:Array Value)(w:World)(g:Nat)(t:TypeId)(cs:Array Value)(fr:Nat×Nat)(d:TypeDesc)(hp:tmps.getD p undef=.pointer (some ⟨g,0,none⟩))(hg:w.heap[g]?=some (.cells cs t fr))(hu:P.underlying ty=some d)(hd:(match d with|.struct _|.array _ _=>true|_=>false)=true)(hi:(P.info? ty).map (·.size)=some cs.size):
  (results fn tmps).run P w=.ok (.tuple #[.agg cs,tmps.getD q undef]) w:=by
 have hp':tmps[p]?.getD undef=.pointer (some ⟨g,0,none⟩):=by simpa using hp
 simp[results,h,hp',asAddr,run_loadVar_row w g t ty cs fr d hg hu hd hi]
def aV(l:Bs)(o:Nat)(s:Bs):Bs:=l.take o++s++l.drop (o+s.length)
theorem jF{l s:Bs}{o:Nat}(h:o+s.length<=l.length):(aV l o s).length=l.length:=by simp[aV];omega
theorem lY{w:World}{b:Nat}{l:Bs}{t:TypeId}(h:w.heap[b]?=some (.cells (ay l) t (0,0)))(o:Nat)(s:Bs)(hn:o+s.length<=l.length):
  (w.setCells b o (s.map am)).heap[b]?=some (.cells (ay (aV l o s)) t (0,0))/\Mods (fun k=>k=b) w (w.setCells b o (s.map am)):=by
 induction s generalizing w l o with
 | nil=>exact⟨by simpa[World.setCells,aV]using h,by simpa[World.setCells]using Mods.refl _ w⟩
 | cons x r ih =>
  simp only[map_cons,World.setCells];simp only[length_cons]at hn;have h1:=bB h o (am x);rw[I8]at h1;obtain⟨h2,h3⟩:=ih h1 (o+1) (by rw[length_set];omega);refine⟨h2.trans ?_,((Mods.refl (fun k=>k=b) w).set1 (am x)).trans h3⟩;congr 3;obtain⟨A,y,B,rfl,rfl⟩:∃A y B,l=A++y::B/\A.length=o:=⟨l.take o,l[o],l.drop (o+1),by rw[<- drop_eq_getElem_cons,take_append_drop],by simp;omega⟩;unfold aV;rw[set_append_right _ _ (Nat.le_refl _),Nat.sub_self,QB,take_append,take_append,drop_append,drop_append];simp only[take_of_length_le (show A.length<=A.length+1 by omega),show A.length+1-A.length=1 by omega,Nat.sub_self,take_length,take_zero,append_nil,length_cons];rw[drop_of_length_le (show A.length<=A.length+1+r.length by omega),drop_of_length_le (show A.length<=A.length+(r.length+1) by omega),show A.length+1+r.length-A.length=r.length+1 by omega,show A.length+(r.length+1)-A.length=r.length+1 by omega];simp
theorem dJ{w:World}{b:Nat}{l s:Bs}{t:TypeId}(h:w.heap[b]?=some (.cells (ay l) t (0,0)))(hs:s.length=l.length):
  (w.setCells b 0 (s.map am)).heap[b]?=some (.cells (ay s) t (0,0))/\Mods (fun k=>k=b) w (w.setCells b 0 (s.map am)):=by
 obtain⟨h1,h2⟩:=lY h 0 s (by omega);refine⟨h1.trans ?_,h2⟩;congr 3;simp[aV,hs]
theorem cC{P:Program}{ops:Array Oper}{w:World}{Q:Act->Prop}{a:Act}{op:Oper}{rest:List Oper}(hgd:op.guard=none)(ty:TypeId)(x:Operand)(ho:op.op=.load ty x)(b o:Nat)(hx:a.eval x=.pointer (some ⟨b,o,none⟩))(cs:List Value)(d:TypeDesc)(hc:w.rangeAt b o cs)(hu:P.underlying ty=some d)(hd:d.isRow=true)(hi:(P.info? ty).map (·.size)=some cs.length)(h:wpStill P ops w Q rest (a.put op.dst (.agg cs.toArray))):wpStill P ops w Q (op::rest) a:=by
 refine wpStill_step (fun K hK=>?_);have hw:Region.wanted op (yielded ops a.tmps)=true:=by simp[Region.wanted,hgd]
 rw[if_pos hw];unfold Oper.still execOp;simp only[ho,hx,Instr.loadAt,Instr.sureAddr,Sem.run_bind,Sem.run_pure,Result.andThen_ok,run_loadVar_mid w b o ty cs d hc hu hd hi,Oper.stillUpon];exact⟨trivial,hK _ h⟩
theorem jK{P:Program}{o:Oper}{a:Act}{w:World}{K:Act->World->Prop}{Q:Exit->Act->World->Prop}(s x:Operand)(t:TypeId)(hop:o.op=Op.call { callee:=Callee.builtin Builtin.append,args:=#[s,x],argTypes:=#[t,t] })(e:TypeId)(i:TypeInfo)(z:Value)(size bytes:Nat)(h1:P.underlying t=some (.slice e))(h2:P.info? e=some i)(h3:i.zero=some z)(h4:i.size=size)(h5:i.bytes=bytes)(h6:z.cells.size=size)(h7:0<size)(v:Value)(k:Nat)(xs:List Value)(hs:a.eval s=v)(hown:w.ownsRow 0 e size v k xs)(ad:Addr)(m c:Nat)(news:List Value)(hx:a.eval x=.slice (some ad) m c)(hn:news.length=m*size)(hc:∀j u,news[j]?=some u->w.cell? (ad.add j)=some u)(h1c:∀u∈news,u.oneCell'=true)(b1:k+m<=maxLen)(b2:(k+m)*bytes<=140737488355328)(hK:∀v' w',w'.ownsRow 0 e size v' (k+m) (xs++news)->w.grownBy w' v.ownBlock->(∀g,v'.ownBlock=some g->v.ownBlock=some g\/w.heap.size<=g)->K (a.put o.dst v') w'):
  Oper.wp P o a w K Q:=by
 obtain⟨v',w',hrun,r1,r2,r3,r4⟩:=jg (P:=P) w t o.type e i z size bytes h1 h2 h3 h4 h5 h6 h7 v k xs hown ad m c news hn hc h1c b1 b2;unfold Oper.wp;simp[execOp,hop,resolve,invoke,builtin,hs,hx,hrun,Result.andThen];exact hK v' w' r1 r2 r4
def spl(l:List Value)(o:Nat)(v:List Value):List Value:=l.take o++v++l.drop (o+v.length)
theorem jO(place:Nat->Option (Nat×Nat))(cells:List Value)(i:Nat)(v:Value)(off size:Nat)(rest:List (Nat×Value))(hp:place i=some (off,size))(hs:v.cells.size=size)(hfit:off+size<=cells.length):
  Instr.fill place cells.toArray ((i,v)::rest)=Instr.fill place (spl cells off v.cells.toList).toArray rest:=by
 subst hs;simp only[Instr.fill,hp];rw[if_neg (by simp;omega)];congr 1;rw[<- Array.foldl_toList,Array.toList_zipIdx];obtain⟨h1,h2⟩:=Great.foldl_set off v.cells.toList 0 cells.toArray;apply Array.ext_getElem?;intro k;rw[h2 k];simp only[getElem?_toArray,size_toArray,Nat.add_zero,Array.length_toList,spl,append_assoc];rcases Nat.lt_or_ge k off with hk|hk
 ·rw[if_neg (by omega),getElem?_append_left (by simp;omega),getElem?_take_of_lt hk]
 ·rw[getElem?_append_right (by simp;omega)];simp only[length_take];rw[show min off cells.length=off by omega];rcases Nat.lt_or_ge k (off+v.cells.size)with hk2|hk2
  ·rw[if_pos (by omega),getElem?_append_left (by simp;omega)]
  ·rw[if_neg (by omega),getElem?_append_right (by simp;omega),getElem?_drop];congr 1;simp;omega
theorem Jd(Z R:List Value)(x:Value)(h:Z.length=R.length+1):spl (spl Z 0 [x]) 1 R=x::R:=by
 cases Z with
 | nil=>simp at h
 | cons z Z =>
  have h':Z.length<=R.length:=by simp at h;omega
  simp[spl,Nat.add_comm 1,h']
theorem Fl(a:Int)(s:Bs)(hs:s.length=128):Tryz.prog.built 110 [(0,.int .i64 a),(1,.agg (ay s))]=some (.int .i64 a::s.map am).toArray:=by
 have e:Tryz.prog.built 110 [(0,.int .i64 a),(1,.agg (ay s))]=Instr.fill (#[(0,1),(1,128)][·]?) (pr.cells.toList).toArray [(0,.int .i64 a),(1,.agg (ay s))]:=by kernel_rfl
 have hz:pr.cells.toList.length=129:=jT;rw[e];generalize pr.cells.toList=Z at hz ⊢;have h8:(Value.agg (ay s)).cells.toList=s.map am:=by simp[Value.cells,ay]
 have hl:(s.map am).length=128:=by simpa using hs
 have h1:(spl Z 0 [Value.int IntKind.i64 a]).length=129:=by simp[spl];omega
 rw[jO _ _ 0 _ 0 1 _ rfl rfl (by omega)];show Instr.fill _ (spl Z 0 [Value.int IntKind.i64 a]).toArray _=_;rw[jO _ _ 1 _ 1 128 _ rfl (by simp[Value.cells,ay,hs]) (by omega),h8,Jd Z _ _ (by omega)];rfl
theorem kG{P:Program}{o:Oper}{a:Act}{w:World}{K:Act->World->Prop}{Q:Exit->Act->World->Prop}(t:TypeId)(parts:Array (Nat×Operand))(ho:o.op=.build t parts)(cells:Array Value)(hc:P.built t (parts.map fun(i,x)=>(i,a.eval x)).toList=some cells)(h:K (a.put o.dst (.agg cells)) w):o.wp P a w K Q:=by
 unfold Oper.wp execOp;simp only[ho,Sem.run_bind,run_build w t _ cells hc,Result.andThen_ok];exact h
theorem Gn(cs:List Value)(hcs:cs.length=129)(n m:Nat)(hn:n=129)(hm:m=129)(Z:Array Value):Instr.fill (fun i=>some (i*n,n)) ((Array.range (1*n)).map (Z[·%m]!)) [(0,.agg cs.toArray)]=some cs.toArray:=by
 subst hn;subst hm;have hf:=Great.fill_whole (s:=129) (by omega) [Value.agg cs.toArray] ((Array.range (1*129)).map (Z[·%129]!)) (fun v hv=>by simp at hv;subst hv;simpa[Value.cells]using hcs) (by simp);simpa[Value.cells]using hf
structure DevL where
 n:Nat
 sb:Nat
 nb:Nat
 chv:Value
 safe:Bs
 now:Bs
 chs:List (Nat×Bs)
def bG(l:List (Nat×Bs)):List Value:=l.flatMap fun c=>Value.int .i64 c.1::c.2.map am
def az(d:Nat)(L:DevL):HF :=
 (d,Is (.cells #[.slice (some ⟨L.sb,0,none⟩) L.n L.n,.slice (some ⟨L.nb,0,none⟩) L.n L.n,L.chv,.int .i64 (-1)] 105 (0,0))) ::
 (L.nb,Is (.cells (ay L.now) 43 (0,0))) ::
 (L.sb,Is (.cells (ay L.safe) 43 (0,0))) ::
 bN 110 129 L.chv L.chs.length (bG L.chs)
def i9(s:Bs)(l:List (Nat×Bs)):Bs:=l.foldl (fun s c=>aV s (128*c.1) c.2) s
structure DevOk (L:DevL):Prop where
 hn:L.n<=1099511627776
 safeL:L.safe.length=128*L.n
 nowL:L.now.length=128*L.n
 row:eE 129 L.chv L.chs.length (bG L.chs)
 chs:∀c∈L.chs,c.1<L.n/\c.2.length=128
 now:i9 L.safe L.chs=L.now
theorem ft{w:World}{d:Nat}{L:DevL}{R:HF}(h:Sat w (az d L++R)):w.heap[d]?=some (.cells #[.slice (some ⟨L.sb,0,none⟩) L.n L.n,.slice (some ⟨L.nb,0,none⟩) L.n L.n,L.chv,.int .i64 (-1)] 105 (0,0)):=by
 exact h.Q5
theorem pO{w:World}{d:Nat}{L:DevL}{R:HF}(h:Sat w (az d L++R)):w.heap[L.nb]?=some (.cells (ay L.now) 43 (0,0)):=by
 exact h.tail.Q5
theorem wo{w:World}{d:Nat}{L:DevL}{R:HF}(h:Sat w (az d L++R)):w.heap[L.sb]?=some (.cells (ay L.safe) 43 (0,0)):=by
 exact h.tail.tail.Q5
def aC(l:Bs)(at_:Nat):Bs:=(l.drop (128*at_)).take 128
theorem iD{l:Bs}{n at_:Nat}(h:l.length=128*n)(ha:at_<n):(aC l at_).length=128:=by simp[aC];omega
theorem zV{d:Nat}{L:DevL}{w w':World}{now':Bs}(h:Sat w (az d L))(hm:Mods (fun k=>k=L.nb) w w')(hn:w'.heap[L.nb]?=some (.cells (ay now') 43 (0,0))):Turns (az d L) (az d { L with now:=now' }) w w' :=
 ((Turns.refl (h.perm (Perm.swap _ _ _))).Qa hm hn).perm (Perm.swap _ _ _) (Perm.swap _ _ _)
theorem xT{d:Nat}{L:DevL}{w w':World}{safe':Bs}(h:Sat w (az d L))(hm:Mods (fun k=>k=L.sb) w w')(hn:w'.heap[L.sb]?=some (.cells (ay safe') 43 (0,0))):Turns (az d L) (az d { L with safe:=safe' }) w w':=by
 have p:∀(a b c:Nat×(Obj->Prop)) (l:HF),(a::b::c::l).Perm (c::a::b::l):=fun a b c l=>((Perm.swap _ _ _).cons a).trans (Perm.swap _ _ _)
 exact((Turns.refl (h.perm (p _ _ _ _))).Qa hm hn).perm (p _ _ _ _).symm (p _ _ _ _).symm
theorem zU{d:Nat}{L:DevL}{w w1 w2:World}{v':Value}{chs':List (Nat×Bs)}(h:Sat w (az d L))(hown:w1.ownsRow 0 110 129 v' chs'.length (bG chs'))(hgrow:w.grownBy w1 L.chv.ownBlock)(hg:∀g,v'.ownBlock=some g->L.chv.ownBlock=some g\/w.heap.size<=g)(hm:Mods (fun k=>k=d) w1 w2)(hd:w2.heap[d]?=some (.cells #[.slice (some ⟨L.sb,0,none⟩) L.n L.n,.slice (some ⟨L.nb,0,none⟩) L.n L.n,v',.int .i64 (-1)] 105 (0,0))):
  Turns (az d L) (az d { L with chv:=v',chs:=chs' }) w w2:=by
 have p:∀(a b c:Nat×(Obj->Prop)) (l:HF),(a::b::c::l).Perm (l++[a,b,c]):=fun a b c l=>by
  have:(a::b::c::l)=[a,b,c]++l:=rfl;rw[this];exact perm_append_comm
 have h1:Turns (az d L) _ w w1:=((Turns.refl (h.perm (p _ _ _ _))).grow hown hgrow hg).perm (p _ _ _ _).symm (p _ _ _ _).symm;exact h1.Qa hm hd
theorem pI(l:List (Nat×Bs))(c:Nat×Bs):bG (l++[c])=bG l++(.int .i64 c.1::c.2.map am):=by simp[bG]
theorem pB(s:Bs)(l:List (Nat×Bs))(c:Nat×Bs):i9 s (l++[c])=aV (i9 s l) (128*c.1) c.2:=by simp[i9]
def Jy(w:World)(e:Ending)(w':World):Prop:=e=.returned (.bool false)/\w=w'
theorem qN(d:Nat)(L:DevL)(w:World)(h:Sat w (az d L)):Calls Tryz.prog 48 #[.pointer (some ⟨d,0,none⟩)] w (Jy w):=by
 have hd:=ft (R:=[]) (by simpa using h);have c3:=aa hd 3 (v:=.int .i64 (-1)) (by simp);have H:=Hq2 h hd;clear h hd;go_enter Tryz.func48,Tryz.ntmps48;go_wp2;go_ret;exact⟨rfl,rfl⟩
def zi(n:Nat)(w:World)(e:Ending)(w':World):Prop:=e=.returned (.int .i64 n)/\w=w'
theorem kI(d:Nat)(L:DevL)(w:World)(h:Sat w (az d L)):Calls Tryz.prog 16 #[.pointer (some ⟨d,0,none⟩)] w (zi L.n w):=by
 have hd:=ft (R:=[]) (by simpa using h);have c0:=aa hd 0 (v:=.slice (some ⟨L.sb,0,none⟩) L.n L.n) (by simp);have H:=Hq2 h hd;clear h hd;go_enter Tryz.func16,Tryz.ntmps16;go_wp2;go_ret;exact⟨rfl,rfl⟩
def jU(L:DevL)(at_:Nat)(w:World)(e:Ending)(w':World):Prop :=
 e=.returned (.tuple #[.agg (ay (aC L.now at_)),.nilIface])/\aX w w'
theorem lA(d:Nat)(L:DevL)(at_:Nat)(w:World)(h:Sat w (az d L))(hL:DevOk L)(ha:at_<L.n):
  Calls Tryz.prog 17 #[.pointer (some ⟨d,0,none⟩),.int .i64 at_] w (jU L at_ w):=by
 have hn:=hL.hn;have hd:=ft (R:=[]) (by simpa using h);have hnow:=pO (R:=[]) (by simpa using h);have c0:=aa hd 0 (v:=.slice (some ⟨L.sb,0,none⟩) L.n L.n) (by simp);have c1:=aa hd 1 (v:=.slice (some ⟨L.nb,0,none⟩) L.n L.n) (by simp);have HO:=qqH (fun W (hs:aX w W)=>qN d L W (h.same hs));have hz:=nN;have g1:decide ((at_:Int)<0)=false:=by simp
 have g2:decide (L.n<=at_)=false:=by simp;omega
 have hdl:d<w.heap.size:=ac hd;have H:=Hq4 h hd hL hnow;clear h hd hL hnow;go_enter Tryz.func17,Tryz.ntmps17;go_wp2_with fail;refine(HO.out _ (((Mods.refl _ w).alloc _).alloc _)).mono ?_;rintro e w1 ⟨rfl,rfl⟩;have hsl:=iD H.c.nowL ha;have HR:=qqH hsl;clear hsl;go_wp2_with (first|(refine wpList_load_mid rfl 43 (.tmp 35) rfl L.nb (at_*128) rfl ((aC L.now at_).map am) _ ?c1 Tryz.underlying43 rfl (ig HR.out) ?_)|(refine wpList_store_mid rfl 43 (.tmp 4) (.tmp 36) rfl w.heap.size 0 (ay (aC L.now at_)) rfl rfl ?c2 (ii HR.out) (cU _) ?_))
 case c1=>rw[Nat.mul_comm];exact World.rangeAt_alloc (World.rangeAt_alloc (et H.x _ _) _) _
 all_goals have hw0:((w.alloc (Obj.cells eI 43)).alloc (Obj.cells eI 43)).heap[w.heap.size]?=some (.cells (ay (ak 128)) 43 (0,0)):=(dN (by simp)).trans (aK w _)
 case c2=>exact fJ hw0 0 _ (by rw[bR,HR.out];simp[ak])
 obtain⟨h1,h2⟩:=dJ hw0 (s:=aC L.now at_) (by rw[HR.out];simp[ak]);refine bodyPost_ret (sr rfl _ _ w.heap.size 43 (ay (aC L.now at_)) (0,0) _ rfl h1 Tryz.underlying43 rfl (ii HR.out)) rfl ⟨rfl,?_⟩;exact(((Mods.refl _ w).alloc _).alloc _).trans' h2 (fun i hi=>.inr (by omega))
def jM(d:Nat)(L:DevL)(at_:Nat)(s:Bs)(w:World)(e:Ending)(w':World):Prop :=
 e=.returned .nilIface/\∃L',Turns (az d L) (az d L') w w'/\DevOk L'/\L'.n=L.n/\L'.now=aV L.now (128*at_) s/\L'.chs.length=L.chs.length+1
theorem jj(d:Nat)(L:DevL)(at_:Nat)(s:Bs)(w:World)(h:Sat w (az d L))(hL:DevOk L)(ha:at_<L.n)(hs:s.length=128)(hc:L.chs.length<=274877906944):
  Calls Tryz.prog 18 #[.pointer (some ⟨d,0,none⟩),.int .i64 at_,.agg (ay s)] w (jM d L at_ s w):=by
 have hn:=hL.hn;have hd:=ft (R:=[]) (by simpa using h);have hnow:=pO (R:=[]) (by simpa using h);have c0:=aa hd 0 (v:=.slice (some ⟨L.sb,0,none⟩) L.n L.n) (by simp);have c1:=aa hd 1 (v:=.slice (some ⟨L.nb,0,none⟩) L.n L.n) (by simp);have c2:=aa hd 2 (v:=L.chv) (by simp);have f2:=bf hd 2;have hdl:d<w.heap.size:=ac hd;have HO:=qqH (fun W (hs:aX w W)=>qN d L W (h.same hs));have g1:decide ((at_:Int)<0)=false:=by simp
 have g2:decide (L.n<=at_)=false:=by simp;omega
 have H:=Hq5 h hd hL hnow hs;clear h hd hL hnow hs;go_enter Tryz.func18,Tryz.ntmps18;go_wp2_with fail;refine(HO.out _ (((Mods.refl _ w).alloc _))).mono ?_;rintro e w1 ⟨rfl,rfl⟩;go_wp2_with fail;have hw1:=aK w (.cells (ay s) 43);have hs1:aX w (w.alloc (.cells (ay s) 43)):=(Mods.refl _ w).alloc _;have hsz:(w.alloc (.cells (ay s) 43)).heap.size=w.heap.size+1:=by simp
 generalize hB:w.heap.size=B at hw1 hsz hdl ⊢;generalize w.alloc (.cells (ay s) 43)=w1 at hw1 hs1 hsz ⊢;have HB:=Hq3 hB hw1 hs1;have HS:=qqH (H.a.same hs1);clear hB hw1 hs1 c0 c1 c2 f2 HO;have c1:=aa (ft (R:=[]) (by simpa using HS.out)) 1 (v:=.slice (some ⟨L.nb,0,none⟩) L.n L.n) (by simp);have hm:Tryz.prog.follows .mixedOrders=true:=by kernel_rfl
 have HM:=qqH hm;clear hm;refine wp_region_still_tail 7 HM.out (by kernel_rfl) ?_;simp only[QE,take_zero,QD,drop_zero];repeat still_step
 refine cC rfl 43 (.tmp 5) rfl B 0 rfl (s.map am) _ (by have:=et HB.b 0 128;rwa [drop_zero,take_of_length_le (by have:=H.w;omega)]at this) Tryz.underlying43 rfl (ig H.w) ?_;repeat still_step
 refine wpStill_nil ?_;change wpList _ _ _ _ _ w1.drew;go_wp2_with (refine wpList_store_mid rfl 43 (.tmp 34) (.tmp 33) rfl L.nb (at_*128) (ay s) rfl rfl ?c2 (ii H.w) (cU _) ?_)
 case c2=>exact(World.there_drew _ _ _ _).2 (fJ (pO (R:=[]) (by simpa using HS.out)) _ _ (by rw[bR,H.c.nowL,H.w];omega))
 obtain⟨hp1,hp2⟩:=lY (w:=w1.drew) (pO (w:=w1) (d:=d) (R:=[]) (by simpa using HS.out)) (at_*128) s (by rw[H.c.nowL,H.w];omega);have hT2:=(Turns.Qg H.a HB.y ((Turns.refl HS.out).drew)).trans (zV (HS.out.same ((Mods.refl _ w1).drew)) hp2 hp1);have hb2:(w1.drew.setCells L.nb (at_*128) (s.map am)).heap[B]?=some (.cells (ay s) 43 (0,0)):=hp2.at HB.b (fun e=>by have:=HS.out.lt (b:=L.nb) (by simp[az]);have h0:=H.a.lt (b:=L.nb) (by simp[az]);rw[HB.a]at h0;omega);show Code.wp _ _ _ _ (w1.drew.setCells L.nb (at_*128) (s.map am));refine wp_region_any HM.out ?_;change wpAny _ _ _ _ _ _ _ (World.drew _);have hT3:=hT2.drew;have hb3:((w1.drew.setCells L.nb (at_*128) (s.map am)).drew).heap[B]?=_:=hb2;generalize (w1.drew.setCells L.nb (at_*128) (s.map am)).drew=w2 at hT3 hb3 ⊢;clear hp1 hp2 hT2 hb2;have hd2:=ft (R:=[]) (by simpa using hT3.sat);have c2:=aa hd2 2 (v:=L.chv) (by simp);have f2:=bf hd2 2;have hdl2:d<w2.heap.size:=ac hd2;have HRG:=qqH (by have:=et (w:=w2) hb3 0 128;rwa [drop_zero,take_of_length_le (by have:=H.w;omega)]at this);obtain⟨i0,hi0,hz1,hz2,hz3⟩:=info_parts Hy;have HBD:Hid (Tryz.prog.built 110 [(0,.int .i64 at_),(1,.agg (s.map am).toArray)]=some (.int .i64 at_::s.map am).toArray):=qqH (Fl at_ s H.w)
 have HSL:Hid (¬1*i0.size>2 ^ 24/\¬1*i0.size=0/\Instr.fill (fun i=>some (i*i0.size,i0.size)) ((Array.range (1*i0.size)).map (pr.cells[·%pr.cells.size]!)) [(0,.agg (.int .i64 at_::s.map am).toArray)]=some (.int .i64 at_::s.map am).toArray) :=
  qqH ⟨by rw[hz2];omega,by rw[hz2];omega,Gn _ (by simp[H.w]) _ _ hz2 jT _⟩
 have HI:=Hq4 hi0 hz1 hz2 hz3;have hcl:(Value.int .i64 at_::s.map am).length=1*129:=by simp[H.w]
 have h1c:∀u∈(Value.int .i64 at_::s.map am),u.oneCell'=true:=fun u hu=>by
  rcases mem_cons.1 hu with rfl|hu
  ·rfl
  ·exact dA s u hu
 have hnc:∀j u,(Value.int .i64 at_::s.map am)[j]?=some u->(w2.alloc (.cells (Value.int .i64 at_::s.map am).toArray 110)).cell? ((⟨w2.heap.size,0,none⟩:Addr).add j)=some u:=fun j u hu=>by
  rw[Addr.add_mid,Nat.zero_add];exact aa (aK w2 _) j (by simpa using hu)
 obtain⟨nw,hnw⟩:∃nw,nw=w2.alloc (.cells (Value.int .i64 at_::s.map am).toArray 110):=⟨_,rfl⟩;have hT4:Turns (az d L) (az d { L with now:=aV L.now (at_*128) s }) w nw:=by rw[hnw];exact hT3.alloc _
 have HW:Hid (True/\(w2.alloc (.cells (Value.int .i64 at_::s.map am).toArray 110)).ownsRow 0 110 129 L.chv L.chs.length (bG L.chs)):=qqH ⟨trivial,by rw[<- hnw];exact aR hT4.sat.tail.tail.tail H.c.row⟩;have HA:=Hq3 hcl hnc h1c
 have HD:Hid (∀v' w3,World.ownsRow w3 0 110 129 v' (L.chs.length+1) (bG L.chs++(Value.int .i64 at_::s.map am))->World.grownBy (w2.alloc (.cells (Value.int .i64 at_::s.map am).toArray 110)) w3 L.chv.ownBlock->(∀g,v'.ownBlock=some g->L.chv.ownBlock=some g\/(w2.alloc (.cells (Value.int .i64 at_::s.map am).toArray 110)).heap.size<=g)->w3.heap[d]?=some (.cells #[.slice (some ⟨L.sb,0,none⟩) L.n L.n,.slice (some ⟨L.nb,0,none⟩) L.n L.n,L.chv,.int .i64 (-1)] 105 (0,0))/\jM d L at_ s w (.returned .nilIface) (w3.setCell ⟨d,2,none⟩ v')):=qqH (by
  rw[<- hnw];intro v' w3 hown hgrow hg;have hd4:=ft (R:=[]) (by simpa using hT4.sat)
  have hd3:=(Mods.Qj hgrow).at hd4 (fun e=>by
   have h1:=hT4.sat.nodup
   have h2:d∉dom (bN 110 129 L.chv L.chs.length (bG L.chs)):=fun hm=>by
    have:=hT4.sat.notMem;exact this (by simp only[gF,mem_cons];exact .inr (.inr hm))
   exact h2 ((ff _ _ _ _ _ _).2 e))
  refine⟨hd3,rfl,{ L with now:=aV L.now (at_*128) s,chv:=v',chs:=L.chs++[(at_,s)] },?_,?_,rfl,by rw[Nat.mul_comm],by simp⟩
  ·refine hT4.trans (zU (v':=v') (chs':=L.chs++[(at_,s)]) hT4.sat ?_ hgrow hg ((Mods.refl _ w3).set1 v') ((bB hd3 2 v').trans (by simp)));rw[pI,length_append];exact hown
  ·have hL:=H.c;have hs:=H.w;refine⟨hL.hn,hL.safeL,by rw[jF (by rw[hL.nowL,hs];omega)];exact hL.nowL,?_,?_,?_⟩
   ·have:=(gl hown).2;rw[pI,length_append];exact this
   ·intro c hc;rcases mem_append.1 hc with hc|hc
    ·exact hL.chs c hc
    ·simp at hc;subst hc;exact⟨ha,hs⟩
   ·show i9 L.safe (L.chs++[(at_,s)])=_;rw[pB,hL.now,Nat.mul_comm])
 clear hi0 hz1 hz2 hz3 hT3 hd2 hb3 c1 hcl hnc h1c hT4 hnw;refine wpAny_take (i:=0) (v:=?_) rfl (by kernel_rfl) (by kernel_rfl) (by kernel_rfl) (fun _ _ _ h=>h) (Or.inl ⟨by rfl,?_⟩) ?_;rotate_left
 ·intro w;go_simp;try (with_reducible rfl)
 refine wpAny_take (i:=1) (v:=?_) rfl (by kernel_rfl) (by kernel_rfl) (by kernel_rfl) (fun _ _ _ h=>h) (Or.inl ⟨by rfl,?_⟩) ?_;rotate_left
 ·intro w;go_simp;try (with_reducible rfl)
 refine wpAny_take (i:=2) (v:=?_) rfl (by kernel_rfl) (by kernel_rfl) (by kernel_rfl) (fun _ _ _ h=>h) (Or.inl ⟨by rfl,?_⟩) ?_;rotate_left
 ·intro w;go_simp;try (with_reducible rfl)
 refine wpAny_take (i:=3) (v:=?_) rfl (by kernel_rfl) (by kernel_rfl) (by kernel_rfl) (fun _ _ _ h=>h) (Or.inl ⟨by rfl,?_⟩) ?_;rotate_left
 ·intro w;go_simp;try (with_reducible rfl)
 refine wpAny_take (i:=5) (v:=?_) rfl (by kernel_rfl) (by kernel_rfl) (by kernel_rfl) (fun _ _ _ h=>h) (Or.inl ⟨by rfl,?_⟩) ?_;rotate_left
 ·intro w;go_simp;try (with_reducible rfl)
 refine wpAny_ready (rs:=[4,6]) (by kernel_rfl) (by simp) ?_;refine AllReady.cons rfl (fun K hK=>?_) ?_
 ·go_simp;refine hK _ _ ?_;clear hK K;refine wpAny_ready (rs:=[6]) (by kernel_rfl) (by simp) ?_;refine AllReady.cons rfl (fun K hK=>?_) ?_
  ·simp only[getElem_toArray,getElem_cons_succ,getElem_cons_zero];rw[if_pos (by rfl)];refine wp_load_mid 43 (.tmp 5) rfl B 0 rfl (s.map am) _ HRG.out Tryz.underlying43 rfl (ig H.w) ?_;simp only[Act.put,QA,QB,QC];refine hK _ _ ?_;clear hK K;refine wpAny_ready (rs:=[7]) (by kernel_rfl) (by simp) ?_;refine AllReady.cons rfl (fun K hK=>?_) ?_
   ·simp only[getElem_toArray,getElem_cons_succ,getElem_cons_zero];rw[if_pos (by rfl)];refine kG 110 _ rfl (Value.int .i64 (at_:Int)::s.map am).toArray (by simp only[map_toArray,map_cons,map_nil];exact HBD.out) ?_;simp only[Act.put,QA,QB,QC];refine hK _ _ ?_;clear hK K;refine wpAny_ready (rs:=[8]) (by kernel_rfl) (by simp) ?_;refine AllReady.cons rfl (fun K hK=>?_) ?_
    ·simp only[getElem_toArray,getElem_cons_succ,getElem_cons_zero];rw[if_pos (by rfl)];refine wp_buildSlice 103 110 1 _ rfl (Value.int .i64 (at_:Int)::s.map am).toArray i0 pr Tryz.underlying103 HI.a HI.b HSL.a HSL.b (by simp only[map_toArray,map_cons,map_nil];exact HSL.y) ?_;simp only[Act.put,QA,QB,QC];refine hK _ _ ?_;clear hK K;refine wpAny_ready (rs:=[9]) (by kernel_rfl) (by simp) ?_;refine AllReady.cons rfl (fun K hK=>?_) ?_
     ·simp only[getElem_toArray,getElem_cons_succ,getElem_cons_zero];rw[if_pos (by rfl)];refine jK (.tmp 39) (.tmp 43) 103 rfl 110 i0 pr 129 136 Tryz.underlying103 HI.a HI.b HI.c HI.x jT (by decide) L.chv L.chs.length (bG L.chs) rfl HW.z ⟨w2.heap.size,0,none⟩ 1 1 (Value.int .i64 (at_:Int)::s.map am) rfl HA.a HA.b HA.y (by unfold maxLen;omega) (by omega) ?_;intro v' w3 hown hgrow hg;obtain⟨g',cap',rfl⟩:=ownsRow_succ hown;have hd3:=HD.out _ w3 hown hgrow hg;have c3:=aa hd3.1 2 (v:=L.chv) (by simp);have f3:=bf hd3.1 2;have HF:=qqH hd3;clear hd3 hown hgrow hg;simp only[Act.put,QA,QB,QC];refine hK _ _ ?_;clear hK K;refine wpAny_take (i:=10) (v:=?_) rfl (by kernel_rfl) (by kernel_rfl) (by kernel_rfl) (fun _ _ _ h=>h) (Or.inl ⟨by rfl,?_⟩) ?_;rotate_left
      ·intro w;go_simp;try (with_reducible rfl)
      refine wpAny_take (i:=11) (v:=?_) rfl (by kernel_rfl) (by kernel_rfl) (by kernel_rfl) (fun _ _ _ h=>h) (Or.inl ⟨by rfl,?_⟩) ?_;rotate_left
      ·intro w;go_simp;try (with_reducible rfl)
      refine wpAny_ready (rs:=[12]) (by kernel_rfl) (by simp) ?_;refine AllReady.cons rfl (fun K hK=>?_) ?_
      ·go_simp;refine hK _ _ ?_;clear hK K;refine wpAny_done (by kernel_rfl) ?_ _;go_wp2;go_ret;exact HF.z
      exact AllReady.nil
     exact AllReady.nil
    exact AllReady.nil
   exact AllReady.nil
  exact AllReady.nil
 refine AllReady.cons rfl (fun K hK=>?_) ?_
 ·simp only[getElem_toArray,getElem_cons_succ,getElem_cons_zero];rw[if_pos (by rfl)];refine wp_load_mid 43 (.tmp 5) rfl B 0 rfl (s.map am) _ HRG.out Tryz.underlying43 rfl (ig H.w) ?_;simp only[Act.put,QA,QB,QC];refine hK _ _ ?_;clear hK K;refine wpAny_ready (rs:=[4,7]) (by kernel_rfl) (by simp) ?_;refine AllReady.cons rfl (fun K hK=>?_) ?_
  ·go_simp;refine hK _ _ ?_;clear hK K;refine wpAny_ready (rs:=[7]) (by kernel_rfl) (by simp) ?_;refine AllReady.cons rfl (fun K hK=>?_) ?_
   ·simp only[getElem_toArray,getElem_cons_succ,getElem_cons_zero];rw[if_pos (by rfl)];refine kG 110 _ rfl (Value.int .i64 (at_:Int)::s.map am).toArray (by simp only[map_toArray,map_cons,map_nil];exact HBD.out) ?_;simp only[Act.put,QA,QB,QC];refine hK _ _ ?_;clear hK K;refine wpAny_ready (rs:=[8]) (by kernel_rfl) (by simp) ?_;refine AllReady.cons rfl (fun K hK=>?_) ?_
    ·simp only[getElem_toArray,getElem_cons_succ,getElem_cons_zero];rw[if_pos (by rfl)];refine wp_buildSlice 103 110 1 _ rfl (Value.int .i64 (at_:Int)::s.map am).toArray i0 pr Tryz.underlying103 HI.a HI.b HSL.a HSL.b (by simp only[map_toArray,map_cons,map_nil];exact HSL.y) ?_;simp only[Act.put,QA,QB,QC];refine hK _ _ ?_;clear hK K;refine wpAny_ready (rs:=[9]) (by kernel_rfl) (by simp) ?_;refine AllReady.cons rfl (fun K hK=>?_) ?_
     ·simp only[getElem_toArray,getElem_cons_succ,getElem_cons_zero];rw[if_pos (by rfl)];refine jK (.tmp 39) (.tmp 43) 103 rfl 110 i0 pr 129 136 Tryz.underlying103 HI.a HI.b HI.c HI.x jT (by decide) L.chv L.chs.length (bG L.chs) rfl HW.z ⟨w2.heap.size,0,none⟩ 1 1 (Value.int .i64 (at_:Int)::s.map am) rfl HA.a HA.b HA.y (by unfold maxLen;omega) (by omega) ?_;intro v' w3 hown hgrow hg;obtain⟨g',cap',rfl⟩:=ownsRow_succ hown;have hd3:=HD.out _ w3 hown hgrow hg;have c3:=aa hd3.1 2 (v:=L.chv) (by simp);have f3:=bf hd3.1 2;have HF:=qqH hd3;clear hd3 hown hgrow hg;simp only[Act.put,QA,QB,QC];refine hK _ _ ?_;clear hK K;refine wpAny_take (i:=10) (v:=?_) rfl (by kernel_rfl) (by kernel_rfl) (by kernel_rfl) (fun _ _ _ h=>h) (Or.inl ⟨by rfl,?_⟩) ?_;rotate_left
      ·intro w;go_simp;try (with_reducible rfl)
      refine wpAny_take (i:=11) (v:=?_) rfl (by kernel_rfl) (by kernel_rfl) (by kernel_rfl) (fun _ _ _ h=>h) (Or.inl ⟨by rfl,?_⟩) ?_;rotate_left
      ·intro w;go_simp;try (with_reducible rfl)
      refine wpAny_ready (rs:=[12]) (by kernel_rfl) (by simp) ?_;refine AllReady.cons rfl (fun K hK=>?_) ?_
      ·go_simp;refine hK _ _ ?_;clear hK K;refine wpAny_done (by kernel_rfl) ?_ _;go_wp2;go_ret;exact HF.z
      exact AllReady.nil
     exact AllReady.nil
    exact AllReady.nil
   exact AllReady.nil
  refine AllReady.cons rfl (fun K hK=>?_) ?_
  ·simp only[getElem_toArray,getElem_cons_succ,getElem_cons_zero];rw[if_pos (by rfl)];refine kG 110 _ rfl (Value.int .i64 (at_:Int)::s.map am).toArray (by simp only[map_toArray,map_cons,map_nil];exact HBD.out) ?_;simp only[Act.put,QA,QB,QC];refine hK _ _ ?_;clear hK K;refine wpAny_ready (rs:=[4,8]) (by kernel_rfl) (by simp) ?_;refine AllReady.cons rfl (fun K hK=>?_) ?_
   ·go_simp;refine hK _ _ ?_;clear hK K;refine wpAny_ready (rs:=[8]) (by kernel_rfl) (by simp) ?_;refine AllReady.cons rfl (fun K hK=>?_) ?_
    ·simp only[getElem_toArray,getElem_cons_succ,getElem_cons_zero];rw[if_pos (by rfl)];refine wp_buildSlice 103 110 1 _ rfl (Value.int .i64 (at_:Int)::s.map am).toArray i0 pr Tryz.underlying103 HI.a HI.b HSL.a HSL.b (by simp only[map_toArray,map_cons,map_nil];exact HSL.y) ?_;simp only[Act.put,QA,QB,QC];refine hK _ _ ?_;clear hK K;refine wpAny_ready (rs:=[9]) (by kernel_rfl) (by simp) ?_;refine AllReady.cons rfl (fun K hK=>?_) ?_
     ·simp only[getElem_toArray,getElem_cons_succ,getElem_cons_zero];rw[if_pos (by rfl)];refine jK (.tmp 39) (.tmp 43) 103 rfl 110 i0 pr 129 136 Tryz.underlying103 HI.a HI.b HI.c HI.x jT (by decide) L.chv L.chs.length (bG L.chs) rfl HW.z ⟨w2.heap.size,0,none⟩ 1 1 (Value.int .i64 (at_:Int)::s.map am) rfl HA.a HA.b HA.y (by unfold maxLen;omega) (by omega) ?_;intro v' w3 hown hgrow hg;obtain⟨g',cap',rfl⟩:=ownsRow_succ hown;have hd3:=HD.out _ w3 hown hgrow hg;have c3:=aa hd3.1 2 (v:=L.chv) (by simp);have f3:=bf hd3.1 2;have HF:=qqH hd3;clear hd3 hown hgrow hg;simp only[Act.put,QA,QB,QC];refine hK _ _ ?_;clear hK K;refine wpAny_take (i:=10) (v:=?_) rfl (by kernel_rfl) (by kernel_rfl) (by kernel_rfl) (fun _ _ _ h=>h) (Or.inl ⟨by rfl,?_⟩) ?_;rotate_left
      ·intro w;go_simp;try (with_reducible rfl)
      refine wpAny_take (i:=11) (v:=?_) rfl (by kernel_rfl) (by kernel_rfl) (by kernel_rfl) (fun _ _ _ h=>h) (Or.inl ⟨by rfl,?_⟩) ?_;rotate_left
      ·intro w;go_simp;try (with_reducible rfl)
      refine wpAny_ready (rs:=[12]) (by kernel_rfl) (by simp) ?_;refine AllReady.cons rfl (fun K hK=>?_) ?_
      ·go_simp;refine hK _ _ ?_;clear hK K;refine wpAny_done (by kernel_rfl) ?_ _;go_wp2;go_ret;exact HF.z
      exact AllReady.nil
     exact AllReady.nil
    exact AllReady.nil
   refine AllReady.cons rfl (fun K hK=>?_) ?_
   ·simp only[getElem_toArray,getElem_cons_succ,getElem_cons_zero];rw[if_pos (by rfl)];refine wp_buildSlice 103 110 1 _ rfl (Value.int .i64 (at_:Int)::s.map am).toArray i0 pr Tryz.underlying103 HI.a HI.b HSL.a HSL.b (by simp only[map_toArray,map_cons,map_nil];exact HSL.y) ?_;simp only[Act.put,QA,QB,QC];refine hK _ _ ?_;clear hK K;refine wpAny_ready (rs:=[4]) (by kernel_rfl) (by simp) ?_;refine AllReady.cons rfl (fun K hK=>?_) ?_
    ·go_simp;refine hK _ _ ?_;clear hK K;refine wpAny_ready (rs:=[9]) (by kernel_rfl) (by simp) ?_;refine AllReady.cons rfl (fun K hK=>?_) ?_
     ·simp only[getElem_toArray,getElem_cons_succ,getElem_cons_zero];rw[if_pos (by rfl)];refine jK (.tmp 39) (.tmp 43) 103 rfl 110 i0 pr 129 136 Tryz.underlying103 HI.a HI.b HI.c HI.x jT (by decide) L.chv L.chs.length (bG L.chs) rfl HW.z ⟨w2.heap.size,0,none⟩ 1 1 (Value.int .i64 (at_:Int)::s.map am) rfl HA.a HA.b HA.y (by unfold maxLen;omega) (by omega) ?_;intro v' w3 hown hgrow hg;obtain⟨g',cap',rfl⟩:=ownsRow_succ hown;have hd3:=HD.out _ w3 hown hgrow hg;have c3:=aa hd3.1 2 (v:=L.chv) (by simp);have f3:=bf hd3.1 2;have HF:=qqH hd3;clear hd3 hown hgrow hg;simp only[Act.put,QA,QB,QC];refine hK _ _ ?_;clear hK K;refine wpAny_take (i:=10) (v:=?_) rfl (by kernel_rfl) (by kernel_rfl) (by kernel_rfl) (fun _ _ _ h=>h) (Or.inl ⟨by rfl,?_⟩) ?_;rotate_left
      ·intro w;go_simp;try (with_reducible rfl)
      refine wpAny_take (i:=11) (v:=?_) rfl (by kernel_rfl) (by kernel_rfl) (by kernel_rfl) (fun _ _ _ h=>h) (Or.inl ⟨by rfl,?_⟩) ?_;rotate_left
      ·intro w;go_simp;try (with_reducible rfl)
      refine wpAny_ready (rs:=[12]) (by kernel_rfl) (by simp) ?_;refine AllReady.cons rfl (fun K hK=>?_) ?_
      ·go_simp;refine hK _ _ ?_;clear hK K;refine wpAny_done (by kernel_rfl) ?_ _;go_wp2;go_ret;exact HF.z
      exact AllReady.nil
     exact AllReady.nil
    exact AllReady.nil
   exact AllReady.nil
  exact AllReady.nil
 exact AllReady.nil
theorem an(n:Nat):(ak n).length=n:=by simp[ak]
theorem LV(m:Nat):madeCells eI m=ay (ak m):=by
 apply Array.ext_getElem?;intro k;unfold madeCells ay ak;by_cases hk:k<m
 ·have hz:eI.size=128:=by simp[eI,bR,ak]
  have h2:k%eI.size<eI.size:=by rw[hz];omega
  have h3:eI[k%eI.size]! = am 0:=by
   rw[getElem!_pos eI _ h2]
   have h5:eI[k%eI.size]?=some (am 0):=by
    refine(j8 (ak 128) (k%eI.size) (by rw[an];omega)).trans ?_;exact congrArg some (congrArg am (getElem_replicate _))
   rw[Array.getElem?_eq_getElem h2]at h5;exact Option.some.inj h5
  simp[hk,h3]
 ·simp[hk]
theorem yA(n:Nat)(hn:n<=1099511627776)(w:World):(Instr.makeSlice 102 (.int .i64 n) (.int .i64 n)).run Tryz.prog w =
  .ok (.slice (some ⟨w.heap.size,0,none⟩) n n) (w.alloc (.cells (ay (ak (128*n))) 43)):=by
 obtain⟨i,hi,hz,hs,hb⟩:=info_parts Ja;rw[run_make w 102 43 i _ Tryz.underlying102 hi hz .i64 .i64 _ _ (by omega) (by omega) (by rw[hb];omega) (by omega)];have e1:((n:Int)).toNat=n:=by omega
 rw[e1,hs,show(Value.agg eI).cells=eI from rfl,LV,Nat.mul_comm]
def oz(n:Nat)(w:World)(e:Ending)(w':World):Prop :=
 ∃d L,e=.returned (.pointer (some ⟨d,0,none⟩))/\Turns [] (az d L) w w'/\DevOk L/\L.n=n/\L.now=ak (128*n)/\L.chs=[]
def F5(n sb nb:Nat):DevL:=⟨n,sb,nb,.slice none 0 0,ak (128*n),ak (128*n),[]⟩
theorem Ew{n:Nat}(hn:n<=1099511627776)(sb nb:Nat):DevOk (F5 n sb nb) :=
 ⟨hn,an _,an _,⟨rfl,fun _=>⟨rfl,rfl⟩⟩,fun c hc=>by simp[F5]at hc,rfl⟩
theorem F4{n:Nat}(hn:n<=1099511627776)(w:World)(e:Ending)(he:e=.returned (.pointer (some ⟨w.heap.size+1+1,0,none⟩))):oz n w e
  (((w.alloc (Obj.cells (ay (ak (128*n))) 43)).alloc (Obj.cells (ay (ak (128*n))) 43)).alloc (Obj.cells #[Value.slice (some { block:=w.heap.size,off:=0 }) n n,Value.slice (some { block:=w.heap.size+1,off:=0 }) n n,Value.slice none 0 0,Value.int IntKind.i64 (-1)] 105)).drew:=by
 refine⟨w.heap.size+1+1,F5 n w.heap.size (w.heap.size+1),he,?_,Ew hn _ _,rfl,rfl,rfl⟩;have h:=((((Turns.refl (Sat.nil w)).Q8 (Obj.cells (ay (ak (128*n))) 43)).Q8 (Obj.cells (ay (ak (128*n))) 43)).Q8 (Obj.cells #[Value.slice (some { block:=w.heap.size,off:=0 }) n n,Value.slice (some { block:=w.heap.size+1,off:=0 }) n n,Value.slice none 0 0,Value.int IntKind.i64 (-1)] 105)).drew;simpa[az,F5,bN,Value.ownBlock]using h
theorem C9{n:Nat}(hn:n<=1099511627776)(w:World)(e:Ending)(he:e=.returned (.pointer (some ⟨w.heap.size+1+1,0,none⟩))):oz n w e
  (((w.alloc (Obj.cells (ay (ak (128*n))) 43)).alloc (Obj.cells (ay (ak (128*n))) 43)).alloc (Obj.cells #[Value.slice (some { block:=w.heap.size+1,off:=0 }) n n,Value.slice (some { block:=w.heap.size,off:=0 }) n n,Value.slice none 0 0,Value.int IntKind.i64 (-1)] 105)).drew:=by
 refine⟨w.heap.size+1+1,F5 n (w.heap.size+1) w.heap.size,he,?_,Ew hn _ _,rfl,rfl,rfl⟩;have h:=((((Turns.refl (Sat.nil w)).Q8 (Obj.cells (ay (ak (128*n))) 43)).Q8 (Obj.cells (ay (ak (128*n))) 43)).Q8 (Obj.cells #[Value.slice (some { block:=w.heap.size+1,off:=0 }) n n,Value.slice (some { block:=w.heap.size,off:=0 }) n n,Value.slice none 0 0,Value.int IntKind.i64 (-1)] 105)).drew;refine(h.perm (Perm.refl _) ((Perm.swap _ _ _).cons _)).perm (Perm.refl _) ?_;simp[az,F5,bN,Value.ownBlock]
theorem jr(n:Nat)(hn:n<=1099511627776)(w:World):Calls Tryz.prog 46 #[.int .i64 n] w (oz n w):=by
 have hmk:=yA n hn;have hp:(0:Int)<=n:=by omega
 go_enter Tryz.func46,Tryz.ntmps46;go_wp2_with fail;go_region
 all_goals
  go_wp2_with fail;go_ret
 ·exact F4 hn w _ rfl
 ·exact C9 hn w _ rfl
theorem pH(c:Nat×Bs)(r:List (Nat×Bs)):bG (c::r)=(Value.int .i64 c.1::c.2.map am)++bG r:=by simp[bG]
theorem xM{l:List (Nat×Bs)}(h:∀c∈l,c.2.length=128)(k:Nat):(bG l).drop (129*k)=bG (l.drop k):=by
 induction k generalizing l with
 | zero=>simp
 | succ k ih =>
  cases l with
  | nil=>simp[bG]
  | cons c r =>
   have h1:=h c (by simp);rw[QD,<- ih (fun x hx=>h x (mem_cons_of_mem _ hx))];rw[pH,drop_append,drop_of_length_le (by simp;omega),nil_append];congr 1;simp;omega
theorem JS{w:World}{g n cap:Nat}{l:List (Nat×Bs)}{k:Nat}(h:w.ownsRow 0 110 129 (.slice (some ⟨g,0,none⟩) n cap) l.length (bG l))(hl:∀c∈l,c.2.length=128)(hk:k<l.length):
  w.rangeAt g (k*129) (Value.int .i64 l[k].1::l[k].2.map am):=fun j v hv=>by
 have hc:=h.cells (g:=g) rfl (k*129+j) v (by
  have e:(bG l)[k*129+j]?=((bG l).drop (129*k))[j]?:=by rw[getElem?_drop,Nat.mul_comm]
  rw[e,xM hl,drop_eq_getElem_cons hk]
  rw[pH,getElem?_append_left (List.getElem?_eq_some_iff.1 hv).1]
  exact hv)
 rwa [Addr.add_mid,Nat.zero_add]at hc
theorem xH{s:Bs}{l:List (Nat×Bs)}{k:Nat}(h:k<l.length):i9 s (l.take (k+1))=aV (i9 s (l.take k)) (128*l[k].1) l[k].2:=by
 rw[QH h,pB]
theorem te{l:List (Nat×Bs)}{n:Nat}:∀{s:Bs},s.length=128*n->(∀c∈l,c.1<n/\c.2.length=128)->(i9 s l).length=128*n:=by
 induction l with
 | nil=>intro s h _;exact h
 | cons c r ih =>
  intro s h hl;have h1:=hl c (by simp);exact ih (s:=aV s (128*c.1) c.2) (by rw[jF (by omega)];exact h) (fun x hx=>hl x (mem_cons_of_mem _ hx))
theorem JT:(Tryz.prog.info? 110).map (·.size)=some 129:=by kernel_rfl
def kZ(d:Nat)(L:DevL)(w:World)(e:Ending)(w':World):Prop :=
 e=.returned .nilIface/\∃L',Turns (az d L) (az d L') w w'/\DevOk L'/\L'.n=L.n/\L'.now=L.now/\L'.safe=L.now/\L'.chs=[]
def GT(d:Nat)(L:DevL)(w:World)(i:Value)(wr:World):Prop :=
 ∃k:Nat,k<=L.chs.length/\i=.int .i64 k/\Turns (az d L) (az d { L with safe:=i9 L.safe (L.chs.take k) }) w wr
def xv:Array Value:=#[.int .i64 0]++eI
theorem va:xv.size=129:=by kernel_rfl
theorem KC(w:World):(zeroValue 110).run Tryz.prog w=.ok (.agg xv) w:=by kernel_rfl
theorem dm{w:World}{b:Nat}{C:Array Value}{t:TypeId}(h:w.heap[b]?=some (.cells C t (0,0)))(o n:Nat)(hn:o+n<=C.size):w.there b o n:=fun j hj=>by
 rw[aa h (o+j) (Array.getElem?_eq_getElem (by omega))]
 exact⟨rfl,bf h _⟩
theorem fm{w:World}{b:Nat}{C:List Value}{t:TypeId}(h:w.heap[b]?=some (.cells C.toArray t (0,0)))(o:Nat)(vs:List Value)(hn:o+vs.length<=C.length):
  (w.setCells b o vs).heap[b]?=some (.cells (spl C o vs).toArray t (0,0))/\Mods (fun k=>k=b) w (w.setCells b o vs):=by
 induction vs generalizing w C o with
 | nil=>exact⟨by simpa[World.setCells,spl]using h,by simpa[World.setCells]using Mods.refl _ w⟩
 | cons x r ih =>
  simp only[World.setCells];simp only[length_cons]at hn;have h1:=bB h o x;rw[QA]at h1;obtain⟨h2,h3⟩:=ih h1 (o+1) (by rw[length_set];omega);refine⟨h2.trans ?_,((Mods.refl (fun k=>k=b) w).set1 x).trans h3⟩;congr 3;obtain⟨A,y,B,rfl,rfl⟩:∃A y B,C=A++y::B/\A.length=o:=⟨C.take o,C[o],C.drop (o+1),by rw[<- drop_eq_getElem_cons,take_append_drop],by simp;omega⟩;unfold spl;rw[set_append_right _ _ (Nat.le_refl _),Nat.sub_self,QB,take_append,take_append,drop_append,drop_append];simp only[take_of_length_le (show A.length<=A.length+1 by omega),show A.length+1-A.length=1 by omega,Nat.sub_self,take_length,take_zero,append_nil,length_cons];rw[drop_of_length_le (show A.length<=A.length+1+r.length by omega),drop_of_length_le (show A.length<=A.length+(r.length+1) by omega),show A.length+1+r.length-A.length=r.length+1 by omega,show A.length+(r.length+1)-A.length=r.length+1 by omega];simp
theorem dI{w:World}{b:Nat}{C:Array Value}{t:TypeId}(h:w.heap[b]?=some (.cells C t (0,0)))(vs:List Value)(hn:vs.length=C.size):
  (w.setCells b 0 vs).heap[b]?=some (.cells vs.toArray t (0,0))/\Mods (fun k=>k=b) w (w.setCells b 0 vs):=by
 obtain⟨h1,h2⟩:=fm (C:=C.toList) (by simpa using h) 0 vs (by simp;omega);refine⟨h1.trans ?_,h2⟩;congr 3;unfold spl;rw[drop_of_length_le (by simp;omega)];simp
theorem Fy{d:Nat}{L:DevL}{w wr:World}(hT:Turns (az d L) (az d { L with safe:=L.now }) w wr)(hL:DevOk L):kZ d L w (.returned .nilIface) (wr.setCell ⟨d,2,none⟩ (.slice none 0 0)):=by
 have hd:=ft (R:=[]) (by simpa using hT.sat);have h1:=hT.Qa (o:=.cells #[.slice (some ⟨L.sb,0,none⟩) L.n L.n,.slice (some ⟨L.nb,0,none⟩) L.n L.n,.slice none 0 0,.int .i64 (-1)] 105 (0,0)) ((Mods.refl _ wr).set1 _) ((bB hd 2 (.slice none 0 0)).trans (by simp));refine⟨rfl,{ L with safe:=L.now,chv:=.slice none 0 0,chs:=[] },?_,⟨hL.hn,hL.nowL,hL.nowL,⟨rfl,fun _=>⟨rfl,rfl⟩⟩,fun c hc=>by simp at hc,rfl⟩,rfl,rfl,rfl,rfl⟩;refine Turns.left (H:=bN 110 129 L.chv L.chs.length (bG L.chs)) ?_;exact h1
theorem ji(d:Nat)(L:DevL)(w:World)(h:Sat w (az d L))(hL:DevOk L)(hc:L.chs.length<=1099511627776):
  Calls Tryz.prog 20 #[.pointer (some ⟨d,0,none⟩)] w (kZ d L w):=by
 have hd:=ft (R:=[]) (by simpa using h);have c2:=aa hd 2 (v:=L.chv) (by simp);have HO:=qqH (qN d L w h);have hown:=aR h.tail.tail.tail hL.row;have H:=Hq3 h hd hL
 obtain⟨a,cap,hv⟩:∃a cap,L.chv=.slice a L.chs.length cap:=by
  rcases hown.2 with⟨h1,h2⟩|⟨g,cp,cur,h1,_⟩
  ·exact⟨none,0,by rw[h1,h2]⟩
  ·exact⟨_,cp,h1⟩
 rw[hv]at c2;have HV:=qqH hv;clear h hd hL hown hv;go_enter Tryz.func20,Tryz.ntmps20;go_wp2_with fail;refine HO.out.mono ?_;rintro e w1 ⟨rfl,rfl⟩;go_wp2_with fail;go_loopw [15] (fun i wr=>GT d L w i wr) (fun i _=>L.chs.length-(intOf i).toNat)
 case atStart=>exact⟨0,Nat.zero_le _,rfl,Turns.refl H.a⟩
 case round =>
  obtain⟨k,hk,rfl,hT⟩:=hrel;by_cases hlt:k<L.chs.length
  ·have hown:wr.ownsRow 0 110 129 L.chv L.chs.length (bG L.chs):=aR hT.sat.tail.tail.tail H.y.row;rw[HV.out]at hown;have hel:=H.y.chs L.chs[k] (getElem_mem hlt)
   have ha:∃g,a=some ⟨g,0,none⟩:=by
    rcases hown.2 with⟨h1,h2⟩|⟨g,cp,cur,h1,_⟩
    ·omega
    ·simp only[Value.slice.injEq]at h1;exact⟨g,h1.1⟩
   obtain⟨g,rfl⟩:=ha;have hr:=JS hown (fun c hc=>(H.y.chs c hc).2) hlt;have hsl:=te (l:=L.chs.take k) H.y.safeL (fun c hc=>H.y.chs c (mem_of_mem_take hc));have hap:=xH (s:=L.safe) hlt;have hd:=ft (R:=[]) (by simpa using hT.sat);have hsafe:=wo (R:=[]) (by simpa using hT.sat);have c0:=aa hd 0 (v:=.slice (some ⟨L.sb,0,none⟩) L.n L.n) (by simp);have hdl:d<wr.heap.size:=ac hd;generalize L.chs[k]=c at *
   obtain⟨at_,s⟩:=c;simp only at hel hr hap;obtain⟨hat,hsz⟩:=hel;have hz:=KC;have hrl:(Tryz.prog.info? 110).map (·.size)=some (Value.int .i64 at_::s.map am).length:=by rw[JT];simp[hsz]
   have h1c:(Value.int .i64 at_::s.map am).toArray.all (·.oneCell')=true:=all_oneCell_toArray (fun u hu=>by
    rcases mem_cons.1 hu with rfl|hu
    ·rfl
    ·exact dA s u hu)
   have hin:(at_:Int)<(L.n:Int):=by omega
   have HR:=Hq8 hT hr hap hsafe hrl h1c hsz hsl;clear hT hr hap hsafe hrl h1c hown hd hsl;go_wp2_with (first|(refine wpList_load_mid rfl 110 (.tmp 17) rfl g (k*129) rfl (Value.int .i64 at_::s.map am) _ ?c1 Tryz.underlying110 rfl HR.e ?_)|(refine wpList_store_mid rfl 110 (.tmp 4) (.tmp 18) rfl wr.heap.size 0 (Value.int .i64 at_::s.map am).toArray rfl rfl ?c2 (by rw[size_toArray];exact HR.e) HR.f ?_))
   case c1=>exact HR.b
   case c2=>exact dm (aK wr _) 0 _ (by rw[va];first|omega|simp[HR.g])
   obtain⟨hb2,hm2⟩:=dI (aK wr (.cells xv 110)) (Value.int .i64 at_::s.map am) (by rw[va];simp[HR.g]);generalize hB:wr.heap.size=B at *
   have hs2:aX wr ((wr.alloc (.cells xv 110)).setCells B 0 (Value.int .i64 at_::s.map am)):=((Mods.refl _ wr).alloc _).trans' hm2 (fun i hi=>.inr (by omega));show Code.wp _ _ _ _ ((wr.alloc (.cells xv 110)).setCells B 0 (Value.int .i64 at_::s.map am));generalize (wr.alloc (.cells xv 110)).setCells B 0 (Value.int .i64 at_::s.map am)=w2 at hb2 hs2 ⊢;have hT2:=HR.a.Q9 hs2;have hd2:=ft (R:=[]) (by simpa using hT2.sat);have e0:=aa hd2 0 (v:=.slice (some ⟨L.sb,0,none⟩) L.n L.n) (by simp);have e1:=aa hb2 0 (v:=.int .i64 at_) (by simp);have hsf2:=wo (R:=[]) (by simpa using hT2.sat);have hr2:w2.rangeAt B 1 (s.map am):=fun j v hv=>aa hb2 (1+j) (by simpa[Nat.add_comm 1]using hv)
   have H2:=Hq3 hT2 hsf2 hr2;clear hT2 hsf2 hr2 hb2 hm2 hs2 c0 hd2;refine wp_region_still_tail 9 HM.out (by kernel_rfl) ?_;simp only[QE,take_zero,QD,drop_zero];iterate 7 still_step
   refine cC rfl 43 (.tmp 25) rfl B 1 rfl (s.map am) _ H2.y Tryz.underlying43 rfl (ig HR.g) ?_;repeat still_step
   refine wpStill_nil ?_;change wpList _ _ _ _ _ w2.drew;go_wp2_with (refine wpList_store_mid rfl 43 (.tmp 27) (.tmp 26) rfl L.sb (at_*128) (ay s) rfl rfl ?c3 (ii HR.g) (cU _) ?_)
   case c3=>exact fJ H2.b _ _ (by rw[bR,HR.g,HR.t];omega)
   obtain⟨hp1,hp2⟩:=lY (w:=w2.drew) H2.b (at_*128) s (by rw[HR.g,HR.t];omega);refine⟨⟨k+1,by omega,by go_num,?_⟩,by simp[intOf];omega⟩;have:=(H2.a.drew).trans (xT (H2.a.drew).sat hp2 hp1);rw[HR.c,Nat.mul_comm 128];exact this
  ·obtain rfl:k=L.chs.length:=by omega
   rw[take_length,H.y.now]at hT;have hd:=ft (R:=[]) (by simpa using hT.sat);have k2:=aa hd 2 (v:=L.chv) (by simp);rw[HV.out]at k2;have f2:=bf hd 2;have HE:=qqH (Fy hT H.y);clear hd hT;go_wp2_with fail;go_ret;exact HE.out
def aI(v:Value)(l:Bs):HF:=bN 5 1 v l.length (l.map am)
def bOk(v:Value)(l:Bs):Prop:=eE 1 v l.length (l.map am)
theorem dr{w:World}{v:Value}{l:Bs}(h:Sat w (aI v l))(k:bOk v l):w.ownsRow 0 5 1 v l.length (l.map am):=aR h k
def jv(v:Value)(l l':Bs)(w:World)(e:Ending)(w':World):Prop:=∃v',e=.returned v'/\bOk v' l'/\Turns (aI v l) (aI v' l') w w'
theorem Hs:aI (.slice none 0 0) []=[]:=rfl
theorem jy:bOk (.slice none 0 0) []:=⟨rfl,fun _=>⟨rfl,rfl⟩⟩
def beI:Int->Nat->Bs
 | _,0=>[]
 | n,k+1=>UInt8.ofNat (n / 256 ^ k%256).toNat::beI n k
theorem bV(n:Int)(k:Nat):(beI n k).length=k:=by
 induction k with
 | zero=>rfl
 | succ k ih=>simp[beI,ih]
theorem Hv(n:Int)(k j:Nat)(h:j<=k):(beI n k).drop (k-j)=beI n j:=by
 induction k with
 | zero =>
  obtain rfl:j=0:=by omega
  rfl
 | succ k ih =>
  by_cases e:j=k+1
  ·subst e;simp
  ·rw[show k+1-j=(k-j)+1 by omega,beI,QD];exact ih (by omega)
theorem vk(n:Int)(k j:Nat)(h:j+1<=k):(beI n k).take (k-j)=(beI n k).take (k-(j+1))++[UInt8.ofNat (n / 256 ^ j%256).toNat]:=by
 have hl:k-(j+1)<(beI n k).length:=by rw[bV];omega
 rw[show k-j=(k-(j+1))+1 by omega,QH hl];congr 2;have hd:=Hv n k (j+1) h;rw[drop_eq_getElem_cons hl,beI]at hd;exact(List.cons.inj hd).1
theorem xJ(n k:Nat):beI (n:Int) k=be n k:=by
 induction k with
 | zero=>rfl
 | succ k ih =>
  rw[beI,be,ih];congr 1;apply UInt8.toNat_inj.1;rw[UInt8.toNat_ofNat',UInt8.toNat_ofNat']
  have:((n:Int) / 256 ^ k%256).toNat=n / 256 ^ k%256:=by
   have e:((n:Int) / 256 ^ k%256)=((n / 256 ^ k%256:Nat):Int):=by simp
   exact(congrArg Int.toNat e).trans (Int.toNat_natCast _)
  rw[this];omega
theorem JL(n:Nat):beI (-(n:Int)-1) 2=be (65535-n%65536) 2:=by
 have e1:((-(n:Int)-1) / 256 ^ 1%256).toNat=(65535-n%65536) / 256%256:=by omega
 have e2:((-(n:Int)-1) / 256 ^ 0%256).toNat=(65535-n%65536)%256:=by omega
 simp only[beI,be,e1,e2,Nat.pow_one,Nat.pow_zero,Nat.div_one];congr 1
 ·apply UInt8.toNat_inj.1;rw[UInt8.toNat_ofNat',UInt8.toNat_ofNat'];omega
 ·congr 1;apply UInt8.toNat_inj.1;rw[UInt8.toNat_ofNat',UInt8.toNat_ofNat'];omega
def G2(v0:Value)(l:Bs)(n:Int)(m:Nat)(w:World)(v i:Value)(wr:World):Prop :=
 ∃j:Nat,j<=m/\i=.int .i64 ((j:Int)-1)/\bOk v (l++(beI n m).take (m-j))/\Turns (aI v0 l) (aI v (l++(beI n m).take (m-j))) w wr
theorem Ff{F G:HF}{a w w':World}{v v':Value}{l:Bs}{o:Obj}{x:UInt8}{y:Value}(hT:Turns F (aI v l++G) a w)(hx:y=am x)(hown:w'.ownsRow 0 5 1 v' (l.length+1) (l.map am++[y]))(hgrow:(w.alloc o).grownBy w' v.ownBlock)(hg:∀g,v'.ownBlock=some g->v.ownBlock=some g\/(w.alloc o).heap.size<=g):bOk v' (l++[x])/\Turns F (aI v' (l++[x])++G) a w':=by
 subst hx;have e:l.map am++[am x]=(l++[x]).map am:=by simp
 have en:l.length+1=(l++[x]).length:=by simp
 rw[e,en]at hown;exact⟨(gl hown).2,(hT.alloc o).grow hown hgrow hg⟩
theorem AK{v0 v v':Value}{l:Bs}{n:Int}{m j:Nat}{w wr w3:World}{o:Obj}{y:Value}(h0:0<j)(hj:j<=m)(hT:Turns (aI v0 l) (aI v (l++(beI n m).take (m-j))) w wr)(hown:w3.ownsRow 0 5 1 v' ((l++(beI n m).take (m-j)).length+1) ((l++(beI n m).take (m-j)).map am++[y]))(hy:y=.int .u8 (n / 2 ^ (8*(j-1))%256))(hgrow:(wr.alloc o).grownBy w3 v.ownBlock)(hg:∀g,v'.ownBlock=some g->v.ownBlock=some g\/(wr.alloc o).heap.size<=g)(i:Value)(hi:i=.int .i64 ((j:Int)-1-1)):G2 v0 l n m w v' i w3:=by
 have hx:y=am (UInt8.ofNat (n / 256 ^ (j-1)%256).toNat):=by
  rw[hy];have e2:(2:Int) ^ (8*(j-1))=256 ^ (j-1):=by rw[Int.pow_mul];rfl
  rw[e2];generalize n / 256 ^ (j-1)=q;simp only[am,UInt8.toNat_ofNat'];congr 1;omega
 have e:(beI n m).take (m-(j-1))=(beI n m).take (m-j)++[UInt8.ofNat (n / 256 ^ (j-1)%256).toNat]:=by
  have:=vk n m (j-1) (by omega);rwa [show j-1+1=j by omega]at this
 have hT':Turns (aI v0 l) (aI v (l++(beI n m).take (m-j))++[]) w wr:=by simpa using hT
 obtain⟨h1,h2⟩:=Ff hT' hx hown hgrow hg;refine⟨j-1,by omega,by rw[hi];congr 1;omega,?_,?_⟩
 ·rw[e,<- append_assoc];exact h1
 ·rw[e,<- append_assoc];simpa using h2
theorem eo(v:Value)(l:Bs)(n:Int)(m:Nat)(w:World)(hm:m<=8)(hl:l.length<=1099511627776)(_ : -9223372036854775808<=n)(_:n<=9223372036854775807)(h:Sat w (aI v l))(hv:bOk v l):
  Calls Tryz.prog 127 #[v,.int .i64 n,.int .i64 m] w (jv v l (l++beI n m) w):=by
 have H:=Hq2 h hv;clear h hv;go_enter Tryz.func127,Tryz.ntmps127;go_wp2;go_loopw [0,7] (fun v' i wr=>G2 v l n m w v' i wr) (fun _ i _=>(intOf i+1).toNat)
 case atStart=>exact⟨m,Nat.le_refl _,rfl,by simpa using H.z,by simpa using Turns.refl H.a⟩
 case round =>
  obtain⟨j,hj,rfl,hok,hT⟩:=hrel;by_cases hlt:0<j
  ·obtain⟨i0,hi0,hz1,hz2,hz3⟩:=info_parts j5;have HT:=Hq2 hok hT;have hown:=dr hT.sat hok;have HO:=qqH hown;have HI:=Hq4 hi0 hz1 hz2 hz3;clear hok hT hown hi0 hz1 hz2 hz3;go_wp2_with (refine i8 _ rfl _ _ 38 rfl 5 i0 (.int .u8 0) 1 1 Tryz.underlying38 HI.a HI.b HI.c HI.x rfl (by decide) _ _ _ rfl (HO.out.alloc _) ⟨wr.heap.size,0,none⟩ 1 1 [_] rfl rfl (cell_one_new _ _ _) (by simp[Value.oneCell']) (by unfold maxLen;simp;omega) (by simp;omega) ?_;intro v' w3 hown' hgrow _ hgb);exact⟨AK hlt hj HT.z hown' rfl hgrow hgb _ rfl,by simp[intOf];omega⟩
  ·obtain rfl:j=0:=by omega
   have HT:=Hq2 hok hT;clear hok hT;go_wp2;go_ret;obtain⟨hok,hT⟩:=HT.out;rw[Nat.sub_zero,take_of_length_le (by rw[bV];omega)]at hok hT;exact⟨_,rfl,hok,hT⟩
theorem oH(a b:Nat)(ha:a<4294967296)(hb:b<4294967296):bits BinOp.xor IntKind.u32 (a:Int) (b:Int)=((a ^^^ b:Nat):Int):=by
 have e1:(BitVec.ofInt 32 (a:Int)).toNat=a:=by rw[BitVec.ofInt_natCast,BitVec.toNat_ofNat];exact Nat.mod_eq_of_lt (by omega)
 have e2:(BitVec.ofInt 32 (b:Int)).toNat=b:=by rw[BitVec.ofInt_natCast,BitVec.toNat_ofNat];exact Nat.mod_eq_of_lt (by omega)
 show IntKind.u32.wrap ((BitVec.ofInt 32 (a:Int) ^^^ BitVec.ofInt 32 (b:Int)).toNat:Int)=_;rw[BitVec.toNat_xor,e1,e2,IntKind.wrap_u32];have:=iO ha hb;omega
theorem Fi(a:Nat)(ha:a<4294967296):bits BinOp.and IntKind.u32 (a:Int) 1=((a%2:Nat):Int):=by
 have e1:(BitVec.ofInt 32 (a:Int)).toNat=a:=by rw[BitVec.ofInt_natCast,BitVec.toNat_ofNat];exact Nat.mod_eq_of_lt (by omega)
 show IntKind.u32.wrap ((BitVec.ofInt 32 (a:Int) &&& BitVec.ofInt 32 (1:Int)).toNat:Int)=_;rw[BitVec.toNat_and,e1,show(BitVec.ofInt 32 (1:Int)).toNat=1 from rfl,Nat.and_one_is_mod,IntKind.wrap_u32];omega
def lz(w:World)(b:Nat)(c:Nat):Prop:=w.heap[b]?=some (.cells #[.int .u32 c] 116 (0,0))
def Jq(b c:Nat)(x:UInt8)(w:World)(e:Ending)(w':World):Prop:=e=.returned (.tuple #[])/\lz w' b (eK c x)/\Mods (fun k=>k=b) w w'
theorem xP(k c:Nat):fO (k+1) c=(fO k c / 2) ^^^ (fO k c%2*3988292384):=by rw[vn];rfl
theorem Fr{wr:World}{b q:Nat}(h:lz wr b q)(hq:q<4294967296):lz (wr.setCell ⟨b,0,none⟩ (.int .u32 (bits BinOp.xor IntKind.u32 ((q:Int) / 2) ((q:Int)%2*3988292384)))) b ((q / 2) ^^^ (q%2*3988292384)):=by
 have hm:q%2<2:=Nat.mod_lt _ (by omega);have h2:=oH (q / 2) (q%2*3988292384) (by omega) (by omega);have e:((q:Int)%2*3988292384)=((q%2*3988292384:Nat):Int):=by omega
 have e2:((q:Int) / 2)=((q / 2:Nat):Int):=by omega
 rw[e,e2,h2];exact bB h 0 _
theorem sX(b c:Nat)(x:UInt8)(w:World)(hc:c<4294967296)(h:lz w b c):Calls Tryz.prog 150 #[.int .u8 x.toNat,.pointer (some ⟨b,0,none⟩)] w (Jq b c x w):=by
 have h0:=aa h 0 (v:=.int .u32 c) (by simp);have f0:=bf h 0;have hx:=oH c x.toNat hc (mg x);have hx2:=mg x;have hx3:=UInt8.toNat_lt x;have H:=qqH h;clear h;go_enter Tryz.func150,Tryz.ntmps150;go_wp2;clear hx h0 f0;go_loopw [7] (fun i wr=>∃k:Nat,k<=8/\i=.int .i64 k/\lz wr b (fO k (c ^^^ x.toNat))/\Mods (fun k=>k=b) w wr) (fun i _=>8-(intOf i).toNat)
 case atStart=>exact⟨0,by omega,rfl,bB H.out 0 _,(Mods.refl (fun k=>k=b) w).set1 _⟩
 case round =>
  obtain⟨k,hk,rfl,hcell,hM⟩:=hrel;by_cases hlt:k<8
  ·have hlt32:=tF k (iO hc hx2);have hnx:=xP k (c ^^^ x.toNat);have hc0:=aa hcell 0 (v:=.int .u32 (fO k (c ^^^ x.toNat))) (by simp);have hf0:=bf hcell 0;have HC:=Hq2 hcell hM;have HN:=qqH hnx;clear hcell hM hnx;generalize fO k (c ^^^ x.toNat)=q at *
   have h1:=Fi q hlt32;have hm:q%2<2:=Nat.mod_lt _ (by omega);go_wp2;exact⟨⟨k+1,by omega,by go_num,by rw[HN.out];exact Fr HC.a hlt32,HC.z.set1 _⟩,by simp[intOf];omega⟩
  ·obtain rfl:k=8:=by omega
   have HC:=Hq2 hcell hM;clear hcell hM;go_wp2;go_end0;exact⟨rfl,HC.a,HC.z⟩
def py(k:UInt8)(l:Bs)(w:World)(e:Ending)(w':World):Prop:=e=.returned (.int .u32 (cF k l))/\aX w w'
def Hj(k:UInt8)(l:Bs)(w:World)(i:Value)(wr:World):Prop :=
 ∃j:Nat,j<=l.length/\i=.int .i64 j/\lz wr w.heap.size (fP (eK 4294967295 k) (l.take j))/\aX w wr
theorem xQ{c:Nat}{l:Bs}{j:Nat}(h:j<l.length):fP c (l.take (j+1))=eK (fP c (l.take j)) l[j]:=by
 unfold fP;rw[QH h,foldl_append];rfl
theorem Ks{k:UInt8}{l:Bs}:bits BinOp.xor IntKind.u32 IntKind.u32.max ((fP (eK 4294967295 k) l:Nat):Int)=(cF k l:Nat):=by
 have:=oH 4294967295 (fP (eK 4294967295 k) l) (by omega) (lG l (dV (by omega) k));exact this
theorem jL(a:Option Addr)(cap:Nat)(k:UInt8)(l:Bs)(w:World)(h:al w a (l.map am))(hl:l.length<=1099511627776):Calls Tryz.prog 128 #[.int .u8 k.toNat,.slice a l.length cap] w (py k l w):=by
 have H:=qqH h;have hk:=UInt8.toNat_lt k;have HS:=qqH (fun(w1:World) (hc:lz w1 w.heap.size 4294967295)=>sX w.heap.size 4294967295 k w1 (by omega) hc);clear h;go_enter Tryz.func128,Tryz.ntmps128;go_wp2_with fail;refine(HS.out _ (aK w _)).mono ?_;rintro e w1 ⟨rfl,hc1,hM1⟩;have HM:=qqH (show Hj k l w (.int .i64 0) w1 from⟨0,Nat.zero_le _,rfl,by simpa[fP]using hc1,((Mods.refl _ w).alloc _).trans' hM1 (fun i hi=>.inr (by omega))⟩);clear hc1 hM1 HS;go_wp2_with fail;go_loopw [15] (fun i wr=>Hj k l w i wr) (fun i _=>l.length-(intOf i).toNat)
 case atStart=>exact HM.out
 case round =>
  obtain⟨j,hj,rfl,hcell,hs⟩:=hrel;by_cases hlt:j<l.length
  ·obtain⟨g,off,rfl,hc⟩:=(H.out.keep hs (fun _ _ _=>id)) (by simp;omega);have hcj:=hc j (by simpa using hlt);simp only[getElem_map]at hcj;unfold am at hcj;have hlt32:fP (eK 4294967295 k) (l.take j)<4294967296:=lG _ (dV (by omega) k);have HC:=qqH (sX w.heap.size _ l[j] wr hlt32 hcell);have HT:=Hq2 (xQ (c:=eK 4294967295 k) hlt) hs;clear hc hcell hs HM H;go_wp2_with fail;refine HC.out.mono ?_;rintro e w2 ⟨rfl,hc2,hM2⟩;have HF:=Hq2 hc2 (HT.z.trans' hM2 (fun i hi=>.inr (by omega)));clear hc2 hM2 hcj HC;go_wp2_with fail;exact⟨⟨j+1,by omega,by go_num,by rw[HT.a];exact HF.a,HF.z⟩,by simp[intOf];omega⟩
  ·obtain rfl:j=l.length:=by omega
   rw[take_length]at hcell;have hc0:=aa hcell 0 (v:=.int .u32 (fP (eK 4294967295 k) l)) (by simp);have hse:=Ks (k:=k) (l:=l);have HF:=qqH hs;clear hs hcell HM H;go_wp2_with fail;go_ret;exact⟨rfl,HF.out⟩
def Hi(n:Int)(w:World)(e:Ending)(w':World):Prop:=e=.returned (.int .i64 (n+9))/\w=w'
theorem gP(n:Int)(h0:0<=n)(h1:n<=1099511627776)(w:World):Calls Tryz.prog 79 #[.int .i64 n] w (Hi n w):=by
 go_enter Tryz.func79,Tryz.ntmps79;go_wp2;go_ret;exact⟨EE (by omega),rfl⟩
def eJ(l':Bs)(w:World)(e:Ending)(w':World):Prop:=∃v',e=.returned v'/\bOk v' l'/\Turns [] (aI v' l') w w'
theorem Turns.news{F:HF}{w w':World}(h:Turns [] F w w'):aX w w':=h.mods.mono (fun b hb=>by simp at hb)
theorem Turns.newLe{F:HF}{w w':World}(h:Turns [] F w w'){b:Nat}(hb:b∈dom F):w.heap.size<=b:=by
 rcases h.fresh b hb with h'|h'
 ·simp at h'
 ·exact h'
theorem al.turns{F:HF}{w w':World}{a:Option Addr}{xs:List Value}(h:al w a xs)(hT:Turns [] F w w'):al w' a xs:=h.keep hT.news (fun _ _ _=>id)
theorem Ht(w:World)(k:UInt8):Turns [] (aI (.slice (some ⟨w.heap.size,0,none⟩) 1 1) [k]) w (w.alloc (.cells #[.int .u8 k.toNat] 5))/\bOk (.slice (some ⟨w.heap.size,0,none⟩) 1 1) [k]:=by
 refine⟨?_,rfl,fun h=>by simp[Value.ownBlock]at h⟩
 have:=(Turns.refl (Sat.nil w)).Qd (φ:=fun o=>∃cap cur,(Value.slice (some ⟨w.heap.size,0,none⟩) 1 1)=.slice (some ⟨w.heap.size,0,none⟩) 1 cap/\o=.cells cur 5 (0,0)/\1<=cap/\cap<=maxLen/\cur.size=cap*1/\cur.toList.take (1*1)=[k].map am)
  (o:=.cells #[.int .u8 k.toNat] 5) ⟨1,_,rfl,rfl,Nat.le_refl _,by unfold maxLen;omega,rfl,rfl⟩
 exact this
theorem jv.news{v:Value}{l l':Bs}{w w1 w2:World}{e:Ending}(hT:Turns [] (aI v l) w w1)(h:jv v l l' w1 e w2):eJ l' w e w2:=by
 obtain⟨v',he,hok,hT'⟩:=h;exact⟨v',he,hok,hT.trans hT'⟩
theorem jz{F G:HF}{a w w':World}{v v':Value}{l s:Bs}(hT:Turns F (aI v l++G) a w){n:Nat}(hn:n=s.length)(hown:w'.ownsRow 0 5 1 v' (l.length+n) (l.map am++s.map am))(hgrow:w.grownBy w' v.ownBlock)(hg:∀g,v'.ownBlock=some g->v.ownBlock=some g\/w.heap.size<=g):bOk v' (l++s)/\Turns F (aI v' (l++s)++G) a w':=by
 subst hn;have e:l.map am++s.map am=(l++s).map am:=by simp
 have en:l.length+s.length=(l++s).length:=by simp
 rw[e,en]at hown;exact⟨(gl hown).2,hT.grow hown hgrow hg⟩
theorem Ct(n:Nat)(h:n<=4611686018427387904):bits BinOp.xor IntKind.i64 (-1) (n:Int)=-(n:Int)-1:=by
 have e1:(BitVec.ofInt 64 (-1))=BitVec.allOnes 64:=by decide
 have e2:(BitVec.ofInt 64 (n:Int)).toNat=n:=by rw[BitVec.ofInt_natCast,BitVec.toNat_ofNat];exact Nat.mod_eq_of_lt (by omega)
 show IntKind.i64.wrap ((BitVec.ofInt 64 (-1) ^^^ BitVec.ofInt 64 (n:Int)).toNat:Int)=_;rw[e1,BitVec.allOnes_xor,BitVec.toNat_not,e2];unfold IntKind.wrap;simp[IntKind.bits,IntKind.signed];omega
theorem gX(k:UInt8)(a:Option Addr)(cap:Nat)(body:Bs)(w:World)(h:al w a (body.map am))(hl:body.length<=68719476736):
  Calls Tryz.prog 78 #[.int .u8 k.toNat,.slice a body.length cap] w (eJ (frame k body) w):=by
 have H:=qqH h;have hbn:=Ct body.length (by omega);have hsl:=j9 k body;clear h;go_enter Tryz.func78,Tryz.ntmps78;go_wp2_with fail;obtain⟨hT1,hok1⟩:=Ht w k;have H1:=Hq2 hT1 hok1;clear hT1 hok1;refine(eo _ [k] body.length 2 _ (by omega) (by simp) (by omega) (by omega) H1.a.sat H1.z).mono ?_;rintro e w2 hp;obtain⟨v2,rfl,hok2,hT2⟩:=jv.news H1.a hp;have H2:=Hq2 hT2 hok2;clear hT2 hok2 hp H1;go_wp2_with fail;refine(eo v2 _ (-(body.length:Int)-1) 2 w2 (by omega) (by simp[bV]) (by omega) (by omega) H2.a.sat H2.z).mono ?_;rintro e w3 hp;obtain⟨v3,rfl,hok3,hT3⟩:=jv.news H2.a hp;have hown3:=dr hT3.sat hok3;obtain⟨i0,hi0,hz1,hz2,hz3⟩:=info_parts j5;have H3:=Hq3 hT3 hown3 (H.out.turns hT3);have HI:=Hq4 hi0 hz1 hz2 hz3;clear hT3 hok3 hp H2 hown3 hi0 hz1 hz2 hz3;have hb:(body.map am).length=body.length:=by simp
 have HB:=qqH hb;clear hb;go_wp2_with (refine qr _ rfl (.tmp 15) (.tmp 16) 38 rfl 5 i0 (.int .u8 0) 1 Tryz.underlying38 HI.a HI.b HI.c HI.x rfl _ _ _ rfl H3.b a body.length cap (body.map am) rfl HB.out H3.y (dA body) (by unfold maxLen;simp[bV];omega) (by simp[bV];omega) ?_;intro v4 w4 hown4 hgrow4 hg4);obtain⟨hok4,hT4⟩:=jz (F:=[]) (G:=[]) (v:=v3) (by simpa using H3.a) rfl hown4 hgrow4 hg4;rw[append_nil]at hT4;have H4:=Hq3 hT4 hok4 (H.out.turns hT4);clear hT4 hok4 hown4 hgrow4 hg4;refine(jL a cap k body w4 H4.y (by omega)).mono ?_;rintro e w5 ⟨rfl,hs5⟩;have hT5:=H4.a.Q9 hs5;have H5:=qqH hT5;clear hs5 hT5;go_wp2_with fail;refine(eo v4 _ (cF k body:Nat) 4 w5 (by omega) (by simp[bV];omega) (by omega) (by omega) H5.out.sat H4.b).mono ?_;rintro e w6 hp;obtain⟨v6,rfl,hok6,hT6⟩:=jv.news H5.out hp;have H6:=Hq2 hok6 hT6;clear hok6 hT6 hp;go_wp2_with fail;go_ret
 have e:[k]++beI body.length 2++beI (-(body.length:Int)-1) 2++body++beI (cF k body:Nat) 4=frame k body:=by
  rw[xJ,xJ,JL];simp[frame]
 rw[<- e];exact⟨v6,rfl,H6.out⟩
theorem bU{P:Program}{ops:Array Oper}{rest:List Oper}{o:Oper}{a:Act}{w:World}{Q:Exit->Act->World->Prop}(hg:o.guard=none)(t:TypeId)(parts:Array (Nat×Operand))(ho:o.op=.build t parts)(cells:Array Value)(hc:P.built t (parts.map fun(i,x)=>(i,a.eval x)).toList=some cells)(h:wpList P ops Q rest (a.put o.dst (.agg cells)) w):wpList P ops Q (o::rest) a w :=
 wpList_plain hg fun _ hK=>kG t parts ho cells hc (hK _ _ h)
structure AreaL where
 first:Nat
 count:Nat
 end_:Nat
 tail:Bs
 ch:Nat
 spare:List (Nat×Nat×Nat)
def fp(s:Nat×Nat×Nat):Value:=.slice (some ⟨s.1,0,none⟩) s.2.1 s.2.2
def l5(l:List (Nat×Nat×Nat)):HF:=l.map fun s=>(s.1,fun o=>∃cur:Array Value,o=.cells cur 5 (0,0)/\cur.size=s.2.2)
def aE(d:Nat)(A:AreaL):Array Value:=#[.pointer (some ⟨d,0,none⟩),.int .i64 A.first,.int .i64 A.count,.int .i64 A.end_]++ay A.tail++#[.chan (some A.ch)]
def aq(ab d:Nat)(A:AreaL):HF :=
 (ab,Is (.cells (aE d A) 157 (0,0)))::(A.ch,fun o=>∃s r,o=.chan 2 (A.spare.map fp).toArray false s r false)::l5 A.spare
structure AreaOk (A:AreaL):Prop where
 tail:A.tail.length=128
 few:A.spare.length<=2
 caps:∀s∈A.spare,s.2.1<=s.2.2/\s.2.2<=maxLen
def DX:Array Value:=#[.pointer none,.int .i64 0,.int .i64 0,.int .i64 0]++ay (ak 128)++#[.chan none]
def mz(d:Nat)(first count:Nat)(w:World)(e:Ending)(w':World):Prop :=
 ∃ab ch,e=.returned (.pointer (some ⟨ab,0,none⟩))/\Turns [] (aq ab d ⟨first,count,0,ak 128,ch,[]⟩) w w'
theorem GK:DX=(Value.pointer none :: .int .i64 0 :: .int .i64 0 :: .int .i64 0::((ak 128).map am++[Value.chan none])).toArray:=by
 simp[DX,ay]
theorem Cx(p a b c:Value)(hp:p.cells=#[p])(ha:a.cells=#[a])(hb:b.cells=#[b])(hc:c.cells=#[c]):
  Tryz.prog.built 157 [(0,p),(1,a),(2,b),(5,c)]=some (#[p,a,b,.int .i64 0]++ay (ak 128)++#[c]):=by
 have e:Tryz.prog.built 157 [(0,p),(1,a),(2,b),(5,c)]=Instr.fill (#[(0,1),(1,1),(2,1),(3,1),(4,128),(132,1)][·]?) DX [(0,p),(1,a),(2,b),(5,c)]:=by kernel_rfl
 rw[e,GK];have hz:((ak 128).map am).length=128:=by rw[length_map,an]
 have hr:ay (ak 128)=((ak 128).map am).toArray:=rfl;rw[hr];generalize (ak 128).map am=Z at hz ⊢;rw[jO _ _ 0 p 0 1 _ rfl (by rw[hp];rfl) (by simp)];rw[jO _ _ 1 a 1 1 _ rfl (by rw[ha];rfl) (by simp[spl,hp])];rw[jO _ _ 2 b 2 1 _ rfl (by rw[hb];rfl) (by simp[spl,hp,ha])]
 have e3:spl (spl (spl (Value.pointer none :: .int .i64 0 :: .int .i64 0 :: .int .i64 0::(Z++[Value.chan none])) 0 p.cells.toList) 1 a.cells.toList) 2 b.cells.toList=p::a::b :: .int .i64 0::(Z++[Value.chan none]):=by
  simp[spl,hp,ha,hb]
 rw[e3,jO _ _ 5 c 132 1 _ rfl (by rw[hc];rfl) (by simp[hz])]
 have e4:spl (p::a::b::Value.int .i64 0::(Z++[Value.chan none])) 132 c.cells.toList=p::a::b :: .int .i64 0::(Z++[c]):=by
  have:(132:Nat)=Z.length+4:=by omega
  simp[spl,hc,this]
 rw[e4];simp[Instr.fill]
theorem Lm:(Tryz.prog.info? 38).map (fun i=>i.bytes)=some 24:=by kernel_rfl
theorem Lp(w:World):(Instr.makeChan 155 (.int .i64 2)).run Tryz.prog w=.ok (.chan (some w.heap.size)) (w.alloc (.chan 2 #[] false 0 0 false)):=by
 have h:=Lm
 cases hi:Tryz.prog.info? 38 with
 | none=>rw[hi]at h;simp at h
 | some i =>
  rw[hi]at h;have hb:i.bytes=24:=by simpa using h
  simpa using Conc.run_makeChan (P:=Tryz.prog) (w:=w) Tryz.underlying155 hi .i64 2 (by omega) (by rw[hb];omega)
theorem vh(d first count:Nat)(w:World):Calls Tryz.prog 99 #[.pointer (some ⟨d,0,none⟩),.int .i64 first,.int .i64 count] w (mz d first count w):=by
 have hm:=Lp;have hb:=Cx (.pointer (some ⟨d,0,none⟩)) (.int .i64 first) (.int .i64 count) (.chan (some w.heap.size)) rfl rfl rfl rfl;have HB:Hid (Tryz.prog.built 157 [(0,.pointer (some ⟨d,0,none⟩)),(1,.int .i64 first),(2,.int .i64 count),(5,.chan (some w.heap.size))]=some (aE d ⟨first,count,0,ak 128,w.heap.size,[]⟩)):=qqH hb;clear hb;go_enter Tryz.func99,Tryz.ntmps99;go_wp2_with (refine bU rfl 157 _ rfl (aE d ⟨first,count,0,ak 128,w.heap.size,[]⟩) (by simp only[map_toArray,map_cons,map_nil];exact HB.out) ?_);go_ret;refine⟨w.heap.size+1,w.heap.size,rfl,?_⟩;show Turns [] _ w ((w.alloc (.chan 2 #[] false 0 0 false)).alloc (.cells (aE d ⟨first,count,0,ak 128,w.heap.size,[]⟩) 157));have h:=((Turns.refl (Sat.nil w)).Qd (φ:=fun o=>∃s r,o=.chan 2 #[] false s r false) (o:=.chan 2 #[] false 0 0 false) ⟨0,0,rfl⟩).Q8 (.cells (aE d ⟨first,count,0,ak 128,w.heap.size,[]⟩) 157);simp only[World.size_alloc]at h;exact h
theorem g8{w w':World}(hs:aX w w'){a:Addr}{v:Value}(h:w.cell? a=some v):w'.cell? a=some v:=(World.cell?_of_block (w:=w) (hs.block a.block (World.block_lt_of_cell? w _ h) id)).trans h
theorem DL{w w':World}(hs:aX w w'){b o n:Nat}(h:w.there b o n):w'.there b o n:=fun j hj=>by
 obtain⟨h1,h2⟩:=h j hj
 obtain⟨u,hu⟩:=Option.isSome_iff_exists.1 h1
 have hb:=World.block_lt_of_cell? w _ hu
 have he:=hs.block b hb id
 exact⟨by rw[g8 hs hu];rfl,by rw[<- h2];simp[World.frozen?,he]⟩
theorem Mk{wr w2:World}(hs:aX wr w2){s:Bs}(hl:s.length=128):((w2.alloc (.cells eI 43)).setCells w2.heap.size 0 (s.map am)).heap[w2.heap.size]?=some (.cells (ay s) 43 (0,0)) /\
  aX wr ((w2.alloc (.cells eI 43)).setCells w2.heap.size 0 (s.map am)):=by
 obtain⟨h1,h2⟩:=dJ (aK w2 (.cells (ay (ak 128)) 43)) (s:=s) (by rw[hl,an]);exact⟨h1,((hs.alloc _)).trans' h2 (fun i hi=>.inr (by have:=hs.size;omega))⟩
theorem Ml{wr w2:World}(hs:aX (wr.alloc (.cells eI 43)) w2){s:Bs}(hl:s.length=128):(w2.setCells wr.heap.size 0 (s.map am)).heap[wr.heap.size]?=some (.cells (ay s) 43 (0,0)) /\
  aX wr (w2.setCells wr.heap.size 0 (s.map am)):=by
 have h0:w2.heap[wr.heap.size]?=some (.cells (ay (ak 128)) 43 (0,0)):=hs.at (aK wr _) id;obtain⟨h1,h2⟩:=dJ h0 (s:=s) (by rw[hl,an]);exact⟨h1,((((Mods.refl _ wr).alloc _).trans' hs (fun i hi=>hi.elim))).trans' h2 (fun i hi=>.inr (by omega))⟩
theorem sB{W:World}{b o:Nat}{vs:List Value}{a:Addr}{v:Value}(hne:a.block≠b)(h:W.cell? a=some v):(W.setCells b o vs).cell? a=some v :=
 (World.cell?_setCells_out b vs o W a (fun hb _=>absurd hb.symm hne.symm)).trans h
theorem iq{w:World}{ab d:Nat}{A:AreaL}{R:HF}(h:Sat w (aq ab d A++R)):w.heap[ab]?=some (.cells (aE d A) 157 (0,0)):=by exact h.Q5
theorem lB(d:Nat)(A:AreaL):(aE d A)[0]?=some (.pointer (some ⟨d,0,none⟩)):=by simp[aE,Array.getElem?_append]
theorem lC(d:Nat)(A:AreaL):(aE d A)[1]?=some (.int .i64 A.first):=by simp[aE,Array.getElem?_append]
theorem sw(d:Nat)(A:AreaL):(aE d A)[2]?=some (.int .i64 A.count):=by simp[aE,Array.getElem?_append]
theorem no(d:Nat)(A:AreaL):(aE d A)[3]?=some (.int .i64 A.end_):=by simp[aE,Array.getElem?_append]
def au(l:Bs)(first count:Nat):Bs:=(l.drop (128*first)).take (128*count)
theorem Aj{l:Bs}{n first k:Nat}(_:l.length=128*n)(_:first+k<n):au l first (k+1)=au l first k++aC l (first+k):=by
 unfold au aC;rw[Nat.mul_add 128 k 1,take_add,drop_drop];congr 2
 ·congr 1;omega
theorem fG{l:Bs}{n first k:Nat}(hl:l.length=128*n)(h:first+k<=n):(au l first k).length=128*k:=by
 unfold au;simp;omega
def Jr(l:Bs)(w:World)(e:Ending)(w':World):Prop:=∃v,e=.returned (.tuple #[v,.nilIface])/\bOk v l/\Turns [] (aI v l) w w'
def KU(_ _:Nat)(A:AreaL)(L:DevL)(w:World)(v i:Value)(wr:World):Prop :=
 ∃k:Nat,k<=A.count/\i=.int .i64 k/\bOk v (au L.now A.first k)/\Turns [] (aI v (au L.now A.first k)) w wr
theorem qw(ab d:Nat)(A:AreaL)(L:DevL)(w:World)(h:Sat w (aq ab d A++az d L))(hL:DevOk L)(hA:A.first+A.count<=L.n)(hn:L.n<=1073741824):
  Calls Tryz.prog 54 #[.pointer (some ⟨ab,0,none⟩)] w (Jr (au L.now A.first A.count) w):=by
 have hab:=iq h;have a0:=aa hab 0 (lB d A);have a1:=aa hab 1 (lC d A);have a2:=aa hab 2 (sw d A);have hal:ab<w.heap.size:=ac hab;have H:=Hq3 h hL hab;clear h hL hab;go_enter Tryz.func54,Tryz.ntmps54;go_wp2_with fail;clear a0 a1 a2;go_loopw [4,12] (fun v i wr=>KU ab d A L w v i wr) (fun _ i _=>A.count-(intOf i).toNat)
 case atStart=>exact⟨0,Nat.zero_le _,rfl,by simpa[au]using jy,by simpa[au,Hs]using Turns.refl (Sat.nil w)⟩
 case round =>
  obtain⟨k,hk,rfl,hok,hT⟩:=hrel;by_cases hlt:k<A.count
  ·have hs:=hT.news;have hab:=hs.mods (fun _=>False) |>.at (iq H.a) id
   have a0:=aa hab 0 (lB d A);have a1:=aa hab 1 (lC d A);have hal:ab<wr.heap.size:=ac hab;have hz:=nN;have HR:=Hq4 hok hT hs hab;clear hok hT hs hab;have HC:Hid (∀W:World,aX w W->Calls Tryz.prog 17 #[.pointer (some ⟨d,0,none⟩),.int .i64 ((A.first:Int)+k)] W (jU L (A.first+k) W)):=qqH (fun W hW=>lA d L (A.first+k) W (H.a.right.same hW) H.b (by omega));have hl:=iD H.b.nowL (show A.first+k<L.n by omega);have hone:=dA (aC L.now (A.first+k));have hlm:((aC L.now (A.first+k)).map am).length=128:=by rw[length_map];exact hl
   have hi:(Tryz.prog.info? 43).map (·.size)=some ((aC L.now (A.first+k)).map am).toArray.size:=by rw[size_toArray,hlm];exact qj
   have hth:∀W:World,(W.alloc (.cells eI 43)).there W.heap.size 0 128:=fun W=>dm (aK W _) 0 128 (by rw[show eI=ay (ak 128)from rfl,bR,an];omega)
   have hsum:IntKind.i64.wrap ((A.first:Int)+k)=(A.first:Int)+k:=IntWalk.i64_in _ (by omega);clear hl;go_wp2_with fail;go_region_held3 (fun w'=>w'.cell? ⟨ab,0,none⟩=some (.pointer (some ⟨d,0,none⟩))/\w'.cell? ⟨ab,1,none⟩=some (.int .i64 A.first)) (first|exact⟨a0,a1⟩|exact⟨k0,k1⟩|exact⟨(World.cell?_alloc_lt _ _ ⟨ab,0,none⟩ hal).trans a0,(World.cell?_alloc_lt _ _ ⟨ab,1,none⟩ hal).trans a1⟩|exact⟨(World.cell?_alloc_lt _ _ ⟨ab,0,none⟩ kl).trans k0,(World.cell?_alloc_lt _ _ ⟨ab,1,none⟩ kl).trans k1⟩|exact⟨sB (by show ab≠_;omega) k0,sB (by show ab≠_;omega) k1⟩|exact⟨sB (by show ab≠_;omega) ((World.cell?_alloc_lt _ _ ⟨ab,0,none⟩ kl).trans k0),sB (by show ab≠_;omega) ((World.cell?_alloc_lt _ _ ⟨ab,1,none⟩ kl).trans k1)⟩) ((go_at_call 17;refine(HC.out _ (by first|exact HR.c.drew|exact HR.c.drew.alloc _)).mono ?_;rintro e w2 ⟨rfl,hs2⟩;have k0:w2.cell? ⟨ab,0,none⟩=some (.pointer (some ⟨d,0,none⟩)):=(by first|exact g8 hs2 a0|exact g8 hs2 ((World.cell?_alloc_lt _ _ ⟨ab,0,none⟩ hal).trans a0));have k1:w2.cell? ⟨ab,1,none⟩=some (.int .i64 A.first):=(by first|exact g8 hs2 a1|exact g8 hs2 ((World.cell?_alloc_lt _ _ ⟨ab,1,none⟩ hal).trans a1));have kl:ab<w2.heap.size:=World.block_lt_of_cell? w2 _ k0;(first|have hB2:w2.there wr.heap.size 0 128:=DL hs2 (hth wr.drew)|skip);have HS2:=qqH hs2;clear hs2));all_goals clear a0 a1 k0 k1 hone hi hth hsum
   all_goals
    first
    | (
     obtain⟨hb3,hs3⟩:=Mk (wr:=wr) ((Mods.refl _ wr).drew.trans HS2.out) (s:=aC L.now (A.first+k)) (by simpa using hlm);change Exit.then _ _ _ _ ((w2.alloc (.cells eI 43)).setCells w2.heap.size 0 ((aC L.now (A.first+k)).map am))
     generalize (w2.alloc (.cells eI 43)).setCells w2.heap.size 0 ((aC L.now (A.first+k)).map am)=W3 at hb3 hs3 ⊢;generalize w2.heap.size=T at hb3 ⊢)
    | (
     obtain⟨hb3,hs3⟩:=Ml (wr:=wr) ((Mods.refl _ (wr.alloc (.cells eI 43))).drew.trans HS2.out) (s:=aC L.now (A.first+k)) (by simpa using hlm);change Exit.then _ _ _ _ (w2.setCells wr.heap.size 0 ((aC L.now (A.first+k)).map am))
     generalize w2.setCells wr.heap.size 0 ((aC L.now (A.first+k)).map am)=W3 at hb3 hs3 ⊢;generalize wr.heap.size=T at hb3 ⊢)
   all_goals
    have hT3:=HR.b.Q9 hs3;have hown3:=dr hT3.sat HR.a;obtain⟨i0,hi0,hz1,hz2,hz3⟩:=info_parts j5
    have hnews:∀j u,((aC L.now (A.first+k)).map am)[j]?=some u->W3.cell? ((⟨T,0,none⟩:Addr).add j)=some u:=fun j u hu=>by
     rw[Addr.add_mid,Nat.zero_add];exact aa hb3 j (by simpa[ay]using hu)
    have hlk:(au L.now A.first k).length<=137438953472:=by rw[fG H.b.nowL (by omega)];omega
    have hstep:=Aj H.b.nowL (first:=A.first) (k:=k) (by omega);have H3:=Hq9 hT3 hown3 hnews hlm hi0 hz1 hz2 hz3 hstep;clear hT3 hown3 hnews hlm hi0 hz1 hz2 hz3 hb3 hs3 hstep;go_wp2_with (refine i8 _ rfl (.tmp 32) (.tmp 33) 38 rfl 5 i0 (.int .u8 0) 1 1 Tryz.underlying38 H3.e H3.f H3.g H3.h rfl (by decide) _ _ _ rfl H3.b ⟨T,0,none⟩ 128 128 ((aC L.now (A.first+k)).map am) rfl (by rw[H3.d]) H3.c (dA _) (by unfold maxLen;omega) (by omega) ?_;intro v' w4 hown' hgrow _ hgb);obtain⟨hok4,hT4⟩:=jz (F:=[]) (G:=[]) (v:=u4) (by simpa using H3.a) (by have:=H3.d;simpa using this.symm) hown' hgrow hgb;rw[<- H3.out.2.2.2.2.2.2.2.2]at hok4 hT4;exact⟨⟨k+1,by omega,by go_num,hok4,by simpa using hT4⟩,by simp[intOf];omega⟩
  ·obtain rfl:k=A.count:=by omega
   have HR:=Hq2 hok hT;clear hok hT;go_wp2_with fail;go_ret2;exact⟨_,rfl,HR.out⟩
theorem pC{t n:Nat}(ht:Tryz.prog.underlying t=some (.array n 5))(hc:Tryz.prog.cellsOf t=n)(d:Nat)(s:Bs)(hs:s.length=n):
  Tryz.prog.keyLits (d+2) t (s.map am)=some (s.map fun x=>Lit.int .u8 x.toNat):=by
 have h1:Tryz.prog.cellsOf 5=1:=by kernel_rfl
 have e0:Tryz.prog.keyLits (d+2) t (s.map am)=if(s.map am).length=n then((range n).mapM fun i=>Tryz.prog.keyLits (d+1) 5 (((s.map am).drop i).take 1)).map flatten else none:=by
  conv=>lhs;unfold Program.keyLits
  simp only[ht,hc,h1,Nat.mul_one]
 rw[e0,if_pos (by simpa using hs)]
 have hm:∀(m:Nat) (l:Bs) (o:Nat),(s.drop o).take m=l->l.length=m->(range' o m).mapM (fun i=>Tryz.prog.keyLits (d+1) 5 (((s.map am).drop i).take 1))=some (l.map fun x=>[Lit.int .u8 x.toNat]):=by
  intro m;induction m with
  | zero=>intro l o h hl;simp at hl;subst hl;rfl
  | succ m ih =>
   intro l o h hl
   cases l with
   | nil=>simp at hl
   | cons x r =>
    have ho:o<s.length:=by
     rcases Nat.lt_or_ge o s.length with h'|h'
     ·exact h'
     ·rw[drop_of_length_le h']at h;simp at h
    rw[drop_eq_getElem_cons ho,QE]at h;obtain⟨rfl,hr⟩:=List.cons.inj h
    have e1:((s.map am).drop o).take 1=[am s[o]]:=by
     rw[drop_eq_getElem_cons (show o<(s.map am).length by simpa using ho)];simp only[QE,take_zero,getElem_map]
    have e2:Tryz.prog.keyLits (d+1) 5 [am s[o]]=some [Lit.int .u8 s[o].toNat]:=by
     have:=UInt8.toNat_lt s[o];have hw:(Lit.int .u8 (s[o].toNat:Int)).wf=true:=by simp[Lit.wf,IntKind.min,IntKind.max,IntKind.bits,IntKind.signed];omega
     simp only[Program.keyLits,Tryz.underlying5,am];exact if_pos ⟨trivial,hw⟩
    rw[range'_succ,mapM_cons,e1,e2];rw[ih r (o+1) hr (by simpa using hl)];rfl
 have hf:∀l:Bs,(l.map fun x=>[Lit.int IntKind.u8 (x.toNat:Int)]).flatten=l.map fun x=>Lit.int IntKind.u8 (x.toNat:Int):=fun l=>by
  induction l with
  | nil=>rfl
  | cons x r ih=>rw[map_cons,map_cons,flatten_cons,ih];rfl
 have hm0:=hm n s 0 (by rw[drop_zero];exact take_of_length_le (by omega)) hs;rw[range_eq_range',hm0,Option.map_some,hf]
theorem IH{a b:Bs}(h:(a.map fun x=>Lit.int IntKind.u8 x.toNat)=b.map fun x=>Lit.int IntKind.u8 x.toNat):a=b:=by
 induction a generalizing b with
 | nil=>cases b with
  | nil=>rfl
  | cons y r=>simp at h
 | cons x r ih=>cases b with
  | nil=>simp at h
  | cons y s =>
   simp only[map_cons,List.cons.injEq,Lit.int.injEq,true_and]at h;obtain⟨h1,h2⟩:=h;rw[ih h2,UInt8.toNat_inj.1 (show x.toNat=y.toNat by omega)]
theorem oo{t n:Nat}(ht:Tryz.prog.underlying t=some (.array n 5))(hc:Tryz.prog.cellsOf t=n)(hk:Tryz.prog.keyTypeAt 2 t=true)(hk2:Tryz.prog.keyType t=true)(hsz:Tryz.prog.types.size+1=362+1)(a b:Bs)(ha:a.length=n)(hb:b.length=n)(w:World):(Op.equal t (.agg (ay a)) (.agg (ay b))).run Tryz.prog w=.ok (decide (a=b)) w:=by
 have key:∀s:Bs,s.length=n->keyOf Tryz.prog t (.agg (ay s))=some (.string (keyBytes (s.map fun x=>Lit.int .u8 x.toNat))):=fun s hs=>by
  unfold keyOf;rw[ht];simp only[hk2,Value.formed,ht,hc,bR,hs,beq_self_eq_true,Bool.and_self,if_true];rw[hsz];show(Tryz.prog.keyLits (362-1+2) t (ay s).toList).map _=_;rw[show(ay s).toList=s.map am from rfl,pC ht hc _ s hs];rfl
 obtain⟨r,hr,hiff⟩:=run_equal_deep w (m:=2) (by decide) hk (by rw[ht]) (key a ha) (key b hb);rw[hr];congr 1;rw[Bool.eq_iff_iff,hiff,decide_eq_true_iff];constructor
 ·intro e;have e':keyBytes (a.map fun x=>Lit.int .u8 x.toNat)=keyBytes (b.map fun x=>Lit.int .u8 x.toNat):=by simpa using e
  exact IH (Go.keyLits_inj (pC ht hc 0 a ha) (pC ht hc 0 b hb) e')
 ·rintro rfl;rfl
theorem Eu{t n:Nat}(ht:Tryz.prog.underlying t=some (.array n 5))(hc:Tryz.prog.cellsOf t=n)(hk:Tryz.prog.keyTypeAt 2 t=true)(hk2:Tryz.prog.keyType t=true)(hsz:Tryz.prog.types.size+1=362+1)(a b:Bs)(ha:a.length=n)(hb:b.length=n)(w:World):(binOp .neq t (.agg (ay a)) (.agg (ay b))).run Tryz.prog w=.ok (.bool (!decide (a=b))) w:=by
 simp only[binOp,Sem.run_bind,oo ht hc hk hk2 hsz a b ha hb w,Result.andThen_ok,Sem.run_pure]
theorem JX{t n:Nat}(ht:Tryz.prog.underlying t=some (.array n 5))(hc:Tryz.prog.cellsOf t=n)(hk:Tryz.prog.keyTypeAt 2 t=true)(hk2:Tryz.prog.keyType t=true)(hsz:Tryz.prog.types.size+1=362+1)(a b:Bs)(ha:a.length=n)(hb:b.length=n)(w:World):(binOp .eql t (.agg (ay a)) (.agg (ay b))).run Tryz.prog w=.ok (.bool (decide (a=b))) w:=by
 simp only[binOp,Sem.run_bind,oo ht hc hk hk2 hsz a b ha hb w,Result.andThen_ok,Sem.run_pure]
theorem wI(a b:Bs)(ha:a.length=128)(hb:b.length=128)(w:World):(binOp .neq 42 (.agg (ay a)) (.agg (ay b))).run Tryz.prog w=.ok (.bool (!decide (a=b))) w :=
 Eu Tryz.underlying42 (by kernel_rfl) (by kernel_rfl) (by kernel_rfl) (by kernel_rfl) a b ha hb w
theorem Ev(a b:Bs)(ha:a.length=128)(hb:b.length=128)(w:World):(binOp .neq 43 (.agg (ay a)) (.agg (ay b))).run Tryz.prog w=.ok (.bool (!decide (a=b))) w :=
 Eu Tryz.underlying43 (by kernel_rfl) (by kernel_rfl) (by kernel_rfl) (by kernel_rfl) a b ha hb w
theorem Ej(a b:Bs)(ha:a.length=128)(hb:b.length=128)(w:World):(binOp .eql 43 (.agg (ay a)) (.agg (ay b))).run Tryz.prog w=.ok (.bool (decide (a=b))) w :=
 JX Tryz.underlying43 (by kernel_rfl) (by kernel_rfl) (by kernel_rfl) (by kernel_rfl) a b ha hb w
theorem kV{t:Nat}(hg:Tryz.prog.eqGuardType Tryz.prog.depth t=false)(b:BinOp)(x y:Operand)(A B:Array Value)(w:World):(eqGuard b t x y (.agg A) (.agg B)).run Tryz.prog w=.ok () w:=by
 have hp:∀w,Sem.run Tryz.prog program w=.ok Tryz.prog w:=fun _=>rfl
 have h1:(!Tryz.prog.eqGuardType Tryz.prog.depth t)=true:=by rw[hg];rfl
 cases b<;>first|rfl|(unfold eqGuard;simp only[Bool.not_true,Bool.false_eq_true,if_false,Sem.run_bind,hp,Result.andThen_ok,h1,if_true,Sem.run_pure])
theorem se{ops:Array Oper}{w:World}{Q:Act->Prop}{a:Act}{op:Oper}{rest:List Oper}(hgd:op.guard=none)(b:BinOp)(t:TypeId)(x y:Operand)(ty:TypeId)(ho:op.op=.binOp b t x y ty)(hg:Tryz.prog.eqGuardType Tryz.prog.depth t=false)(A B:Array Value)(v:Value)(hn:(binOp b t (.agg A) (.agg B)).run Tryz.prog w=.ok v w)(hx:a.eval x=.agg A)(hy:a.eval y=.agg B)(h:wpStill Tryz.prog ops w Q rest (a.put op.dst v)):wpStill Tryz.prog ops w Q (op::rest) a:=by
 refine wpStill_step (fun K hK=>?_);have hw:Region.wanted op (yielded ops a.tmps)=true:=by simp[Region.wanted,hgd]
 rw[if_pos hw];unfold Oper.still execOp;simp only[ho,hx,hy,Sem.run_bind,kV hg,Result.andThen_ok,hn,Oper.stillUpon,Sem.run_pure];exact⟨trivial,hK _ h⟩
theorem mi{ops:Array Oper}{w:World}{Q:Exit->Act->World->Prop}{a:Act}{op:Oper}{rest:List Oper}(hgd:op.guard=none)(b:BinOp)(t:TypeId)(x y:Operand)(ty:TypeId)(ho:op.op=.binOp b t x y ty)(hg:Tryz.prog.eqGuardType Tryz.prog.depth t=false)(A B:Array Value)(v:Value)(hn:(binOp b t (.agg A) (.agg B)).run Tryz.prog w=.ok v w)(hx:a.eval x=.agg A)(hy:a.eval y=.agg B)(h:wpList Tryz.prog ops Q rest (a.put op.dst v) w):wpList Tryz.prog ops Q (op::rest) a w:=by
 refine wpList_plain hgd fun K hK=>?_
 unfold Oper.wp execOp;simp only[ho,hx,hy,Sem.run_bind,kV hg,Result.andThen_ok,hn,Sem.run_pure];exact hK _ _ h
theorem Bf(ad:Addr)(len cap:Nat)(h:128<=len)(w:World):(Instr.arrayAt 42 (.slice (some ad) len cap)).run Tryz.prog w=.ok (.pointer (some ad)) w:=by
 have h':¬len<128:=by omega
 unfold Instr.arrayAt;simp[run_underlying Tryz.underlying42,h']
theorem sd{ops:Array Oper}{w:World}{Q:Act->Prop}{a:Act}{op:Oper}{rest:List Oper}(hgd:op.guard=none)(x:Operand)(ho:op.op=.sliceToArrayPointer 42 x)(ad:Addr)(len cap:Nat)(hl:128<=len)(hx:a.eval x=.slice (some ad) len cap)(h:wpStill Tryz.prog ops w Q rest (a.put op.dst (.pointer (some ad)))):wpStill Tryz.prog ops w Q (op::rest) a:=by
 refine wpStill_step (fun K hK=>?_);have hw:Region.wanted op (yielded ops a.tmps)=true:=by simp[Region.wanted,hgd]
 rw[if_pos hw];unfold Oper.still execOp;simp only[ho,hx,Sem.run_bind,Bf ad len cap hl,Result.andThen_ok,Oper.stillUpon,Sem.run_pure];exact⟨trivial,hK _ h⟩
theorem Ek:Tryz.prog.eqGuardType Tryz.prog.depth 42=false:=by kernel_rfl
theorem ll:Tryz.prog.eqGuardType Tryz.prog.depth 43=false:=by kernel_rfl
theorem cR(d:Nat)(A:AreaL):(aE d A).toList=[Value.pointer (some ⟨d,0,none⟩),.int .i64 A.first,.int .i64 A.count,.int .i64 A.end_]++(A.tail.map am++[.chan (some A.ch)]):=by simp[aE,ay]
theorem tf(d:Nat)(A:AreaL)(e:Nat):(aE d A).setIfInBounds 3 (.int .i64 e)=aE d { A with end_:=e }:=by
 apply Array.ext';rw[Array.toList_setIfInBounds,cR,cR];rfl
theorem qB(d:Nat)(A:AreaL)(s:Bs)(hs:s.length<=A.tail.length):(spl (aE d A).toList 4 (s.map am)).toArray=aE d { A with tail:=aV A.tail 0 s }:=by
 apply Array.ext';rw[cR];show spl _ 4 _=_;generalize hh:[Value.pointer (some ⟨d,0,none⟩),Value.int .i64 A.first,Value.int .i64 A.count,Value.int .i64 A.end_]=hd;have hl:hd.length=4:=by rw[<- hh];rfl
 unfold spl;rw[take_left' hl,<- hl,<- drop_drop,drop_left' rfl,drop_append_of_le_length (by simpa using hs)];rw[cR];simp[aV,hh]
theorem lh{w w':World}{ab d:Nat}{A A':AreaL}{R:HF}(h:Sat w (aq ab d A++R))(hm:Mods (fun k=>k=ab) w w')(hc:w'.heap[ab]?=some (.cells (aE d A') 157 (0,0)))(h1:A'.ch=A.ch)(h2:A'.spare=A.spare):
  Turns (aq ab d A++R) (aq ab d A'++R) w w':=by
 have:=(Turns.refl h).Qa hm hc;unfold aq;rw[h1,h2];exact this
theorem oD{w:World}{ab d:Nat}{A:AreaL}{t:TypeId}{fz:Nat×Nat}(h:w.heap[ab]?=some (.cells (aE d A) t fz)):w.rangeAt ab 4 (A.tail.map am):=fun j v hv=>by
 refine aa h (4+j) ?_
 rw[<- Array.getElem?_toList,cR,getElem?_append_right (by simp)]
 rw[getElem?_append_left (by have:=(List.getElem?_eq_some_iff.1 hv).1;simpa[Nat.add_sub_cancel_left]using this)]
 simpa[Nat.add_sub_cancel_left]using hv
theorem jW(d:Nat)(A:AreaL):(aE d A).size=A.tail.length+5:=by simp[aE,bR];omega
theorem DI(L:List Value)(o:Nat)(v:List Value):splice L o v=spl L o v:=by simp[splice,spl]
theorem Cj(d:Nat)(A:AreaL)(e:Nat)(s t:Bs)(hs:s.length<=128)(ht:t=s++ak (128-s.length)):
  (splice (aE d { A with end_:=e,tail:=ak 128 }).toList 4 (s.map am)).toArray=aE d { A with end_:=e,tail:=t }:=by
 have e2:aV (ak 128) 0 s=t:=by
  rw[ht];unfold aV;rw[take_zero,nil_append,Nat.zero_add];congr 1;unfold ak;rw[drop_replicate]
 rw[DI,qB d { A with end_:=e,tail:=ak 128 } s (by rw[an];exact hs),e2]
def fZ(l:Bs)(first q:Nat)(t:Bs):Nat->Bs
 | 0=>l
 | m+1=>aV (fZ l first q t m) (128*(first+q+m)) (if m=0 then t else ak 128)
theorem jB{l t:Bs}{n first q:Nat}(hl:l.length=128*n)(ht:t.length=128)(m:Nat)(h:first+q+m<=n):(fZ l first q t m).length=128*n:=by
 induction m with
 | zero=>exact hl
 | succ m ih =>
  rw[fZ,jF]
  ·exact ih (by omega)
  ·rw[ih (by omega)];split<;>simp[ht,an]<;>omega
def xz(ab d:Nat)(A:AreaL)(L:DevL)(end_:Nat)(ws:Bs)(w:World)(e:Ending)(w':World):Prop :=
 e=.returned .nilIface/\∃L',Turns (aq ab d A++az d L) (aq ab d { A with end_:=end_,tail:=((ws.take end_).drop (128*(end_ / 128))++ak (128-end_%128)) }++az d L') w w'/\DevOk L'/\L'.n=L.n /\
  L'.now=fZ L.now A.first (end_ / 128) ((ws.take end_).drop (128*(end_ / 128))++ak (128-end_%128)) (A.count-end_ / 128)/\L'.safe=L'.now/\L'.chs=[]
theorem nM:Tryz.prog.built 43 []=some (ay (ak 128)):=by kernel_rfl
def ce(t:Bs)(m:Nat):Bs:=if m=0 then t else ak 128
theorem fK{t:Bs}(ht:t.length=128)(m:Nat):(ce t m).length=128:=by unfold ce;split;exact ht;exact an _
def sL(ab d T:Nat)(A A1:AreaL)(L:DevL)(q:Nat)(t:Bs)(w:World)(i:Value)(wr:World):Prop :=
 ∃(m:Nat) (L':DevL),q+m<=A.count/\i=.int .i64 ((q+m:Nat):Int)/\Turns (aq ab d A++az d L) ((T,Is (.cells (ay (ce t m)) 43 (0,0)))::(aq ab d A1++az d L')) w wr /\
  DevOk L'/\L'.n=L.n/\L'.now=fZ L.now A.first q t m/\L'.chs.length<=L.chs.length+m
theorem pN{ab d:Nat}{A A1:AreaL}{L:DevL}{q:Nat}{t:Bs}{w w3:World}(hq:q<=A.count)(hT:Turns (aq ab d A++az d L) (aq ab d A1++az d L) w w3)(hL:DevOk L)(ht:t.length=128):
  sL ab d w3.heap.size A A1 L q t w (.int .i64 q) ((w3.alloc (.cells eI 43)).setCells w3.heap.size 0 (t.map am)):=by
 obtain⟨h1,h2⟩:=dJ (aK w3 (.cells (ay (ak 128)) 43)) (s:=t) (by rw[ht,an]);exact⟨0,L,hq,rfl,(hT.Q8 (.cells (ay (ak 128)) 43)).Qa h2 h1,hL,rfl,rfl,Nat.le_refl _⟩
theorem Dp{l s:Bs}{o:Nat}(h:(l.drop o).take s.length=s)(_:o+s.length<=l.length):aV l o s=l:=by
 unfold aV
 have e:l.drop o=s++l.drop (o+s.length):=by
  rw[<- take_append_drop s.length (l.drop o),h,drop_drop]
 rw[append_assoc,<- e,take_append_drop]
theorem Bk{l t:Bs}{n first q:Nat}(hl:l.length=128*n)(ht:t.length=128)(k:Nat):∀m,first+q+m<=n->first+q+m<=k->aC (fZ l first q t m) k=aC l k:=by
 intro m;induction m with
 | zero=>intro _ _;rfl
 | succ m ih =>
  intro h1 h2;rw[fZ,<- ih (by omega) (by omega)];have hw:(if m=0 then t else ak 128).length=128:=fK ht m;have hlen:=jB hl ht (q:=q) (first:=first) m (by omega);unfold aC aV;congr 1;rw[drop_append,drop_of_length_le (by simp[hw];omega),nil_append,drop_drop];congr 1;simp only[length_append,length_take,hw,hlen];omega
theorem zP{ab d T:Nat}{A A1:AreaL}{L L':DevL}{q m:Nat}{t:Bs}{w wr w4:World}(hT:Turns (aq ab d A++az d L) ((T,Is (.cells (ay (ce t m)) 43 (0,0)))::(aq ab d A1++az d L')) w wr)(hL':DevOk L')(hn:L'.n=L.n)(hnow:L'.now=fZ L.now A.first q t m)(hch:L'.chs.length<=L.chs.length+m)(hm:q+m<A.count)(hA:A.first+A.count<=L.n)(hLn:L.now.length=128*L.n)(ht:t.length=128)(heq:aC L.now (A.first+(q+m))=ce t m)(hs:w4=(wr.drew.setCells T 0 ((ak 128).map am)))(i:Value)(hi:i=.int .i64 (((q+m:Nat):Int)+1)):sL ab d T A A1 L q t w i w4:=by
 have hTd:=hT.drew;have hb:=hTd.sat.Q5;obtain⟨h1,h2⟩:=dJ hb (s:=ak 128) (by rw[an,fK ht]);subst hs;refine⟨m+1,L',by omega,by rw[hi];congr 1,?_,hL',hn,?_,by omega⟩
 ·rw[show ce t (m+1)=ak 128 from rfl];exact hTd.Qa h2 h1
 ·rw[fZ,hnow];have hw:=fK ht m;refine(Dp (s:=ce t m) ?_ ?_).symm
  ·have:=Bk hLn ht (A.first+(q+m)) (first:=A.first) (q:=q) m (by omega) (by omega);rw[hw,show A.first+q+m=A.first+(q+m) by omega];rw[heq]at this;exact this
  ·rw[hw,jB hLn ht m (by omega)];omega
theorem wm{ab d T:Nat}{A A1:AreaL}{L L' L2:DevL}{q m:Nat}{t:Bs}{w wr w4 w5:World}(hT:Turns (aq ab d A++az d L) ((T,Is (.cells (ay (ce t m)) 43 (0,0)))::(aq ab d A1++az d L')) w wr)(hW:Turns (az d L') (az d L2) wr.drew.drew w4)(hL2:DevOk L2)(hn:L'.n=L.n)(hn2:L2.n=L'.n)(hnow:L'.now=fZ L.now A.first q t m)(hnow2:L2.now=aV L'.now (128*(A.first+(q+m))) (ce t m))(hch:L'.chs.length<=L.chs.length+m)(hch2:L2.chs.length=L'.chs.length+1)(hm:q+m<A.count)(ht:t.length=128)(hs:w5=w4.setCells T 0 ((ak 128).map am))(i:Value)(hi:i=.int .i64 (((q+m:Nat):Int)+1)):sL ab d T A A1 L q t w i w5:=by
 have p:∀X:HF,((T,Is (.cells (ay (ce t m)) 43 (0,0)))::(aq ab d A1++X)).Perm (X++((T,Is (.cells (ay (ce t m)) 43 (0,0)))::aq ab d A1)):=fun X =>
  (perm_append_comm (l₁:=(T,Is (.cells (ay (ce t m)) 43 (0,0)))::aq ab d A1) (l₂:=X))
 have hTd:=hT.drew.drew;have h4:=hTd.trans ((hW.frame (hTd.sat.perm (p _))).perm (p _).symm (p _).symm);obtain⟨h1,h2⟩:=dJ h4.sat.Q5 (s:=ak 128) (by rw[an,fK ht]);subst hs;refine⟨m+1,L2,by omega,by rw[hi];congr 1,?_,hL2,by omega,?_,by omega⟩
 ·rw[show ce t (m+1)=ak 128 from rfl];exact h4.Qa h2 h1
 ·rw[hnow2,hnow,fZ,show A.first+(q+m)=A.first+q+m by omega];rfl
theorem Ee{F:HF}{ab d T:Nat}{A1:AreaL}{φ:Obj->Prop}{L' L2:DevL}{w wr w4:World}(hT:Turns F ((T,φ)::(aq ab d A1++az d L')) w wr)(hF:Turns (az d L') (az d L2) wr w4):Turns F (aq ab d A1++az d L2) w w4:=by
 have p:∀X:HF,((T,φ)::(aq ab d A1++X)).Perm (X++((T,φ)::aq ab d A1)):=fun X=>(perm_append_comm (l₁:=(T,φ)::aq ab d A1) (l₂:=X))
 have h4:=hT.trans ((hF.frame (hT.sat.perm (p _))).perm (p _).symm (p _).symm);exact Turns.right (G:=[(T,φ)]) h4
theorem qx(ab d:Nat)(A:AreaL)(L:DevL)(end_:Nat)(a:Option Addr)(cap:Nat)(ws:Bs)(w:World)(h:Sat w (aq ab d A++az d L))(hL:DevOk L)(hA:A.first+A.count<=L.n)(hn:L.n<=1073741824)(hao:AreaOk A)(hw:al w a (ws.map am))(hne:∀x,a=some x->x.block∉dom (aq ab d A++az d L))(hwl:ws.length=128*A.count)(hcap:ws.length<=cap)(hcap2:cap<=9223372036854775807)(hpos:0<A.count)(he:end_<=128*A.count)(hch:L.chs.length<=137438953472)(hok:∀m,end_ / 128+m<A.count->aC ws (end_ / 128+m)=(if m=0 then((ws.take end_).drop (128*(end_ / 128))++ak (128-end_%128))else ak 128)->aC L.now (A.first+(end_ / 128+m))=(if m=0 then((ws.take end_).drop (128*(end_ / 128))++ak (128-end_%128))else ak 128)):
  Calls Tryz.prog 56 #[.pointer (some ⟨ab,0,none⟩),.int .i64 end_,.slice a ws.length cap] w (xz ab d A L end_ ws w):=by
 unfold xz;obtain⟨g,off,rfl,_⟩:=hw (by rw[length_map];omega);have hab:=iq h;have c3:=aa hab 3 (no d A);have f3:=bf hab 3;have hset3:(w.setCell ⟨ab,3,none⟩ (.int .i64 end_)).heap[ab]?=some (.cells (aE d { A with end_:=end_ }) 157 (0,0)):=by rw[bB hab 3,tf]
 have hT1:=lh h ((Mods.refl (fun k=>k=ab) w).set1 (i:=3) (.int .i64 end_)) hset3 rfl rfl;obtain⟨hs4,hm4⟩:=fm (C:=(aE d { A with end_:=end_ }).toList) (by simpa using hset3) 4 ((ak 128).map am) (by rw[length_map,an,Array.length_toList,jW,hao.tail];omega);rw[qB _ _ _ (by show _<=A.tail.length;rw[an,hao.tail];omega)]at hs4;have hth4:(w.setCell ⟨ab,3,none⟩ (.int .i64 end_)).there ab 4 128:=dm hset3 4 128 (by rw[jW];show _<=A.tail.length+5;rw[hao.tail];omega);have hpf:aV A.tail 0 (ak 128)=ak 128:=by simp[aV,an,hao.tail]
 simp only[hpf]at hs4;have hT2:=hT1.trans (lh (A':={ A with end_:=end_,tail:=ak 128 }) hT1.sat hm4 hs4 rfl rfl);obtain⟨q,hq⟩:∃q,end_ / 128=q:=⟨_,rfl⟩;obtain⟨r,hr⟩:∃r,end_%128=r:=⟨_,rfl⟩;obtain⟨lo,hlo⟩:∃lo,128*q=lo:=⟨_,rfl⟩;have hrl:r<128:=by omega
 have hle:lo+r=end_:=by omega
 have hwe:end_<=ws.length:=by omega
 have i1:((end_:Int)%128)=(r:Int):=by omega
 have i2:((end_:Int) / 128)=(q:Int):=by omega
 have i3:((end_:Int)-(r:Int))=(lo:Int):=by omega
 have hcs:((ws.drop lo).take r).length=r:=by simp;omega
 rw[hq,hr]at hok ⊢;have HWL:=Hq6 hwl hq hr hlo hle hcs;have hlow:lo<=end_:=by omega
 have hqc:q<=A.count:=by omega
 clear hwl hq hr hlo hle hcs;have H:=Hq8 h hL hw hne hok hT2 hs4 hth4;have HZ:=qqH nM;have hz:=nN;clear h hL hw hne hok hT1 hT2 hs4 hm4 hset3 hth4 hab;go_enter Tryz.func56,Tryz.ntmps56;go_wp2_with (first|(refine bU rfl 43 #[] rfl (ay (ak 128)) HZ.out ?_)|(refine wpList_store_mid rfl 43 (.tmp 17) (.tmp 15) rfl ab 4 (ay (ak 128)) rfl rfl (by rw[bR,an];exact H.t) (ii (an 128)) (cU _) ?_));obtain⟨w2,hw2⟩:∃w2,w2=(w.setCell ⟨ab,3,none⟩ (.int .i64 end_)).setCells ab 4 ((ak 128).map am):=⟨_,rfl⟩;have hT2:=H.f;have hc2:=H.g;rw[<- hw2]at hT2 hc2;change Code.wp _ _ _ _ ((w.setCell ⟨ab,3,none⟩ (.int .i64 end_)).setCells ab 4 ((ak 128).map am));rw[<- hw2];have H2:=Hq2 hT2 hc2;clear hT2 hc2 hw2;have j1:((end_:Int)).tmod 128=(r:Int):=by rw[Int.tmod_eq_emod_of_nonneg (by omega)];exact i1
 have j2:IntKind.i64.wrap (lo:Int)=(lo:Int):=IntWalk.i64_in _ (by omega);have j3:(lo:Int)<=(end_:Int):=by omega
 have j4:(end_:Int)<=(cap:Int):=by omega
 obtain⟨t,ht⟩:∃t:Bs,t=(ws.drop lo).take r++ak (128-r):=⟨_,rfl⟩;have htl:t.length=128:=by rw[ht,length_append,HWL.v,an];omega
 have htw:t=(ws.take end_).drop (128*q)++ak (128-r):=by rw[ht,drop_take,HWL.d];congr 2;have:=HWL.e;omega
 have hcp:∀w3,w3.heap[ab]?=some (.cells (splice (aE d { A with end_:=end_,tail:=ak 128 }).toList 4 (((ws.drop lo).take r).map am)).toArray 157 (0,0))->Mods (fun k=>k=ab) w2 w3 ->
   w3.heap[ab]?=some (.cells (aE d { A with end_:=end_,tail:=t }) 157 (0,0))/\Turns (aq ab d A++az d L) (aq ab d { A with end_:=end_,tail:=t }++az d L) w w3:=fun w3 hh hm=>by
  have hc:w3.heap[ab]?=some (.cells (aE d { A with end_:=end_,tail:=t }) 157 (0,0)):=by
   rw[hh,Cj d A end_ _ t (by rw[HWL.v];omega) (by rw[HWL.v];exact ht)]
  exact⟨hc,(H2.a).trans (lh H2.a.sat hm hc rfl rfl)⟩
 have HT:=Hq3 htw hcp ht;have hsz8:(Tryz.prog.info? 5).map (·.size)=some 1:=by kernel_rfl
 have HS8:=qqH hsz8;clear htw hcp ht hsz8;by_cases hcl:cap=lo
 ·have HR0:Hid (r=0):=qqH (by have:=HWL.e;omega);have hcl':=hcl.symm;clear hcl;subst hcl';refine wp_region_still_tail 11 HM.out (by kernel_rfl) ?_;simp only[QE,take_zero,QD,drop_zero];repeat still_step
  refine wpStill_nil ?_;change wpList _ _ _ _ _ w2.drew;refine iJ rfl (.tmp 21) (.tmp 28) 38 38 rfl 5 Tryz.underlying38 HS8.out _ _ _ _ _ _ rfl rfl ab 4 (aE d { A with end_:=end_,tail:=ak 128 }).toList 157 (by rw[Array.toArray_toList];exact H2.z) (((ws.drop lo).take r).map am) ?d1 ?d2 ?d3 (dA _) ?d4
  case d1=>rw[length_map,HWL.v];have:=HWL.e;show r=min (end_-lo) 128;omega
  case d2 =>
   intro hp;rw[length_map,HWL.v]at hp;have:=HR0.out;omega
  case d3=>rw[length_map,HWL.v];simp[cR,an];omega
  case d4 =>
   intro w3 hh hm hsz3;clear hsz3;obtain⟨hc3,hT3⟩:=HT.b w3 hh ((Mods.refl _ w2).drew.trans hm);have H3:=Hq2 hc3 hT3;have HTL:=qqH htl;clear hc3 hT3 hh hm c3 f3 i1 i3 j1 j2 j3 j4 htl;go_wp2_with (first|(refine wpList_load_mid rfl 43 (.tmp 32) rfl ab 4 rfl (t.map am) _ (oD H3.a) Tryz.underlying43 rfl (ig HTL.out) ?_)|(refine wpList_store_mid rfl 43 (.tmp 7) (.tmp 33) rfl w3.heap.size 0 (t.map am).toArray rfl rfl ?d5 (ii HTL.out) (cU _) ?_))
   case d5=>exact dm (aK w3 _) 0 _ (by rw[show eI=ay (ak 128)from rfl,bR,an];simp[HTL.out])
   have hst:=pN (q:=q) hqc H3.z H.b HTL.out;have hne':H3.out=H3.out:=rfl;generalize hTT:w3.heap.size=T at hst ⊢;generalize (w3.alloc (.cells eI 43)).setCells T 0 (t.map am)=W0 at hst ⊢;have HST:=qqH hst;clear hst hTT hne' i2;go_loopw [8] (fun i wr=>sL ab d T A { A with end_:=end_,tail:=t } L q t w i wr) (fun i _=>A.count-(intOf i).toNat)
   case atStart=>exact HST.out
   case round =>
    obtain⟨m,L',hqm,rfl,hT',hL',hn',hnow',hch'⟩:=hrel;obtain⟨k,hk⟩:∃k,q+m=k:=⟨_,rfl⟩;have hab':=iq hT'.sat.tail;have a0:=aa hab' 0 (lB d _);have a1:=aa hab' 1 (lC d _);have a2:=aa hab' 2 (sw d _);simp only at a1 a2;have hTb:=hT'.sat.Q5;by_cases hlt:k<A.count
    ·have hcw:=H.c.keep (w':=wr) hT'.mods (fun g' off' e hin=>H.d _ e hin);obtain⟨g',off',e',hcl'⟩:=hcw (by rw[length_map,HWL.a];omega);simp only[Option.some.injEq,Addr.mk.injEq,and_true]at e';obtain⟨rfl,rfl⟩:=e';have hws:128*k+128<=ws.length:=by rw[HWL.a];omega
     have hrg:wr.rangeAt g (off+k*128) ((aC ws k).map am):=fun j v hv=>by
      obtain⟨hj,rfl⟩:=List.getElem?_eq_some_iff.1 hv;have hj':j<128:=by simp[aC]at hj;omega
      rw[show off+k*128+j=off+(k*128+j) by omega];refine(hcl' (k*128+j) (by rw[length_map];omega)).trans ?_;simp[aC,Nat.mul_comm]
     have hsl:(aC ws k).length=128:=by simp[aC];omega
     obtain⟨kk,hkk⟩:∃kk,k*128=kk:=⟨_,rfl⟩;have p1:((k:Int)*128)=(kk:Int):=by omega
     have p2:IntKind.i64.wrap (kk:Int)=(kk:Int):=IntWalk.i64_in _ (by omega);have p3:(kk:Int)<=(ws.length:Int):=by omega
     have p4:(ws.length:Int)<=(lo:Int):=by omega
     have p5:¬lo=kk:=by omega
     have p6:128<=ws.length-kk:=by omega
     rw[hkk]at hrg;have hkq:(k:Int)<(A.count:Int):=by omega
     have hwt:=fK HTL.out m;have hrT:wr.rangeAt T 0 ((ce t m).map am):=by have:=et hTb 0 128;rwa [drop_zero,take_of_length_le (by omega)]at this
     have hcmp:=wI (aC ws k) (ce t m) hsl hwt;have HR:=qqH (And.intro hT' (And.intro hL' (And.intro hn' (And.intro hnow' (And.intro hch' (And.intro hrg (And.intro hrT (And.intro hcmp (And.intro hsl (And.intro hwt hk))))))))));have HK:=qqH hkk;clear hT' hL' hn' hnow' hch' hrg hrT hcmp hsl hwt hcl' hcw hTb hab' hkk hqm;simp only[hk];clear hk HST;have hal:ab<wr.heap.size:=World.block_lt_of_cell? wr _ a0;go_wp2_with fail;refine wp_region_still_lit HM.out (by kernel_rfl) ?_;repeat still_step
     refine sd rfl (.tmp 47) rfl _ _ _ p6 rfl ?_;refine cC rfl 42 (.tmp 48) rfl g (off+kk) rfl ((aC ws k).map am) _ HR.f Tryz.underlying42 rfl (by rw[length_map,HR.out.2.2.2.2.2.2.2.2.1];kernel_rfl) ?_;refine cC rfl 43 (.tmp 7) rfl T 0 rfl ((ce t m).map am) _ HR.g Tryz.underlying43 rfl (ig HR.out.2.2.2.2.2.2.2.2.2.1) ?_;refine se rfl .neq 42 (.tmp 49) (.tmp 50) _ rfl Ek _ _ _ (HR.h _) rfl rfl ?_;refine wpStill_nil ?_;change Exit.then _ _ _ _ wr.drew
     simp only[Act.put,QA,QB,QC];by_cases heq:aC ws k=ce t m
     ·have hd0:(!decide (aC ws k=ce t m))=false:=by simp[heq]
      have hok:=H.e m;rw[HR.out.2.2.2.2.2.2.2.2.2.2]at hok;have hth:wr.drew.there T 0 128:=(World.there_drew _ _ _ _).2 (fJ HR.a.sat.Q5 0 128 (by rw[HR.out.2.2.2.2.2.2.2.2.2.1];omega));have hsk:=fun w4 hs i hi=>zP (w4:=w4) HR.a HR.b HR.c HR.d HR.e (by rw[HR.out.2.2.2.2.2.2.2.2.2.2];omega) hA H.b.nowL HTL.out (by rw[HR.out.2.2.2.2.2.2.2.2.2.2];exact(hok (by omega) (heq.trans (by rw[<- HT.a];rfl))).trans (by rw[<- HT.a];rfl)) hs i hi
      have HSK:=qqH hsk;have HTH:=qqH hth;rw[hd0];clear hok hth hsk heq p5 p6 hd0;go_wp2_with (first|(refine bU rfl 43 #[] rfl (ay (ak 128)) HZ.out ?_)|(refine wpList_store_mid rfl 43 (.tmp 7) (.tmp 67) rfl T 0 (ay (ak 128)) rfl rfl ?d6 (ii (an 128)) (cU _) ?_))
      case d6=>rw[bR,an];exact HTH.out
      go_roundw
      case rel=>exact HSK.out _ rfl _ (by rw[HR.out.2.2.2.2.2.2.2.2.2.2])
      case measure=>simp[intOf];omega
     ·have hd0:(!decide (aC ws k=ce t m))=true:=by simp[heq]
      have a0':wr.drew.cell? ⟨ab,0,none⟩=some (.pointer (some ⟨d,0,none⟩)):=a0;have a1':wr.drew.cell? ⟨ab,1,none⟩=some (.int .i64 A.first):=a1;have q1:IntKind.i64.wrap ((A.first:Int)+(k:Int))=(A.first:Int)+(k:Int):=IntWalk.i64_in _ (by omega);have hrT2:wr.drew.rangeAt T 0 ((ce t m).map am):=(World.rangeAt_drew _ _ _ _).2 HR.g;have HT2:=qqH hrT2
      have HWr:Hid (∀W,Sat W (az d L')->Calls Tryz.prog 18 #[.pointer (some ⟨d,0,none⟩),.int .i64 ((A.first:Int)+k),.agg ((ce t m).map am).toArray] W (jM d L' (A.first+k) (ce t m) W)):=qqH (fun W hW=>by
       have:=jj d L' (A.first+k) (ce t m) W hW HR.b (by rw[HR.c];omega) HR.out.2.2.2.2.2.2.2.2.2.1 (by have:=HR.e;have:=HR.out.2.2.2.2.2.2.2.2.2.2;omega);exact this)
      rw[hd0];clear heq p5 p6 hd0 hrT2;obtain⟨wd,hwd⟩:∃wd,wd=wr.drew:=⟨_,rfl⟩;rw[<- hwd]at a0' a1' HT2 ⊢;have HWD:=qqH hwd;clear hwd;go_wp2_with fail;refine wp_region_still_tail 11 HM.out (by kernel_rfl) ?_;simp only[QE,take_zero,QD,drop_zero];iterate 10 still_step
      refine cC rfl 43 (.tmp 7) rfl T 0 rfl ((ce t m).map am) _ HT2.out Tryz.underlying43 rfl (ig HR.out.2.2.2.2.2.2.2.2.2.1) ?_;refine wpStill_nil ?_;simp only[Act.put,QA,QB,QC];change wpList _ _ _ _ _ wd.drew;go_wp2_with fail;have hsd:Sat wd.drew ((T,Is (.cells (ay (ce t m)) 43 (0,0)))::(aq ab d { A with end_:=end_,tail:=t }++az d L')):=by rw[HWD.out];exact(HR.a.drew.drew).sat
      refine(HWr.out _ hsd.tail.right).mono ?_;rintro e w4 ⟨rfl,L2,hW,hL2,hn2,hnow2,hch2⟩;rw[HWD.out]at hW;have hTw:w4.heap[T]?=some (.cells (ay (ce t m)) 43 (0,0)):=hW.mods.at (by have:=(HR.a.drew.drew).sat.Q5;exact this) (fun hin=>(HR.a.drew.drew).sat.notMem (by rw[cJ];exact mem_append_right _ hin));have hwr:=fun w5 hs i hi=>wm (w5:=w5) HR.a hW hL2 HR.c hn2 HR.d (by rw[HR.out.2.2.2.2.2.2.2.2.2.2];exact hnow2) HR.e hch2 (by rw[HR.out.2.2.2.2.2.2.2.2.2.2];omega) HTL.out hs i hi
      have HWF:=qqH hwr;have HTH:=qqH (fJ hTw 0 128 (by rw[HR.out.2.2.2.2.2.2.2.2.2.1];omega));clear hW hL2 hn2 hnow2 hch2 hTw hwr hsd a0' a1' HWr HT2;go_wp2_with (first|(refine bU rfl 43 #[] rfl (ay (ak 128)) HZ.out ?_)|(refine wpList_store_mid rfl 43 (.tmp 7) (.tmp 67) rfl T 0 (ay (ak 128)) rfl rfl ?d7 (ii (an 128)) (cU _) ?_))
      case d7=>rw[bR,an];exact HTH.out
      go_roundw
      case rel=>exact HWF.out _ rfl _ (by rw[HR.out.2.2.2.2.2.2.2.2.2.2])
      case measure=>simp[intOf];omega
    ·obtain rfl:k=A.count:=by omega
     have hch3:L'.chs.length<=1099511627776:=by omega
     have HFl:Hid (∀W,Sat W (az d L')->Calls Tryz.prog 20 #[.pointer (some ⟨d,0,none⟩)] W (kZ d L' W)):=qqH (fun W hW=>ji d L' W hW hL' hch3);have HR:=Hq5 hT' hL' hn' hnow' hk;have hal:ab<wr.heap.size:=World.block_lt_of_cell? wr _ a0;clear hT' hL' hn' hnow' hch' hab' hTb hqm HST;simp only[hk];clear hk;go_wp2_with fail;refine(HFl.out _ HR.a.sat.tail.right).mono ?_;rintro e w4 ⟨rfl,L2,hF,hL2,hn2,hnow2,hsafe2,hch2⟩;have hfin:=Ee HR.a hF;have HFin:=Hq6 hfin hL2 hn2 hnow2 hsafe2 hch2;clear hfin hF hL2 hn2 hnow2 hsafe2 hch2;go_wp2_with fail;go_ret;obtain⟨hfin,hL2,hn2,hnow2,hsafe2,hch2⟩:=HFin.out;have hm:m=A.count-q:=by have:=HR.w;omega
     rw[<- HWL.d]at *
     refine⟨rfl,L2,?_,hL2,hn2.trans HR.c,?_,hsafe2.trans hnow2.symm,hch2⟩
     ·rw[<- HT.a];exact hfin
     ·rw[hnow2,HR.d,hm,HT.a]
 ·refine wp_region_still_tail 11 HM.out (by kernel_rfl) ?_;simp only[QE,take_zero,QD,drop_zero];repeat still_step
  refine wpStill_nil ?_;change wpList _ _ _ _ _ w2.drew;refine iJ rfl (.tmp 21) (.tmp 28) 38 38 rfl 5 Tryz.underlying38 HS8.out _ _ _ _ _ _ rfl rfl ab 4 (aE d { A with end_:=end_,tail:=ak 128 }).toList 157 (by rw[Array.toArray_toList];exact H2.z) (((ws.drop lo).take r).map am) ?c1 ?c2 ?c3 (dA _) ?c4
  case c1=>rw[length_map,HWL.v];have:=HWL.e;show r=min (end_-lo) 128;omega
  case c2 =>
   intro hp;rw[length_map,HWL.v]at hp;refine⟨rfl,⟨g,off+lo,none⟩,by simp[],fun j v hv=>?_⟩;obtain⟨hj,rfl⟩:=List.getElem?_eq_some_iff.1 hv;have hj':j<r:=by rw[length_map,HWL.v]at hj;exact hj
   rw[Addr.add_lit];have hne:=H.d _ rfl
   have hcw:=al.keep (w':=w2) H.c H2.a.mods (fun g' off' e hin=>by
    simp only[Option.some.injEq,Addr.mk.injEq,and_true]at e;exact hne (e.1 ▸ hin))
   obtain⟨g',off',e,hc'⟩:=hcw (by simp;have:=HWL.e;omega);simp only[Option.some.injEq,Addr.mk.injEq,and_true]at e;obtain⟨rfl,rfl⟩:=e;rw[show off+lo+j=off+(lo+j) by omega];refine(hc' (lo+j) (by simp;have:=HWL.e;omega)).trans ?_;simp
  case c3=>rw[length_map,HWL.v];simp[cR,an];omega
  case c4 =>
   intro w3 hh hm hsz3;clear hsz3;obtain⟨hc3,hT3⟩:=HT.b w3 hh ((Mods.refl _ w2).drew.trans hm);have H3:=Hq2 hc3 hT3;have HTL:=qqH htl;clear hc3 hT3 hh hm c3 f3 i1 i3 j1 j2 j3 j4 htl;go_wp2_with (first|(refine wpList_load_mid rfl 43 (.tmp 32) rfl ab 4 rfl (t.map am) _ (oD H3.a) Tryz.underlying43 rfl (ig HTL.out) ?_)|(refine wpList_store_mid rfl 43 (.tmp 7) (.tmp 33) rfl w3.heap.size 0 (t.map am).toArray rfl rfl ?c5 (ii HTL.out) (cU _) ?_))
   case c5=>exact dm (aK w3 _) 0 _ (by rw[show eI=ay (ak 128)from rfl,bR,an];simp[HTL.out])
   have hst:=pN (q:=q) hqc H3.z H.b HTL.out;have hne':H3.out=H3.out:=rfl;generalize hTT:w3.heap.size=T at hst ⊢;generalize (w3.alloc (.cells eI 43)).setCells T 0 (t.map am)=W0 at hst ⊢;have HST:=qqH hst;clear hst hTT hne' i2;go_loopw [8] (fun i wr=>sL ab d T A { A with end_:=end_,tail:=t } L q t w i wr) (fun i _=>A.count-(intOf i).toNat)
   case atStart=>exact HST.out
   case round =>
    obtain⟨m,L',hqm,rfl,hT',hL',hn',hnow',hch'⟩:=hrel;obtain⟨k,hk⟩:∃k,q+m=k:=⟨_,rfl⟩;have hab':=iq hT'.sat.tail;have a0:=aa hab' 0 (lB d _);have a1:=aa hab' 1 (lC d _);have a2:=aa hab' 2 (sw d _);simp only at a1 a2;have hTb:=hT'.sat.Q5;by_cases hlt:k<A.count
    ·have hcw:=H.c.keep (w':=wr) hT'.mods (fun g' off' e hin=>H.d _ e hin);obtain⟨g',off',e',hcl'⟩:=hcw (by rw[length_map,HWL.a];omega);simp only[Option.some.injEq,Addr.mk.injEq,and_true]at e';obtain⟨rfl,rfl⟩:=e';have hws:128*k+128<=ws.length:=by rw[HWL.a];omega
     have hrg:wr.rangeAt g (off+k*128) ((aC ws k).map am):=fun j v hv=>by
      obtain⟨hj,rfl⟩:=List.getElem?_eq_some_iff.1 hv;have hj':j<128:=by simp[aC]at hj;omega
      rw[show off+k*128+j=off+(k*128+j) by omega];refine(hcl' (k*128+j) (by rw[length_map];omega)).trans ?_;simp[aC,Nat.mul_comm]
     have hsl:(aC ws k).length=128:=by simp[aC];omega
     obtain⟨kk,hkk⟩:∃kk,k*128=kk:=⟨_,rfl⟩;have p1:((k:Int)*128)=(kk:Int):=by omega
     have p2:IntKind.i64.wrap (kk:Int)=(kk:Int):=IntWalk.i64_in _ (by omega);have p3:(kk:Int)<=(ws.length:Int):=by omega
     have p4:(ws.length:Int)<=(cap:Int):=by omega
     have p5:¬cap=kk:=by omega
     have p6:128<=ws.length-kk:=by omega
     rw[hkk]at hrg;have hkq:(k:Int)<(A.count:Int):=by omega
     have hwt:=fK HTL.out m;have hrT:wr.rangeAt T 0 ((ce t m).map am):=by have:=et hTb 0 128;rwa [drop_zero,take_of_length_le (by omega)]at this
     have hcmp:=wI (aC ws k) (ce t m) hsl hwt;have HR:=qqH (And.intro hT' (And.intro hL' (And.intro hn' (And.intro hnow' (And.intro hch' (And.intro hrg (And.intro hrT (And.intro hcmp (And.intro hsl (And.intro hwt hk))))))))));have HK:=qqH hkk;clear hT' hL' hn' hnow' hch' hrg hrT hcmp hsl hwt hcl' hcw hTb hab' hkk hqm;simp only[hk];clear hk HST;have hal:ab<wr.heap.size:=World.block_lt_of_cell? wr _ a0;go_wp2_with fail;refine wp_region_still_lit HM.out (by kernel_rfl) ?_;repeat still_step
     refine sd rfl (.tmp 47) rfl _ _ _ p6 rfl ?_;refine cC rfl 42 (.tmp 48) rfl g (off+kk) rfl ((aC ws k).map am) _ HR.f Tryz.underlying42 rfl (by rw[length_map,HR.out.2.2.2.2.2.2.2.2.1];kernel_rfl) ?_;refine cC rfl 43 (.tmp 7) rfl T 0 rfl ((ce t m).map am) _ HR.g Tryz.underlying43 rfl (ig HR.out.2.2.2.2.2.2.2.2.2.1) ?_;refine se rfl .neq 42 (.tmp 49) (.tmp 50) _ rfl Ek _ _ _ (HR.h _) rfl rfl ?_;refine wpStill_nil ?_;change Exit.then _ _ _ _ wr.drew
     simp only[Act.put,QA,QB,QC];by_cases heq:aC ws k=ce t m
     ·have hd0:(!decide (aC ws k=ce t m))=false:=by simp[heq]
      have hok:=H.e m;rw[HR.out.2.2.2.2.2.2.2.2.2.2]at hok;have hth:wr.drew.there T 0 128:=(World.there_drew _ _ _ _).2 (fJ HR.a.sat.Q5 0 128 (by rw[HR.out.2.2.2.2.2.2.2.2.2.1];omega));have hsk:=fun w4 hs i hi=>zP (w4:=w4) HR.a HR.b HR.c HR.d HR.e (by rw[HR.out.2.2.2.2.2.2.2.2.2.2];omega) hA H.b.nowL HTL.out (by rw[HR.out.2.2.2.2.2.2.2.2.2.2];exact(hok (by omega) (heq.trans (by rw[<- HT.a];rfl))).trans (by rw[<- HT.a];rfl)) hs i hi
      have HSK:=qqH hsk;have HTH:=qqH hth;rw[hd0];clear hok hth hsk heq p5 p6 hd0;go_wp2_with (first|(refine bU rfl 43 #[] rfl (ay (ak 128)) HZ.out ?_)|(refine wpList_store_mid rfl 43 (.tmp 7) (.tmp 67) rfl T 0 (ay (ak 128)) rfl rfl ?c6 (ii (an 128)) (cU _) ?_))
      case c6=>rw[bR,an];exact HTH.out
      go_roundw
      case rel=>exact HSK.out _ rfl _ (by rw[HR.out.2.2.2.2.2.2.2.2.2.2])
      case measure=>simp[intOf];omega
     ·have hd0:(!decide (aC ws k=ce t m))=true:=by simp[heq]
      have a0':wr.drew.cell? ⟨ab,0,none⟩=some (.pointer (some ⟨d,0,none⟩)):=a0;have a1':wr.drew.cell? ⟨ab,1,none⟩=some (.int .i64 A.first):=a1;have q1:IntKind.i64.wrap ((A.first:Int)+(k:Int))=(A.first:Int)+(k:Int):=IntWalk.i64_in _ (by omega);have hrT2:wr.drew.rangeAt T 0 ((ce t m).map am):=(World.rangeAt_drew _ _ _ _).2 HR.g;have HT2:=qqH hrT2
      have HWr:Hid (∀W,Sat W (az d L')->Calls Tryz.prog 18 #[.pointer (some ⟨d,0,none⟩),.int .i64 ((A.first:Int)+k),.agg ((ce t m).map am).toArray] W (jM d L' (A.first+k) (ce t m) W)):=qqH (fun W hW=>by
       have:=jj d L' (A.first+k) (ce t m) W hW HR.b (by rw[HR.c];omega) HR.out.2.2.2.2.2.2.2.2.2.1 (by have:=HR.e;have:=HR.out.2.2.2.2.2.2.2.2.2.2;omega);exact this)
      rw[hd0];clear heq p5 p6 hd0 hrT2;obtain⟨wd,hwd⟩:∃wd,wd=wr.drew:=⟨_,rfl⟩;rw[<- hwd]at a0' a1' HT2 ⊢;have HWD:=qqH hwd;clear hwd;go_wp2_with fail;refine wp_region_still_tail 11 HM.out (by kernel_rfl) ?_;simp only[QE,take_zero,QD,drop_zero];iterate 10 still_step
      refine cC rfl 43 (.tmp 7) rfl T 0 rfl ((ce t m).map am) _ HT2.out Tryz.underlying43 rfl (ig HR.out.2.2.2.2.2.2.2.2.2.1) ?_;refine wpStill_nil ?_;simp only[Act.put,QA,QB,QC];change wpList _ _ _ _ _ wd.drew;go_wp2_with fail;have hsd:Sat wd.drew ((T,Is (.cells (ay (ce t m)) 43 (0,0)))::(aq ab d { A with end_:=end_,tail:=t }++az d L')):=by rw[HWD.out];exact(HR.a.drew.drew).sat
      refine(HWr.out _ hsd.tail.right).mono ?_;rintro e w4 ⟨rfl,L2,hW,hL2,hn2,hnow2,hch2⟩;rw[HWD.out]at hW;have hTw:w4.heap[T]?=some (.cells (ay (ce t m)) 43 (0,0)):=hW.mods.at (by have:=(HR.a.drew.drew).sat.Q5;exact this) (fun hin=>(HR.a.drew.drew).sat.notMem (by rw[cJ];exact mem_append_right _ hin));have hwr:=fun w5 hs i hi=>wm (w5:=w5) HR.a hW hL2 HR.c hn2 HR.d (by rw[HR.out.2.2.2.2.2.2.2.2.2.2];exact hnow2) HR.e hch2 (by rw[HR.out.2.2.2.2.2.2.2.2.2.2];omega) HTL.out hs i hi
      have HWF:=qqH hwr;have HTH:=qqH (fJ hTw 0 128 (by rw[HR.out.2.2.2.2.2.2.2.2.2.1];omega));clear hW hL2 hn2 hnow2 hch2 hTw hwr hsd a0' a1' HWr HT2;go_wp2_with (first|(refine bU rfl 43 #[] rfl (ay (ak 128)) HZ.out ?_)|(refine wpList_store_mid rfl 43 (.tmp 7) (.tmp 67) rfl T 0 (ay (ak 128)) rfl rfl ?c7 (ii (an 128)) (cU _) ?_))
      case c7=>rw[bR,an];exact HTH.out
      go_roundw
      case rel=>exact HWF.out _ rfl _ (by rw[HR.out.2.2.2.2.2.2.2.2.2.2])
      case measure=>simp[intOf];omega
    ·obtain rfl:k=A.count:=by omega
     have hch3:L'.chs.length<=1099511627776:=by omega
     have HFl:Hid (∀W,Sat W (az d L')->Calls Tryz.prog 20 #[.pointer (some ⟨d,0,none⟩)] W (kZ d L' W)):=qqH (fun W hW=>ji d L' W hW hL' hch3);have HR:=Hq5 hT' hL' hn' hnow' hk;have hal:ab<wr.heap.size:=World.block_lt_of_cell? wr _ a0;clear hT' hL' hn' hnow' hch' hab' hTb hqm HST;simp only[hk];clear hk;go_wp2_with fail;refine(HFl.out _ HR.a.sat.tail.right).mono ?_;rintro e w4 ⟨rfl,L2,hF,hL2,hn2,hnow2,hsafe2,hch2⟩;have hfin:=Ee HR.a hF;have HFin:=Hq6 hfin hL2 hn2 hnow2 hsafe2 hch2;clear hfin hF hL2 hn2 hnow2 hsafe2 hch2;go_wp2_with fail;go_ret;obtain⟨hfin,hL2,hn2,hnow2,hsafe2,hch2⟩:=HFin.out;have hm:m=A.count-q:=by have:=HR.w;omega
     rw[<- HWL.d]at *
     refine⟨rfl,L2,?_,hL2,hn2.trans HR.c,?_,hsafe2.trans hnow2.symm,hch2⟩
     ·rw[<- HT.a];exact hfin
     ·rw[hnow2,HR.d,hm,HT.a]
def br(e wh:Nat):Bs:=be e 4++be wh 4
def bi(e wh:Nat):Bs:=frame 77 (br e wh)++ak 111
theorem bO(e wh:Nat):(br e wh).length=8:=by simp[br,bE]
theorem bZ(e wh:Nat):(bi e wh).length=128:=by rw[bi,length_append,aJ,bO,an]
theorem tt(n:Nat)(hn:n<4294967296):(be n 4).map am=[.int .u8 ((n:Int) / 16777216),.int .u8 ((n:Int) / 65536%256),.int .u8 ((n:Int) / 256%256),.int .u8 ((n:Int)%256)]:=by
 simp only[be,map_cons,map_nil,am,UInt8.toNat_ofNat'];have e1:((n / 256 ^ 3%2 ^ 8:Nat):Int)=(n:Int) / 16777216:=by omega
 have e2:((n / 256 ^ 2%2 ^ 8:Nat):Int)=(n:Int) / 65536%256:=by omega
 have e3:((n / 256 ^ 1%2 ^ 8:Nat):Int)=(n:Int) / 256%256:=by omega
 have e4:((n / 256 ^ 0%2 ^ 8:Nat):Int)=(n:Int)%256:=by omega
 rw[e1,e2,e3,e4]
theorem iU(w:World)(xs:List Value)(t:TypeId):∀j u,xs[j]?=some u->(w.alloc (.cells xs.toArray t)).cell? ((⟨w.heap.size,0,none⟩:Addr).add j)=some u:=fun j u hu=>by
 rw[Addr.add_mid,Nat.zero_add];exact aa (aK w _) j (by simpa using hu)
theorem qR{w:World}{b e n:Nat}{v:Value}{xs:List Value}(h:w.ownsRow b e 1 v n xs):∃a cap,v=.slice a n cap/\xs.length=n/\n<=cap/\al w a xs/\∀x,a=some x->v.ownBlock=some x.block:=by
 have hl:xs.length=n:=by simpa using h.1
 rcases h.2 with⟨rfl,rfl⟩|⟨g,cap,cur,rfl,hb,hg,hnc,hcm,hcs,htk⟩
 ·exact⟨none,0,rfl,hl,Nat.le_refl _,fun hp=>by omega,fun x hx=>by cases hx⟩
 ·refine⟨_,cap,rfl,hl,hnc,fun _=>⟨g,0,rfl,fun j hj=>?_⟩,fun x hx=>by simp at hx;subst hx;rfl⟩;rw[Nat.zero_add];refine aa hg j ?_;have:(cur.toList.take (n*1))[j]?=some xs[j]:=by rw[htk];simp[hj]
  rw[getElem?_take]at this;split at this
  ·simpa using this
  ·cases this
theorem DW{P:Program}{w:World}{o:Oper}{a:Act}{K:Act->World->Prop}{Q:Exit->Act->World->Prop}(d s:Operand)(dT sT:TypeId)(ho:o.op=.call { callee:=.builtin .copy,args:=#[d,s],argTypes:=#[dT,sT] })(elem:TypeId)(hu:P.underlying dT=some (.slice elem))(hsz:(P.info? elem).map (·.size)=some 1)(dp sp:Option Addr)(dLen dCap sLen sCap:Nat)(hd:a.eval d=.slice dp dLen dCap)(hs:a.eval s=.slice sp sLen sCap)(g off:Nat)(cur:List Value)(t:TypeId)(hg:w.heap[g]?=some (.cells cur.toArray t (0,0)))(cs:List Value)(hn:cs.length=Nat.min sLen dLen)(hpos:0<cs.length->dp=some ⟨g,off,none⟩/\∃ad,sp=some ad/\∀j v,cs[j]?=some v->w.cell? (ad.add j)=some v)(hfit:off+cs.length<=cur.length)(h1:∀v∈cs,v.oneCell'=true)(h:∀w',w'.heap[g]?=some (.cells (splice cur off cs).toArray t (0,0))->Mods (fun k=>k=g) w w'->K (a.put o.dst (goInt cs.length)) w'):Oper.wp P o a w K Q:=by
 by_cases h0:cs.length=0
 ·obtain rfl:cs=[]:=eq_nil_of_length_eq_zero h0;have hrun:=run_copy_none (P:=P) w dT sT o.type elem dp sp dLen dCap sLen sCap hu hsz (by simpa using hn.symm);unfold Oper.wp;simp[execOp,ho,resolve,invoke,builtin,hd,hs,hrun,Result.andThen];exact h w (by simpa[splice]using hg) (Mods.refl _ _)
 ·obtain⟨rfl,ad,rfl,hsrc⟩:=hpos (by omega);have hrun:=run_copy_row (P:=P) w dT sT o.type elem g off dLen dCap ad sLen sCap cur.toArray t cs hu hsz hg hn hsrc (by simpa using hfit) h1;unfold Oper.wp;simp[execOp,ho,resolve,invoke,builtin,hd,hs,hrun,Result.andThen];refine h _ ?_ ?_
  ·simpa[splice]using setRow_heap w g _ _ t _ hg
  ·exact Mods.setRow (S:=fun k=>k=g) (Mods.refl _ _) (.inl rfl) _
def Hg(e wh:Nat)(w:World)(v i:Value)(wr:World):Prop :=
 ∃k:Nat,k<=2/\i=.int .i64 k/\bOk v ((br e wh).take (4*k)) /\
  Turns [] (aI v ((br e wh).take (4*k))++[(w.heap.size+2,Is (.cells eI 43 (0,0))),(w.heap.size+1,Is (.cells eI 43 (0,0)))]) w wr
theorem rV{e wh:Nat}{w wr w3:World}{v v':Value}{k x:Nat}{o:Obj}{ys:List Value}(_:x<4294967296)(hk:k<2)(hs:(br e wh).take (4*(k+1))=(br e wh).take (4*k)++be x 4)(hT:Turns [] (aI v ((br e wh).take (4*k))++[(w.heap.size+2,Is (.cells eI 43 (0,0))),(w.heap.size+1,Is (.cells eI 43 (0,0)))]) w wr)(hy:ys=(be x 4).map am)(hown:w3.ownsRow 0 5 1 v' (((br e wh).take (4*k)).length+4) (((br e wh).take (4*k)).map am++ys))(hgrow:(wr.alloc o).grownBy w3 v.ownBlock)(hg:∀g,v'.ownBlock=some g->v.ownBlock=some g\/(wr.alloc o).heap.size<=g)(i:Value)(hi:i=.int .i64 ((k+1:Nat):Int)):Hg e wh w v' i w3:=by
 subst hy;obtain⟨h1,h2⟩:=jz (hT.alloc o) (n:=4) (by simp[bE]) hown hgrow hg;exact⟨k+1,by omega,hi,by rw[hs];exact h1,by rw[hs];exact h2⟩
theorem vH{e wh:Nat}(h:(frame 77 (br e wh)).length=17):(splice ((ak 128).map am) 0 ((frame 77 (br e wh)).map am)).toArray=ay (bi e wh):=by
 unfold splice bi ay;rw[take_zero,nil_append,length_map,h,<- map_drop,<- map_append,Nat.zero_add];congr 2
def Cc(e wh:Nat)(w:World)(ev:Ending)(w':World):Prop:=ev=.returned (.agg (ay (bi e wh)))/\aX w w'
theorem lX(e wh:Nat)(he:e<4294967296)(hw:wh<4294967296)(w:World):Calls Tryz.prog 98 #[.agg #[.int .u32 e,.int .u32 wh]] w (Cc e wh w):=by
 have hz:=nN;have x0:∀W,(Instr.index 283 (.agg #[.int .u32 e,.int .u32 wh]) (.int .i64 0)).run Tryz.prog W=.ok (.int .u32 e) W:=fun W=>by kernel_rfl
 have x1:∀W,(Instr.index 283 (.agg #[.int .u32 e,.int .u32 wh]) (.int .i64 1)).run Tryz.prog W=.ok (.int .u32 wh) W:=fun W=>by kernel_rfl
 have hst:Turns [] (aI (.slice none 0 0) ((br e wh).take 0)++[(w.heap.size+2,Is (.cells eI 43 (0,0))),(w.heap.size+1,Is (.cells eI 43 (0,0)))]) w (((w.alloc (.cells #[.int .u32 e,.int .u32 wh] 118)).alloc (.cells eI 43)).alloc (.cells eI 43)):=by
  have h:=((((Turns.refl (Sat.nil w)).alloc (.cells #[.int .u32 e,.int .u32 wh] 118)).Q8 (.cells eI 43)).Q8 (.cells eI 43));simp only[World.size_alloc]at h;exact h
 have HST:=qqH hst;clear hst;go_enter Tryz.func98,Tryz.ntmps98;go_wp2_with fail;go_loopw [4,12] (fun v i wr=>Hg e wh w v i wr) (fun _ i _=>2-(intOf i).toNat)
 case atStart=>exact⟨0,by omega,rfl,by simpa using jy,HST.out⟩
 case round =>
  obtain⟨k,hk,rfl,hok,hT⟩:=hrel;by_cases hlt:k<2
  ·obtain⟨i0,hi0,hz1,hz2,hz3⟩:=info_parts j5;have hown:=dr hT.sat.left hok;have hcase:k=0\/k=1:=by omega
   have H:=Hq7 hok hT hown hi0 hz1 hz2 hz3;have hll:((br e wh).take (4*k)).length<=8:=by simp;omega
   clear hok hT hown hi0 hz1 hz2 hz3 HST hz;rcases hcase with rfl|rfl
   all_goals
    go_wp2_with (refine i8 _ rfl (.tmp 15) (.tmp 27) 38 rfl 5 i0 (.int .u8 0) 1 1 Tryz.underlying38 H.d H.e H.f H.u rfl (by decide) _ _ _ rfl (H.c.alloc _) ⟨wr.heap.size,0,none⟩ 4 4 [_,_,_,_] rfl rfl (iU _ _ _) (by simp[Value.oneCell']) (by unfold maxLen;omega) (by omega) ?_;intro v' w3 hown' hgrow _ hgb)
   ·refine⟨rV (k:=0) he hlt (by simp[br,bE]) H.b (tt e he).symm hown' hgrow hgb _ rfl,by simp[intOf]⟩
   ·refine⟨rV (k:=1) hw hlt (by rw[take_of_length_le (by rw[bO];omega)];unfold br;rw[take_left' (by rw[bE])]) H.b (tt wh hw).symm hown' hgrow hgb _ rfl,by simp[intOf]⟩
  ·obtain rfl:k=2:=by omega
   rw[show(br e wh).take (4*2)=br e wh from take_of_length_le (by rw[bO];omega)]at hok hT;have hown:=dr hT.sat.left hok;obtain⟨av,cv,rfl,_,hcv,hca,_⟩:=qR hown;rw[bO]at *
   have H:=Hq3 hok hT hca;clear hok hT hown hca HST x0 x1 hz;go_wp2_with fail
   have HFr:Hid (∀W,al W av ((br e wh).map am)->Calls Tryz.prog 78 #[.int .u8 77,.slice av 8 cv] W (eJ (frame 77 (br e wh)) W)):=qqH (fun W hW=>by
    have:=gX 77 av cv (br e wh) W hW (by rw[bO];omega);rw[bO]at this;exact this)
   have HS8:=qqH (show(Tryz.prog.info? 5).map (·.size)=some 1 by kernel_rfl);refine wp_region_any HM.out ?_;change wpAny _ _ _ _ _ _ _ (World.drew _);refine wpAny_take (i:=0) (v:=?_) rfl (by kernel_rfl) (by kernel_rfl) (by kernel_rfl) (fun _ _ _ h=>h) (Or.inl ⟨by rfl,?_⟩) ?_;rotate_left
   ·intro w;go_simp;try (with_reducible rfl)
   refine wpAny_take (i:=1) (v:=?_) rfl (by kernel_rfl) (by kernel_rfl) (by kernel_rfl) (fun _ _ _ h=>h) (Or.inl ⟨by rfl,?_⟩) ?_;rotate_left
   ·intro w;go_simp;try (with_reducible rfl)
   refine wpAny_ready (rs:=[2]) (by kernel_rfl) (by simp) ?_;refine AllReady.cons rfl (fun K hK=>?_) ?_
   ·go_simp;refine(HFr.out _ (by exact H.y)).mono ?_;rintro ev w2 ⟨v2,rfl,hok2,hT2⟩;obtain⟨a2,c2,rfl,hl2,hc2,hca2,_⟩:=qR (dr hT2.sat hok2);have hfl:(frame 77 (br e wh)).length=17:=by rw[aJ,bO]
    have hb3:w2.heap[w.heap.size+1+1]?=some (.cells ((ak 128).map am).toArray 43 (0,0)):=hT2.news.at (H.b.drew.sat.right.Q5) id;have hb2:w2.heap[w.heap.size+1]?=some (.cells (ay (ak 128)) 43 (0,0)):=hT2.news.at (H.b.drew.sat.right.tail.Q5) id;have hsw:aX w w2:=(H.b.news.drew).trans hT2.news;rw[hfl];have HX:=Hq5 hb3 hb2 hsw hca2 hfl;clear hb3 hb2 hsw hca2 hfl hok2 hT2 hl2;refine hK _ _ ?_;clear hK K;refine wpAny_ready (rs:=[3]) (by kernel_rfl) (by simp) ?_;refine AllReady.cons rfl (fun K hK=>?_) ?_
    ·simp only[getElem_toArray,getElem_cons_succ,getElem_cons_zero];rw[if_pos (by rfl)];refine DW (.tmp 30) (.tmp 32) 38 38 rfl 5 Tryz.underlying38 HS8.out _ _ _ _ _ _ rfl rfl (w.heap.size+1+1) 0 ((ak 128).map am) 43 HX.a ((frame 77 (br e wh)).map am) (by rw[length_map,HX.w];rfl) (fun hp=>⟨rfl,by obtain⟨g,off,hg,hcc⟩:=HX.d (by simpa using hp);exact⟨⟨g,off,none⟩,hg,fun j v hv=>by obtain⟨hj,rfl⟩:=List.getElem?_eq_some_iff.1 hv;rw[Addr.add_mid];exact hcc j hj⟩⟩) (by rw[length_map,length_map,HX.w,an];omega) (dA _) ?_;intro w3 hh hm;have hc3:w3.heap[w.heap.size+1+1]?=some (.cells (ay (bi e wh)) 43 (0,0)):=by rw[hh,vH HX.w]
     have hb2:w3.heap[w.heap.size+1]?=some (.cells (ay (ak 128)) 43 (0,0)):=hm.at HX.b (by omega);have hsw:aX w w3:=HX.c.trans' hm (fun i hi=>.inr (by omega));have HY:=Hq3 hc3 hb2 hsw;clear hc3 hb2 hsw hh hm;simp only[Act.put,QA,QB,QC];refine hK _ _ ?_;clear hK K;refine wpAny_done (by kernel_rfl) ?_ _;go_wp2_with (first|(refine wpList_load_mid rfl 43 (.tmp 3) rfl (w.heap.size+1+1) 0 rfl ((bi e wh).map am) _ (by have:=et HY.a 0 128;rwa [drop_zero,take_of_length_le (by rw[bZ];omega)]at this) Tryz.underlying43 rfl (ig (bZ e wh)) ?_)|(refine wpList_store_mid rfl 43 (.tmp 2) (.tmp 34) rfl (w.heap.size+1) 0 ((bi e wh).map am).toArray rfl rfl ?c5 (ii (bZ e wh)) (cU _) ?_))
     case c5=>rw[show((bi e wh).map am).toArray.size=128 by simp[bZ]];exact fJ HY.b 0 128 (by rw[an];omega)
     obtain⟨q1,q2⟩:=dJ HY.b (s:=bi e wh) (by rw[bZ,an]);refine bodyPost_ret (results_cell_row rfl _ _ (w.heap.size+1) 43 (ay (bi e wh)) (0,0) _ rfl q1 Tryz.underlying43 rfl (ii (bZ e wh))) rfl ⟨rfl,?_⟩;exact HY.y.trans' q2 (fun i hi=>.inr (by omega))
    exact AllReady.nil
   exact AllReady.nil
end
end Go.Proofs.YtdhobpbngkainaaGreatDoor
