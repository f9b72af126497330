/- Ours. A part of the proof, made small by a program. -/
import Derived.WalkKit
import Derived.RangeFuncRecord
import Derived.WalkSpells
import Derived.Lib.Hide
import Derived.WalkLawsBesides
import Derived.Test.YtdhobpbngkainaaGreatDoorProg
import Derived.LaidEql
import Derived.Stop.Asserts
import Derived.RowKitTokens
import Derived.Test.YtdhobpbngkainaaGreatDoorCards
import Derived.Test.YtdhobpbngkainaaGreatDoorTie
import Derived.ProofKit
import Derived.OpenShut
import Derived.Deep.DeepHandedRow
import Derived.Lib.LaidTab
import Derived.LaidHandle
import Derived.Stop.Joined
import Derived.OwnWalkIn
import Derived.Maps.AppendAt
import Derived.Laws.CopyOwn
import Derived.Orders
import Derived.RegionTactic
import Derived.RangeFuncBox
set_option maxRecDepth 100000
set_option maxHeartbeats 4000000
namespace Go.Proofs.YtdhobpbngkainaaGreatDoor
open Go.RowKit
structure Mods (S:Nat→Prop) (w w':World):Prop where
 os:w'.os=w.os
 tape:w'.tape=w.tape
 output:w'.output=w.output
 size:w.heap.size≤w'.heap.size
 block:∀ k,k<w.heap.size→¬ S k→w'.heap[k]?=w.heap[k]?
abbrev Same (w w':World):Prop:=Mods (fun _=>False) w w'
theorem Mods.refl (S:Nat→Prop) (w:World):Mods S w w:=⟨rfl,rfl,rfl,Nat.le_refl _,fun _ _ _=>rfl⟩
theorem Mods.trans {S:Nat→Prop} {a b c:World} (h:Mods S a b) (k:Mods S b c):Mods S a c :=
 ⟨k.os.trans h.os,k.tape.trans h.tape,k.output.trans h.output,Nat.le_trans h.size k.size,
  fun i hi hs=>(k.block i (Nat.lt_of_lt_of_le hi h.size) hs).trans (h.block i hi hs)⟩
theorem Mods.trans' {S T:Nat→Prop} {a b c:World} (h:Mods S a b) (k:Mods T b c) (hT:∀ i,T i→S i∨a.heap.size≤i):Mods S a c :=
 ⟨k.os.trans h.os,k.tape.trans h.tape,k.output.trans h.output,Nat.le_trans h.size k.size,
  fun i hi hs=>(k.block i (Nat.lt_of_lt_of_le hi h.size) (fun ht=>by rcases hT i ht with h' | h'<;>first | exact absurd h' hs | omega)).trans (h.block i hi hs)⟩
theorem Mods.mono {S T:Nat→Prop} {a b:World} (h:Mods S a b) (hT:∀ i,S i→T i∨a.heap.size≤i):Mods T a b :=
 ⟨h.os,h.tape,h.output,h.size,fun i hi hs=>h.block i hi (fun ht=>by rcases hT i ht with h' | h'<;>first | exact absurd h' hs | omega)⟩
theorem Mods.drew {S:Nat→Prop} {a w:World} (h:Mods S a w):Mods S a w.drew:=⟨h.os,h.tape,h.output,h.size,h.block⟩
theorem Mods.drewN {S:Nat→Prop} {a w:World} (h:Mods S a w) (n:Nat):Mods S a (w.drewN n):=⟨h.os,h.tape,h.output,h.size,h.block⟩
theorem Mods.alloc {S:Nat→Prop} {a w:World} (h:Mods S a w) (o:Obj):Mods S a (w.alloc o) :=
 ⟨h.os,h.tape,h.output,Nat.le_trans h.size (by simp),fun k hk hs=>(Below.heap_alloc w o k (Nat.lt_of_lt_of_le hk h.size)).trans (h.block k hk hs)⟩
theorem Mods.setCell {S:Nat→Prop} {a w:World} (h:Mods S a w) {p:Addr} (hp:S p.block∨a.heap.size≤p.block) (u:Value):Mods S a (w.setCell p u) :=
 ⟨h.os,h.tape,h.output,by simpa [World.setCell] using h.size,
  fun k hk hs=>(Below.heap_setCell w p u k (fun e=>by subst e;rcases hp with h' | h'<;>first | exact absurd h' hs | omega)).trans (h.block k hk hs)⟩
theorem Mods.set1 {b i:Nat} {a w:World} (h:Mods (fun x=>x=b) a w) (v:Value):Mods (fun x=>x=b) a (w.setCell ⟨b,i,none⟩ v):=h.setCell (p:=⟨b,i,none⟩) (.inl rfl) v
theorem Mods.setNew {S:Nat→Prop} {b i:Nat} {a w:World} (hb:a.heap.size≤b) (h:Mods S a w) (v:Value):Mods S a (w.setCell ⟨b,i,none⟩ v):=h.setCell (p:=⟨b,i,none⟩) (.inr hb) v
theorem Mods.putObj {S:Nat→Prop} {a w:World} (h:Mods S a w) {r:Nat} (hr:S r∨a.heap.size≤r) (o:Obj):Mods S a (w.putObj r o) :=
 ⟨h.os,h.tape,h.output,by simpa using h.size,
  fun k hk hs=>(World.putObj_heap_other (fun e=>by subst e;rcases hr with h' | h'<;>first | exact absurd h' hs | omega)).trans (h.block k hk hs)⟩
theorem Mods.grown {S:Nat→Prop} {a w w':World} {row:Option Nat} (h:Mods S a w) (hg:w.grownBy w' row) (hr:∀ k,row=some k→S k∨a.heap.size≤k):Mods S a w' :=
 ⟨hg.os.trans h.os,hg.tape.trans h.tape,hg.output.trans h.output,Nat.le_trans h.size hg.size,
  fun k hk hs=>(hg.block k (Nat.lt_of_lt_of_le hk h.size) (fun e=>by rcases hr k e.symm with h' | h'<;>first | exact absurd h' hs | omega)).trans (h.block k hk hs)⟩
theorem Mods.below {B:Nat} {w w':World} (h:Mods (fun k=>B≤k) w w') (hB:B≤w.heap.size):Below B w w' :=
 ⟨h.os,h.tape,h.output,h.size,fun k hk=>h.block k (by omega) (by omega)⟩
theorem Same.below {w w':World} (h:Same w w'):Below w.heap.size w w':=⟨h.os,h.tape,h.output,h.size,fun k hk=>h.block k hk id⟩
theorem Same.mods {w w':World} (h:Same w w') (S:Nat→Prop):Mods S w w':=h.mono (fun _ hf=>hf.elim)
theorem Mods.at {S:Nat→Prop} {w w':World} (h:Mods S w w') {b:Nat} {o:Obj} (hb:w.heap[b]?=some o) (hS:¬ S b):w'.heap[b]?=some o :=
 (h.block b (Array.getElem?_eq_some_iff.1 hb).1 hS).trans hb
theorem qal {w:World} {b:Nat} {o:Obj} (h:w.heap[b]?=some o):b<w.heap.size:=(Array.getElem?_eq_some_iff.1 h).1
theorem qac {w:World} {b:Nat} {c:Array Value} {t:TypeId} {fz:Nat×Nat} (h:w.heap[b]?=some (.cells c t fz)) (i:Nat) {v:Value} (hv:c[i]?=some v) :
  w.cell? ⟨b,i,none⟩=some v:=by simp [World.cell?,h,hv]
theorem qa9 {w:World} {b:Nat} {c:Array Value} {t:TypeId} (h:w.heap[b]?=some (.cells c t (0,0))) (i:Nat):w.frozen? ⟨b,i,none⟩=false:=by simp [World.frozen?,h]
theorem qbf {w:World} {b:Nat} {c:Array Value} {t:TypeId} {fz:Nat×Nat} (h:w.heap[b]?=some (.cells c t fz)) (i:Nat) (v:Value) :
  (w.setCell ⟨b,i,none⟩ v).heap[b]?=some (.cells (c.setIfInBounds i v) t fz):=by
 simp only [World.setCell,Array.getElem?_modify,if_true,h,Option.map_some]
 rfl
theorem qcz {w:World} {o:Obj} {k:Nat} (h:k<w.heap.size):(w.alloc o).heap[k]?=w.heap[k]?:=Below.heap_alloc w o k h
theorem qa7 (w:World) (o:Obj):(w.alloc o).heap[w.heap.size]?=some o:=World.alloc_heap_new w o
def qaj (w:World) (a:Option Addr) (xs:List Value):Prop:=0<xs.length→∃ g off,a=some ⟨g,off,none⟩∧∀ j (h:j<xs.length),w.cell? ⟨g,off+j,none⟩=some (xs[j]'h)
theorem qaj.keep {S:Nat→Prop} {w w':World} {a:Option Addr} {xs:List Value} (h:qaj w a xs) (hm:Mods S w w') (hS:∀ g off,a=some ⟨g,off,none⟩→¬ S g):qaj w' a xs:=fun hp=>by
 obtain ⟨g,off,ha,hc⟩:=h hp
 refine ⟨g,off,ha,fun j hj=>?_⟩
 have hlt:=World.block_lt_of_cell? w _ (hc j hj)
 exact (World.cell?_of_block (w:=w) (hm.block g hlt (hS g off ha))).trans (hc j hj)
theorem qaj.of_heap {w W:World} (e:W.heap=w.heap) {a:Option Addr} {xs:List Value} (h:qaj w a xs):qaj W a xs:=fun hp=>by
 obtain ⟨g,off,ha,hc⟩:=h hp
 exact ⟨g,off,ha,fun j hj=>by rw [← hc j hj];simp [World.cell?,e]⟩
def enc8 (x:UInt8):Value:=.int .u8 (x.toNat:Nat)
def encI (x:Int):Value:=.int .i64 x
def Drew (w w':World):Prop:=∃ n,w'=w.drewN n
theorem Drew.refl (w:World):Drew w w:=⟨0,rfl⟩
theorem Drew.same {w w':World}:Drew w w'→Same w w' | ⟨n,h⟩=>h ▸ (Mods.refl _ w).drewN n
theorem Drew.trans {a b c:World}:Drew a b→Drew b c→Drew a c | ⟨n,h⟩,⟨m,k⟩=>⟨n+m,by subst h;subst k;simp [World.drewN,Nat.add_assoc]⟩
theorem Drew.drew {a b:World}:Drew a b→Drew a b.drew | ⟨n,h⟩=>⟨n+1,by subst h;rfl⟩
theorem Drew.drewN {a b:World} (h:Drew a b) (m:Nat):Drew a (b.drewN m):=h.trans ⟨m,rfl⟩
theorem Drew.heap {a b:World}:Drew a b→b.heap=a.heap | ⟨_,h⟩=>by subst h;rfl
theorem qxo {k:IntKind} {a b:Int} (h:a=b):Ending.returned (.int k a)=.returned (.int k b):=by rw [h]
theorem qhf {a b:Bool} (h:a=b):Ending.returned (.bool a)=.returned (.bool b):=by rw [h]
end Go.Proofs.YtdhobpbngkainaaGreatDoor
namespace Go.Proofs.YtdhobpbngkainaaGreatDoor
open Go.RowKit Go.Extern.Stop Go.Stop Go.Extern
theorem qns (t:Addr) (w:World):(ReflectliteValue.unpack (.iface 112 (.pointer (some t)))).run Tryz.prog w
  = .ok (.agg #[.pointer (some ⟨2,112,none⟩),.pointer (some ⟨w.heap.size,0,none⟩),.int .u64 150]) (w.alloc (.cells #[.pointer (some t)] 112)):=by kernel_rfl
theorem qut (a:Addr) (w:World):(ReflectliteValue.methodAny (ReflectliteValue.valueError "reflectlite.Value.Type" 0) (fun t _ _ _=>ReflectliteType.toType t) #[.agg #[.pointer (some ⟨2,112,none⟩),.pointer (some a),.int .u64 150]]).run Tryz.prog w
  = .ok (.iface 268 (.agg #[.pointer (some ⟨2,112,none⟩)])) w:=by kernel_rfl
theorem qtz (w:World):((ReflectliteType.abiMethod fun t=>(fun a:Nat=>Value.int IntKind.u8 (a:Int)) <$> Rtype.kind t) #[.pointer (some ⟨2,112,none⟩)]).run Tryz.prog w=.ok (.int .u8 22) w:=by kernel_rfl
theorem qt4 (w:World):((ReflectliteType.abiMethod fun t=>(fun a:Nat=>Value.int IntKind.u8 (a:Int)) <$> Rtype.kind t) #[.pointer (some ⟨2,49,none⟩)]).run Tryz.prog w=.ok (.int .u8 2) w:=by kernel_rfl
theorem q1o (z:Sem Value) (f:TypeId→Addr→Nat→Nat→Sem Value) (v:Value) :
  ReflectliteValue.method z f #[v]=(do match ← ReflectliteValue.parts v with | none=>z | some (t,a,fl)=>f t a fl (fl%32)):=rfl
theorem qsj (a:Addr) (w:World):(ReflectliteValue.parts (.agg #[.pointer (some ⟨2,112,none⟩),.pointer (some a),.int .u64 150])).run Tryz.prog w=.ok (some (112,a,150)) w:=by kernel_rfl
theorem qro (a p:Addr) (W:World) (ha:W.cell? a=some (.pointer (some p))) :
  (ReflectliteValue.method (ReflectliteValue.valueError "reflectlite.Value.IsNil" 0) ReflectliteValue.isNil #[.agg #[.pointer (some ⟨2,112,none⟩),.pointer (some a),.int .u64 150]]).run Tryz.prog W=.ok (.bool false) W:=by
 rw [q1o]
 simp only [Sem.run_bind,qsj,Result.andThen]
 simp [ReflectliteValue.isNil,loadVar,isAgg,underlying,Tryz.underlying112,ha,Result.andThen]
theorem qtn (w:World):(ReflectliteType.method ReflectliteType.elem #[.agg #[.pointer (some ⟨2,112,none⟩)]]).run Tryz.prog w=.ok (.iface 268 (.agg #[.pointer (some ⟨2,49,none⟩)])) w:=by kernel_rfl
theorem qt9 (w:World):(ReflectliteType.relation "Implements" ReflectliteType.implements_ #[.agg #[.pointer (some ⟨2,49,none⟩)],.iface 268 (.agg #[.pointer (some ⟨2,45,none⟩)])]).run Tryz.prog w=.ok (.bool true) w:=by kernel_rfl
theorem qp4 (v:Value) (w:World):(ReflectliteType.typeOf #[.iface 49 v]).run Tryz.prog w=.ok (.iface 268 (.agg #[.pointer (some ⟨2,49,none⟩)])) w:=by kernel_rfl
theorem qzv (v:Value) (w:World):(ReflectliteType.typeOf #[.iface 106 v]).run Tryz.prog w=.ok (.iface 268 (.agg #[.pointer (some ⟨2,106,none⟩)])) w:=by kernel_rfl
theorem qp6 (w:World):(ReflectliteType.relation "AssignableTo" ReflectliteType.assignableTo #[.agg #[.pointer (some ⟨2,49,none⟩)],.iface 268 (.agg #[.pointer (some ⟨2,49,none⟩)])]).run Tryz.prog w=.ok (.bool true) w:=by kernel_rfl
theorem q0j (w:World):(ReflectliteType.relation "AssignableTo" ReflectliteType.assignableTo #[.agg #[.pointer (some ⟨2,106,none⟩)],.iface 268 (.agg #[.pointer (some ⟨2,49,none⟩)])]).run Tryz.prog w=.ok (.bool false) w:=by kernel_rfl
theorem qnt (n:Int) (w:World):(ReflectliteValue.unpack (.iface 49 (.int .i64 n))).run Tryz.prog w
  = .ok (.agg #[.pointer (some ⟨2,49,none⟩),.pointer (some ⟨w.heap.size,0,none⟩),.int .u64 130]) (w.alloc (.cells #[.int .i64 n] 49)):=by kernel_rfl
theorem qzw (w:World):(Rtype.elem? 112).run Tryz.prog w=.ok (some 49) w:=by kernel_rfl
theorem q6v (p:Addr) (w:World):(ReflectliteValue.mk 49 p ReflectliteValue.flagAddr).run Tryz.prog w=.ok (.agg #[.pointer (some ⟨2,49,none⟩),.pointer (some p),.int .u64 386]) w:=by kernel_rfl
theorem qt8 (a p:Addr) (W:World) (ha:W.cell? a=some (.pointer (some p))) :
  (ReflectliteValue.method (ReflectliteValue.valueError "reflectlite.Value.Elem" 0) ReflectliteValue.elem #[.agg #[.pointer (some ⟨2,112,none⟩),.pointer (some a),.int .u64 150]]).run Tryz.prog W
   = .ok (.agg #[.pointer (some ⟨2,49,none⟩),.pointer (some p),.int .u64 386]) W:=by
 rw [q1o]
 simp only [Sem.run_bind,qsj,Result.andThen]
 simp [ReflectliteValue.elem,loadVar,isAgg,underlying,Tryz.underlying112,ha,Result.andThen,qzw,q6v]
theorem q6s (v x:Value):ReflectliteValue.set #[v,x]=(do
  let (some (dst,a,fl),some (src,b,_)):=(← ReflectliteValue.parts v,← ReflectliteValue.parts x)
   | unsupported (.noEntry "extern/(internal/reflectlite.Value).Set.zeroValue")
  if fl / ReflectliteValue.flagAddr%2==0 then unsupported (.noEntry "extern/(internal/reflectlite.Value).Set.unaddressable")
  let val ← loadVar src b
  if ← Rtype.directlyAssignable dst src then storeVar dst a val
  else if ← Rtype.implements dst src then
   if (← Rtype.kind src)==20 then
    match val with
    | .nilIface=>unsupported (.noEntry "extern/reflectlite: a nil value of one interface type handed on as a value of another")
    | _=>storeVar dst a val
   else storeVar dst a (.iface src val)
  else panicString ("reflectlite.Set: value of type " ++ (← Rtype.spelt src) ++ " is not assignable to type " ++ (← Rtype.spelt dst))
  pure (.tuple #[])):=rfl
theorem q16 (a:Addr) (w:World):(ReflectliteValue.parts (.agg #[.pointer (some ⟨2,49,none⟩),.pointer (some a),.int .u64 386])).run Tryz.prog w=.ok (some (49,a,386)) w:=by kernel_rfl
theorem qyr (a:Addr) (w:World):(ReflectliteValue.parts (.agg #[.pointer (some ⟨2,49,none⟩),.pointer (some a),.int .u64 130])).run Tryz.prog w=.ok (some (49,a,130)) w:=by kernel_rfl
theorem q1g (w:World):(Rtype.directlyAssignable 49 49).run Tryz.prog w=.ok true w:=by kernel_rfl
theorem q0x (ta b:Addr) (n:Int) (old:Value) (W:World) (hb:W.cell? b=some (.int .i64 n)) (ht:W.cell? ta=some old) (hf:W.frozen? ta=false) :
  (ReflectliteValue.set #[.agg #[.pointer (some ⟨2,49,none⟩),.pointer (some ta),.int .u64 386],.agg #[.pointer (some ⟨2,49,none⟩),.pointer (some b),.int .u64 130]]).run Tryz.prog W
   = .ok (.tuple #[]) (W.setCell ta (.int .i64 n)):=by
 rw [q6s]
 simp only [Sem.run_bind,q16,qyr,Result.andThen]
 simp [ReflectliteValue.flagAddr,loadVar,isAgg,underlying,Tryz.underlying49,hb,Result.andThen,q1g,storeVar,Value.cells,storeCells,Addr.add]
 rw [run_store Tryz.prog W ta _ _ (by rfl)]
 simp [ht,hf]
theorem ql3 (h:Value) (w:World):(Go.method 462 268 (.agg #[h]) "Kind").run Tryz.prog w=.ok (211,h) w:=by kernel_rfl
theorem ql6 (h:Value) (w:World):(Go.method 462 268 (.agg #[h]) "Elem").run Tryz.prog w=.ok (226,.agg #[h]) w:=by kernel_rfl
theorem qlz (h:Value) (w:World):(Go.method 462 268 (.agg #[h]) "Implements").run Tryz.prog w=.ok (227,.agg #[h]) w:=by kernel_rfl
theorem qju (h:Value) (w:World):(Go.method 462 268 (.agg #[h]) "AssignableTo").run Tryz.prog w=.ok (224,.agg #[h]) w:=by kernel_rfl
theorem qoa (args:Array Value) (w:World):(callFunc 93 args).run Tryz.prog w=(((fun args=>ReflectliteValue.unpack (args.getD 0 (.tuple #[]))) args).run Tryz.prog w).andThen fun v w'=>.ok (.value v) w' :=
 run_callFunc_extern (e:=(fun args=>ReflectliteValue.unpack (args.getD 0 (.tuple #[])))) Tryz.func93 (by kernel_rfl) (by kernel_rfl) (by kernel_rfl) (by kernel_rfl) args w
theorem qtf (args:Array Value) (w:World):(callFunc 94 args).run Tryz.prog w=(((ReflectliteValue.methodAny (ReflectliteValue.valueError "reflectlite.Value.Type" 0) (fun t _ _ _=>ReflectliteType.toType t)) args).run Tryz.prog w).andThen fun v w'=>.ok (.value v) w' :=
 run_callFunc_extern (e:=(ReflectliteValue.methodAny (ReflectliteValue.valueError "reflectlite.Value.Type" 0) (fun t _ _ _=>ReflectliteType.toType t))) Tryz.func94 (by kernel_rfl) (by kernel_rfl) (by kernel_rfl) (by kernel_rfl) args w
theorem qru (args:Array Value) (w:World):(callFunc 95 args).run Tryz.prog w=(((ReflectliteValue.method (ReflectliteValue.valueError "reflectlite.Value.IsNil" 0) ReflectliteValue.isNil) args).run Tryz.prog w).andThen fun v w'=>.ok (.value v) w' :=
 run_callFunc_extern (e:=(ReflectliteValue.method (ReflectliteValue.valueError "reflectlite.Value.IsNil" 0) ReflectliteValue.isNil)) Tryz.func95 (by kernel_rfl) (by kernel_rfl) (by kernel_rfl) (by kernel_rfl) args w
theorem quc (args:Array Value) (w:World):(callFunc 211 args).run Tryz.prog w=(((ReflectliteType.abiMethod fun t=>do pure (.int .u8 (← Rtype.kind t))) args).run Tryz.prog w).andThen fun v w'=>.ok (.value v) w' :=
 run_callFunc_extern (e:=(ReflectliteType.abiMethod fun t=>do pure (.int .u8 (← Rtype.kind t)))) Tryz.func211 (by kernel_rfl) (by kernel_rfl) (by kernel_rfl) (by kernel_rfl) args w
theorem quv (args:Array Value) (w:World):(callFunc 226 args).run Tryz.prog w=(((ReflectliteType.method ReflectliteType.elem) args).run Tryz.prog w).andThen fun v w'=>.ok (.value v) w' :=
 run_callFunc_extern (e:=(ReflectliteType.method ReflectliteType.elem)) Tryz.func226 (by kernel_rfl) (by kernel_rfl) (by kernel_rfl) (by kernel_rfl) args w
theorem qu5 (args:Array Value) (w:World):(callFunc 227 args).run Tryz.prog w=(((ReflectliteType.relation "Implements" ReflectliteType.implements_) args).run Tryz.prog w).andThen fun v w'=>.ok (.value v) w' :=
 run_callFunc_extern (e:=(ReflectliteType.relation "Implements" ReflectliteType.implements_)) Tryz.func227 (by kernel_rfl) (by kernel_rfl) (by kernel_rfl) (by kernel_rfl) args w
theorem qp7 (args:Array Value) (w:World):(callFunc 136 args).run Tryz.prog w=((ReflectliteType.typeOf args).run Tryz.prog w).andThen fun v w'=>.ok (.value v) w' :=
 run_callFunc_extern (e:=ReflectliteType.typeOf) Tryz.func136 (by kernel_rfl) (by kernel_rfl) (by kernel_rfl) (by kernel_rfl) args w
theorem qp1 (args:Array Value) (w:World):(callFunc 224 args).run Tryz.prog w=(((ReflectliteType.relation "AssignableTo" ReflectliteType.assignableTo) args).run Tryz.prog w).andThen fun v w'=>.ok (.value v) w' :=
 run_callFunc_extern (e:=(ReflectliteType.relation "AssignableTo" ReflectliteType.assignableTo)) Tryz.func224 (by kernel_rfl) (by kernel_rfl) (by kernel_rfl) (by kernel_rfl) args w
theorem qr1 (args:Array Value) (w:World):(callFunc 137 args).run Tryz.prog w=(((ReflectliteValue.method (ReflectliteValue.valueError "reflectlite.Value.Elem" 0) ReflectliteValue.elem) args).run Tryz.prog w).andThen fun v w'=>.ok (.value v) w' :=
 run_callFunc_extern (e:=(ReflectliteValue.method (ReflectliteValue.valueError "reflectlite.Value.Elem" 0) ReflectliteValue.elem)) Tryz.func137 (by kernel_rfl) (by kernel_rfl) (by kernel_rfl) (by kernel_rfl) args w
theorem qyc (args:Array Value) (w:World):(callFunc 138 args).run Tryz.prog w=((ReflectliteValue.set args).run Tryz.prog w).andThen fun v w'=>.ok (.value v) w' :=
 run_callFunc_extern (e:=ReflectliteValue.set) Tryz.func138 (by kernel_rfl) (by kernel_rfl) (by kernel_rfl) (by kernel_rfl) args w
theorem q55 (a:Addr) (w:World):(Instr.typeAssert (.iface 106 (.pointer (some a))) 45 273 true).run Tryz.prog w=.ok (.tuple #[.nilIface,.bool false]) w :=
 run_typeAssert_lacksB Tryz.underlying273 (by kernel_rfl) (by kernel_rfl) (.pointer (some a)) 45 w
theorem q57 (a:Addr) (w:World):(Instr.typeAssert (.iface 106 (.pointer (some a))) 45 276 true).run Tryz.prog w=.ok (.tuple #[.iface 106 (.pointer (some a)),.bool true]) w:=by kernel_rfl
theorem qwe (a:Addr) (w:World):(Go.method 462 106 (.pointer (some a)) "Unwrap").run Tryz.prog w=.ok (216,.pointer (some a)) w:=by kernel_rfl
def qbi (w:World):Prop:=w.cell? ⟨0,0,none⟩=some (.iface 268 (.agg #[.pointer (some ⟨2,45,none⟩)]))
theorem q5f (n:Int) (t:Addr) (old:Value) (w:World) (hg:w.cell? ⟨0,0,none⟩=some (.iface 268 (.agg #[.pointer (some ⟨2,45,none⟩)]))) (ht0:w.cell? t=some old) (hf0:w.frozen? t=false) :
  Calls Tryz.prog 49 #[.iface 49 (.int .i64 n),.iface 112 (.pointer (some t))] w fun ev w'=>ev=.returned (.bool true) ∧
   w'=(((((w.alloc (.cells #[.pointer (some t)] 112)).alloc (.cells #[.pointer (some ⟨2,112,none⟩),.pointer (some ⟨w.heap.size,0,none⟩),.int .u64 150] 197)).alloc (.cells #[.pointer (some ⟨2,112,none⟩),.pointer (some ⟨w.heap.size,0,none⟩),.int .u64 150] 197)).alloc (.cells #[.int .i64 n] 49)).setCell t (.int .i64 n)):=by
 have h1:=qoa
 have h2:=qtf
 have h3:=qru
 have h4:=quc
 have h5:=quv
 have h6:=qu5
 have h7:=qp7
 have h8:=qp1
 have h9:=qr1
 have h10:=qyc
 have x1:=qns
 have x2:=qut
 have x3:=qtz
 have x4:=qt4
 have x6:=qtn
 have x7:=qt9
 have x8:=qp4
 have x9:=qp6
 have y1:=qnt
 have m1:=ql3
 have m2:=ql6
 have m3:=qlz
 have m4:=qju
 have n8:=qro ⟨w.heap.size,0,none⟩ t ((w.alloc (.cells #[.pointer (some t)] 112)).alloc (.cells #[.pointer (some ⟨2,112,none⟩),.pointer (some ⟨w.heap.size,0,none⟩),.int .u64 150] 197)) (by simp)
 have hlt:0<w.heap.size:=by
  rcases Nat.eq_zero_or_pos w.heap.size with h0 | h
  ·simp [World.cell?,h0] at hg
  ·exact h
 have hg2:((w.alloc (.cells #[.pointer (some t)] 112)).alloc (.cells #[.pointer (some ⟨2,112,none⟩),.pointer (some ⟨w.heap.size,0,none⟩),.int .u64 150] 197)).cell? ⟨0,0,none⟩=some (.iface 268 (.agg #[.pointer (some ⟨2,45,none⟩)])):=by
  rw [World.cell?_alloc_lt _ _ ⟨0,0,none⟩ (by simp),World.cell?_alloc_lt _ _ ⟨0,0,none⟩ hlt];exact hg
 have htl:t.block<w.heap.size:=by
  rcases Nat.lt_or_ge t.block w.heap.size with h | h
  ·exact h
  ·simp [World.cell?,Array.getElem?_eq_none h] at ht0
 have el:=qt8 ⟨w.heap.size,0,none⟩ t (((w.alloc (.cells #[.pointer (some t)] 112)).alloc (.cells #[.pointer (some ⟨2,112,none⟩),.pointer (some ⟨w.heap.size,0,none⟩),.int .u64 150] 197)).alloc (.cells #[.pointer (some ⟨2,112,none⟩),.pointer (some ⟨w.heap.size,0,none⟩),.int .u64 150] 197)) (by rw [World.cell?_alloc_lt _ _ ⟨w.heap.size,0,none⟩ (by simp;omega)];simp)
 have st:=q0x t ⟨w.heap.size+1+1+1,0,none⟩ n old ((((w.alloc (.cells #[.pointer (some t)] 112)).alloc (.cells #[.pointer (some ⟨2,112,none⟩),.pointer (some ⟨w.heap.size,0,none⟩),.int .u64 150] 197)).alloc (.cells #[.pointer (some ⟨2,112,none⟩),.pointer (some ⟨w.heap.size,0,none⟩),.int .u64 150] 197)).alloc (.cells #[.int .i64 n] 49))
  (by rw [World.cell?_alloc_at _ _ _ _ (by simp)];rfl)
  (by rw [World.cell?_alloc_lt _ _ t (by simp;omega),World.cell?_alloc_lt _ _ t (by simp;omega),World.cell?_alloc_lt _ _ t (by simp;omega),World.cell?_alloc_lt _ _ t htl];exact ht0)
  (by rw [World.frozen?_alloc_old _ _ t (by simp;omega),World.frozen?_alloc_old _ _ t (by simp;omega),World.frozen?_alloc_old _ _ t (by simp;omega),World.frozen?_alloc_old _ _ t (Nat.ne_of_lt htl)];exact hf0)
 go_enter Tryz.func49,Tryz.ntmps49
 go_wp2
 refine wp_loop_rounds 1 ?_
 rw [rounds_succ]
 go_wp2
 go_ret
 exact ⟨rfl,rfl⟩
theorem q49 (p:Nat) (n:Int) (t:Addr) (old:Value) (w:World) (hg:w.cell? ⟨0,0,none⟩=some (.iface 268 (.agg #[.pointer (some ⟨2,45,none⟩)]))) (hp:w.cell? ⟨p,1,none⟩=some (.int .i64 n)) (ht0:w.cell? t=some old) (hf0:w.frozen? t=false) :
  Calls Tryz.prog 49 #[.iface 106 (.pointer (some ⟨p,0,none⟩)),.iface 112 (.pointer (some t))] w fun ev w'=>ev=.returned (.bool true) ∧
   w'=(((((w.alloc (.cells #[.pointer (some t)] 112)).alloc (.cells #[.pointer (some ⟨2,112,none⟩),.pointer (some ⟨w.heap.size,0,none⟩),.int .u64 150] 197)).alloc (.cells #[.pointer (some ⟨2,112,none⟩),.pointer (some ⟨w.heap.size,0,none⟩),.int .u64 150] 197)).alloc (.cells #[.int .i64 n] 49)).setCell t (.int .i64 n)):=by
 have h1:=qoa
 have h2:=qtf
 have h3:=qru
 have h4:=quc
 have h5:=quv
 have h6:=qu5
 have h7:=qp7
 have h8:=qp1
 have h9:=qr1
 have h10:=qyc
 have x1:=qns
 have x2:=qut
 have x3:=qtz
 have x4:=qt4
 have x6:=qtn
 have x7:=qt9
 have x8:=qp4
 have z8:=qzv
 have z9:=q0j
 have za:=q55
 have zu:=q57
 have zm:=qwe
 have x9:=qp6
 have y1:=qnt
 have m1:=ql3
 have m2:=ql6
 have m3:=qlz
 have m4:=qju
 have n8:=qro ⟨w.heap.size,0,none⟩ t ((w.alloc (.cells #[.pointer (some t)] 112)).alloc (.cells #[.pointer (some ⟨2,112,none⟩),.pointer (some ⟨w.heap.size,0,none⟩),.int .u64 150] 197)) (by simp)
 have hlt:0<w.heap.size:=by
  rcases Nat.eq_zero_or_pos w.heap.size with h0 | h
  ·simp [World.cell?,h0] at hg
  ·exact h
 have hg2:((w.alloc (.cells #[.pointer (some t)] 112)).alloc (.cells #[.pointer (some ⟨2,112,none⟩),.pointer (some ⟨w.heap.size,0,none⟩),.int .u64 150] 197)).cell? ⟨0,0,none⟩=some (.iface 268 (.agg #[.pointer (some ⟨2,45,none⟩)])):=by
  rw [World.cell?_alloc_lt _ _ ⟨0,0,none⟩ (by simp),World.cell?_alloc_lt _ _ ⟨0,0,none⟩ hlt];exact hg
 have htl:t.block<w.heap.size:=by
  rcases Nat.lt_or_ge t.block w.heap.size with h | h
  ·exact h
  ·simp [World.cell?,Array.getElem?_eq_none h] at ht0
 have el:=qt8 ⟨w.heap.size,0,none⟩ t (((w.alloc (.cells #[.pointer (some t)] 112)).alloc (.cells #[.pointer (some ⟨2,112,none⟩),.pointer (some ⟨w.heap.size,0,none⟩),.int .u64 150] 197)).alloc (.cells #[.pointer (some ⟨2,112,none⟩),.pointer (some ⟨w.heap.size,0,none⟩),.int .u64 150] 197)) (by rw [World.cell?_alloc_lt _ _ ⟨w.heap.size,0,none⟩ (by simp;omega)];simp)
 have st:=q0x t ⟨w.heap.size+1+1+1,0,none⟩ n old ((((w.alloc (.cells #[.pointer (some t)] 112)).alloc (.cells #[.pointer (some ⟨2,112,none⟩),.pointer (some ⟨w.heap.size,0,none⟩),.int .u64 150] 197)).alloc (.cells #[.pointer (some ⟨2,112,none⟩),.pointer (some ⟨w.heap.size,0,none⟩),.int .u64 150] 197)).alloc (.cells #[.int .i64 n] 49))
  (by rw [World.cell?_alloc_at _ _ _ _ (by simp)];rfl)
  (by rw [World.cell?_alloc_lt _ _ t (by simp;omega),World.cell?_alloc_lt _ _ t (by simp;omega),World.cell?_alloc_lt _ _ t (by simp;omega),World.cell?_alloc_lt _ _ t htl];exact ht0)
  (by rw [World.frozen?_alloc_old _ _ t (by simp;omega),World.frozen?_alloc_old _ _ t (by simp;omega),World.frozen?_alloc_old _ _ t (by simp;omega),World.frozen?_alloc_old _ _ t (Nat.ne_of_lt htl)];exact hf0)
 have hpl:p<w.heap.size:=World.block_lt_of_cell? w _ hp
 have hp3:(((w.alloc (.cells #[.pointer (some t)] 112)).alloc (.cells #[.pointer (some ⟨2,112,none⟩),.pointer (some ⟨w.heap.size,0,none⟩),.int .u64 150] 197)).alloc (.cells #[.pointer (some ⟨2,112,none⟩),.pointer (some ⟨w.heap.size,0,none⟩),.int .u64 150] 197)).cell? ⟨p,1,none⟩=some (.int .i64 n):=by
  rw [World.cell?_alloc_lt _ _ ⟨p,1,none⟩ (by simp;omega),World.cell?_alloc_lt _ _ ⟨p,1,none⟩ (by simp;omega),World.cell?_alloc_lt _ _ ⟨p,1,none⟩ hpl];exact hp
 go_enter Tryz.func49,Tryz.ntmps49
 go_wp2
 refine wp_loop_rounds 2 ?_
 rw [rounds_succ]
 go_wp2
 rw [rounds_succ]
 go_wp2
 go_ret
 exact ⟨rfl,rfl⟩
end Go.Proofs.YtdhobpbngkainaaGreatDoor
namespace Go.Proofs.YtdhobpbngkainaaGreatDoor
open Go.RowKit
def ErrIs (w:World) (v:Value) (n:Int):Prop :=
 (v=.nilIface∧n=0)∨v=.iface 49 (.int .i64 n)∨∃ p,v=.iface 106 (.pointer (some ⟨p,0,none⟩))∧w.cell? ⟨p,1,none⟩=some (.int .i64 n)
theorem ErrIs.keep {S:Nat→Prop} {w w':World} {v:Value} {n:Int} (h:ErrIs w v n) (hm:Mods S w w') (hS:∀ p,v=.iface 106 (.pointer (some ⟨p,0,none⟩))→¬ S p):ErrIs w' v n:=by
 rcases h with h | h | ⟨p,h,hc⟩
 ·exact .inl h
 ·exact .inr (.inl h)
 ·exact .inr (.inr ⟨p,h,(World.cell?_of_block (w:=w) (hm.block p (World.block_lt_of_cell? w _ hc) (hS p h))).trans hc⟩)
theorem qjc {w:World} (h:qbi w):w.cell? ⟨0,0,none⟩=some (.iface 268 (.agg #[.pointer (some ⟨2,45,none⟩)])):=h
theorem qbi.keep {S:Nat→Prop} {w w':World} (h:qbi w) (hm:Mods S w w') (hS:¬ S 0):qbi w':=(World.cell?_of_block (w:=w) (hm.block 0 (World.block_lt_of_cell? w _ h) hS)).trans h
def q3i (n:Int) (w:World) (e:Ending) (w':World):Prop:=e=.returned (.int .i64 n)∧Same w w'
theorem qcl (v:Value) (n:Int) (w:World) (hL:qbi w) (hv:ErrIs w v n):Calls Tryz.prog 19 #[v] w (q3i n w):=by
 rcases hv with ⟨rfl,rfl⟩ | rfl | ⟨p,rfl,hp⟩
 ·go_enter Tryz.func19,Tryz.ntmps19
  go_wp2
  go_ret
  exact ⟨rfl,(Mods.refl _ w).alloc _⟩
 ·have h0:0<w.heap.size:=World.block_lt_of_cell? w _ hL
  have hg:(w.alloc (.cells #[.int .i64 0] 49)).cell? ⟨0,0,none⟩=_:=(World.cell?_alloc_lt _ _ ⟨0,0,none⟩ h0).trans (qjc hL)
  have hc:=q5f n ⟨w.heap.size,0,none⟩ (.int .i64 0) _ hg (by simp) (qa9 (qa7 w _) 0)
  have HC:=Lib.hid hc
  clear hc hg hL
  go_enter Tryz.func19,Tryz.ntmps19
  go_wp2_with fail
  refine HC.out.mono ?_
  rintro e w' ⟨rfl,hw⟩
  have hcell:w'.cell? ⟨w.heap.size,0,none⟩=some (.int .i64 n):=by
   rw [hw]
   exact qac (qbf (b:=w.heap.size) (c:=#[.int .i64 0]) (t:=49) (fz:=(0,0)) (by rw [qcz (by simp;omega),qcz (by simp;omega),qcz (by simp;omega),qcz (by simp)];exact qa7 w _) 0 (.int .i64 n)) 0 rfl
  have hs:Same w w':=by
   rw [hw]
   exact Mods.setNew (Nat.le_refl _) (((((((Mods.refl _ w).alloc _).alloc _).alloc _).alloc _).alloc _)) _
  have HS:=Lib.hid hs
  clear hw hs
  go_wp2
  go_ret
  exact ⟨rfl,HS.out⟩
 ·have h0:0<w.heap.size:=World.block_lt_of_cell? w _ hL
  have hg:(w.alloc (.cells #[.int .i64 0] 49)).cell? ⟨0,0,none⟩=_:=(World.cell?_alloc_lt _ _ ⟨0,0,none⟩ h0).trans (qjc hL)
  have hp':(w.alloc (.cells #[.int .i64 0] 49)).cell? ⟨p,1,none⟩=some (.int .i64 n):=(World.cell?_alloc_lt _ _ ⟨p,1,none⟩ (World.block_lt_of_cell? w _ hp)).trans hp
  have hc:=q49 p n ⟨w.heap.size,0,none⟩ (.int .i64 0) _ hg hp' (by simp) (qa9 (qa7 w _) 0)
  have HC:=Lib.hid hc
  clear hc hg hL hp hp'
  go_enter Tryz.func19,Tryz.ntmps19
  go_wp2_with fail
  refine HC.out.mono ?_
  rintro e w' ⟨rfl,hw⟩
  have hcell:w'.cell? ⟨w.heap.size,0,none⟩=some (.int .i64 n):=by
   rw [hw]
   exact qac (qbf (b:=w.heap.size) (c:=#[.int .i64 0]) (t:=49) (fz:=(0,0)) (by rw [qcz (by simp;omega),qcz (by simp;omega),qcz (by simp;omega),qcz (by simp)];exact qa7 w _) 0 (.int .i64 n)) 0 rfl
  have hs:Same w w':=by
   rw [hw]
   exact Mods.setNew (Nat.le_refl _) (((((((Mods.refl _ w).alloc _).alloc _).alloc _).alloc _).alloc _)) _
  have HS:=Lib.hid hs
  clear hw hs
  go_wp2
  go_ret
  exact ⟨rfl,HS.out⟩
end Go.Proofs.YtdhobpbngkainaaGreatDoor
namespace Go.Proofs.YtdhobpbngkainaaGreatDoor
open Go.ChangeShapes Go.WideShapes Go.RowKit
theorem q7d:ownKnob Tryz.prog.godebug=none:=by kernel_rfl
theorem lz_et:Tryz.prog.globalNamed "errors.errorType" = some 0:=by kernel_rfl
theorem lz_rt:(Tryz.prog.cutTypes.find? (·.1 == "internal/reflectlite.rtype")).map (·.2)=some 268:=by kernel_rfl
theorem q1c:((List.range 362).filter fun t=>Tryz.prog.rowNamed t [101,114,114,111,114])=[45]:=by kernel_rfl
theorem q6g:Tryz.prog.types.size=362:=by kernel_rfl
theorem qz0 {W:World} (h:laidMetH Tryz.prog [("errors.errorType",Rows.laid_errors_errorType)] W):qbi W:=by
 have h':laidMet Tryz.prog [] W∧handlesMet Tryz.prog [("errors.errorType",Rows.laid_errors_errorType)] W:=h
 obtain ⟨name,u,ty,e1,e2,e3,e4,e5⟩:=h'.2 _ (List.mem_singleton.2 rfl)
 have en:name=[101,114,114,111,114]:=(Option.some.inj e1).symm
 subst en
 obtain rfl:=Option.some.inj (lz_rt.symm.trans e2)
 have hm:ty∈(List.range 362).filter fun t=>Tryz.prog.rowNamed t [101,114,114,111,114]:=List.mem_filter.2 ⟨List.mem_range.2 (by rw [← q6g];exact e3),e4⟩
 rw [q1c] at hm
 obtain rfl:=List.mem_singleton.1 hm
 have hh:typeHandle Tryz.prog 45=.pointer (some ⟨2,45,none⟩):=by kernel_rfl
 rw [hh] at e5
 unfold qbi
 simpa using World.var?_cell lz_et e5 0
noncomputable def qml (os:Os):World :=
 let w0:=World.holding Tryz.prog os ⟨#[],#[],[]⟩
 { w0 with heap:=w0.heap.modify 0 fun
   | .cells _ t frozen=>.cells #[.iface 268 (.agg #[.pointer (some ⟨2,45,none⟩)])] t frozen
   | o=>o }
theorem qsm (os:Os) (args:Array Value):laidMetH Tryz.prog [("errors.errorType",Rows.laid_errors_errorType)] ((qml os).forCall (fun _ _=>0) ⟨#[],args,[]⟩).memory :=
 laidMetH_of_parts (laidMet_nil _ _) (by kernel_rfl)
theorem q69 {n:Int} (h:(Lit.int IntKind.i64 n).wf=true) : -9223372036854775808≤n∧n≤9223372036854775807:=by
 simp only [Lit.wf,IntKind.min,IntKind.max,IntKind.signed,IntKind.bits,Bool.and_eq_true,decide_eq_true_eq,if_true] at h
 omega
end Go.Proofs.YtdhobpbngkainaaGreatDoor
namespace Go.Proofs.YtdhobpbngkainaaGreatDoor
open Go.RowKit
section
variable {P : Program} (w : World)
theorem qgg (t ty e:TypeId) (i:TypeInfo) (z:Value) (size bytes:Nat) (ht:P.underlying t=some (.slice e)) (hi:P.info? e=some i) (hz:i.zero=some z)
  (hsize:i.size=size) (hby:i.bytes=bytes) (hzs:z.cells.size=size) (hsz:0<size)
  (v:Value) (n:Nat) (xs:List Value) (hown:w.ownsRow 0 e size v n xs)
  (a:Addr) (m c:Nat) (news:List Value) (hl:news.length=m*size) (hnews:∀ j u,news[j]?=some u→w.cell? (a.add j)=some u) (h1:∀ u∈news,u.oneCell'=true)
  (h63:n+m≤maxLen) (hbytes:(n+m)*bytes≤140737488355328) :
  ∃ v' w',(Builtin.append_ #[t,t] ty #[v,.slice (some a) m c]).run P w=.ok v' w'∧w'.ownsRow 0 e size v' (n+m) (xs++news)∧w.grownBy w' v.ownBlock ∧
   (v'=.slice none 0 0↔v=.slice none 0 0∧m=0)∧(∀ g,v'.ownBlock=some g→v.ownBlock=some g∨w.heap.size≤g):=by
 obtain ⟨v',w',hr,h2,h3,h4⟩:=run_append_own (P:=P) w 0 t ty e i z size bytes ht hi hz hsize hby hzs hsz v n xs hown a m c news hl hnews h1 h63 hbytes (Nat.zero_le _)
 refine ⟨v',w',hr,h2,h3,h4,?_⟩
 rcases hown.2 with ⟨rfl,rfl⟩ | ⟨g,cap,cur,rfl,hbg,hg,hnc,hcm,hcs,htake⟩
 ·have hx:xs=[]:=List.eq_nil_of_length_eq_zero (by simpa using hown.1)
  subst hx
  obtain ⟨v2,w2,hr2,h22,_⟩:=run_append_own (P:=P) w w.heap.size t ty e i z size bytes ht hi hz hsize hby hzs hsz _ 0 [] (World.ownsRow_nil w w.heap.size e size) a m c news hl hnews h1 h63 hbytes (Nat.le_refl _)
  rw [hr] at hr2
  cases hr2
  exact fun g hg=>.inr (h22.lt g hg).1
 ·subst hsize
  subst hby
  have hsmall:n+m≤9223372036854775807:=by simp only [maxLen] at h63;omega
  by_cases hroom:n+m≤cap
  ·have hfit:n*i.size+news.length≤cur.size:=by rw [hl,hcs,← Nat.add_mul];exact Nat.mul_le_mul_right _ hroom
   have hr2:=run_append_room (P:=P) w t ty e i ht hi g n cap cur hg a m c news hl hnews h1 hroom hfit
   rw [hr] at hr2
   cases hr2
   exact fun g' hg'=>.inl hg'
  ·have holds:∀ j u,xs[j]?=some u→w.cell? ((⟨g,0,none⟩:Addr).add j)=some u:=hown.cells (g:=g) rfl
   have hr2:=run_append_grow (P:=P) w t ty e i z ht hi hz ⟨g,0,none⟩ n cap xs hown.1 holds a m c news hl hnews (by omega) (by omega) (growslice_fits (by omega) hbytes)
   rw [hr] at hr2
   cases hr2
   exact fun g' hg'=>by simp [Value.ownBlock] at hg';exact .inr (by omega)
end
section
variable {P : Program} (w : World)
theorem qjs (t ty e:TypeId) (i:TypeInfo) (size:Nat) (ht:P.underlying t=some (.slice e)) (hi:P.info? e=some i) (v:Value) (n:Nat) (xs:List Value) (hown:w.ownsRow 0 e size v n xs) (sa:Option Addr) (c:Nat) :
  (Builtin.append_ #[t,t] ty #[v,.slice sa 0 c]).run P w=.ok v w:=by
 cases sa<;>rcases hown.2 with ⟨rfl,rfl⟩ | ⟨g,cap,cur,rfl,_,_,hnc,_⟩ <;>
  simp [Builtin.append_,run_underlying ht,sizeOf,typeInfo,hi,Builtin.lenOf,Builtin.firstCells,loadCells,loadCellsFrom,storeCells, *]
theorem qq0 (t ty e:TypeId) (i:TypeInfo) (z:Value) (bytes:Nat) (ht:P.underlying t=some (.slice e)) (hi:P.info? e=some i) (hz:i.zero=some z)
  (hsize:i.size=1) (hby:i.bytes=bytes) (hzs:z.cells.size=1)
  (v:Value) (n:Nat) (xs:List Value) (hown:w.ownsRow 0 e 1 v n xs)
  (sa:Option Addr) (c:Nat) (news:List Value) (hnews:qaj w sa news) (h1:∀ u∈news,u.oneCell'=true)
  (h63:n+news.length≤maxLen) (hbytes:(n+news.length)*bytes≤140737488355328) :
  ∃ v' w',(Builtin.append_ #[t,t] ty #[v,.slice sa news.length c]).run P w=.ok v' w'∧w'.ownsRow 0 e 1 v' (n+news.length) (xs++news)∧w.grownBy w' v.ownBlock∧(∀ g,v'.ownBlock=some g→v.ownBlock=some g∨w.heap.size≤g):=by
 by_cases hp:0<news.length
 ·obtain ⟨g,off,rfl,hc⟩:=hnews hp
  obtain ⟨v',w',r,r1,r2,r3,r4⟩:=qgg (P:=P) w t ty e i z 1 bytes ht hi hz hsize hby hzs (by decide) v n xs hown ⟨g,off,none⟩ news.length c news (by simp)
   (fun j u hu=>by obtain ⟨hj,rfl⟩:=List.getElem?_eq_some_iff.1 hu;rw [Addr.add_lit];exact hc j hj) h1 h63 hbytes
  exact ⟨v',w',r,r1,r2,r4⟩
 ·obtain rfl:news=[]:=List.eq_nil_of_length_eq_zero (by omega)
  exact ⟨v,w,qjs (P:=P) w t ty e i 1 ht hi v n xs hown sa c,by simpa using hown,⟨rfl,rfl,rfl,Nat.le_refl _,fun _ _ _=>rfl⟩,fun g h=>.inl h⟩
end
section
variable {F : Fence} {nn : Nat} {P : Program}
theorem qnq (w:World) {ops:Array Oper} {rest:List Oper} {o:Oper} {a:Act} {Q:Exit→Act→World→Prop}
  (hg:o.guard=none) (s x:Operand) (t:TypeId) (hop:o.op=Op.call { callee:=Callee.builtin Builtin.append,args:=#[s,x],argTypes:=#[t,t] })
  (e:TypeId) (i:TypeInfo) (z:Value) (bytes:Nat) (h1:P.underlying t=some (.slice e)) (h2:P.info? e=some i) (h3:i.zero=some z) (h4:i.size=1) (h5:i.bytes=bytes) (h6:z.cells.size=1)
  (v:Value) (k:Nat) (xs:List Value) (hs:a.eval s=v) (hown:w.ownsRow 0 e 1 v k xs) (sa:Option Addr) (m c:Nat) (news:List Value) (hx:a.eval x=.slice sa m c) (hn:news.length=m)
  (hc:qaj w sa news) (h1c:∀ u∈news,u.oneCell'=true) (b1:k+m≤maxLen) (b2:(k+m)*bytes≤140737488355328)
  (hK:∀ v' w',w'.ownsRow 0 e 1 v' (k+m) (xs++news)→w.grownBy w' v.ownBlock→(∀ g,v'.ownBlock=some g→v.ownBlock=some g∨w.heap.size≤g)→wpList P ops Q rest (a.put o.dst v') w') :
  wpList P ops Q (o::rest) a w:=by
 subst hn
 refine wpList_plain hg fun K hK'=>?_
 obtain ⟨v',w',hr,r1,r2,r4⟩:=qq0 (P:=P) w t o.type e i z bytes h1 h2 h3 h4 h5 h6 v k xs hown sa c news hc h1c b1 b2
 unfold Oper.wp execOp
 simp only [hop,resolve,invoke,builtin,Sem.run_bind,Sem.run_pure,Result.andThen_ok,List.map_toArray,List.map_cons,List.map_nil,hs,hx,hr]
 exact hK' _ _ (hK v' w' r1 r2 r4)
theorem qe0 (w:World) {ops:Array Oper} {rest:List Oper} {o:Oper} {a:Act} {Q:Exit→Act→World→Prop}
  (hg:o.guard=none) (s x:Operand) (t:TypeId) (hop:o.op=Op.call { callee:=Callee.builtin Builtin.append,args:=#[s,x],argTypes:=#[t,t] })
  (e:TypeId) (i:TypeInfo) (z:Value) (size bytes:Nat) (h1:P.underlying t=some (.slice e)) (h2:P.info? e=some i) (h3:i.zero=some z) (h4:i.size=size) (h5:i.bytes=bytes) (h6:z.cells.size=size) (h7:0<size)
  (v:Value) (k:Nat) (xs:List Value) (hs:a.eval s=v) (hown:w.ownsRow 0 e size v k xs) (ad:Addr) (m c:Nat) (news:List Value) (hx:a.eval x=.slice (some ad) m c) (hn:news.length=m*size)
  (hc:∀ j u,news[j]?=some u→w.cell? (ad.add j)=some u) (h1c:∀ u∈news,u.oneCell'=true) (b1:k+m≤maxLen) (b2:(k+m)*bytes≤140737488355328)
  (hK:∀ v' w',w'.ownsRow 0 e size v' (k+m) (xs++news)→w.grownBy w' v.ownBlock→(v'=.slice none 0 0↔v=.slice none 0 0∧m=0)→(∀ g,v'.ownBlock=some g→v.ownBlock=some g∨w.heap.size≤g) →
   wpList P ops Q rest (a.put o.dst v') w') :
  wpList P ops Q (o::rest) a w:=by
 refine wpList_plain hg fun K hK'=>?_
 obtain ⟨v',w',hr,r1,r2,r3,r4⟩:=qgg (P:=P) w t o.type e i z size bytes h1 h2 h3 h4 h5 h6 h7 v k xs hown ad m c news hn hc h1c b1 b2
 unfold Oper.wp execOp
 simp only [hop,resolve,invoke,builtin,Sem.run_bind,Sem.run_pure,Result.andThen_ok,List.map_toArray,List.map_cons,List.map_nil,hs,hx,hr]
 exact hK' _ _ (hK v' w' r1 r2 r3 r4)
end
theorem qup {w:World} {b b' e size n:Nat} {v:Value} {xs:List Value} (h:w.ownsRow b e size v n xs) (hb:∀ g,v.ownBlock=some g→b'≤g):w.ownsRow b' e size v n xs:=by
 refine ⟨h.1,?_⟩
 rcases h.2 with hn | ⟨g,cap,cur,rfl,hbg,hgg,rest⟩
 ·exact .inl hn
 ·exact .inr ⟨g,cap,cur,rfl,hb g rfl,hgg,rest⟩
theorem Mods.of_grown {w w':World} {row:Option Nat} (h:w.grownBy w' row):Mods (fun k=>row=some k) w w' :=
 ⟨h.os,h.tape,h.output,h.size,fun k hk hS=>h.block k hk (fun e=>hS e.symm)⟩
theorem Mods.setRow {S:Nat→Prop} {a w:World} {g:Nat} (h:Mods S a w) (hg:S g∨a.heap.size≤g) (cs:Array Value):Mods S a (w.setRow g cs) :=
 ⟨h.os,h.tape,h.output,by simpa [World.setRow] using h.size,fun k hk hs=>(setRow_other w g k cs (fun e=>by subst e;rcases hg with h' | h'<;>first | exact absurd h' hs | omega)).trans (h.block k hk hs)⟩
theorem qfx {P:Program} {w:World} {ops:Array Oper} {rest:List Oper} {o:Oper} {a:Act} {Q:Exit→Act→World→Prop} (hgd:o.guard=none) (d s:Operand) (dT sT:TypeId)
  (ho:o.op=.call { callee:=.builtin .copy,args:=#[d,s],argTypes:=#[dT,sT] }) (elem:TypeId) (hu:P.underlying dT=some (.slice elem)) (hsz:(P.info? elem).map (·.size)=some 1)
  (dp sp:Option Addr) (dLen dCap sLen sCap:Nat) (hd:a.eval d=.slice dp dLen dCap) (hs:a.eval s=.slice sp sLen sCap)
  (g off:Nat) (cur:List Value) (t:TypeId) (hg:w.heap[g]?=some (.cells cur.toArray t (0,0))) (cs:List Value) (hn:cs.length=Nat.min sLen dLen)
  (hpos:0<cs.length→dp=some ⟨g,off,none⟩∧∃ ad,sp=some ad∧∀ j v,cs[j]?=some v→w.cell? (ad.add j)=some v)
  (hfit:off+cs.length≤cur.length) (h1:∀ v∈cs,v.oneCell'=true)
  (h:∀ w',w'.heap[g]?=some (.cells (splice cur off cs).toArray t (0,0))→Mods (fun k=>k=g) w w'→w'.heap.size=w.heap.size→wpList P ops Q rest (a.put o.dst (goInt cs.length)) w') :
  wpList P ops Q (o::rest) a w:=by
 by_cases h0:cs.length=0
 ·obtain rfl:cs=[]:=List.eq_nil_of_length_eq_zero h0
  refine wpList_copy_nothing hgd d s dT sT ho elem hu hsz dp sp dLen dCap sLen sCap hd hs (by simpa using hn.symm) ?_
  exact h w (show _=_ by simpa [splice] using hg) (Mods.refl _ _) rfl
 ·obtain ⟨rfl,ad,rfl,hsrc⟩:=hpos (by omega)
  refine wpList_copy_own hgd d s dT sT ho elem hu hsz g off dLen dCap ad sLen sCap hd hs cur.toArray t hg cs hn hsrc (by simpa using hfit) h1 ?_
  exact h _ (show _=_ by simpa [splice] using setRow_heap w g _ _ t _ hg) (Mods.setRow (S:=fun k=>k=g) (Mods.refl _ _) (.inl rfl) _) (by simp [World.setRow])
end Go.Proofs.YtdhobpbngkainaaGreatDoor
namespace Go.Proofs.YtdhobpbngkainaaGreatDoor
open Go.RowKit
theorem qc3 (l:List UInt8):∀ v∈l.map enc8,v.oneCell'=true:=fun v hv=>by
 obtain ⟨x,_,rfl⟩:=List.mem_map.1 hv;rfl
abbrev HF:=List (Nat×(Obj→Prop))
def dom (F:HF):List Nat:=F.map (·.1)
@[simp] theorem q7o:dom []=[]:=rfl
@[simp] theorem qhi (p:Nat×(Obj→Prop)) (F:HF):dom (p::F)=p.1::dom F:=rfl
@[simp] theorem qcw (F G:HF):dom (F++G)=dom F++dom G:=by simp [dom]
def Is (x o:Obj):Prop:=o=x
theorem Is.rfl {x:Obj}:Is x x:=by unfold Is;exact Eq.refl x
structure Sat (w:World) (F:HF):Prop where
 nodup:(dom F).Nodup
 sat:∀ p∈F,∃ o,w.heap[p.1]?=some o∧p.2 o
structure Turns (F F':HF) (w w':World):Prop where
 mods:Mods (fun b=>b∈dom F) w w'
 sat:Sat w' F'
 fresh:∀ b∈dom F',b∈dom F∨w.heap.size≤b
theorem qi3 {F G:HF} (h:F.Perm G):(dom F).Perm (dom G):=h.map _
theorem Sat.lt {w:World} {F:HF} (h:Sat w F) {b:Nat} (hb:b∈dom F):b<w.heap.size:=by
 obtain ⟨p,hp,rfl⟩:=List.mem_map.1 hb
 obtain ⟨o,ho,_⟩:=h.sat p hp
 exact qal ho
theorem Sat.perm {w:World} {F G:HF} (h:Sat w F) (hp:F.Perm G):Sat w G :=
 ⟨(qi3 hp).nodup_iff.1 h.nodup,fun p hq=>h.sat p (hp.mem_iff.2 hq)⟩
theorem Sat.left {w:World} {F G:HF} (h:Sat w (F++G)):Sat w F :=
 ⟨by have:=h.nodup;rw [qcw] at this;exact (List.nodup_append.1 this).1,fun p hp=>h.sat p (List.mem_append_left _ hp)⟩
theorem Sat.right {w:World} {F G:HF} (h:Sat w (F++G)):Sat w G :=
 ⟨by have:=h.nodup;rw [qcw] at this;exact (List.nodup_append.1 this).2.1,fun p hp=>h.sat p (List.mem_append_right _ hp)⟩
theorem Sat.disj {w:World} {F G:HF} (h:Sat w (F++G)) {b:Nat} (hb:b∈dom F):b∉dom G:=by
 have:=h.nodup;rw [qcw] at this
 intro hg
 exact (List.nodup_append.1 this).2.2 b hb b hg rfl
theorem Sat.join {w:World} {F G:HF} (h:Sat w F) (k:Sat w G) (hd:∀ b∈dom F,b∉dom G):Sat w (F++G) :=
 ⟨by rw [qcw];exact List.nodup_append.2 ⟨h.nodup,k.nodup,fun a ha b hb e=>hd a ha (e ▸ hb)⟩,
  fun p hp=>by rcases List.mem_append.1 hp with h' | h';exact h.sat p h';exact k.sat p h'⟩
theorem Sat.nil (w:World):Sat w []:=⟨List.nodup_nil,fun p hp=>by simp at hp⟩
theorem Sat.one {w:World} {b:Nat} {φ:Obj→Prop} {o:Obj} (h:w.heap[b]?=some o) (ho:φ o):Sat w [(b,φ)] :=
 ⟨by simp [dom],fun p hp=>by simp at hp;subst hp;exact ⟨o,h,ho⟩⟩
theorem Sat.frame {S:Nat→Prop} {w w':World} {F:HF} (h:Sat w F) (hm:Mods S w w') (hS:∀ b∈dom F,¬ S b):Sat w' F :=
 ⟨h.nodup,fun p hp=>by
  obtain ⟨o,ho,hφ⟩:=h.sat p hp
  exact ⟨o,hm.at ho (hS p.1 (List.mem_map.2 ⟨p,hp,rfl⟩)),hφ⟩⟩
theorem Sat.same {w w':World} {F:HF} (h:Sat w F) (hm:Same w w'):Sat w' F:=h.frame hm (fun _ _=>id)
theorem Sat.weak {w:World} {b:Nat} {φ ψ:Obj→Prop} {F:HF} (h:Sat w ((b,φ)::F)) (hw:∀ o,φ o→ψ o):Sat w ((b,ψ)::F) :=
 ⟨h.nodup,fun p hp=>by
  rcases List.mem_cons.1 hp with rfl | hp
  ·obtain ⟨o,ho,hφ⟩:=h.sat (b,φ) (by simp)
   exact ⟨o,ho,hw o hφ⟩
  ·exact h.sat p (List.mem_cons_of_mem _ hp)⟩
theorem Sat.head {w:World} {b:Nat} {φ:Obj→Prop} {F:HF} (h:Sat w ((b,φ)::F)):∃ o,w.heap[b]?=some o∧φ o:=h.sat (b,φ) (by simp)
theorem Sat.tail {w:World} {p:Nat×(Obj→Prop)} {F:HF} (h:Sat w (p::F)):Sat w F:=Sat.right (F:=[p]) h
theorem Sat.notMem {w:World} {b:Nat} {φ:Obj→Prop} {F:HF} (h:Sat w ((b,φ)::F)):b∉dom F:=(List.nodup_cons.1 h.nodup).1
theorem Sat.put {w w':World} {b:Nat} {φ ψ:Obj→Prop} {F:HF} {o:Obj} (h:Sat w ((b,φ)::F)) (hm:Mods (fun k=>k=b) w w') (ho:w'.heap[b]?=some o) (hψ:ψ o):Sat w' ((b,ψ)::F) :=
 Sat.join (F:=[(b,ψ)]) (Sat.one ho hψ) (h.tail.frame hm (fun k hk e=>h.notMem (e ▸ hk))) (fun k hk=>by simp at hk;subst hk;exact h.notMem)
theorem Turns.refl {w:World} {F:HF} (h:Sat w F):Turns F F w w:=⟨Mods.refl _ _,h,fun _ hb=>.inl hb⟩
theorem Turns.trans {a b c:World} {F G H:HF} (h:Turns F G a b) (k:Turns G H b c):Turns F H a c :=
 ⟨h.mods.trans' k.mods h.fresh,k.sat,fun q hq=>by
  rcases k.fresh q hq with h' | h'
  ·exact h.fresh q h'
  ·exact .inr (Nat.le_trans h.mods.size h')⟩
theorem Turns.frame {w w':World} {F F':HF} (h:Turns F F' w w') {R:HF} (hs:Sat w (F++R)):Turns (F++R) (F'++R) w w' :=
 ⟨h.mods.mono (fun b hb=>.inl (by simp [hb])),h.sat.join (hs.right.frame h.mods (fun b hb hf=>hs.disj hf hb)) (fun b hb hr=>by
   rcases h.fresh b hb with h' | h'
   ·exact hs.disj h' hr
   ·have:=hs.right.lt hr;omega),
  fun b hb=>by
  rw [qcw] at hb ⊢
  rcases List.mem_append.1 hb with h' | h'
  ·rcases h.fresh b h' with h'' | h''
   ·exact .inl (List.mem_append_left _ h'')
   ·exact .inr h''
  ·exact .inl (List.mem_append_right _ h')⟩
theorem Turns.perm {w w':World} {F F' G G':HF} (h:Turns F F' w w') (hp:F.Perm G) (hp':F'.Perm G'):Turns G G' w w' :=
 ⟨h.mods.mono (fun b hb=>.inl ((qi3 hp).mem_iff.1 hb)),h.sat.perm hp',fun b hb=>by
  rcases h.fresh b ((qi3 hp').mem_iff.2 hb) with h' | h'
  ·exact .inl ((qi3 hp).mem_iff.1 h')
  ·exact .inr h'⟩
theorem Turns.left {w w':World} {F G H:HF} (h:Turns F (G++H) w w'):Turns F G w w':=⟨h.mods,h.sat.left,fun b hb=>h.fresh b (by simp [hb])⟩
theorem Turns.right {w w':World} {F G H:HF} (h:Turns F (G++H) w w'):Turns F H w w':=⟨h.mods,h.sat.right,fun b hb=>h.fresh b (by simp [hb])⟩
theorem Turns.same {w w':World} {F:HF} (hs:Sat w F) (h:Same w w'):Turns F F w w':=⟨h.mods _,hs.same h,fun _ hb=>.inl hb⟩
theorem Turns.thenSame {a b c:World} {F G:HF} (h:Turns F G a b) (k:Same b c):Turns F G a c:=h.trans (Turns.same h.sat k)
theorem Turns.sameThen {a b c:World} {F G:HF} (hs:Sat a F) (h:Same a b) (k:Turns F G b c):Turns F G a c:=(Turns.same hs h).trans k
theorem Turns.drewN {a b:World} {F G:HF} (h:Turns F G a b) (n:Nat):Turns F G a (b.drewN n):=h.thenSame ((Mods.refl _ b).drewN n)
theorem Turns.drew {a b:World} {F G:HF} (h:Turns F G a b):Turns F G a b.drew:=h.thenSame (Mods.refl _ b).drew
theorem Turns.alloc {a b:World} {F G:HF} (h:Turns F G a b) (o:Obj):Turns F G a (b.alloc o):=h.thenSame ((Mods.refl _ b).alloc o)
theorem Turns.allocIn {a b:World} {F G:HF} (h:Turns F G a b) {o:Obj} {φ:Obj→Prop} (ho:φ o):Turns F ((b.heap.size,φ)::G) a (b.alloc o) :=
 ⟨h.mods.alloc o,Sat.join (F:=[(b.heap.size,φ)]) (Sat.one (qa7 b o) ho) (h.sat.same ((Mods.refl _ b).alloc o)) (fun k hk hg=>by
   simp at hk;subst hk;have:=h.sat.lt hg;omega),
  fun k hk=>by
  rcases List.mem_cons.1 hk with rfl | h'
  ·exact .inr h.mods.size
  ·exact h.fresh k h'⟩
theorem Turns.put {a w w':World} {F G:HF} {b:Nat} {φ ψ:Obj→Prop} {o:Obj} (h:Turns F ((b,φ)::G) a w) (hm:Mods (fun k=>k=b) w w') (ho:w'.heap[b]?=some o) (hψ:ψ o):Turns F ((b,ψ)::G) a w' :=
 h.trans ⟨hm.mono (fun k hk=>.inl (by simp [hk])),h.sat.put hm ho hψ,fun k hk=>.inl (by simpa using hk)⟩
theorem Turns.putIs {a w w':World} {F G:HF} {b:Nat} {φ:Obj→Prop} {o:Obj} (h:Turns F ((b,φ)::G) a w) (hm:Mods (fun k=>k=b) w w') (ho:w'.heap[b]?=some o):Turns F ((b,Is o)::G) a w':=h.put hm ho Is.rfl
theorem Turns.allocIs {a b:World} {F G:HF} (h:Turns F G a b) (o:Obj):Turns F ((b.heap.size,Is o)::G) a (b.alloc o):=h.allocIn Is.rfl
theorem Sat.headIs {w:World} {b:Nat} {o:Obj} {F:HF} (h:Sat w ((b,Is o)::F)):w.heap[b]?=some o:=by
 obtain ⟨o',ho,hi⟩:=h.head;unfold Is at hi;subst hi;exact ho
def rowF (e size:Nat) (v:Value) (n:Nat) (xs:List Value):HF :=
 match v.ownBlock with
 | none=>[]
 | some g=>[(g,fun o=>∃ cap cur,v=.slice (some ⟨g,0,none⟩) n cap∧o=.cells cur e (0,0)∧n≤cap∧cap≤maxLen∧cur.size=cap*size∧cur.toList.take (n*size)=xs)]
def RowOk (size:Nat) (v:Value) (n:Nat) (xs:List Value):Prop:=xs.length=n*size∧(v.ownBlock=none→v=.slice none 0 0∧n=0)
theorem qbm {w:World} {e size n:Nat} {v:Value} {xs:List Value} (h:Sat w (rowF e size v n xs)) (k:RowOk size v n xs):w.ownsRow 0 e size v n xs:=by
 refine ⟨k.1,?_⟩
 unfold rowF at h
 cases hv:v.ownBlock with
 | none=>exact .inl (k.2 hv)
 | some g =>
  rw [hv] at h
  obtain ⟨o,ho,cap,cur,hvv,rfl,h1,h2,h3,h4⟩:=h.head
  exact .inr ⟨g,cap,cur,hvv,Nat.zero_le _,ho,h1,h2,h3,h4⟩
theorem qe5 {w:World} {b e size n:Nat} {v:Value} {xs:List Value} (h:w.ownsRow b e size v n xs):Sat w (rowF e size v n xs)∧RowOk size v n xs:=by
 rcases h.2 with ⟨rfl,rfl⟩ | ⟨g,cap,cur,rfl,hb,hg,h1,h2,h3,h4⟩
 ·exact ⟨by simpa [rowF,Value.ownBlock] using Sat.nil w,h.1,fun _=>⟨rfl,rfl⟩⟩
 ·refine ⟨?_,h.1,fun hn=>by simp [Value.ownBlock] at hn⟩
  simp only [rowF,Value.ownBlock]
  exact Sat.one hg ⟨cap,cur,rfl,rfl,h1,h2,h3,h4⟩
theorem qfa (e size n:Nat) (v:Value) (xs:List Value) (b:Nat):b∈dom (rowF e size v n xs)↔v.ownBlock=some b:=by
 unfold rowF
 cases v.ownBlock with
 | none=>simp
 | some g=>simp [dom,eq_comm]
theorem Turns.grow {a w w':World} {F G:HF} {e size n m:Nat} {v v':Value} {xs ys:List Value} (h:Turns F (rowF e size v n xs++G) a w) (hown:w'.ownsRow 0 e size v' m ys) (hgrow:w.grownBy w' v.ownBlock)
  (hg:∀ g,v'.ownBlock=some g→v.ownBlock=some g∨w.heap.size≤g):Turns F (rowF e size v' m ys++G) a w':=by
 have ht:Turns (rowF e size v n xs) (rowF e size v' m ys) w w' :=
  ⟨(
   Mods.of_grown hgrow).mono (fun b hb=>.inl ((qfa _ _ _ _ _ _).2 hb)),(qe5 hown).1,fun b hb=>by
   rcases hg b ((qfa _ _ _ _ _ _).1 hb) with h' | h'
   ·exact .inl ((qfa _ _ _ _ _ _).2 h')
   ·exact .inr h'⟩
 exact h.trans (ht.frame h.sat)
end Go.Proofs.YtdhobpbngkainaaGreatDoor
namespace Go.Proofs.YtdhobpbngkainaaGreatDoor
theorem Sat.memIs {w:World} {F:HF} (h:Sat w F) {b:Nat} {o:Obj} (hm:(b,Is o)∈F):w.heap[b]?=some o:=by
 obtain ⟨o',ho,hi⟩:=h.sat _ hm
 have hi:o'=o:=hi
 subst hi;exact ho
open Classical in
noncomputable def cnt (a:Nat×(Obj→Prop)) (F:HF):Nat:=F.countP (fun b=>decide (b=a))
open Classical in
noncomputable def cnt1 (a b:Nat×(Obj→Prop)):Nat:=if b=a then 1 else 0
theorem qah (a:Nat×(Obj→Prop)):cnt a []=0:=rfl
theorem qad (a b:Nat×(Obj→Prop)) (F:HF):cnt a (b::F)=cnt1 a b+cnt a F:=by
 unfold cnt cnt1
 rw [List.countP_cons]
 by_cases h:b=a<;>simp [h,Nat.add_comm]
theorem qaa (a:Nat×(Obj→Prop)) (F G:HF):cnt a (F++G)=cnt a F+cnt a G:=List.countP_append
open Classical in
theorem qaf {F G:HF} (h:∀ a,cnt a F=cnt a G):F.Perm G:=by
 rw [List.perm_iff_count]
 intro a
 have:=h a
 unfold cnt at this
 have e:(fun b:Nat×(Obj→Prop)=>decide (b=a))=(fun b=>b==a):=by
  funext b
  by_cases hb:b=a
  ·subst hb;simp
  ·simp [hb]
 rw [e] at this
 exact this
theorem qlq {G:HF}:∀ {F:HF},(∀ a,cnt a G≤cnt a F)→∃ R,F.Perm (G++R):=by
 induction G with
 | nil=>intro F _;exact ⟨F,List.Perm.refl _⟩
 | cons g G ih =>
  intro F h
  have hg:g∈F:=by
   have:=h g
   rw [qad] at this
   have h1:cnt1 g g=1:=by unfold cnt1;simp
   have h2:0<cnt g F:=by omega
   unfold cnt at h2
   rw [List.countP_pos_iff] at h2
   obtain ⟨b,hb,he⟩:=h2
   have he:b=g:=by simpa using he
   exact he ▸ hb
  obtain ⟨s,t,rfl⟩:=List.append_of_mem hg
  obtain ⟨R,hR⟩:=ih (F:=s++t) (fun a=>by have:=h a;simp only [qad,qaa] at this ⊢;omega)
  exact ⟨R,List.perm_middle.trans (hR.cons g)⟩
theorem Sat.sub {w:World} {F G:HF} (h:Sat w F) (hp:∀ a,cnt a G≤cnt a F):Sat w G:=by
 obtain ⟨R,hR⟩:=qlq hp
 exact (h.perm hR).left
theorem Turns.step {a b c:World} {F0 G F F' R:HF} (h:Turns F0 G a b) (hp:G.Perm (F++R)) (k:Turns F F' b c):Turns F0 (F'++R) a c :=
 (h.perm (List.Perm.refl _) hp).trans (k.frame (h.sat.perm hp))
theorem Turns.to {a b:World} {F G H:HF} (h:Turns F G a b) (hp:G.Perm H):Turns F H a b:=h.perm (List.Perm.refl _) hp
theorem Turns.drop {a b:World} {F G H:HF} (h:Turns F G a b) (hp:∀ x,cnt x H≤cnt x G):Turns F H a b:=by
 obtain ⟨R,hR⟩:=qlq hp
 exact (h.to hR).left
theorem Turns.newIn {a b c:World} {F G H:HF} (h:Turns F G a b) (k:Turns [] H b c):Turns F (H++G) a c:=by
 have:=k.frame (R:=G) (by simpa using h.sat)
 simp only [List.nil_append] at this
 exact h.trans this
def qam (x:Nat→Value):Nat→List Oper→Act→Act
 | _,[],a=>a
 | k,o::r,a=>qam x (k+1) r (a.put o.dst (x k))
def qf6 (φ:Nat→Value→Prop) (x:Nat→Value) (s:Nat→Option Value) (noisy:List Nat):List Edge→Prop
 | []=>True
 | e::r=>(if Region.binds .any e then φ e.on (x e.on)∧(if noisy.contains e.on then s e.on=some (x e.on) else True) else True)∧qf6 φ x s noisy r
def updO (s:Nat→Option Value) (i:Nat) (v:Value):Nat→Option Value:=fun k=>if k=i then some v else s k
def qoo (P:Program) (Q:Exit→Act→World→Prop) (ops:Array Oper) (a0:Act) (φ:Nat→Value→Prop) (J:(Nat→Option Value)→World→Prop) (noisy:List Nat) (i:Nat) (o:Oper):Prop :=
 ∀ (x:Nat→Value) (s:Nat→Option Value) (w:World),qf6 φ x s noisy o.after.toList→(∀ k v,s k=some v→x k=v)→s i=none→J s w →
  if Region.wanted o (yielded ops (qam x 0 ops.toList a0).tmps) then
   ∀ K:Act→World→Prop,(∀ v w',φ i v→J (if noisy.contains i then updO s i v else s) w'→K ((qam x 0 ops.toList a0).put o.dst v) w')→o.wp P (qam x 0 ops.toList a0) w K Q
  else φ i undef∧J (if noisy.contains i then updO s i undef else s) w
def qeq (P:Program) (Q:Exit→Act→World→Prop) (ops:Array Oper) (a0:Act) (φ:Nat→Value→Prop) (J:(Nat→Option Value)→World→Prop) (noisy:List Nat):Nat→List Oper→Prop
 | _,[]=>True
 | i,o::r=>qoo P Q ops a0 φ J noisy i o∧qeq P Q ops a0 φ J noisy (i+1) r
def qdf (φ:Nat→Value→Prop) (x:Nat→Value):Nat→Nat→Prop
 | _,0=>True
 | i,n+1=>φ i (x i)∧qdf φ x (i+1) n
def qcd (n:Nat):Nat→List Oper→List Nat→Bool
 | _,[],_=>true
 | i,o::r,ds=>(o.after.toList.all fun e => !Region.binds .any e || decide (e.on<i)) &&
   (match o.dst with | some d=>decide (d<n) && !ds.contains d&&qcd n (i+1) r (d::ds) | none=>qcd n (i+1) r ds)
theorem q5z (a:Act) (d:Option Tmp) (v u:Value):(a.put d v).put d u=a.put d u:=by
 cases d<;>simp [Act.put]
theorem qkd {x y:Nat→Value}:∀ (l:List Oper) (k:Nat) (a:Act),(∀ j,k≤j→j<k+l.length→x j=y j)→qam x k l a=qam y k l a:=by
 intro l
 induction l with
 | nil=>intro k a _;rfl
 | cons o r ih =>
  intro k a h
  simp only [qam]
  rw [h k (Nat.le_refl _) (by simp)]
  exact ih (k+1) _ (fun j hj hj2=>h j (by omega) (by simp at hj2 ⊢;omega))
def Dsts (l:List Oper):List Tmp:=l.filterMap (·.dst)
theorem qt3 {x:Nat→Value}:∀ (l:List Oper) (k:Nat) (a:Act) (d:Option Tmp) (v:Value),(∀ t,d=some t→t∉Dsts l)→(qam x k l a).put d v=qam x k l (a.put d v):=by
 intro l
 induction l with
 | nil=>intro k a d v _;rfl
 | cons o r ih =>
  intro k a d v h
  simp only [qam]
  rw [ih (k+1) _ d v (fun t ht hm=>h t ht (by simp only [Dsts,List.filterMap_cons];cases o.dst<;>simp_all [Dsts]))]
  rw [Act.put_comm a (x:=o.dst) (y:=d)]
  intro t ht hd
  refine h t hd ?_
  simp [Dsts,List.filterMap_cons,ht]
theorem qiv {n:Nat}:∀ (l:List Oper) (i:Nat) (ds:List Nat),qcd n i l ds=true→(Dsts l).Nodup∧(∀ d∈Dsts l,d∉ds∧d<n):=by
 intro l
 induction l with
 | nil=>intro i ds _;exact ⟨List.nodup_nil,fun d h=>by simp [Dsts] at h⟩
 | cons o r ih =>
  intro i ds h
  simp only [qcd,Bool.and_eq_true] at h
  obtain ⟨_,h⟩:=h
  cases hd:o.dst with
  | none =>
   rw [hd] at h
   have:=ih _ _ h
   simpa [Dsts,List.filterMap_cons,hd] using this
  | some d =>
   rw [hd] at h
   simp only [Bool.and_eq_true,Bool.not_eq_true',decide_eq_true_eq] at h
   obtain ⟨⟨h1,h2⟩,h3⟩:=h
   have:=ih _ _ h3
   have e:Dsts (o::r)=d::Dsts r:=by simp [Dsts,List.filterMap_cons,hd]
   rw [e]
   refine ⟨List.nodup_cons.2 ⟨fun hm=>(this.2 d hm).1 (by simp),this.1⟩,fun t ht=>?_⟩
   rcases List.mem_cons.1 ht with rfl | ht
   ·exact ⟨fun hc=>by simp [hc] at h2,h1⟩
   ·exact ⟨fun hc=>(this.2 t ht).1 (by simp [hc]),(this.2 t ht).2⟩
theorem qtr {n:Nat}:∀ (l:List Oper) (i:Nat) (ds:List Nat),qcd n i l ds=true→∀ (j:Nat) (o:Oper),l[j]?=some o→∀ e∈o.after.toList,Region.binds .any e=true→e.on<i+j:=by
 intro l
 induction l with
 | nil=>intro i ds _ j o h;simp at h
 | cons o r ih =>
  intro i ds h j o' hj e he hb
  simp only [qcd,Bool.and_eq_true,List.all_eq_true] at h
  obtain ⟨h1,h⟩:=h
  cases j with
  | zero =>
   simp only [List.getElem?_cons_zero,Option.some.injEq] at hj
   subst hj
   have:=h1 e he
   simp [hb] at this
   omega
  | succ j =>
   simp only [List.getElem?_cons_succ] at hj
   have:e.on<i+1+j:=by
    cases hd:o.dst with
    | none=>rw [hd] at h;exact ih _ _ h j o' hj e he hb
    | some d =>
     rw [hd] at h
     simp only [Bool.and_eq_true] at h
     exact ih _ _ h.2 j o' hj e he hb
   omega
theorem qoq {x:Nat→Value} (i:Nat) (v:Value):∀ (l:List Oper) (k:Nat) (a:Act) (o:Oper),(Dsts l).Nodup→k≤i→l[i-k]?=some o →
  (qam x k l a).put o.dst v=qam (fun j=>if j=i then v else x j) k l a:=by
 intro l
 induction l with
 | nil=>intro k a o _ _ h;simp at h
 | cons o' r ih =>
  intro k a o hn hk h
  simp only [qam]
  rcases Nat.eq_or_lt_of_le hk with rfl | hlt
  ·rw [Nat.sub_self] at h
   simp only [List.getElem?_cons_zero,Option.some.injEq] at h
   subst h
   rw [if_pos rfl,qt3 _ _ _ _ _ (fun t ht hm=>?_),q5z]
   ·exact qkd _ _ _ (fun j hj _=>by rw [if_neg (by omega)])
   ·have:Dsts (o'::r)=t::Dsts r:=by simp [Dsts,List.filterMap_cons,ht]
    rw [this] at hn
    exact (List.nodup_cons.1 hn).1 hm
  ·rw [if_neg (by omega)]
   have hn':(Dsts r).Nodup:=by
    cases hd:o'.dst with
    | none=>simpa [Dsts,List.filterMap_cons,hd] using hn
    | some d =>
     have e:Dsts (o'::r)=d::Dsts r:=by simp [Dsts,List.filterMap_cons,hd]
     rw [e] at hn;exact (List.nodup_cons.1 hn).2
   exact ih (k+1) _ o hn' (by omega) (by rw [show i-k=(i-(k+1))+1 by omega] at h;simpa using h)
theorem qvt {P:Program} {Q:Exit→Act→World→Prop} {ops:Array Oper} {a0:Act} {φ:Nat→Value→Prop} {J:(Nat→Option Value)→World→Prop} {noisy:List Nat} :
  ∀ (l:List Oper) (i:Nat),qeq P Q ops a0 φ J noisy i l→∀ (j:Nat) (o:Oper),l[j]?=some o→qoo P Q ops a0 φ J noisy (i+j) o:=by
 intro l
 induction l with
 | nil=>intro i _ j o h;simp at h
 | cons o' r ih =>
  intro i h j o hj
  cases j with
  | zero=>simp only [List.getElem?_cons_zero,Option.some.injEq] at hj;subst hj;exact h.1
  | succ j=>have:=ih _ h.2 j o (by simpa using hj);rwa [Nat.add_right_comm,Nat.add_assoc] at this
theorem qmv {φ:Nat→Value→Prop} {x:Nat→Value}:∀ (n i:Nat),(∀ k,i≤k→k<i+n→φ k (x k))→qdf φ x i n:=by
 intro n
 induction n with
 | zero=>intro i _;trivial
 | succ n ih=>intro i h;exact ⟨h i (Nat.le_refl _) (by omega),ih (i+1) (fun k h1 h2=>h k (by omega) (by omega))⟩
theorem qmb {φ:Nat→Value→Prop} {x:Nat→Value} {s:Nat→Option Value} {noisy:List Nat}:∀ (l:List Edge),(∀ e∈l,Region.binds .any e=true→φ e.on (x e.on)∧(noisy.contains e.on=true→s e.on=some (x e.on)))→qf6 φ x s noisy l:=by
 intro l
 induction l with
 | nil=>intro _;trivial
 | cons e r ih =>
  intro h
  refine ⟨?_,ih (fun e' he=>h e' (List.mem_cons_of_mem _ he))⟩
  split
  ·rename_i hb
   obtain ⟨h1,h2⟩:=h e (by simp) hb
   refine ⟨h1,?_⟩
   split
   ·rename_i hc;exact h2 hc
   ·trivial
  ·trivial
theorem qgu {ops:Array Oper} {listed:Array Bool} {i:Nat} (h:i∈Region.ready .any ops listed) :
  i<ops.size∧listed.getD i true=false∧∃ o,ops[i]?=some o∧∀ e∈o.after.toList,Region.binds .any e=true→listed.getD e.on false=true:=by
 unfold Region.ready at h
 rw [List.mem_filter] at h
 obtain ⟨h1,h2⟩:=h
 have hi:i<ops.size:=by simpa using h1
 simp only [Bool.and_eq_true,Bool.not_eq_true'] at h2
 obtain ⟨h2,h3⟩:=h2
 refine ⟨hi,h2,ops[i],Array.getElem?_eq_getElem hi,fun e he hb=>?_⟩
 rw [Array.getElem?_eq_getElem hi] at h3
 simp only [Option.map_some,Option.getD_some,Array.all_eq_true_iff_forall_mem] at h3
 have:=h3 e (by simpa using he)
 simpa [hb] using this
theorem qok {ops:Array Oper} {listed:Array Bool} {n:Nat} (hok:qcd n 0 ops.toList []=true) (hs:listed.size=ops.size) {i:Nat} (hi:i<ops.size) (hl:listed.getD i true=false):Region.ready .any ops listed≠[]:=by
 induction i using Nat.strongRecOn with
 | _ i ih =>
  by_cases hd:∀ e∈(ops[i]).after.toList,Region.binds .any e=true→listed.getD e.on false=true
  ·intro hnil
   have hm:i∈Region.ready .any ops listed:=by
    unfold Region.ready
    rw [List.mem_filter]
    refine ⟨by simpa using hi,?_⟩
    rw [Array.getElem?_eq_getElem hi]
    simp only [Bool.and_eq_true,Bool.not_eq_true',Option.map_some,Option.getD_some,Array.all_eq_true_iff_forall_mem]
    refine ⟨hl,fun e he=>?_⟩
    by_cases hb:Region.binds .any e=true
    ·simp [hb,hd e (by simpa using he) hb]
    ·simp [hb]
   rw [hnil] at hm
   simp at hm
  ·have:∃ e,e∈(ops[i]).after.toList∧Region.binds .any e=true∧¬ listed.getD e.on false=true:=by
    apply Classical.byContradiction
    intro hn
    exact hd (fun e he hb=>Classical.byContradiction fun hc=>hn ⟨e,he,hb,hc⟩)
   obtain ⟨e,he,hb,hc⟩:=this
   have hlt:=qtr ops.toList 0 [] hok i ops[i] (by simp [hi]) e he hb
   have hlt':e.on<i:=by omega
   refine ih e.on hlt' (by omega) ?_
   have hsz:e.on<listed.size:=by omega
   simp only [Array.getD_eq_getD_getElem?,Array.getElem?_eq_getElem hsz,Option.getD_some] at hc ⊢
   simpa using hc
def qb8 (listed:Array Bool):Nat:=listed.toList.countP (·==false)
theorem qi2 {listed:Array Bool} {i:Nat} (h:listed.getD i true=false):qb8 (listed.setIfInBounds i true)+1=qb8 listed:=by
 have hi:i<listed.size:=by
  rcases Nat.lt_or_ge i listed.size with h' | h'
  ·exact h'
  ·simp [Array.getD_eq_getD_getElem?,Array.getElem?_eq_none h'] at h
 obtain ⟨l⟩:=listed
 simp only [Array.getD_eq_getD_getElem?] at h
 simp only [List.size_toArray] at hi
 simp only [qb8,List.setIfInBounds_toArray]
 have he:l[i]=false:=by simpa [hi] using h
 clear h
 induction l generalizing i with
 | nil=>simp at hi
 | cons b r ih =>
  cases i with
  | zero=>simp at he;subst he;simp [List.countP_cons]
  | succ i =>
   simp only [List.getElem_cons_succ] at he
   simp only [List.set_cons_succ,List.countP_cons]
   have:=ih (i:=i) (by simpa using hi) he
   omega
theorem qi0 {listed:Array Bool} (h:0<qb8 listed):∃ i,i<listed.size∧listed.getD i true=false:=by
 unfold qb8 at h
 rw [List.countP_pos_iff] at h
 obtain ⟨b,hb,hf⟩:=h
 obtain ⟨i,hi,rfl⟩:=List.mem_iff_getElem.1 hb
 refine ⟨i,by simpa using hi,?_⟩
 simp only [Array.getD_eq_getD_getElem?]
 have hi':i<listed.size:=by simpa using hi
 rw [Array.getElem?_eq_getElem hi']
 simpa using hf
theorem qdz {listed:Array Bool} (h:qb8 listed=0) {i:Nat} (hi:i<listed.size):listed.getD i true=true:=by
 cases hc:listed.getD i true with
 | true=>rfl
 | false =>
  exfalso
  have:0<qb8 listed:=by
   unfold qb8
   rw [List.countP_pos_iff]
   refine ⟨listed[i],by simp,?_⟩
   simp only [Array.getD_eq_getD_getElem?] at hc
   rw [Array.getElem?_eq_getElem hi] at hc
   simpa using hc
  omega
theorem qhh (n:Nat):qb8 (Array.replicate n false)=n:=by
 simp [qb8,List.countP_replicate]
def qa3 (noisy:List Nat) (listed:Array Bool) (x:Nat→Value):Nat→Option Value:=fun k=>if listed.getD k false=true∧noisy.contains k=true then some (x k) else none
theorem q0h {P:Program} {Q:Exit→Act→World→Prop} {ops:Array Oper} {a0:Act} (φ:Nat→Value→Prop) (J:(Nat→Option Value)→World→Prop) (noisy:List Nat)
  (hok:qcd a0.tmps.size 0 ops.toList []=true) (hsteps:qeq P Q ops a0 φ J noisy 0 ops.toList)
  (hend:∀ x w,qdf φ x 0 ops.size→J (fun k=>if k<ops.size∧noisy.contains k=true then some (x k) else none) w→Q .normal (qam x 0 ops.toList a0) w) :
  ∀ (fuel:Nat) (listed:Array Bool) (x:Nat→Value) (w:World),listed.size=ops.size→qb8 listed=fuel→(∀ k,listed.getD k false=true→φ k (x k))→J (qa3 noisy listed x) w →
   wpAny P .any ops Q fuel listed (qam x 0 ops.toList a0) w:=by
 have hn:=(qiv ops.toList 0 [] hok).1
 have fin:∀ (listed:Array Bool) (x:Nat→Value) (w:World),listed.size=ops.size→qb8 listed=0→(∀ k,listed.getD k false=true→φ k (x k))→J (qa3 noisy listed x) w→Q .normal (qam x 0 ops.toList a0) w:=by
  intro listed x w hs hu hφ hJ
  have hall:∀ k,listed.getD k false=true↔k<ops.size:=fun k=>by
   rcases Nat.lt_or_ge k listed.size with h' | h'
   ·have:=qdz hu h'
    simp only [Array.getD_eq_getD_getElem?,Array.getElem?_eq_getElem h',Option.getD_some] at this ⊢
    exact ⟨fun _=>by omega,fun _=>this⟩
   ·simp only [Array.getD_eq_getD_getElem?,Array.getElem?_eq_none h',Option.getD_none]
    exact ⟨fun h=>Bool.noConfusion h,fun h=>by omega⟩
  refine hend x w (qmv _ _ (fun k _ h2=>hφ k ((hall k).2 (by omega)))) ?_
  have e:qa3 noisy listed x=fun k=>if k<ops.size∧noisy.contains k=true then some (x k) else none:=by
   funext k
   unfold qa3
   simp only [hall k]
  rw [← e];exact hJ
 intro fuel
 induction fuel with
 | zero =>
  intro listed x w hs hu hφ hJ
  refine ⟨?_,fin listed x w hs hu hφ hJ⟩
  apply Classical.byContradiction
  intro hne
  obtain ⟨i,hi⟩:=List.exists_mem_of_ne_nil _ hne
  obtain ⟨h1,h2,_⟩:=qgu hi
  have:=qdz hu (i:=i) (by omega)
  rw [this] at h2;cases h2
 | succ fuel ih =>
  intro listed x w hs hu hφ hJ
  refine ⟨fun hnil=>?_,fun i hi=>?_⟩
  ·obtain ⟨i,hi,hl⟩:=qi0 (listed:=listed) (by omega)
   exact absurd hnil (qok hok hs (by omega) hl)
  ·obtain ⟨h1,h2,o,ho,hdeps⟩:=qgu hi
   have hlt:i<listed.size:=by omega
   have hf:listed.getD i false=false:=by
    simp only [Array.getD_eq_getD_getElem?,Array.getElem?_eq_getElem hlt,Option.getD_some] at h2 ⊢;exact h2
   have hol:ops.toList[i]?=some o:=by simpa using ho
   have hst:=qvt ops.toList 0 hsteps i o hol
   rw [Nat.zero_add] at hst
   have hst:=hst x (qa3 noisy listed x) w (qmb _ (fun e he hb=>⟨hφ _ (hdeps e he hb),fun hc=>by unfold qa3;rw [if_pos ⟨hdeps e he hb,hc⟩]⟩)) (fun k v hk=>by unfold qa3 at hk;split at hk<;>simp_all) (by unfold qa3;rw [if_neg (by simp [hf])]) hJ
   have hsz':(listed.setIfInBounds i true).size=ops.size:=by simpa using hs
   have hu':qb8 (listed.setIfInBounds i true)=fuel:=by have:=qi2 h2;omega
   have next:∀ v w',φ i v→J (if noisy.contains i then updO (qa3 noisy listed x) i v else qa3 noisy listed x) w'→wpAny P .any ops Q fuel (listed.setIfInBounds i true) ((qam x 0 ops.toList a0).put o.dst v) w':=by
    intro v w' hv hJ'
    rw [qoq i v ops.toList 0 a0 o hn (Nat.zero_le _) (by simpa using hol)]
    have hgd:∀ k,(listed.setIfInBounds i true).getD k false=if k=i then true else listed.getD k false:=fun k=>by
     simp only [Array.getD_eq_getD_getElem?,Array.getElem?_setIfInBounds]
     by_cases hk:k=i
     ·subst hk;simp [hlt]
     ·rw [if_neg (Ne.symm hk),if_neg hk]
    refine ih _ _ w' hsz' hu' (fun k hk=>?_) ?_
    ·rw [hgd k] at hk
     by_cases hki:k=i
     ·subst hki;rw [if_pos rfl];exact hv
     ·rw [if_neg hki] at hk ⊢;exact hφ k hk
    ·have e:qa3 noisy (listed.setIfInBounds i true) (fun j=>if j=i then v else x j)=(if noisy.contains i then updO (qa3 noisy listed x) i v else qa3 noisy listed x):=by
      funext k
      unfold qa3
      rw [hgd k]
      by_cases hki:k=i
      ·subst hki
       cases hc:noisy.contains k with
       | true=>simp only [if_true,and_self,updO,↓reduceIte]
       | false=>simp only [if_true,Bool.false_eq_true,and_false,if_false,↓reduceIte,hc]
      ·simp only [if_neg hki]
       cases hc:noisy.contains i with
       | true=>simp only [if_true,updO,if_neg hki,↓reduceIte]
       | false=>simp only [Bool.false_eq_true,if_false,↓reduceIte]
     rw [e];exact hJ'
   unfold wpOp
   rw [ho]
   simp only
   split
   ·rename_i hw
    rw [if_pos hw] at hst
    exact .inl (hst _ next)
   ·rename_i hw
    rw [if_neg hw] at hst
    exact next undef w hst.1 hst.2
theorem qji {P:Program} {Q:Exit→Act→World→Prop} {ops:Array Oper} {a0:Act} {w:World} (φ:Nat→Value→Prop) (J:(Nat→Option Value)→World→Prop) (noisy:List Nat)
  (hok:qcd a0.tmps.size 0 ops.toList []=true) (h0:J (fun _=>none) w.drew) (hsteps:qeq P Q ops a0 φ J noisy 0 ops.toList)
  (hend:∀ x w,qdf φ x 0 ops.size→J (fun k=>if k<ops.size∧noisy.contains k=true then some (x k) else none) w→Q .normal (qam x 0 ops.toList a0) w) :
  wpAny P .any ops Q ops.size (Array.replicate ops.size false) a0 w.drew:=by
 have hx:∃ x:Nat→Value,qam x 0 ops.toList a0=a0:=by
  have key:∀ (l:List Oper) (k:Nat) (x:Nat→Value),(∀ j o d,l[j]?=some o→o.dst=some d→d<a0.tmps.size→x (k+j)=a0.tmps.getD d undef)→qam x k l a0=a0:=by
   intro l
   induction l with
   | nil=>intro k x _;rfl
   | cons o r ih =>
    intro k x h
    simp only [qam]
    have e:a0.put o.dst (x k)=a0:=by
     cases hd:o.dst with
     | none=>rfl
     | some d =>
      simp only [Act.put]
      by_cases hlt:d<a0.tmps.size
      ·have:=h 0 o d (by simp) hd hlt
       rw [Nat.add_zero] at this
       rw [this]
       obtain ⟨t,df⟩:=a0
       simp only [Act.mk.injEq,and_true]
       have hlt':d<t.size:=hlt
       apply Array.ext_getElem?
       intro j
       rw [Array.getElem?_setIfInBounds]
       by_cases hj:d=j
       ·subst hj;simp [hlt']
       ·rw [if_neg hj]
      ·obtain ⟨t,df⟩:=a0
       simp only [Act.mk.injEq,and_true]
       have hle:t.size≤d:=Nat.le_of_not_lt hlt
       exact Array.setIfInBounds_eq_of_size_le hle
    rw [e]
    exact ih (k+1) x (fun j o' d hj hd hl=>by have:=h (j+1) o' d (by simpa using hj) hd hl;rwa [show k+(j+1)=k+1+j by omega] at this)
  refine ⟨fun j=>((ops.toList[j]?).bind (·.dst)).elim undef (fun d=>a0.tmps.getD d undef),key ops.toList 0 _ (fun j o d hj hd _=>?_)⟩
  simp [hj,hd]<;>simp_all
 obtain ⟨x,hx⟩:=hx
 have h:=q0h (P:=P) (Q:=Q) φ J noisy hok hsteps hend ops.size (Array.replicate ops.size false) x w.drew (by simp) (qhh _) (fun k hk=>by
   simp only [Array.getD_eq_getD_getElem?,Array.getElem?_replicate] at hk
   split at hk<;>simp at hk) (by
   have e:qa3 noisy (Array.replicate ops.size false) x=fun _=>none:=by
    funext k
    unfold qa3
    rw [if_neg]
    simp only [Array.getD_eq_getD_getElem?,Array.getElem?_replicate]
    split<;>simp
   rw [e];exact h0)
 rw [hx] at h
 exact h
theorem qkj {P:Program} {Q:Exit→Act→World→Prop} {id:Nat} {ops:Array Oper} {a0:Act} {w:World} (hm:P.follows .mixedOrders=true) (φ:Nat→Value→Prop) (J:(Nat→Option Value)→World→Prop) (noisy:List Nat)
  (hok:qcd a0.tmps.size 0 ops.toList []=true) (h0:J (fun _=>none) w.drew) (hsteps:qeq P Q ops a0 φ J noisy 0 ops.toList)
  (hend:∀ x w,qdf φ x 0 ops.size→J (fun k=>if k<ops.size∧noisy.contains k=true then some (x k) else none) w→Q .normal (qam x 0 ops.toList a0) w) :
  (Code.region id ops true).wp P Q a0 w :=
 wp_region_any hm (qji φ J noisy hok h0 hsteps hend)
def depsC (φ:Nat→Value→Prop) (x:Nat→Value):List Edge→Prop
 | []=>True
 | e::r=>(match Region.binds .any e with | true=>φ e.on (x e.on) | false=>True)∧depsC φ x r
def qgv (ops:Array Oper):List Nat→Bool
 | i::j::r=>(match ops[j]? with | some o=>o.after.any (fun e=>Region.binds .any e&&e.on==i) | none=>false)&&qgv ops (j::r)
 | _=>true
def qei (ns:List Nat) (x:Nat→Value) (j:Nat):List Value:=(ns.take j).map x
def qdr (P:Program) (Q:Exit→Act→World→Prop) (ops:Array Oper) (A:(Nat→Value)→Act) (φ:Nat→Value→Prop) (St:List Value→World→Prop) (C:World→Prop) (ns:List Nat) (i:Nat) (o:Oper):Prop :=
 match ns.idxOf? i with
 | none=>∀ (x:Nat→Value) (w:World),depsC φ x o.after.toList→C w →
   if Region.wanted o (yielded ops (A x).tmps) then ∀ K:Act→World→Prop,(∀ v,φ i v→K ((A x).put o.dst v) w)→(∀ v w',φ i v→(∀ vs,St vs w→St vs w')→K ((A x).put o.dst v) w')→o.wp P (A x) w K Q
   else φ i undef
 | some j=>∀ (x:Nat→Value) (w:World),depsC φ x o.after.toList→St (qei ns x j) w →
   if Region.wanted o (yielded ops (A x).tmps) then ∀ K:Act→World→Prop,(∀ v w',φ i v→St (qei ns x j++[v]) w'→K ((A x).put o.dst v) w')→o.wp P (A x) w K Q
   else φ i undef∧St (qei ns x j++[undef]) w
def qev (P:Program) (Q:Exit→Act→World→Prop) (ops:Array Oper) (A:(Nat→Value)→Act) (φ:Nat→Value→Prop) (St:List Value→World→Prop) (C:World→Prop) (ns:List Nat):Nat→List Oper→Prop
 | _,[]=>True
 | i,o::r=>qdr P Q ops A φ St C ns i o∧qev P Q ops A φ St C ns (i+1) r
theorem qab {P:Program} {Q:Exit→Act→World→Prop} {ops:Array Oper} {A:(Nat→Value)→Act} {φ:Nat→Value→Prop} {St:List Value→World→Prop} {C:World→Prop} {ns:List Nat} {i:Nat} {o:Oper}
  (hi:ns.idxOf? i=none) (hg:o.guard=none) (h:∀ (x:Nat→Value) (w:World),depsC φ x o.after.toList→C w→∀ K:Act→World→Prop,(∀ v,φ i v→K ((A x).put o.dst v) w)→(∀ v w',φ i v→(∀ vs,St vs w→St vs w')→K ((A x).put o.dst v) w')→o.wp P (A x) w K Q) :
  qdr P Q ops A φ St C ns i o:=by
 unfold qdr
 rw [hi]
 intro x w hd hC
 rw [if_pos (by simp [Region.wanted,hg])]
 exact h x w hd hC
theorem qap {P:Program} {Q:Exit→Act→World→Prop} {ops:Array Oper} {A:(Nat→Value)→Act} {φ:Nat→Value→Prop} {St:List Value→World→Prop} {C:World→Prop} {ns:List Nat} {i:Nat} {o:Oper}
  (j:Nat) (hi:ns.idxOf? i=some j) (hg:o.guard=none) (h:∀ (x:Nat→Value) (w:World),depsC φ x o.after.toList→St (qei ns x j) w→∀ K:Act→World→Prop,(∀ v w',φ i v→St (qei ns x j++[v]) w'→K ((A x).put o.dst v) w')→o.wp P (A x) w K Q) :
  qdr P Q ops A φ St C ns i o:=by
 unfold qdr
 rw [hi]
 intro x w hd hC
 rw [if_pos (by simp [Region.wanted,hg])]
 exact h x w hd hC
theorem qec {φ:Nat→Value→Prop} {x:Nat→Value} {s:Nat→Option Value} {noisy:List Nat}:∀ (l:List Edge),qf6 φ x s noisy l→depsC φ x l∧∀ e∈l,Region.binds .any e=true→noisy.contains e.on=true→s e.on=some (x e.on):=by
 intro l
 induction l with
 | nil=>intro _;exact ⟨trivial,fun e he=>by simp at he⟩
 | cons e r ih =>
  intro h
  obtain ⟨h1,h2⟩:=h
  obtain ⟨i1,i2⟩:=ih h2
  refine ⟨⟨?_,i1⟩,fun e' he hb hc=>?_⟩
  ·cases hb:Region.binds .any e with
   | true=>rw [if_pos hb] at h1;exact h1.1
   | false=>trivial
  ·rcases List.mem_cons.1 he with rfl | he
   ·rw [if_pos hb] at h1
    have:=h1.2
    rwa [if_pos hc] at this
   ·exact i2 e' he hb hc
theorem ql8 {P:Program} {Q:Exit→Act→World→Prop} {ops:Array Oper} {A:(Nat→Value)→Act} {φ:Nat→Value→Prop} {St:List Value→World→Prop} {C:World→Prop} {ns:List Nat} :
  ∀ (l:List Oper) (i:Nat),qev P Q ops A φ St C ns i l→∀ (j:Nat) (o:Oper),l[j]?=some o→qdr P Q ops A φ St C ns (i+j) o:=by
 intro l
 induction l with
 | nil=>intro i _ j o h;simp at h
 | cons o' r ih =>
  intro i h j o hj
  cases j with
  | zero=>simp only [List.getElem?_cons_zero,Option.some.injEq] at hj;subst hj;exact h.1
  | succ j=>have:=ih _ h.2 j o (by simpa using hj);rwa [Nat.add_right_comm,Nat.add_assoc] at this
theorem qtm {P:Program} {Q:Exit→Act→World→Prop} {ops:Array Oper} {a0:Act} {φ:Nat→Value→Prop} {J:(Nat→Option Value)→World→Prop} {noisy:List Nat} :
  ∀ (l:List Oper) (i:Nat),(∀ (j:Nat) (o:Oper),l[j]?=some o→qoo P Q ops a0 φ J noisy (i+j) o)→qeq P Q ops a0 φ J noisy i l:=by
 intro l
 induction l with
 | nil=>intro i _;trivial
 | cons o r ih =>
  intro i h
  exact ⟨h 0 o rfl,ih (i+1) (fun j o' hj=>by have:=h (j+1) o' (by simpa using hj);rwa [show i+(j+1)=i+1+j by omega] at this)⟩
theorem qqh {ops:Array Oper}:∀ (ns:List Nat),qgv ops ns=true→∀ (j a b:Nat),ns[j]?=some a→ns[j+1]?=some b→∃ o e,ops[b]?=some o∧e∈o.after.toList∧Region.binds .any e=true∧e.on=a:=by
 intro ns
 induction ns with
 | nil=>intro _ j a b h;simp at h
 | cons i r ih =>
  intro h j a b ha hb
  cases r with
  | nil=>simp at hb
  | cons i' r =>
   simp only [qgv,Bool.and_eq_true] at h
   cases j with
   | zero =>
    simp only [List.getElem?_cons_zero,Option.some.injEq,List.getElem?_cons_succ] at ha hb
    subst ha;subst hb
    cases ho:ops[i']? with
    | none=>rw [ho] at h;simp at h
    | some o =>
     rw [ho] at h
     obtain ⟨h1,_⟩:=h
     obtain ⟨n,hn,hb⟩:=Array.any_eq_true.1 h1
     simp only [Bool.and_eq_true,beq_iff_eq] at hb
     exact ⟨o,o.after[n],rfl,by simp,hb.1,hb.2⟩
   | succ j=>exact ih h.2 j a b (by simpa using ha) (by simpa using hb)
theorem qpd {ns:List Nat} {i j:Nat} (h:ns.idxOf? i=some j):ns[j]?=some i:=by
 rw [List.idxOf?,List.findIdx?_eq_some_iff_getElem] at h
 obtain ⟨hj,h1,_⟩:=h
 rw [List.getElem?_eq_getElem hj]
 simpa using h1
theorem qo3 {ns:List Nat} {i:Nat} (h:ns.idxOf? i=none):ns.contains i=false:=by
 rw [List.idxOf?,List.findIdx?_eq_none_iff] at h
 cases hc:ns.contains i with
 | false=>rfl
 | true =>
  rw [List.contains_iff_mem] at hc
  have:=h i hc
  simp at this
theorem qlj {ns:List Nat} (h:ns.Nodup) {a b i:Nat} (h1:ns[a]?=some i) (h2:ns[b]?=some i):a=b:=by
 obtain ⟨ha,ea⟩:=List.getElem?_eq_some_iff.1 h1
 obtain ⟨hb,eb⟩:=List.getElem?_eq_some_iff.1 h2
 have:=List.pairwise_iff_getElem.1 h
 rcases Nat.lt_trichotomy a b with h' | h' | h'
 ·exact absurd (ea.trans eb.symm) (this a b ha hb h')
 ·exact h'
 ·exact absurd (eb.trans ea.symm) (this b a hb ha h')
theorem qos {P:Program} {Q:Exit→Act→World→Prop} {ops:Array Oper} {a0:Act} {w:World} (A:(Nat→Value)→Act) (hA:∀ x,qam x 0 ops.toList a0=A x)
  (φ:Nat→Value→Prop) (St:List Value→World→Prop) (C:World→Prop) (ns:List Nat) (hC:∀ vs w,St vs w→C w)
  (hok:qcd a0.tmps.size 0 ops.toList []=true) (hch:qgv ops ns=true) (hnd:ns.Nodup) (hlt:∀ i∈ns,i<ops.size) (h0:St [] w.drew) (hsteps:qev P Q ops A φ St C ns 0 ops.toList)
  (hend:∀ x w,qdf φ x 0 ops.size→St (ns.map x) w→Q .normal (A x) w) :
  wpAny P .any ops Q ops.size (Array.replicate ops.size false) a0 w.drew:=by
 let J:(Nat→Option Value)→World→Prop:=fun s w=>∃ vs:List Value,vs.length≤ns.length∧(∀ (j i:Nat),ns[j]?=some i→s i=vs[j]?)∧St vs w
 refine qji φ J ns hok ⟨[],by simp,fun j i _=>by simp,h0⟩ (qtm _ _ (fun i o ho=>?_)) (fun x w hφ hJ=>?_)
 ·rw [Nat.zero_add]
  have hg:=ql8 ops.toList 0 hsteps i o ho
  rw [Nat.zero_add] at hg
  intro x s w hd hsx hs hJ
  obtain ⟨hd',hdn⟩:=qec _ hd
  obtain ⟨vs,hvl,hvs,hSt⟩:=hJ
  rw [hA]
  unfold qdr at hg
  cases hi:ns.idxOf? i with
  | none =>
   rw [hi] at hg
   have hni:=qo3 hi
   have hg:=hg x w hd' (hC _ _ hSt)
   split
   ·rename_i hw
    rw [if_pos hw] at hg
    intro K hK
    refine hg K (fun v hv=>hK v w hv ?_) (fun v w' hv hst=>hK v w' hv ?_)
    ·rw [hni];exact ⟨vs,hvl,hvs,hSt⟩
    ·rw [hni];exact ⟨vs,hvl,hvs,hst _ hSt⟩
   ·rename_i hw
    rw [if_neg hw] at hg
    refine ⟨hg,?_⟩
    rw [hni];exact ⟨vs,hvl,hvs,hSt⟩
  | some j =>
   rw [hi] at hg
   have hji:=qpd hi
   have hjl:j<ns.length:=(List.getElem?_eq_some_iff.1 hji).1
   have hci:ns.contains i=true:=by rw [List.contains_iff_mem];exact List.mem_of_getElem? hji
   have hle:vs.length≤j:=by
    rcases Nat.lt_or_ge j vs.length with h' | h'
    ·have:=hvs j i hji
     rw [hs,List.getElem?_eq_getElem h'] at this;cases this
    ·exact h'
   have hge:j≤vs.length:=by
    cases j with
    | zero=>exact Nat.zero_le _
    | succ j =>
     have hj':j<ns.length:=by omega
     have ha:ns[j]?=some ns[j]:=List.getElem?_eq_getElem hj'
     obtain ⟨o',e,ho',he,hb,hon⟩:=qqh ns hch j _ i ha hji
     have:o'=o:=by
      have h1:ops[i]?=some o:=by simpa using ho
      rw [h1] at ho';exact (Option.some.inj ho').symm
     subst this
     have hsn:=hdn e he hb (by rw [hon,List.contains_iff_mem];exact List.getElem_mem hj')
     have:=hvs j _ ha
     rw [← hon,hsn] at this
     have:=(List.getElem?_eq_some_iff.1 this.symm).1
     omega
   have hlen:vs.length=j:=by omega
   have hx':vs=qei ns x j:=by
    apply List.ext_getElem?
    intro k
    unfold qei
    rw [List.getElem?_map,List.getElem?_take]
    rcases Nat.lt_or_ge k j with hk | hk
    ·rw [if_pos hk]
     have hkn:k<ns.length:=by omega
     rw [List.getElem?_eq_getElem hkn]
     have:=hvs k _ (List.getElem?_eq_getElem hkn)
     have hkv:k<vs.length:=by omega
     rw [List.getElem?_eq_getElem hkv] at this ⊢
     simp [hsx _ _ this]
    ·rw [if_neg (by omega),List.getElem?_eq_none (by omega)];rfl
   rw [hx'] at hSt
   have hg:=hg x w hd' hSt
   have next:∀ v,(∀ (j' i':Nat),ns[j']?=some i'→updO s i v i'=(qei ns x j++[v])[j']?):=by
    intro v j' i' hj'
    rw [← hx']
    have hj'l:j'<ns.length:=(List.getElem?_eq_some_iff.1 hj').1
    unfold updO
    rcases Nat.lt_trichotomy j' j with h1 | h1 | h1
    ·rw [if_neg (fun e=>by
      subst e
      have:=qlj hnd hj' hji
      omega),hvs j' i' hj',List.getElem?_append_left (by omega)]
    ·subst h1
     rw [hji] at hj'
     simp only [Option.some.injEq] at hj'
     rw [if_pos hj'.symm,List.getElem?_append_right (by omega),hlen,Nat.sub_self];rfl
    ·rw [if_neg (fun e=>by
      subst e
      have:=qlj hnd hj' hji
      omega),hvs j' i' hj',List.getElem?_eq_none (by omega),List.getElem?_eq_none (by simp;omega)]
   have hl':∀ v:Value,(qei ns x j++[v]).length≤ns.length:=fun v=>by rw [← hx'];simp;omega
   split
   ·rename_i hw
    rw [if_pos hw] at hg
    intro K hK
    exact hg K (fun v w' hv hst=>hK v w' hv ⟨_,hl' v,next v,hst⟩)
   ·rename_i hw
    rw [if_neg hw] at hg
    refine ⟨hg.1,?_⟩
    exact ⟨_,hl' _,next _,hg.2⟩
 ·rw [hA]
  refine hend x w hφ ?_
  obtain ⟨vs,hvl,hvs,hSt⟩:=hJ
  have e:vs=ns.map x:=by
   apply List.ext_getElem?
   intro k
   rw [List.getElem?_map]
   rcases Nat.lt_or_ge k ns.length with hk | hk
   ·have:=hvs k _ (List.getElem?_eq_getElem hk)
    simp only at this
    rw [if_pos ⟨hlt _ (List.getElem_mem hk),by rw [List.contains_iff_mem];exact List.getElem_mem hk⟩] at this
    rw [← this,List.getElem?_eq_getElem hk];rfl
   ·rw [List.getElem?_eq_none (by omega),List.getElem?_eq_none hk];rfl
  rw [← e];exact hSt
theorem qbt {P:Program} {Q:Exit→Act→World→Prop} {id:Nat} {ops:Array Oper} {a0:Act} {w:World} (A:(Nat→Value)→Act) (hA:∀ x,qam x 0 ops.toList a0=A x) (hm:P.follows .mixedOrders=true)
  (φ:Nat→Value→Prop) (St:List Value→World→Prop) (C:World→Prop) (ns:List Nat) (hC:∀ vs w,St vs w→C w)
  (hok:qcd a0.tmps.size 0 ops.toList []=true) (hch:qgv ops ns=true) (hnd:ns.Nodup) (hlt:∀ i∈ns,i<ops.size) (h0:St [] w.drew) (hsteps:qev P Q ops A φ St C ns 0 ops.toList)
  (hend:∀ x w,qdf φ x 0 ops.size→St (ns.map x) w→Q .normal (A x) w) :
  (Code.region id ops true).wp P Q a0 w :=
 wp_region_any hm (qos A hA φ St C ns hC hok hch hnd hlt h0 hsteps hend)
theorem qag {P:Program} {o:Oper} {a:Act} {w w':World} {v:Value} {K:Act→World→Prop} {Q:Exit→Act→World→Prop} (h:(execOp a.eval o).run P w=.ok (.value v) w') (hk:K (a.put o.dst v) w'):o.wp P a w K Q:=by
 unfold Oper.wp;rw [h];exact hk
theorem qbe {P:Program} {o:Oper} {a:Act} {w:World} {f:FuncId} {args:Array Value} {R:Ending→World→Prop} {K:Act→World→Prop} {Q:Exit→Act→World→Prop} (h:(execOp a.eval o).run P w=.ok (.enter f args) w)
  (hc:Calls P f args w R) (hk:∀ e w',R e w'→∃ v,e=.returned v∧K (a.put o.dst v) w'):o.wp P a w K Q:=by
 unfold Oper.wp
 rw [h]
 refine hc.mono (fun e w' hr=>?_)
 obtain ⟨v,rfl,hv⟩:=hk e w' hr
 exact hv
def qe6:TypeDesc→Bool
 | .struct _ | .array _ _=>false
 | _=>true
theorem qat {P:Program} {o:Oper} {a:Act} {w:World} {ty:TypeId} {x:Operand} {ad:Addr} {v:Value} {d:TypeDesc} {K:Act→World→Prop} {Q:Exit→Act→World→Prop} (hu:P.underlying ty=some d) (hd:qe6 d=true) (ho:o.op=.load ty x) (hx:a.eval x=.pointer (some ad)) (hc:w.cell? ad=some v)
  (hk:K (a.put o.dst v) w):o.wp P a w K Q:=by
 refine qag ?_ hk
 unfold execOp
 simp only [ho,hx]
 cases d<;>simp [qe6] at hd<;>simp [Instr.loadAt,Instr.sureAddr,loadVar,isAgg,underlying,hu,Result.andThen,hc]
def phiL (l:List (Value→Prop)) (k:Nat) (v:Value):Prop:=(l[k]?).elim True (fun p=>p v)
theorem qae {φ:Nat→Value→Prop} {x:Nat→Value}:∀ {l:List Edge},depsC φ x l→∀ (k:Nat),(l.any fun e=>Region.binds .any e&&e.on==k)=true→φ k (x k):=by
 intro l
 induction l with
 | nil=>intro _ k h;simp at h
 | cons e r ih =>
  intro h k hk
  rw [List.any_cons,Bool.or_eq_true] at hk
  rcases hk with hk | hk
  ·simp only [Bool.and_eq_true,beq_iff_eq] at hk
   have h1:=h.1
   rw [hk.1,hk.2] at h1
   exact h1
  ·exact ih h.2 k hk
theorem qdo {φ:Nat→Value→Prop} {x:Nat→Value}:∀ {n i:Nat},qdf φ x i n→∀ (k:Nat),i≤k→k<i+n→φ k (x k):=by
 intro n
 induction n with
 | zero=>intro i _ k h1 h2;omega
 | succ n ih =>
  intro i h k h1 h2
  rcases Nat.eq_or_lt_of_le h1 with rfl | h3
  ·exact h.1
  ·exact ih h.2 k h3 (by omega)
end Go.Proofs.YtdhobpbngkainaaGreatDoor
namespace Go.Proofs.YtdhobpbngkainaaGreatDoor
abbrev Bs:=List UInt8
def qp9 (c:Nat):Nat:=(c / 2) ^^^ (c%2*3988292384)
def qd1:Nat→Nat→Nat
 | 0,c=>c
 | n+1,c=>qd1 n (qp9 c)
def qeo (c:Nat) (x:UInt8):Nat:=qd1 8 (c ^^^ x.toNat)
def qep (c:Nat) (b:Bs):Nat:=b.foldl qeo c
def sumOf (k:UInt8) (b:Bs):Nat:=4294967295 ^^^ qep (qeo 4294967295 k) b
theorem qjd {a b:Nat} (ha:a<4294967296) (hb:b<4294967296):a ^^^ b<4294967296:=Nat.xor_lt_two_pow (n:=32) ha hb
theorem q1h {c:Nat} (h:c<4294967296):qp9 c<4294967296:=by
 unfold qp9
 refine qjd (by omega) ?_
 have:c%2<2:=Nat.mod_lt _ (by omega)
 have h2:c%2*3988292384≤1*3988292384:=Nat.mul_le_mul_right _ (by omega)
 omega
theorem qpv (n:Nat):∀ {c:Nat},c<4294967296→qd1 n c<4294967296:=by
 induction n with
 | zero=>intro c h;exact h
 | succ n ih=>intro c h;exact ih (q1h h)
theorem qsp (n:Nat):∀ c,qd1 (n+1) c=qp9 (qd1 n c):=by
 induction n with
 | zero=>intro c;rfl
 | succ n ih=>intro c;rw [qd1,ih];rfl
theorem qqr (x:UInt8):x.toNat<4294967296:=by have:=UInt8.toNat_lt x;omega
theorem qig {c:Nat} (h:c<4294967296) (x:UInt8):qeo c x<4294967296:=qpv 8 (qjd h (qqr x))
theorem qks (b:Bs):∀ {c:Nat},c<4294967296→qep c b<4294967296:=by
 induction b with
 | nil=>intro c h;exact h
 | cons x r ih=>intro c h;exact ih (qig h x)
theorem qit (k:UInt8) (b:Bs):sumOf k b<4294967296:=qjd (by omega) (qks b (qig (by omega) k))
def be:Nat→Nat→Bs
 | _,0=>[]
 | n,k+1=>UInt8.ofNat (n / 256 ^ k)::be n k
def beNat (b:Bs):Nat:=b.foldl (fun n x=>n*256+x.toNat) 0
theorem qbv (n k:Nat):(be n k).length=k:=by
 induction k with
 | zero=>rfl
 | succ k ih=>simp [be,ih]
theorem q4l (b:Bs):∀ a,b.foldl (fun n x=>n*256+x.toNat) a=a*256 ^ b.length+beNat b:=by
 unfold beNat
 induction b with
 | nil=>intro a;simp
 | cons x r ih =>
  intro a
  simp only [List.foldl_cons,List.length_cons]
  rw [ih (a*256+x.toNat),ih (0*256+x.toNat),Nat.pow_succ]
  rw [Nat.zero_mul,Nat.zero_add,Nat.add_mul,Nat.mul_assoc,Nat.mul_comm 256,Nat.add_assoc]
theorem qpb (x:UInt8) (r:Bs):beNat (x::r)=x.toNat*256 ^ r.length+beNat r:=by
 have:=q4l r x.toNat
 unfold beNat at *
 simpa using this
theorem qk3 (n k:Nat):beNat (be n k)=n%256 ^ k:=by
 induction k with
 | zero=>simp [be,beNat,Nat.mod_one]
 | succ k ih =>
  rw [be,qpb,ih,qbv,UInt8.toNat_ofNat']
  have e:n%256 ^ (k+1)=n%256 ^ k+256 ^ k*(n / 256 ^ k%256):=by rw [Nat.pow_succ,Nat.mod_mul]
  rw [e,Nat.mul_comm,Nat.add_comm]
theorem qfm (b:Bs):beNat b<256 ^ b.length:=by
 induction b with
 | nil=>simp [beNat]
 | cons x r ih =>
  rw [qpb,List.length_cons,Nat.pow_succ]
  have:=UInt8.toNat_lt x
  have h1:x.toNat*256 ^ r.length≤255*256 ^ r.length:=Nat.mul_le_mul_right _ (by omega)
  have h2:(256:Nat) ^ r.length*256=255*256 ^ r.length+256 ^ r.length:=by omega
  omega
theorem qky (b:Bs) (x:UInt8):beNat (b++[x])=beNat b*256+x.toNat:=by simp [beNat,List.foldl_append]
def frame (k:UInt8) (body:Bs):Bs:=(k::be body.length 2)++be (65535-body.length%65536) 2++body++be (sumOf k body) 4
theorem qca (k:UInt8) (body:Bs):(frame k body).length=body.length+9:=by simp [frame,qbv];omega
def openR (b:Bs):Option (UInt8×Bs×Nat) :=
 if b.length<9 then none
 else if b.getD 0 0=0 then none
 else
  let n:=(b.getD 1 0).toNat*256+(b.getD 2 0).toNat
  if n≠(255-(b.getD 3 0).toNat)*256+(255-(b.getD 4 0).toNat) then none
  else if b.length<n+9 then none
  else
   let body:=(b.drop 5).take n
   if beNat ((b.drop (5+n)).take 4)≠sumOf (b.getD 0 0) body then none
   else some (b.getD 0 0,body,n+9)
theorem be2 (n:Nat):be n 2=[UInt8.ofNat (n / 256),UInt8.ofNat n]:=by simp [be]
theorem qgd (k:UInt8) (body rest:Bs) (hk:k≠0) (hl:body.length<65536):openR (frame k body++rest)=some (k,body,body.length+9):=by
 have e:frame k body++rest=k::UInt8.ofNat (body.length / 256)::UInt8.ofNat body.length::UInt8.ofNat ((65535-body.length) / 256)::UInt8.ofNat (65535-body.length)::(body++(be (sumOf k body) 4++rest)):=by
  unfold frame
  rw [be2,be2,Nat.mod_eq_of_lt hl]
  generalize be (sumOf k body) 4=s
  generalize 65535-body.length=z
  simp only [List.cons_append,List.nil_append,List.append_assoc]
 have hn:(UInt8.ofNat (body.length / 256)).toNat*256+(UInt8.ofNat body.length).toNat=body.length:=by
  rw [UInt8.toNat_ofNat',UInt8.toNat_ofNat'];omega
 have hm:(255-(UInt8.ofNat ((65535-body.length) / 256)).toNat)*256+(255-(UInt8.ofNat (65535-body.length)).toNat)=body.length:=by
  obtain ⟨z,hz,hz2⟩:∃ z,65535-body.length=z∧z+body.length=65535:=⟨_,rfl,by omega⟩
  rw [hz,UInt8.toNat_ofNat',UInt8.toNat_ofNat'];omega
 rw [e]
 unfold openR
 simp only [List.length_cons,List.length_append,qbv,List.getD_cons_zero,List.getD_cons_succ]
 rw [if_neg (by omega),if_neg hk]
 simp only [hn,hm]
 rw [if_neg (by simp),if_neg (by omega)]
 have d1:List.drop 5 (k::UInt8.ofNat (body.length / 256)::UInt8.ofNat body.length::UInt8.ofNat ((65535-body.length) / 256)::UInt8.ofNat (65535-body.length)::(body++(be (sumOf k body) 4++rest)))=body++(be (sumOf k body) 4++rest):=rfl
 rw [← List.drop_drop,d1,List.take_left' rfl,List.drop_left' rfl,List.take_left' (qbv _ _),qk3,Nat.mod_eq_of_lt (qit k body)]
 simp
theorem qez {b:Bs} {k:UInt8} {body:Bs} {n:Nat} (h:openR b=some (k,body,n)):k≠0∧n=body.length+9∧n≤b.length∧body=(b.drop 5).take (n-9)∧body.length<65536:=by
 unfold openR at h
 split at h
 ·cases h
 split at h
 ·cases h
 simp only at h
 split at h
 ·cases h
 split at h
 ·cases h
 split at h
 ·cases h
 rename_i h1 h2 h3 h4 h5
 simp only [Option.some.injEq,Prod.mk.injEq] at h
 obtain ⟨rfl,rfl,rfl⟩:=h
 have:=UInt8.toNat_lt (b.getD 1 0)
 have:=UInt8.toNat_lt (b.getD 2 0)
 have hl:((b.drop 5).take ((b.getD 1 0).toNat*256+(b.getD 2 0).toNat)).length=(b.getD 1 0).toNat*256+(b.getD 2 0).toNat:=by
  rw [List.length_take,List.length_drop,Nat.min_eq_left];omega
 exact ⟨h2,by rw [hl],Nat.le_of_not_lt h4,by rw [Nat.add_sub_cancel],by rw [hl];omega⟩
end Go.Proofs.YtdhobpbngkainaaGreatDoor
namespace Go.Proofs.YtdhobpbngkainaaGreatDoor
open Go.RowKit
section
variable {α : Type} (enc : α → Value)
theorem qmn {xs ys:List α} {k:Nat} (h:xs.take k=ys.take k) (hx:k<xs.length) (hy:k<ys.length) (he:xs[k]=ys[k]):xs.take (k+1)=ys.take (k+1):=by
 rw [List.take_succ_eq_append_getElem hx,List.take_succ_eq_append_getElem hy,h,he]
theorem qhu {w:World} {a:Option Addr} {xs:List α} (h:qaj w a (xs.map enc)) (hp:0<xs.length):∃ g off,a=some ⟨g,off,none⟩∧∀ j (h:j<xs.length),w.cell? ⟨g,off+j,none⟩=some (enc (xs[j]'h)):=by
 obtain ⟨g,off,ha,hc⟩:=h (by simpa using hp)
 exact ⟨g,off,ha,fun j hj=>by rw [hc j (by simpa using hj)];simp⟩
end
theorem qfc:(Tryz.prog.info? 5).map (fun i=>(i.zero,i.size,i.bytes))=some (some (.int .u8 0),1,1):=by kernel_rfl
def row8 (l:List UInt8):Array Value:=(l.map enc8).toArray
theorem qdw (l:List UInt8) (j:Nat) (h:j<l.length):(row8 l)[j]?=some (enc8 l[j]):=by simp [row8,h]
theorem qol (l:List UInt8) (j:Nat) (x:UInt8):(row8 l).setIfInBounds j (enc8 x)=row8 (l.set j x):=by
 apply Array.ext';simp [row8,List.map_set]
end Go.Proofs.YtdhobpbngkainaaGreatDoor
namespace Go.Proofs.YtdhobpbngkainaaGreatDoor
open Go.RowKit
def bRow (v:Value) (l:Bs):HF:=rowF 5 1 v l.length (l.map enc8)
def bOk (v:Value) (l:Bs):Prop:=RowOk 1 v l.length (l.map enc8)
theorem bOwns {w:World} {v:Value} {l:Bs} (h:Sat w (bRow v l)) (k:bOk v l):w.ownsRow 0 5 1 v l.length (l.map enc8):=qbm h k
def qkk (v:Value) (l l':Bs) (w:World) (e:Ending) (w':World):Prop:=∃ v',e=.returned v'∧bOk v' l'∧Turns (bRow v l) (bRow v' l') w w'
theorem qfh:bRow (.slice none 0 0) []=[]:=rfl
theorem qdh:bOk (.slice none 0 0) []:=⟨rfl,fun _=>⟨rfl,rfl⟩⟩
def beI:Int→Nat→Bs
 | _,0=>[]
 | n,k+1=>UInt8.ofNat (n / 256 ^ k%256).toNat::beI n k
theorem qb6 (n:Int) (k:Nat):(beI n k).length=k:=by
 induction k with
 | zero=>rfl
 | succ k ih=>simp [beI,ih]
theorem q3v (n:Int) (k j:Nat) (h:j≤k):(beI n k).drop (k-j)=beI n j:=by
 induction k with
 | zero =>
  obtain rfl:j=0:=by omega
  rfl
 | succ k ih =>
  by_cases e:j=k+1
  ·subst e;simp
  ·rw [show k+1-j=(k-j)+1 by omega,beI,List.drop_succ_cons];exact ih (by omega)
theorem qtb (n:Int) (k j:Nat) (h:j+1≤k):(beI n k).take (k-j)=(beI n k).take (k-(j+1))++[UInt8.ofNat (n / 256 ^ j%256).toNat]:=by
 have hl:k-(j+1)<(beI n k).length:=by rw [qb6];omega
 rw [show k-j=(k-(j+1))+1 by omega,List.take_succ_eq_append_getElem hl]
 congr 2
 have hd:=q3v n k (j+1) h
 rw [List.drop_eq_getElem_cons hl,beI] at hd
 exact (List.cons.inj hd).1
theorem qq3 (n k:Nat):beI (n:Int) k=be n k:=by
 induction k with
 | zero=>rfl
 | succ k ih =>
  rw [beI,be,ih]
  congr 1
  apply UInt8.toNat_inj.1
  rw [UInt8.toNat_ofNat',UInt8.toNat_ofNat']
  have:((n:Int) / 256 ^ k%256).toNat=n / 256 ^ k%256:=by
   have e:((n:Int) / 256 ^ k%256)=((n / 256 ^ k%256:Nat):Int):=by simp
   exact (congrArg Int.toNat e).trans (Int.toNat_natCast _)
  rw [this];omega
theorem q6o (n:Nat):beI (-(n:Int)-1) 2=be (65535-n%65536) 2:=by
 have e1:((-(n:Int)-1) / 256 ^ 1%256).toNat=(65535-n%65536) / 256%256:=by omega
 have e2:((-(n:Int)-1) / 256 ^ 0%256).toNat=(65535-n%65536)%256:=by omega
 simp only [beI,be,e1,e2,Nat.pow_one,Nat.pow_zero,Nat.div_one]
 congr 1
 ·apply UInt8.toNat_inj.1;rw [UInt8.toNat_ofNat',UInt8.toNat_ofNat'];omega
 ·congr 1
  apply UInt8.toNat_inj.1;rw [UInt8.toNat_ofNat',UInt8.toNat_ofNat'];omega
def q2q (v0:Value) (l:Bs) (n:Int) (m:Nat) (w:World) (v i:Value) (wr:World):Prop :=
 ∃ j:Nat,j≤m∧i=.int .i64 ((j:Int)-1)∧bOk v (l++(beI n m).take (m-j))∧Turns (bRow v0 l) (bRow v (l++(beI n m).take (m-j))) w wr
theorem q2y {F G:HF} {a w w':World} {v v':Value} {l:Bs} {o:Obj} {x:UInt8} {y:Value} (hT:Turns F (bRow v l++G) a w) (hx:y=enc8 x)
  (hown:w'.ownsRow 0 5 1 v' (l.length+1) (l.map enc8++[y])) (hgrow:(w.alloc o).grownBy w' v.ownBlock)
  (hg:∀ g,v'.ownBlock=some g→v.ownBlock=some g∨(w.alloc o).heap.size≤g):bOk v' (l++[x])∧Turns F (bRow v' (l++[x])++G) a w':=by
 subst hx
 have e:l.map enc8++[enc8 x]=(l++[x]).map enc8:=by simp
 have en:l.length+1=(l++[x]).length:=by simp
 rw [e,en] at hown
 exact ⟨(qe5 hown).2,(hT.alloc o).grow hown hgrow hg⟩
theorem qwz {v0 v v':Value} {l:Bs} {n:Int} {m j:Nat} {w wr w3:World} {o:Obj} {y:Value} (h0:0<j) (hj:j≤m) (hT:Turns (bRow v0 l) (bRow v (l++(beI n m).take (m-j))) w wr)
  (hown:w3.ownsRow 0 5 1 v' ((l++(beI n m).take (m-j)).length+1) ((l++(beI n m).take (m-j)).map enc8++[y])) (hy:y=.int .u8 (n / 2 ^ (8*(j-1))%256)) (hgrow:(wr.alloc o).grownBy w3 v.ownBlock)
  (hg:∀ g,v'.ownBlock=some g→v.ownBlock=some g∨(wr.alloc o).heap.size≤g) (i:Value) (hi:i=.int .i64 ((j:Int)-1-1)):q2q v0 l n m w v' i w3:=by
 have hx:y=enc8 (UInt8.ofNat (n / 256 ^ (j-1)%256).toNat):=by
  rw [hy]
  have e2:(2:Int) ^ (8*(j-1))=256 ^ (j-1):=by rw [Int.pow_mul];rfl
  rw [e2]
  generalize n / 256 ^ (j-1)=q
  simp only [enc8,UInt8.toNat_ofNat']
  congr 1;omega
 have e:(beI n m).take (m-(j-1))=(beI n m).take (m-j)++[UInt8.ofNat (n / 256 ^ (j-1)%256).toNat]:=by
  have:=qtb n m (j-1) (by omega)
  rwa [show j-1+1=j by omega] at this
 have hT':Turns (bRow v0 l) (bRow v (l++(beI n m).take (m-j))++[]) w wr:=by simpa using hT
 obtain ⟨h1,h2⟩:=q2y hT' hx hown hgrow hg
 refine ⟨j-1,by omega,by rw [hi];congr 1;omega,?_,?_⟩
 ·rw [e,← List.append_assoc];exact h1
 ·rw [e,← List.append_assoc];simpa using h2
theorem qem (v:Value) (l:Bs) (n:Int) (m:Nat) (w:World) (hm:m≤8) (hl:l.length≤1099511627776) (hn1 : -9223372036854775808≤n) (hn2:n≤9223372036854775807) (h:Sat w (bRow v l)) (hv:bOk v l) :
  Calls Tryz.prog 127 #[v,.int .i64 n,.int .i64 m] w (qkk v l (l++beI n m) w):=by
 have H:=Lib.hid (And.intro h hv)
 clear h hv
 go_enter Tryz.func127,Tryz.ntmps127
 go_wp2
 go_loopw [0,7] (fun v' i wr=>q2q v l n m w v' i wr) (fun _ i _=>(intOf i+1).toNat)
 case atStart=>exact ⟨m,Nat.le_refl _,rfl,by simpa using H.out.2,by simpa using Turns.refl H.out.1⟩
 case round =>
  obtain ⟨j,hj,rfl,hok,hT⟩:=hrel
  by_cases hlt:0<j
  ·obtain ⟨i0,hi0,hz1,hz2,hz3⟩:=info_parts qfc
   have HT:=Lib.hid (And.intro hok hT)
   have hown:=bOwns hT.sat hok
   have HO:=Lib.hid hown
   have HI:=Lib.hid (And.intro hi0 (And.intro hz1 (And.intro hz2 hz3)))
   clear hok hT hown hi0 hz1 hz2 hz3
   go_wp2_with (refine qe0 _ rfl _ _ 38 rfl 5 i0 (.int .u8 0) 1 1 Tryz.underlying38 HI.out.1 HI.out.2.1 HI.out.2.2.1 HI.out.2.2.2 rfl (by decide) _ _ _ rfl (HO.out.alloc _) ⟨wr.heap.size,0,none⟩ 1 1 [_] rfl rfl (cell_one_new _ _ _) (by simp [Value.oneCell']) (by unfold maxLen;simp;omega) (by simp;omega) ?_;intro v' w3 hown' hgrow _ hgb)
   exact ⟨qwz hlt hj HT.out.2 hown' rfl hgrow hgb _ rfl,by simp [intOf];omega⟩
  ·obtain rfl:j=0:=by omega
   have HT:=Lib.hid (And.intro hok hT)
   clear hok hT
   go_wp2
   go_ret
   obtain ⟨hok,hT⟩:=HT.out
   rw [Nat.sub_zero,List.take_of_length_le (by rw [qb6];omega)] at hok hT
   exact ⟨_,rfl,hok,hT⟩
theorem qkn (a b:Nat) (ha:a<4294967296) (hb:b<4294967296):bits BinOp.xor IntKind.u32 (a:Int) (b:Int)=((a ^^^ b:Nat):Int):=by
 have e1:(BitVec.ofInt 32 (a:Int)).toNat=a:=by rw [BitVec.ofInt_natCast,BitVec.toNat_ofNat];exact Nat.mod_eq_of_lt (by omega)
 have e2:(BitVec.ofInt 32 (b:Int)).toNat=b:=by rw [BitVec.ofInt_natCast,BitVec.toNat_ofNat];exact Nat.mod_eq_of_lt (by omega)
 show IntKind.u32.wrap ((BitVec.ofInt 32 (a:Int) ^^^ BitVec.ofInt 32 (b:Int)).toNat:Int)=_
 rw [BitVec.toNat_xor,e1,e2,IntKind.wrap_u32]
 have:=qjd ha hb
 omega
theorem q3d (a:Nat) (ha:a<4294967296):bits BinOp.and IntKind.u32 (a:Int) 1=((a%2:Nat):Int):=by
 have e1:(BitVec.ofInt 32 (a:Int)).toNat=a:=by rw [BitVec.ofInt_natCast,BitVec.toNat_ofNat];exact Nat.mod_eq_of_lt (by omega)
 show IntKind.u32.wrap ((BitVec.ofInt 32 (a:Int) &&& BitVec.ofInt 32 (1:Int)).toNat:Int)=_
 rw [BitVec.toNat_and,e1,show (BitVec.ofInt 32 (1:Int)).toNat=1 from rfl,Nat.and_one_is_mod,IntKind.wrap_u32]
 omega
def qhk (w:World) (b:Nat) (c:Nat):Prop:=w.heap[b]?=some (.cells #[.int .u32 c] 116 (0,0))
def q54 (b c:Nat) (x:UInt8) (w:World) (e:Ending) (w':World):Prop:=e=.returned (.tuple #[])∧qhk w' b (qeo c x)∧Mods (fun k=>k=b) w w'
theorem qur (k c:Nat):qd1 (k+1) c=(qd1 k c / 2) ^^^ (qd1 k c%2*3988292384):=by rw [qsp];rfl
theorem q2p {wr:World} {b q:Nat} (h:qhk wr b q) (hq:q<4294967296):qhk (wr.setCell ⟨b,0,none⟩ (.int .u32 (bits BinOp.xor IntKind.u32 ((q:Int) / 2) ((q:Int)%2*3988292384)))) b ((q / 2) ^^^ (q%2*3988292384)):=by
 have hm:q%2<2:=Nat.mod_lt _ (by omega)
 have h2:=qkn (q / 2) (q%2*3988292384) (by omega) (by omega)
 have e:((q:Int)%2*3988292384)=((q%2*3988292384:Nat):Int):=by omega
 have e2:((q:Int) / 2)=((q / 2:Nat):Int):=by omega
 rw [e,e2,h2]
 exact qbf h 0 _
theorem qo5 (b c:Nat) (x:UInt8) (w:World) (hc:c<4294967296) (h:qhk w b c):Calls Tryz.prog 150 #[.int .u8 x.toNat,.pointer (some ⟨b,0,none⟩)] w (q54 b c x w):=by
 have h0:=qac h 0 (v:=.int .u32 c) (by simp)
 have f0:=qa9 h 0
 have hx:=qkn c x.toNat hc (qqr x)
 have hx2:=qqr x
 have hx3:=UInt8.toNat_lt x
 have H:=Lib.hid h
 clear h
 go_enter Tryz.func150,Tryz.ntmps150
 go_wp2
 clear hx h0 f0
 go_loopw [7] (fun i wr=>∃ k:Nat,k≤8∧i=.int .i64 k∧qhk wr b (qd1 k (c ^^^ x.toNat))∧Mods (fun k=>k=b) w wr) (fun i _=>8-(intOf i).toNat)
 case atStart=>exact ⟨0,by omega,rfl,qbf H.out 0 _,(Mods.refl (fun k=>k=b) w).set1 _⟩
 case round =>
  obtain ⟨k,hk,rfl,hcell,hM⟩:=hrel
  by_cases hlt:k<8
  ·have hlt32:=qpv k (qjd hc hx2)
   have hnx:=qur k (c ^^^ x.toNat)
   have hc0:=qac hcell 0 (v:=.int .u32 (qd1 k (c ^^^ x.toNat))) (by simp)
   have hf0:=qa9 hcell 0
   have HC:=Lib.hid (And.intro hcell hM)
   have HN:=Lib.hid hnx
   clear hcell hM hnx
   generalize qd1 k (c ^^^ x.toNat)=q at *
   have h1:=q3d q hlt32
   have hm:q%2<2:=Nat.mod_lt _ (by omega)
   go_wp2
   exact ⟨⟨k+1,by omega,by go_num,by rw [HN.out];exact q2p HC.out.1 hlt32,HC.out.2.set1 _⟩,by simp [intOf];omega⟩
  ·obtain rfl:k=8:=by omega
   have HC:=Lib.hid (And.intro hcell hM)
   clear hcell hM
   go_wp2
   go_end0
   exact ⟨rfl,HC.out.1,HC.out.2⟩
def qkf (k:UInt8) (l:Bs) (w:World) (e:Ending) (w':World):Prop:=e=.returned (.int .u32 (sumOf k l))∧Same w w'
def q3c (k:UInt8) (l:Bs) (w:World) (i:Value) (wr:World):Prop :=
 ∃ j:Nat,j≤l.length∧i=.int .i64 j∧qhk wr w.heap.size (qep (qeo 4294967295 k) (l.take j))∧Same w wr
theorem qtu {c:Nat} {l:Bs} {j:Nat} (h:j<l.length):qep c (l.take (j+1))=qeo (qep c (l.take j)) l[j]:=by
 unfold qep;rw [List.take_succ_eq_append_getElem h,List.foldl_append];rfl
theorem q56 {k:UInt8} {l:Bs}:bits BinOp.xor IntKind.u32 IntKind.u32.max ((qep (qeo 4294967295 k) l:Nat):Int)=(sumOf k l:Nat):=by
 have:=qkn 4294967295 (qep (qeo 4294967295 k) l) (by omega) (qks l (qig (by omega) k))
 exact this
theorem qgn (a:Option Addr) (cap:Nat) (k:UInt8) (l:Bs) (w:World) (h:qaj w a (l.map enc8)) (hl:l.length≤1099511627776):Calls Tryz.prog 128 #[.int .u8 k.toNat,.slice a l.length cap] w (qkf k l w):=by
 have H:=Lib.hid h
 have hk:=UInt8.toNat_lt k
 have HS:=Lib.hid (fun (w1:World) (hc:qhk w1 w.heap.size 4294967295)=>qo5 w.heap.size 4294967295 k w1 (by omega) hc)
 clear h
 go_enter Tryz.func128,Tryz.ntmps128
 go_wp2_with fail
 refine (HS.out _ (qa7 w _)).mono ?_
 rintro e w1 ⟨rfl,hc1,hM1⟩
 have HM:=Lib.hid (show q3c k l w (.int .i64 0) w1 from ⟨0,Nat.zero_le _,rfl,by simpa [qep] using hc1,((Mods.refl _ w).alloc _).trans' hM1 (fun i hi=>.inr (by omega))⟩)
 clear hc1 hM1 HS
 go_wp2_with fail
 go_loopw [15] (fun i wr=>q3c k l w i wr) (fun i _=>l.length-(intOf i).toNat)
 case atStart=>exact HM.out
 case round =>
  obtain ⟨j,hj,rfl,hcell,hs⟩:=hrel
  by_cases hlt:j<l.length
  ·obtain ⟨g,off,rfl,hc⟩:=(H.out.keep hs (fun _ _ _=>id)) (by simp;omega)
   have hcj:=hc j (by simpa using hlt)
   simp only [List.getElem_map] at hcj
   unfold enc8 at hcj
   have hlt32:qep (qeo 4294967295 k) (l.take j)<4294967296:=qks _ (qig (by omega) k)
   have HC:=Lib.hid (qo5 w.heap.size _ l[j] wr hlt32 hcell)
   have HT:=Lib.hid (And.intro (qtu (c:=qeo 4294967295 k) hlt) hs)
   clear hc hcell hs HM H
   go_wp2_with fail
   refine HC.out.mono ?_
   rintro e w2 ⟨rfl,hc2,hM2⟩
   have HF:=Lib.hid (And.intro hc2 (HT.out.2.trans' hM2 (fun i hi=>.inr (by omega))))
   clear hc2 hM2 hcj HC
   go_wp2_with fail
   exact ⟨⟨j+1,by omega,by go_num,by rw [HT.out.1];exact HF.out.1,HF.out.2⟩,by simp [intOf];omega⟩
  ·obtain rfl:j=l.length:=by omega
   rw [List.take_length] at hcell
   have hc0:=qac hcell 0 (v:=.int .u32 (qep (qeo 4294967295 k) l)) (by simp)
   have hse:=q56 (k:=k) (l:=l)
   have HF:=Lib.hid hs
   clear hs hcell HM H
   go_wp2_with fail
   go_ret
   exact ⟨rfl,HF.out⟩
def q4x (n:Int) (w:World) (e:Ending) (w':World):Prop:=e=.returned (.int .i64 (n+9))∧w=w'
theorem qew (n:Int) (h0:0≤n) (h1:n≤1099511627776) (w:World):Calls Tryz.prog 79 #[.int .i64 n] w (q4x n w):=by
 go_enter Tryz.func79,Tryz.ntmps79
 go_wp2
 go_ret
 exact ⟨qxo (by omega),rfl⟩
def qgo (l':Bs) (w:World) (e:Ending) (w':World):Prop:=∃ v',e=.returned v'∧bOk v' l'∧Turns [] (bRow v' l') w w'
theorem Turns.news {F:HF} {w w':World} (h:Turns [] F w w'):Same w w':=h.mods.mono (fun b hb=>by simp at hb)
theorem Turns.newLe {F:HF} {w w':World} (h:Turns [] F w w') {b:Nat} (hb:b∈dom F):w.heap.size≤b:=by
 rcases h.fresh b hb with h' | h'
 ·simp at h'
 ·exact h'
theorem qaj.turns {F:HF} {w w':World} {a:Option Addr} {xs:List Value} (h:qaj w a xs) (hT:Turns [] F w w'):qaj w' a xs:=h.keep hT.news (fun _ _ _=>id)
theorem q4t (w:World) (k:UInt8):Turns [] (bRow (.slice (some ⟨w.heap.size,0,none⟩) 1 1) [k]) w (w.alloc (.cells #[.int .u8 k.toNat] 5))∧bOk (.slice (some ⟨w.heap.size,0,none⟩) 1 1) [k]:=by
 refine ⟨?_,rfl,fun h=>by simp [Value.ownBlock] at h⟩
 have:=(Turns.refl (Sat.nil w)).allocIn (φ:=fun o=>∃ cap cur,(Value.slice (some ⟨w.heap.size,0,none⟩) 1 1)=.slice (some ⟨w.heap.size,0,none⟩) 1 cap∧o=.cells cur 5 (0,0)∧1≤cap∧cap≤maxLen∧cur.size=cap*1∧cur.toList.take (1*1)=[k].map enc8)
  (o:=.cells #[.int .u8 k.toNat] 5) ⟨1,_,rfl,rfl,Nat.le_refl _,by unfold maxLen;omega,rfl,rfl⟩
 exact this
theorem qkk.news {v:Value} {l l':Bs} {w w1 w2:World} {e:Ending} (hT:Turns [] (bRow v l) w w1) (h:qkk v l l' w1 e w2):qgo l' w e w2:=by
 obtain ⟨v',he,hok,hT'⟩:=h
 exact ⟨v',he,hok,hT.trans hT'⟩
theorem qg0 {F G:HF} {a w w':World} {v v':Value} {l s:Bs} (hT:Turns F (bRow v l++G) a w) {n:Nat} (hn:n=s.length)
  (hown:w'.ownsRow 0 5 1 v' (l.length+n) (l.map enc8++s.map enc8)) (hgrow:w.grownBy w' v.ownBlock)
  (hg:∀ g,v'.ownBlock=some g→v.ownBlock=some g∨w.heap.size≤g):bOk v' (l++s)∧Turns F (bRow v' (l++s)++G) a w':=by
 subst hn
 have e:l.map enc8++s.map enc8=(l++s).map enc8:=by simp
 have en:l.length+s.length=(l++s).length:=by simp
 rw [e,en] at hown
 exact ⟨(qe5 hown).2,hT.grow hown hgrow hg⟩
theorem qz8 (n:Nat) (h:n≤4611686018427387904):bits BinOp.xor IntKind.i64 (-1) (n:Int)=-(n:Int)-1:=by
 have e1:(BitVec.ofInt 64 (-1))=BitVec.allOnes 64:=by decide
 have e2:(BitVec.ofInt 64 (n:Int)).toNat=n:=by rw [BitVec.ofInt_natCast,BitVec.toNat_ofNat];exact Nat.mod_eq_of_lt (by omega)
 show IntKind.i64.wrap ((BitVec.ofInt 64 (-1) ^^^ BitVec.ofInt 64 (n:Int)).toNat:Int)=_
 rw [e1,BitVec.allOnes_xor,BitVec.toNat_not,e2]
 unfold IntKind.wrap
 simp [IntKind.bits,IntKind.signed]
 omega
theorem qjz (k:UInt8) (a:Option Addr) (cap:Nat) (body:Bs) (w:World) (h:qaj w a (body.map enc8)) (hl:body.length≤68719476736) :
  Calls Tryz.prog 78 #[.int .u8 k.toNat,.slice a body.length cap] w (qgo (frame k body) w):=by
 have H:=Lib.hid h
 have hbn:=qz8 body.length (by omega)
 have hsl:=qit k body
 clear h
 go_enter Tryz.func78,Tryz.ntmps78
 go_wp2_with fail
 obtain ⟨hT1,hok1⟩:=q4t w k
 have H1:=Lib.hid (And.intro hT1 hok1)
 clear hT1 hok1
 refine (qem _ [k] body.length 2 _ (by omega) (by simp) (by omega) (by omega) H1.out.1.sat H1.out.2).mono ?_
 rintro e w2 hp
 obtain ⟨v2,rfl,hok2,hT2⟩:=qkk.news H1.out.1 hp
 have H2:=Lib.hid (And.intro hT2 hok2)
 clear hT2 hok2 hp H1
 go_wp2_with fail
 refine (qem v2 _ (-(body.length:Int)-1) 2 w2 (by omega) (by simp [qb6]) (by omega) (by omega) H2.out.1.sat H2.out.2).mono ?_
 rintro e w3 hp
 obtain ⟨v3,rfl,hok3,hT3⟩:=qkk.news H2.out.1 hp
 have hown3:=bOwns hT3.sat hok3
 obtain ⟨i0,hi0,hz1,hz2,hz3⟩:=info_parts qfc
 have H3:=Lib.hid (And.intro hT3 (And.intro hown3 (H.out.turns hT3)))
 have HI:=Lib.hid (And.intro hi0 (And.intro hz1 (And.intro hz2 hz3)))
 clear hT3 hok3 hp H2 hown3 hi0 hz1 hz2 hz3
 have hb:(body.map enc8).length=body.length:=by simp
 have HB:=Lib.hid hb
 clear hb
 go_wp2_with (refine qnq _ rfl (.tmp 15) (.tmp 16) 38 rfl 5 i0 (.int .u8 0) 1 Tryz.underlying38 HI.out.1 HI.out.2.1 HI.out.2.2.1 HI.out.2.2.2 rfl _ _ _ rfl H3.out.2.1 a body.length cap (body.map enc8) rfl HB.out H3.out.2.2 (qc3 body) (by unfold maxLen;simp [qb6];omega) (by simp [qb6];omega) ?_;intro v4 w4 hown4 hgrow4 hg4)
 obtain ⟨hok4,hT4⟩:=qg0 (F:=[]) (G:=[]) (v:=v3) (by simpa using H3.out.1) rfl hown4 hgrow4 hg4
 rw [List.append_nil] at hT4
 have H4:=Lib.hid (And.intro hT4 (And.intro hok4 (H.out.turns hT4)))
 clear hT4 hok4 hown4 hgrow4 hg4
 refine (qgn a cap k body w4 H4.out.2.2 (by omega)).mono ?_
 rintro e w5 ⟨rfl,hs5⟩
 have hT5:=H4.out.1.thenSame hs5
 have H5:=Lib.hid hT5
 clear hs5 hT5
 go_wp2_with fail
 refine (qem v4 _ (sumOf k body:Nat) 4 w5 (by omega) (by simp [qb6];omega) (by omega) (by omega) H5.out.sat H4.out.2.1).mono ?_
 rintro e w6 hp
 obtain ⟨v6,rfl,hok6,hT6⟩:=qkk.news H5.out hp
 have H6:=Lib.hid (And.intro hok6 hT6)
 clear hok6 hT6 hp
 go_wp2_with fail
 go_ret
 have e:[k]++beI body.length 2++beI (-(body.length:Int)-1) 2++body++beI (sumOf k body:Nat) 4=frame k body:=by
  rw [qq3,qq3,q6o];simp [frame]
 rw [← e]
 exact ⟨v6,rfl,H6.out⟩
end Go.Proofs.YtdhobpbngkainaaGreatDoor
