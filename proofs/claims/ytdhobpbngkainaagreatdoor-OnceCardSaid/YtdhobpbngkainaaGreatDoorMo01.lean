/-
  Ours. Worlds that differ in a known set of blocks ('Mods'), rows of cells read as whole blocks. No condition; plain lemmas.
-/
import Derived.WalkKit
import Derived.RangeFuncRecord
import Derived.WalkSpells
import Derived.Lib.Hide
import Derived.WalkLawsBesides
import Derived.Test.YtdhobpbngkainaaGreatDoorProg
import Derived.LaidEql
import Derived.Stop.Asserts
import Derived.RowKitTokens
import Derived.Test.YtdhobpbngkainaaGreatDoorCards
import Derived.Test.YtdhobpbngkainaaGreatDoorTie
import Derived.ProofKit
import Derived.OpenShut
import Derived.Deep.DeepHandedRow
import Derived.Lib.LaidTab
import Derived.LaidHandle
import Derived.Stop.Joined
import Derived.OwnWalkIn
import Derived.Maps.AppendAt
import Derived.Laws.CopyOwn
namespace Go.Proofs.YtdhobpbngkainaaGreatDoor
open Go.RowKit

/-- Of the blocks that were there only those of S may have turned. -/
structure Mods (S : Nat → Prop) (w w' : World) : Prop where
  os : w'.os = w.os
  tape : w'.tape = w.tape
  output : w'.output = w.output
  size : w.heap.size ≤ w'.heap.size
  block : ∀ k, k < w.heap.size → ¬ S k → w'.heap[k]? = w.heap[k]?

/-- No block that was there has turned. -/
abbrev Same (w w' : World) : Prop := Mods (fun _ => False) w w'

theorem Mods.refl (S : Nat → Prop) (w : World) : Mods S w w := ⟨rfl, rfl, rfl, Nat.le_refl _, fun _ _ _ => rfl⟩
theorem Mods.trans {S : Nat → Prop} {a b c : World} (h : Mods S a b) (k : Mods S b c) : Mods S a c :=
  ⟨k.os.trans h.os, k.tape.trans h.tape, k.output.trans h.output, Nat.le_trans h.size k.size,
    fun i hi hs => (k.block i (Nat.lt_of_lt_of_le hi h.size) hs).trans (h.block i hi hs)⟩
/-- The second step may turn what the first one has made, too. -/
theorem Mods.trans' {S T : Nat → Prop} {a b c : World} (h : Mods S a b) (k : Mods T b c) (hT : ∀ i, T i → S i ∨ a.heap.size ≤ i) : Mods S a c :=
  ⟨k.os.trans h.os, k.tape.trans h.tape, k.output.trans h.output, Nat.le_trans h.size k.size,
    fun i hi hs => (k.block i (Nat.lt_of_lt_of_le hi h.size) (fun ht => by rcases hT i ht with h' | h' <;> first | exact absurd h' hs | omega)).trans (h.block i hi hs)⟩
theorem Mods.mono {S T : Nat → Prop} {a b : World} (h : Mods S a b) (hT : ∀ i, S i → T i ∨ a.heap.size ≤ i) : Mods T a b :=
  ⟨h.os, h.tape, h.output, h.size, fun i hi hs => h.block i hi (fun ht => by rcases hT i ht with h' | h' <;> first | exact absurd h' hs | omega)⟩
theorem Mods.drew {S : Nat → Prop} {a w : World} (h : Mods S a w) : Mods S a w.drew := ⟨h.os, h.tape, h.output, h.size, h.block⟩
theorem Mods.drewN {S : Nat → Prop} {a w : World} (h : Mods S a w) (n : Nat) : Mods S a (w.drewN n) := ⟨h.os, h.tape, h.output, h.size, h.block⟩
theorem Mods.alloc {S : Nat → Prop} {a w : World} (h : Mods S a w) (o : Obj) : Mods S a (w.alloc o) :=
  ⟨h.os, h.tape, h.output, Nat.le_trans h.size (by simp), fun k hk hs => (Below.heap_alloc w o k (Nat.lt_of_lt_of_le hk h.size)).trans (h.block k hk hs)⟩
theorem Mods.setCell {S : Nat → Prop} {a w : World} (h : Mods S a w) {p : Addr} (hp : S p.block ∨ a.heap.size ≤ p.block) (u : Value) : Mods S a (w.setCell p u) :=
  ⟨h.os, h.tape, h.output, by simpa [World.setCell] using h.size,
    fun k hk hs => (Below.heap_setCell w p u k (fun e => by subst e; rcases hp with h' | h' <;> first | exact absurd h' hs | omega)).trans (h.block k hk hs)⟩
theorem Mods.set1 {b i : Nat} {a w : World} (h : Mods (fun x => x = b) a w) (v : Value) : Mods (fun x => x = b) a (w.setCell ⟨b, i, none⟩ v) := h.setCell (p := ⟨b, i, none⟩) (.inl rfl) v
theorem Mods.setIn {S : Nat → Prop} {b i : Nat} {a w : World} (hb : S b) (h : Mods S a w) (v : Value) : Mods S a (w.setCell ⟨b, i, none⟩ v) := h.setCell (p := ⟨b, i, none⟩) (.inl hb) v
theorem Mods.setNew {S : Nat → Prop} {b i : Nat} {a w : World} (hb : a.heap.size ≤ b) (h : Mods S a w) (v : Value) : Mods S a (w.setCell ⟨b, i, none⟩ v) := h.setCell (p := ⟨b, i, none⟩) (.inr hb) v
theorem Mods.putObj {S : Nat → Prop} {a w : World} (h : Mods S a w) {r : Nat} (hr : S r ∨ a.heap.size ≤ r) (o : Obj) : Mods S a (w.putObj r o) :=
  ⟨h.os, h.tape, h.output, by simpa using h.size,
    fun k hk hs => (World.putObj_heap_other (fun e => by subst e; rcases hr with h' | h' <;> first | exact absurd h' hs | omega)).trans (h.block k hk hs)⟩
theorem Mods.grown {S : Nat → Prop} {a w w' : World} {row : Option Nat} (h : Mods S a w) (hg : w.grownBy w' row) (hr : ∀ k, row = some k → S k ∨ a.heap.size ≤ k) : Mods S a w' :=
  ⟨hg.os.trans h.os, hg.tape.trans h.tape, hg.output.trans h.output, Nat.le_trans h.size hg.size,
    fun k hk hs => (hg.block k (Nat.lt_of_lt_of_le hk h.size) (fun e => by rcases hr k e.symm with h' | h' <;> first | exact absurd h' hs | omega)).trans (h.block k hk hs)⟩
theorem Mods.below {B : Nat} {w w' : World} (h : Mods (fun k => B ≤ k) w w') (hB : B ≤ w.heap.size) : Below B w w' :=
  ⟨h.os, h.tape, h.output, h.size, fun k hk => h.block k (by omega) (by omega)⟩
theorem Same.below {w w' : World} (h : Same w w') : Below w.heap.size w w' := ⟨h.os, h.tape, h.output, h.size, fun k hk => h.block k hk id⟩
theorem Same.of_below {w w' : World} (h : Below w.heap.size w w') : Same w w' := ⟨h.os, h.tape, h.output, h.size, fun k hk _ => h.block k hk⟩
theorem Same.mods {w w' : World} (h : Same w w') (S : Nat → Prop) : Mods S w w' := h.mono (fun _ hf => hf.elim)
theorem Mods.at {S : Nat → Prop} {w w' : World} (h : Mods S w w') {b : Nat} {o : Obj} (hb : w.heap[b]? = some o) (hS : ¬ S b) : w'.heap[b]? = some o :=
  (h.block b (Array.getElem?_eq_some_iff.1 hb).1 hS).trans hb

theorem lt_of_heap {w : World} {b : Nat} {o : Obj} (h : w.heap[b]? = some o) : b < w.heap.size := (Array.getElem?_eq_some_iff.1 h).1

/-! ### A block of cells, whole -/
theorem cell_at {w : World} {b : Nat} {c : Array Value} {t : TypeId} {fz : Nat × Nat} (h : w.heap[b]? = some (.cells c t fz)) (i : Nat) {v : Value} (hv : c[i]? = some v) :
    w.cell? ⟨b, i, none⟩ = some v := by simp [World.cell?, h, hv]
theorem free_at {w : World} {b : Nat} {c : Array Value} {t : TypeId} (h : w.heap[b]? = some (.cells c t (0, 0))) (i : Nat) : w.frozen? ⟨b, i, none⟩ = false := by simp [World.frozen?, h]
theorem set_same {w : World} {b : Nat} {c : Array Value} {t : TypeId} {fz : Nat × Nat} (h : w.heap[b]? = some (.cells c t fz)) (i : Nat) (v : Value) :
    (w.setCell ⟨b, i, none⟩ v).heap[b]? = some (.cells (c.setIfInBounds i v) t fz) := by
  simp only [World.setCell, Array.getElem?_modify, if_true, h, Option.map_some]
  rfl
theorem set_other {w : World} {b i : Nat} {v : Value} {k : Nat} (hk : k ≠ b) : (w.setCell ⟨b, i, none⟩ v).heap[k]? = w.heap[k]? := Below.heap_setCell w ⟨b, i, none⟩ v k hk
theorem alloc_old {w : World} {o : Obj} {k : Nat} (h : k < w.heap.size) : (w.alloc o).heap[k]? = w.heap[k]? := Below.heap_alloc w o k h
theorem alloc_new (w : World) (o : Obj) : (w.alloc o).heap[w.heap.size]? = some o := World.alloc_heap_new w o

/-! ### A slice that reads as a list -/
/-- Behind the address a stand, cell by cell, the values xs. -/
def CellsAt (w : World) (a : Option Addr) (xs : List Value) : Prop := 0 < xs.length → ∃ g off, a = some ⟨g, off, none⟩ ∧ ∀ j (h : j < xs.length), w.cell? ⟨g, off + j, none⟩ = some (xs[j]'h)
theorem CellsAt.keep {S : Nat → Prop} {w w' : World} {a : Option Addr} {xs : List Value} (h : CellsAt w a xs) (hm : Mods S w w') (hS : ∀ g off, a = some ⟨g, off, none⟩ → ¬ S g) : CellsAt w' a xs := fun hp => by
  obtain ⟨g, off, ha, hc⟩ := h hp
  refine ⟨g, off, ha, fun j hj => ?_⟩
  have hlt := World.block_lt_of_cell? w _ (hc j hj)
  exact (World.cell?_of_block (w := w) (hm.block g hlt (hS g off ha))).trans (hc j hj)
theorem CellsAt.of_heap {w W : World} (e : W.heap = w.heap) {a : Option Addr} {xs : List Value} (h : CellsAt w a xs) : CellsAt W a xs := fun hp => by
  obtain ⟨g, off, ha, hc⟩ := h hp
  exact ⟨g, off, ha, fun j hj => by rw [← hc j hj]; simp [World.cell?, e]⟩
def enc8 (x : UInt8) : Value := .int .u8 (x.toNat : Nat)
def encI (x : Int) : Value := .int .i64 x
/-- The world has but drawn. -/
def Drew (w w' : World) : Prop := ∃ n, w' = w.drewN n
theorem Drew.refl (w : World) : Drew w w := ⟨0, rfl⟩
theorem Drew.same {w w' : World} : Drew w w' → Same w w' | ⟨n, h⟩ => h ▸ (Mods.refl _ w).drewN n
theorem Drew.trans {a b c : World} : Drew a b → Drew b c → Drew a c | ⟨n, h⟩, ⟨m, k⟩ => ⟨n + m, by subst h; subst k; simp [World.drewN, Nat.add_assoc]⟩
theorem Drew.drew {a b : World} : Drew a b → Drew a b.drew | ⟨n, h⟩ => ⟨n + 1, by subst h; rfl⟩
theorem Drew.drewN {a b : World} (h : Drew a b) (m : Nat) : Drew a (b.drewN m) := h.trans ⟨m, rfl⟩
theorem Drew.heap {a b : World} : Drew a b → b.heap = a.heap | ⟨_, h⟩ => by subst h; rfl

/-- An endings' equation from the numbers'. -/
theorem ret_int {k : IntKind} {a b : Int} (h : a = b) : Ending.returned (.int k a) = .returned (.int k b) := by rw [h]
theorem ret_bool {a b : Bool} (h : a = b) : Ending.returned (.bool a) = .returned (.bool b) := by rw [h]

end Go.Proofs.YtdhobpbngkainaaGreatDoor
/-
  Ours. Closed facts on the model's entries for internal/reflectlite, for errors.As at *Errno; after the kit's worked text ToyasAs.
-/
namespace Go.Proofs.YtdhobpbngkainaaGreatDoor
open Go.RowKit Go.Extern.Stop Go.Stop Go.Extern

theorem as_valueOfP (t : Addr) (w : World) : (ReflectliteValue.unpack (.iface 112 (.pointer (some t)))).run Tryz.prog w
    = .ok (.agg #[.pointer (some ⟨2, 112, none⟩), .pointer (some ⟨w.heap.size, 0, none⟩), .int .u64 150]) (w.alloc (.cells #[.pointer (some t)] 112)) := by kernel_rfl
theorem as_typeP (a : Addr) (w : World) : (ReflectliteValue.methodAny (ReflectliteValue.valueError "reflectlite.Value.Type" 0) (fun t _ _ _ => ReflectliteType.toType t) #[.agg #[.pointer (some ⟨2, 112, none⟩), .pointer (some a), .int .u64 150]]).run Tryz.prog w
    = .ok (.iface 268 (.agg #[.pointer (some ⟨2, 112, none⟩)])) w := by kernel_rfl
theorem as_kindP (w : World) : ((ReflectliteType.abiMethod fun t => (fun a : Nat => Value.int IntKind.u8 (a : Int)) <$> Rtype.kind t) #[.pointer (some ⟨2, 112, none⟩)]).run Tryz.prog w = .ok (.int .u8 22) w := by kernel_rfl
theorem as_kindE (w : World) : ((ReflectliteType.abiMethod fun t => (fun a : Nat => Value.int IntKind.u8 (a : Int)) <$> Rtype.kind t) #[.pointer (some ⟨2, 49, none⟩)]).run Tryz.prog w = .ok (.int .u8 2) w := by kernel_rfl
theorem as_rlm (z : Sem Value) (f : TypeId → Addr → Nat → Nat → Sem Value) (v : Value) :
    ReflectliteValue.method z f #[v] = (do match ← ReflectliteValue.parts v with | none => z | some (t, a, fl) => f t a fl (fl % 32)) := rfl
theorem as_partsP (a : Addr) (w : World) : (ReflectliteValue.parts (.agg #[.pointer (some ⟨2, 112, none⟩), .pointer (some a), .int .u64 150])).run Tryz.prog w = .ok (some (112, a, 150)) w := by kernel_rfl
theorem as_isNilP (a p : Addr) (W : World) (ha : W.cell? a = some (.pointer (some p))) :
    (ReflectliteValue.method (ReflectliteValue.valueError "reflectlite.Value.IsNil" 0) ReflectliteValue.isNil #[.agg #[.pointer (some ⟨2, 112, none⟩), .pointer (some a), .int .u64 150]]).run Tryz.prog W = .ok (.bool false) W := by
  rw [as_rlm]
  simp only [Sem.run_bind, as_partsP, Result.andThen]
  simp [ReflectliteValue.isNil, loadVar, isAgg, underlying, Tryz.underlying112, ha, Result.andThen]
theorem as_elemP (w : World) : (ReflectliteType.method ReflectliteType.elem #[.agg #[.pointer (some ⟨2, 112, none⟩)]]).run Tryz.prog w = .ok (.iface 268 (.agg #[.pointer (some ⟨2, 49, none⟩)])) w := by kernel_rfl
theorem as_implE (w : World) : (ReflectliteType.relation "Implements" ReflectliteType.implements_ #[.agg #[.pointer (some ⟨2, 49, none⟩)], .iface 268 (.agg #[.pointer (some ⟨2, 45, none⟩)])]).run Tryz.prog w = .ok (.bool true) w := by kernel_rfl
theorem as_typeOfE (v : Value) (w : World) : (ReflectliteType.typeOf #[.iface 49 v]).run Tryz.prog w = .ok (.iface 268 (.agg #[.pointer (some ⟨2, 49, none⟩)])) w := by kernel_rfl
theorem as_typeOfS (v : Value) (w : World) : (ReflectliteType.typeOf #[.iface 106 v]).run Tryz.prog w = .ok (.iface 268 (.agg #[.pointer (some ⟨2, 106, none⟩)])) w := by kernel_rfl
theorem as_assignE (w : World) : (ReflectliteType.relation "AssignableTo" ReflectliteType.assignableTo #[.agg #[.pointer (some ⟨2, 49, none⟩)], .iface 268 (.agg #[.pointer (some ⟨2, 49, none⟩)])]).run Tryz.prog w = .ok (.bool true) w := by kernel_rfl
theorem as_assignS (w : World) : (ReflectliteType.relation "AssignableTo" ReflectliteType.assignableTo #[.agg #[.pointer (some ⟨2, 106, none⟩)], .iface 268 (.agg #[.pointer (some ⟨2, 49, none⟩)])]).run Tryz.prog w = .ok (.bool false) w := by kernel_rfl
theorem as_valueOfE (n : Int) (w : World) : (ReflectliteValue.unpack (.iface 49 (.int .i64 n))).run Tryz.prog w
    = .ok (.agg #[.pointer (some ⟨2, 49, none⟩), .pointer (some ⟨w.heap.size, 0, none⟩), .int .u64 130]) (w.alloc (.cells #[.int .i64 n] 49)) := by kernel_rfl
theorem as_elemOfP (w : World) : (Rtype.elem? 112).run Tryz.prog w = .ok (some 49) w := by kernel_rfl
theorem as_mkE (p : Addr) (w : World) : (ReflectliteValue.mk 49 p ReflectliteValue.flagAddr).run Tryz.prog w = .ok (.agg #[.pointer (some ⟨2, 49, none⟩), .pointer (some p), .int .u64 386]) w := by kernel_rfl
theorem as_elemV (a p : Addr) (W : World) (ha : W.cell? a = some (.pointer (some p))) :
    (ReflectliteValue.method (ReflectliteValue.valueError "reflectlite.Value.Elem" 0) ReflectliteValue.elem #[.agg #[.pointer (some ⟨2, 112, none⟩), .pointer (some a), .int .u64 150]]).run Tryz.prog W
      = .ok (.agg #[.pointer (some ⟨2, 49, none⟩), .pointer (some p), .int .u64 386]) W := by
  rw [as_rlm]
  simp only [Sem.run_bind, as_partsP, Result.andThen]
  simp [ReflectliteValue.elem, loadVar, isAgg, underlying, Tryz.underlying112, ha, Result.andThen, as_elemOfP, as_mkE]
theorem as_rls (v x : Value) : ReflectliteValue.set #[v, x] = (do
    let (some (dst, a, fl), some (src, b, _)) := (← ReflectliteValue.parts v, ← ReflectliteValue.parts x)
      | unsupported (.noEntry "extern/(internal/reflectlite.Value).Set.zeroValue")
    if fl / ReflectliteValue.flagAddr % 2 == 0 then unsupported (.noEntry "extern/(internal/reflectlite.Value).Set.unaddressable")
    let val ← loadVar src b
    if ← Rtype.directlyAssignable dst src then storeVar dst a val
    else if ← Rtype.implements dst src then
      if (← Rtype.kind src) == 20 then
        match val with
        | .nilIface => unsupported (.noEntry "extern/reflectlite: a nil value of one interface type handed on as a value of another")
        | _ => storeVar dst a val
      else storeVar dst a (.iface src val)
    else panicString ("reflectlite.Set: value of type " ++ (← Rtype.spelt src) ++ " is not assignable to type " ++ (← Rtype.spelt dst))
    pure (.tuple #[])) := rfl
theorem as_partsE (a : Addr) (w : World) : (ReflectliteValue.parts (.agg #[.pointer (some ⟨2, 49, none⟩), .pointer (some a), .int .u64 386])).run Tryz.prog w = .ok (some (49, a, 386)) w := by kernel_rfl
theorem as_partsE2 (a : Addr) (w : World) : (ReflectliteValue.parts (.agg #[.pointer (some ⟨2, 49, none⟩), .pointer (some a), .int .u64 130])).run Tryz.prog w = .ok (some (49, a, 130)) w := by kernel_rfl
theorem as_direct (w : World) : (Rtype.directlyAssignable 49 49).run Tryz.prog w = .ok true w := by kernel_rfl
theorem as_set (ta b : Addr) (n : Int) (old : Value) (W : World) (hb : W.cell? b = some (.int .i64 n)) (ht : W.cell? ta = some old) (hf : W.frozen? ta = false) :
    (ReflectliteValue.set #[.agg #[.pointer (some ⟨2, 49, none⟩), .pointer (some ta), .int .u64 386], .agg #[.pointer (some ⟨2, 49, none⟩), .pointer (some b), .int .u64 130]]).run Tryz.prog W
      = .ok (.tuple #[]) (W.setCell ta (.int .i64 n)) := by
  rw [as_rls]
  simp only [Sem.run_bind, as_partsE, as_partsE2, Result.andThen]
  simp [ReflectliteValue.flagAddr, loadVar, isAgg, underlying, Tryz.underlying49, hb, Result.andThen, as_direct, storeVar, Value.cells, storeCells, Addr.add]
  rw [run_store Tryz.prog W ta _ _ (by rfl)]
  simp [ht, hf]

theorem as_methodKind (h : Value) (w : World) : (Go.method 462 268 (.agg #[h]) "Kind").run Tryz.prog w = .ok (211, h) w := by kernel_rfl
theorem as_methodElem (h : Value) (w : World) : (Go.method 462 268 (.agg #[h]) "Elem").run Tryz.prog w = .ok (226, .agg #[h]) w := by kernel_rfl
theorem as_methodImpl (h : Value) (w : World) : (Go.method 462 268 (.agg #[h]) "Implements").run Tryz.prog w = .ok (227, .agg #[h]) w := by kernel_rfl
theorem as_methodAssign (h : Value) (w : World) : (Go.method 462 268 (.agg #[h]) "AssignableTo").run Tryz.prog w = .ok (224, .agg #[h]) w := by kernel_rfl

/-- The entries that are no Go text, at the calls. -/
theorem as_hValueOf (args : Array Value) (w : World) : (callFunc 93 args).run Tryz.prog w = (((fun args => ReflectliteValue.unpack (args.getD 0 (.tuple #[]))) args).run Tryz.prog w).andThen fun v w' => .ok (.value v) w' :=
  run_callFunc_extern (e := (fun args => ReflectliteValue.unpack (args.getD 0 (.tuple #[])))) Tryz.func93 (by kernel_rfl) (by kernel_rfl) (by kernel_rfl) (by kernel_rfl) args w
theorem as_hType (args : Array Value) (w : World) : (callFunc 94 args).run Tryz.prog w = (((ReflectliteValue.methodAny (ReflectliteValue.valueError "reflectlite.Value.Type" 0) (fun t _ _ _ => ReflectliteType.toType t)) args).run Tryz.prog w).andThen fun v w' => .ok (.value v) w' :=
  run_callFunc_extern (e := (ReflectliteValue.methodAny (ReflectliteValue.valueError "reflectlite.Value.Type" 0) (fun t _ _ _ => ReflectliteType.toType t))) Tryz.func94 (by kernel_rfl) (by kernel_rfl) (by kernel_rfl) (by kernel_rfl) args w
theorem as_hIsNil (args : Array Value) (w : World) : (callFunc 95 args).run Tryz.prog w = (((ReflectliteValue.method (ReflectliteValue.valueError "reflectlite.Value.IsNil" 0) ReflectliteValue.isNil) args).run Tryz.prog w).andThen fun v w' => .ok (.value v) w' :=
  run_callFunc_extern (e := (ReflectliteValue.method (ReflectliteValue.valueError "reflectlite.Value.IsNil" 0) ReflectliteValue.isNil)) Tryz.func95 (by kernel_rfl) (by kernel_rfl) (by kernel_rfl) (by kernel_rfl) args w
theorem as_hKind (args : Array Value) (w : World) : (callFunc 211 args).run Tryz.prog w = (((ReflectliteType.abiMethod fun t => do pure (.int .u8 (← Rtype.kind t))) args).run Tryz.prog w).andThen fun v w' => .ok (.value v) w' :=
  run_callFunc_extern (e := (ReflectliteType.abiMethod fun t => do pure (.int .u8 (← Rtype.kind t)))) Tryz.func211 (by kernel_rfl) (by kernel_rfl) (by kernel_rfl) (by kernel_rfl) args w
theorem as_hElem (args : Array Value) (w : World) : (callFunc 226 args).run Tryz.prog w = (((ReflectliteType.method ReflectliteType.elem) args).run Tryz.prog w).andThen fun v w' => .ok (.value v) w' :=
  run_callFunc_extern (e := (ReflectliteType.method ReflectliteType.elem)) Tryz.func226 (by kernel_rfl) (by kernel_rfl) (by kernel_rfl) (by kernel_rfl) args w
theorem as_hImpl (args : Array Value) (w : World) : (callFunc 227 args).run Tryz.prog w = (((ReflectliteType.relation "Implements" ReflectliteType.implements_) args).run Tryz.prog w).andThen fun v w' => .ok (.value v) w' :=
  run_callFunc_extern (e := (ReflectliteType.relation "Implements" ReflectliteType.implements_)) Tryz.func227 (by kernel_rfl) (by kernel_rfl) (by kernel_rfl) (by kernel_rfl) args w
theorem as_hTypeOf (args : Array Value) (w : World) : (callFunc 136 args).run Tryz.prog w = ((ReflectliteType.typeOf args).run Tryz.prog w).andThen fun v w' => .ok (.value v) w' :=
  run_callFunc_extern (e := ReflectliteType.typeOf) Tryz.func136 (by kernel_rfl) (by kernel_rfl) (by kernel_rfl) (by kernel_rfl) args w
theorem as_hAssign (args : Array Value) (w : World) : (callFunc 224 args).run Tryz.prog w = (((ReflectliteType.relation "AssignableTo" ReflectliteType.assignableTo) args).run Tryz.prog w).andThen fun v w' => .ok (.value v) w' :=
  run_callFunc_extern (e := (ReflectliteType.relation "AssignableTo" ReflectliteType.assignableTo)) Tryz.func224 (by kernel_rfl) (by kernel_rfl) (by kernel_rfl) (by kernel_rfl) args w
theorem as_hVElem (args : Array Value) (w : World) : (callFunc 137 args).run Tryz.prog w = (((ReflectliteValue.method (ReflectliteValue.valueError "reflectlite.Value.Elem" 0) ReflectliteValue.elem) args).run Tryz.prog w).andThen fun v w' => .ok (.value v) w' :=
  run_callFunc_extern (e := (ReflectliteValue.method (ReflectliteValue.valueError "reflectlite.Value.Elem" 0) ReflectliteValue.elem)) Tryz.func137 (by kernel_rfl) (by kernel_rfl) (by kernel_rfl) (by kernel_rfl) args w
theorem as_hSet (args : Array Value) (w : World) : (callFunc 138 args).run Tryz.prog w = ((ReflectliteValue.set args).run Tryz.prog w).andThen fun v w' => .ok (.value v) w' :=
  run_callFunc_extern (e := ReflectliteValue.set) Tryz.func138 (by kernel_rfl) (by kernel_rfl) (by kernel_rfl) (by kernel_rfl) args w
theorem as_taAs (a : Addr) (w : World) : (Instr.typeAssert (.iface 106 (.pointer (some a))) 45 273 true).run Tryz.prog w = .ok (.tuple #[.nilIface, .bool false]) w :=
  run_typeAssert_lacksB Tryz.underlying273 (by kernel_rfl) (by kernel_rfl) (.pointer (some a)) 45 w
theorem as_taUn (a : Addr) (w : World) : (Instr.typeAssert (.iface 106 (.pointer (some a))) 45 276 true).run Tryz.prog w = .ok (.tuple #[.iface 106 (.pointer (some a)), .bool true]) w := by kernel_rfl
theorem as_methodUn (a : Addr) (w : World) : (Go.method 462 106 (.pointer (some a)) "Unwrap").run Tryz.prog w = .ok (216, .pointer (some a)) w := by kernel_rfl
end Go.Proofs.YtdhobpbngkainaaGreatDoor
/-
  Ours. api.Tell: the number of an error. errors.As at *Errno is walked as in the kit's worked text ToyasAs.
-/
namespace Go.Proofs.YtdhobpbngkainaaGreatDoor
open Go.RowKit Go.Extern.Stop Go.Stop Go.Extern

/-- What errors.As reads of the package's own variable. -/
def ErrLaid (w : World) : Prop := w.cell? ⟨0, 0, none⟩ = some (.iface 268 (.agg #[.pointer (some ⟨2, 45, none⟩)]))

def asW1 (w : World) (t : Addr) : World := w.alloc (.cells #[.pointer (some t)] 112)
def asRV (w : World) : Obj := .cells #[.pointer (some ⟨2, 112, none⟩), .pointer (some ⟨w.heap.size, 0, none⟩), .int .u64 150] 197

set_option maxHeartbeats 4000000 in
set_option maxRecDepth 100000 in
theorem as_hitE (n : Int) (t : Addr) (old : Value) (w : World) (hg : w.cell? ⟨0, 0, none⟩ = some (.iface 268 (.agg #[.pointer (some ⟨2, 45, none⟩)]))) (ht0 : w.cell? t = some old) (hf0 : w.frozen? t = false) :
    Calls Tryz.prog 49 #[.iface 49 (.int .i64 n), .iface 112 (.pointer (some t))] w fun ev w' => ev = .returned (.bool true) ∧
      w' = (((((w.alloc (.cells #[.pointer (some t)] 112)).alloc (.cells #[.pointer (some ⟨2, 112, none⟩), .pointer (some ⟨w.heap.size, 0, none⟩), .int .u64 150] 197)).alloc (.cells #[.pointer (some ⟨2, 112, none⟩), .pointer (some ⟨w.heap.size, 0, none⟩), .int .u64 150] 197)).alloc (.cells #[.int .i64 n] 49)).setCell t (.int .i64 n)) := by
  have h1 := as_hValueOf
  have h2 := as_hType
  have h3 := as_hIsNil
  have h4 := as_hKind
  have h5 := as_hElem
  have h6 := as_hImpl
  have h7 := as_hTypeOf
  have h8 := as_hAssign
  have h9 := as_hVElem
  have h10 := as_hSet
  have x1 := as_valueOfP
  have x2 := as_typeP
  have x3 := as_kindP
  have x4 := as_kindE
  have x6 := as_elemP
  have x7 := as_implE
  have x8 := as_typeOfE
  have x9 := as_assignE
  have y1 := as_valueOfE
  have m1 := as_methodKind
  have m2 := as_methodElem
  have m3 := as_methodImpl
  have m4 := as_methodAssign
  have n8 := as_isNilP ⟨w.heap.size, 0, none⟩ t ((w.alloc (.cells #[.pointer (some t)] 112)).alloc (.cells #[.pointer (some ⟨2, 112, none⟩), .pointer (some ⟨w.heap.size, 0, none⟩), .int .u64 150] 197)) (by simp)
  have hlt : 0 < w.heap.size := by
    rcases Nat.eq_zero_or_pos w.heap.size with h0 | h
    · simp [World.cell?, h0] at hg
    · exact h
  have hg2 : ((w.alloc (.cells #[.pointer (some t)] 112)).alloc (.cells #[.pointer (some ⟨2, 112, none⟩), .pointer (some ⟨w.heap.size, 0, none⟩), .int .u64 150] 197)).cell? ⟨0, 0, none⟩ = some (.iface 268 (.agg #[.pointer (some ⟨2, 45, none⟩)])) := by
    rw [World.cell?_alloc_lt _ _ ⟨0, 0, none⟩ (by simp), World.cell?_alloc_lt _ _ ⟨0, 0, none⟩ hlt]; exact hg
  have htl : t.block < w.heap.size := by
    rcases Nat.lt_or_ge t.block w.heap.size with h | h
    · exact h
    · simp [World.cell?, Array.getElem?_eq_none h] at ht0
  have el := as_elemV ⟨w.heap.size, 0, none⟩ t (((w.alloc (.cells #[.pointer (some t)] 112)).alloc (.cells #[.pointer (some ⟨2, 112, none⟩), .pointer (some ⟨w.heap.size, 0, none⟩), .int .u64 150] 197)).alloc (.cells #[.pointer (some ⟨2, 112, none⟩), .pointer (some ⟨w.heap.size, 0, none⟩), .int .u64 150] 197)) (by rw [World.cell?_alloc_lt _ _ ⟨w.heap.size, 0, none⟩ (by simp; omega)]; simp)
  have st := as_set t ⟨w.heap.size + 1 + 1 + 1, 0, none⟩ n old ((((w.alloc (.cells #[.pointer (some t)] 112)).alloc (.cells #[.pointer (some ⟨2, 112, none⟩), .pointer (some ⟨w.heap.size, 0, none⟩), .int .u64 150] 197)).alloc (.cells #[.pointer (some ⟨2, 112, none⟩), .pointer (some ⟨w.heap.size, 0, none⟩), .int .u64 150] 197)).alloc (.cells #[.int .i64 n] 49))
    (by rw [World.cell?_alloc_at _ _ _ _ (by simp)]; rfl)
    (by rw [World.cell?_alloc_lt _ _ t (by simp; omega), World.cell?_alloc_lt _ _ t (by simp; omega), World.cell?_alloc_lt _ _ t (by simp; omega), World.cell?_alloc_lt _ _ t htl]; exact ht0)
    (by rw [World.frozen?_alloc_old _ _ t (by simp; omega), World.frozen?_alloc_old _ _ t (by simp; omega), World.frozen?_alloc_old _ _ t (by simp; omega), World.frozen?_alloc_old _ _ t (Nat.ne_of_lt htl)]; exact hf0)
  go_enter Tryz.func49, Tryz.ntmps49
  go_wp2
  refine wp_loop_rounds 1 ?_
  rw [rounds_succ]
  go_wp2
  go_ret
  exact ⟨rfl, rfl⟩
set_option maxHeartbeats 4000000 in
set_option maxRecDepth 100000 in
theorem as_hitS (p : Nat) (n : Int) (t : Addr) (old : Value) (w : World) (hg : w.cell? ⟨0, 0, none⟩ = some (.iface 268 (.agg #[.pointer (some ⟨2, 45, none⟩)]))) (hp : w.cell? ⟨p, 1, none⟩ = some (.int .i64 n)) (ht0 : w.cell? t = some old) (hf0 : w.frozen? t = false) :
    Calls Tryz.prog 49 #[.iface 106 (.pointer (some ⟨p, 0, none⟩)), .iface 112 (.pointer (some t))] w fun ev w' => ev = .returned (.bool true) ∧
      w' = (((((w.alloc (.cells #[.pointer (some t)] 112)).alloc (.cells #[.pointer (some ⟨2, 112, none⟩), .pointer (some ⟨w.heap.size, 0, none⟩), .int .u64 150] 197)).alloc (.cells #[.pointer (some ⟨2, 112, none⟩), .pointer (some ⟨w.heap.size, 0, none⟩), .int .u64 150] 197)).alloc (.cells #[.int .i64 n] 49)).setCell t (.int .i64 n)) := by
  have h1 := as_hValueOf
  have h2 := as_hType
  have h3 := as_hIsNil
  have h4 := as_hKind
  have h5 := as_hElem
  have h6 := as_hImpl
  have h7 := as_hTypeOf
  have h8 := as_hAssign
  have h9 := as_hVElem
  have h10 := as_hSet
  have x1 := as_valueOfP
  have x2 := as_typeP
  have x3 := as_kindP
  have x4 := as_kindE
  have x6 := as_elemP
  have x7 := as_implE
  have x8 := as_typeOfE
  have z8 := as_typeOfS
  have z9 := as_assignS
  have za := as_taAs
  have zu := as_taUn
  have zm := as_methodUn
  have x9 := as_assignE
  have y1 := as_valueOfE
  have m1 := as_methodKind
  have m2 := as_methodElem
  have m3 := as_methodImpl
  have m4 := as_methodAssign
  have n8 := as_isNilP ⟨w.heap.size, 0, none⟩ t ((w.alloc (.cells #[.pointer (some t)] 112)).alloc (.cells #[.pointer (some ⟨2, 112, none⟩), .pointer (some ⟨w.heap.size, 0, none⟩), .int .u64 150] 197)) (by simp)
  have hlt : 0 < w.heap.size := by
    rcases Nat.eq_zero_or_pos w.heap.size with h0 | h
    · simp [World.cell?, h0] at hg
    · exact h
  have hg2 : ((w.alloc (.cells #[.pointer (some t)] 112)).alloc (.cells #[.pointer (some ⟨2, 112, none⟩), .pointer (some ⟨w.heap.size, 0, none⟩), .int .u64 150] 197)).cell? ⟨0, 0, none⟩ = some (.iface 268 (.agg #[.pointer (some ⟨2, 45, none⟩)])) := by
    rw [World.cell?_alloc_lt _ _ ⟨0, 0, none⟩ (by simp), World.cell?_alloc_lt _ _ ⟨0, 0, none⟩ hlt]; exact hg
  have htl : t.block < w.heap.size := by
    rcases Nat.lt_or_ge t.block w.heap.size with h | h
    · exact h
    · simp [World.cell?, Array.getElem?_eq_none h] at ht0
  have el := as_elemV ⟨w.heap.size, 0, none⟩ t (((w.alloc (.cells #[.pointer (some t)] 112)).alloc (.cells #[.pointer (some ⟨2, 112, none⟩), .pointer (some ⟨w.heap.size, 0, none⟩), .int .u64 150] 197)).alloc (.cells #[.pointer (some ⟨2, 112, none⟩), .pointer (some ⟨w.heap.size, 0, none⟩), .int .u64 150] 197)) (by rw [World.cell?_alloc_lt _ _ ⟨w.heap.size, 0, none⟩ (by simp; omega)]; simp)
  have st := as_set t ⟨w.heap.size + 1 + 1 + 1, 0, none⟩ n old ((((w.alloc (.cells #[.pointer (some t)] 112)).alloc (.cells #[.pointer (some ⟨2, 112, none⟩), .pointer (some ⟨w.heap.size, 0, none⟩), .int .u64 150] 197)).alloc (.cells #[.pointer (some ⟨2, 112, none⟩), .pointer (some ⟨w.heap.size, 0, none⟩), .int .u64 150] 197)).alloc (.cells #[.int .i64 n] 49))
    (by rw [World.cell?_alloc_at _ _ _ _ (by simp)]; rfl)
    (by rw [World.cell?_alloc_lt _ _ t (by simp; omega), World.cell?_alloc_lt _ _ t (by simp; omega), World.cell?_alloc_lt _ _ t (by simp; omega), World.cell?_alloc_lt _ _ t htl]; exact ht0)
    (by rw [World.frozen?_alloc_old _ _ t (by simp; omega), World.frozen?_alloc_old _ _ t (by simp; omega), World.frozen?_alloc_old _ _ t (by simp; omega), World.frozen?_alloc_old _ _ t (Nat.ne_of_lt htl)]; exact hf0)
  have hpl : p < w.heap.size := World.block_lt_of_cell? w _ hp
  have hp3 : (((w.alloc (.cells #[.pointer (some t)] 112)).alloc (.cells #[.pointer (some ⟨2, 112, none⟩), .pointer (some ⟨w.heap.size, 0, none⟩), .int .u64 150] 197)).alloc (.cells #[.pointer (some ⟨2, 112, none⟩), .pointer (some ⟨w.heap.size, 0, none⟩), .int .u64 150] 197)).cell? ⟨p, 1, none⟩ = some (.int .i64 n) := by
    rw [World.cell?_alloc_lt _ _ ⟨p, 1, none⟩ (by simp; omega), World.cell?_alloc_lt _ _ ⟨p, 1, none⟩ (by simp; omega), World.cell?_alloc_lt _ _ ⟨p, 1, none⟩ hpl]; exact hp
  go_enter Tryz.func49, Tryz.ntmps49
  go_wp2
  refine wp_loop_rounds 2 ?_
  rw [rounds_succ]
  go_wp2
  rw [rounds_succ]
  go_wp2
  go_ret
  exact ⟨rfl, rfl⟩
end Go.Proofs.YtdhobpbngkainaaGreatDoor
/-
  Ours. api.Tell answers the number of an error: nil, an Errno, a *SectorError.
-/
namespace Go.Proofs.YtdhobpbngkainaaGreatDoor
open Go.RowKit

/-- The error value v tells the number n. -/
def ErrIs (w : World) (v : Value) (n : Int) : Prop :=
  (v = .nilIface ∧ n = 0) ∨ v = .iface 49 (.int .i64 n) ∨ ∃ p, v = .iface 106 (.pointer (some ⟨p, 0, none⟩)) ∧ w.cell? ⟨p, 1, none⟩ = some (.int .i64 n)
theorem ErrIs.keep {S : Nat → Prop} {w w' : World} {v : Value} {n : Int} (h : ErrIs w v n) (hm : Mods S w w') (hS : ∀ p, v = .iface 106 (.pointer (some ⟨p, 0, none⟩)) → ¬ S p) : ErrIs w' v n := by
  rcases h with h | h | ⟨p, h, hc⟩
  · exact .inl h
  · exact .inr (.inl h)
  · exact .inr (.inr ⟨p, h, (World.cell?_of_block (w := w) (hm.block p (World.block_lt_of_cell? w _ hc) (hS p h))).trans hc⟩)

theorem errLaid_cell {w : World} (h : ErrLaid w) : w.cell? ⟨0, 0, none⟩ = some (.iface 268 (.agg #[.pointer (some ⟨2, 45, none⟩)])) := h
theorem ErrLaid.keep {S : Nat → Prop} {w w' : World} (h : ErrLaid w) (hm : Mods S w w') (hS : ¬ S 0) : ErrLaid w' := (World.cell?_of_block (w := w) (hm.block 0 (World.block_lt_of_cell? w _ h) hS)).trans h

def TellPost (n : Int) (w : World) (e : Ending) (w' : World) : Prop := e = .returned (.int .i64 n) ∧ Same w w'

set_option maxHeartbeats 2000000 in
set_option maxRecDepth 100000 in
theorem Tell_calls (v : Value) (n : Int) (w : World) (hL : ErrLaid w) (hv : ErrIs w v n) : Calls Tryz.prog 19 #[v] w (TellPost n w) := by
  rcases hv with ⟨rfl, rfl⟩ | rfl | ⟨p, rfl, hp⟩
  · go_enter Tryz.func19, Tryz.ntmps19
    go_wp2
    go_ret
    exact ⟨rfl, (Mods.refl _ w).alloc _⟩
  · have h0 : 0 < w.heap.size := World.block_lt_of_cell? w _ hL
    have hg : (w.alloc (.cells #[.int .i64 0] 49)).cell? ⟨0, 0, none⟩ = _ := (World.cell?_alloc_lt _ _ ⟨0, 0, none⟩ h0).trans (errLaid_cell hL)
    have hc := as_hitE n ⟨w.heap.size, 0, none⟩ (.int .i64 0) _ hg (by simp) (free_at (alloc_new w _) 0)
    have HC := Lib.hid hc
    clear hc hg hL
    go_enter Tryz.func19, Tryz.ntmps19
    go_wp2_with fail
    refine HC.out.mono ?_
    rintro e w' ⟨rfl, hw⟩
    have hcell : w'.cell? ⟨w.heap.size, 0, none⟩ = some (.int .i64 n) := by
      rw [hw]
      exact cell_at (set_same (b := w.heap.size) (c := #[.int .i64 0]) (t := 49) (fz := (0, 0)) (by rw [alloc_old (by simp; omega), alloc_old (by simp; omega), alloc_old (by simp; omega), alloc_old (by simp)]; exact alloc_new w _) 0 (.int .i64 n)) 0 rfl
    have hs : Same w w' := by
      rw [hw]
      exact Mods.setNew (Nat.le_refl _) (((((((Mods.refl _ w).alloc _).alloc _).alloc _).alloc _).alloc _)) _
    have HS := Lib.hid hs
    clear hw hs
    go_wp2
    go_ret
    exact ⟨rfl, HS.out⟩
  · have h0 : 0 < w.heap.size := World.block_lt_of_cell? w _ hL
    have hg : (w.alloc (.cells #[.int .i64 0] 49)).cell? ⟨0, 0, none⟩ = _ := (World.cell?_alloc_lt _ _ ⟨0, 0, none⟩ h0).trans (errLaid_cell hL)
    have hp' : (w.alloc (.cells #[.int .i64 0] 49)).cell? ⟨p, 1, none⟩ = some (.int .i64 n) := (World.cell?_alloc_lt _ _ ⟨p, 1, none⟩ (World.block_lt_of_cell? w _ hp)).trans hp
    have hc := as_hitS p n ⟨w.heap.size, 0, none⟩ (.int .i64 0) _ hg hp' (by simp) (free_at (alloc_new w _) 0)
    have HC := Lib.hid hc
    clear hc hg hL hp hp'
    go_enter Tryz.func19, Tryz.ntmps19
    go_wp2_with fail
    refine HC.out.mono ?_
    rintro e w' ⟨rfl, hw⟩
    have hcell : w'.cell? ⟨w.heap.size, 0, none⟩ = some (.int .i64 n) := by
      rw [hw]
      exact cell_at (set_same (b := w.heap.size) (c := #[.int .i64 0]) (t := 49) (fz := (0, 0)) (by rw [alloc_old (by simp; omega), alloc_old (by simp; omega), alloc_old (by simp; omega), alloc_old (by simp)]; exact alloc_new w _) 0 (.int .i64 n)) 0 rfl
    have hs : Same w w' := by
      rw [hw]
      exact Mods.setNew (Nat.le_refl _) (((((((Mods.refl _ w).alloc _).alloc _).alloc _).alloc _).alloc _)) _
    have HS := Lib.hid hs
    clear hw hs
    go_wp2
    go_ret
    exact ⟨rfl, HS.out⟩
end Go.Proofs.YtdhobpbngkainaaGreatDoor
/-
  Ours. What the row's list gives: the cell of errors.errorType; a world that meets it.
-/
namespace Go.Proofs.YtdhobpbngkainaaGreatDoor
open Go.ChangeShapes Go.WideShapes Go.RowKit

theorem lz_own : ownKnob Tryz.prog.godebug = none := by kernel_rfl
theorem lz_et : Tryz.prog.globalNamed "errors.errorType" = some 0 := by kernel_rfl
theorem lz_rt : (Tryz.prog.cutTypes.find? (·.1 == "internal/reflectlite.rtype")).map (·.2) = some 268 := by kernel_rfl
theorem lz_oneRow : ((List.range 362).filter fun t => Tryz.prog.rowNamed t [101, 114, 114, 111, 114]) = [45] := by kernel_rfl
theorem lz_size : Tryz.prog.types.size = 362 := by kernel_rfl
theorem errLaid_of {W : World} (h : laidMetH Tryz.prog [("errors.errorType", Rows.laid_errors_errorType)] W) : ErrLaid W := by
  have h' : laidMet Tryz.prog [] W ∧ handlesMet Tryz.prog [("errors.errorType", Rows.laid_errors_errorType)] W := h
  obtain ⟨name, u, ty, e1, e2, e3, e4, e5⟩ := h'.2 _ (List.mem_singleton.2 rfl)
  have en : name = [101, 114, 114, 111, 114] := (Option.some.inj e1).symm
  subst en
  obtain rfl := Option.some.inj (lz_rt.symm.trans e2)
  have hm : ty ∈ (List.range 362).filter fun t => Tryz.prog.rowNamed t [101, 114, 114, 111, 114] := List.mem_filter.2 ⟨List.mem_range.2 (by rw [← lz_size]; exact e3), e4⟩
  rw [lz_oneRow] at hm
  obtain rfl := List.mem_singleton.1 hm
  have hh : typeHandle Tryz.prog 45 = .pointer (some ⟨2, 45, none⟩) := by kernel_rfl
  rw [hh] at e5
  unfold ErrLaid
  simpa using World.var?_cell lz_et e5 0
noncomputable def laidWorld (os : Os) : World :=
  let w0 := World.holding Tryz.prog os ⟨#[], #[], []⟩
  { w0 with heap := w0.heap.modify 0 fun
      | .cells _ t frozen => .cells #[.iface 268 (.agg #[.pointer (some ⟨2, 45, none⟩)])] t frozen
      | o => o }
theorem laidWorld_met (os : Os) (args : Array Value) : laidMetH Tryz.prog [("errors.errorType", Rows.laid_errors_errorType)] ((laidWorld os).forCall (fun _ _ => 0) ⟨#[], args, []⟩).memory :=
  laidMetH_of_parts (laidMet_nil _ _) (by kernel_rfl)
theorem int_wf {n : Int} (h : (Lit.int IntKind.i64 n).wf = true) : -9223372036854775808 ≤ n ∧ n ≤ 9223372036854775807 := by
  simp only [Lit.wf, IntKind.min, IntKind.max, IntKind.signed, IntKind.bits, Bool.and_eq_true, decide_eq_true_eq, if_true] at h
  omega
theorem same_grown {w w' : World} (h : Same w w') : Below w.heap.size w w' := h.below
end Go.Proofs.YtdhobpbngkainaaGreatDoor
/-
  Ours. The built-in append on a slice of the call's own, with one word more than the kit's law: the new row is the old one, or new memory.
-/
namespace Go.Proofs.YtdhobpbngkainaaGreatDoor
open Go.RowKit

section
variable {P : Program} (w : World)
theorem run_append_fp (t ty e : TypeId) (i : TypeInfo) (z : Value) (size bytes : Nat) (ht : P.underlying t = some (.slice e)) (hi : P.info? e = some i) (hz : i.zero = some z)
    (hsize : i.size = size) (hby : i.bytes = bytes) (hzs : z.cells.size = size) (hsz : 0 < size)
    (v : Value) (n : Nat) (xs : List Value) (hown : w.ownsRow 0 e size v n xs)
    (a : Addr) (m c : Nat) (news : List Value) (hl : news.length = m * size) (hnews : ∀ j u, news[j]? = some u → w.cell? (a.add j) = some u) (h1 : ∀ u ∈ news, u.oneCell' = true)
    (h63 : n + m ≤ maxLen) (hbytes : (n + m) * bytes ≤ 140737488355328) :
    ∃ v' w', (Builtin.append_ #[t, t] ty #[v, .slice (some a) m c]).run P w = .ok v' w' ∧ w'.ownsRow 0 e size v' (n + m) (xs ++ news) ∧ w.grownBy w' v.ownBlock ∧
      (v' = .slice none 0 0 ↔ v = .slice none 0 0 ∧ m = 0) ∧ (∀ g, v'.ownBlock = some g → v.ownBlock = some g ∨ w.heap.size ≤ g) := by
  obtain ⟨v', w', hr, h2, h3, h4⟩ := run_append_own (P := P) w 0 t ty e i z size bytes ht hi hz hsize hby hzs hsz v n xs hown a m c news hl hnews h1 h63 hbytes (Nat.zero_le _)
  refine ⟨v', w', hr, h2, h3, h4, ?_⟩
  rcases hown.2 with ⟨rfl, rfl⟩ | ⟨g, cap, cur, rfl, hbg, hg, hnc, hcm, hcs, htake⟩
  · have hx : xs = [] := List.eq_nil_of_length_eq_zero (by simpa using hown.1)
    subst hx
    obtain ⟨v2, w2, hr2, h22, _⟩ := run_append_own (P := P) w w.heap.size t ty e i z size bytes ht hi hz hsize hby hzs hsz _ 0 [] (World.ownsRow_nil w w.heap.size e size) a m c news hl hnews h1 h63 hbytes (Nat.le_refl _)
    rw [hr] at hr2
    cases hr2
    exact fun g hg => .inr (h22.lt g hg).1
  · subst hsize
    subst hby
    have hsmall : n + m ≤ 9223372036854775807 := by simp only [maxLen] at h63; omega
    by_cases hroom : n + m ≤ cap
    · have hfit : n * i.size + news.length ≤ cur.size := by rw [hl, hcs, ← Nat.add_mul]; exact Nat.mul_le_mul_right _ hroom
      have hr2 := run_append_room (P := P) w t ty e i ht hi g n cap cur hg a m c news hl hnews h1 hroom hfit
      rw [hr] at hr2
      cases hr2
      exact fun g' hg' => .inl hg'
    · have holds : ∀ j u, xs[j]? = some u → w.cell? ((⟨g, 0, none⟩ : Addr).add j) = some u := hown.cells (g := g) rfl
      have hr2 := run_append_grow (P := P) w t ty e i z ht hi hz ⟨g, 0, none⟩ n cap xs hown.1 holds a m c news hl hnews (by omega) (by omega) (growslice_fits (by omega) hbytes)
      rw [hr] at hr2
      cases hr2
      exact fun g' hg' => by simp [Value.ownBlock] at hg'; exact .inr (by omega)
end

section
variable {P : Program} (w : World)
theorem run_append_src0 (t ty e : TypeId) (i : TypeInfo) (size : Nat) (ht : P.underlying t = some (.slice e)) (hi : P.info? e = some i) (v : Value) (n : Nat) (xs : List Value) (hown : w.ownsRow 0 e size v n xs) (sa : Option Addr) (c : Nat) :
    (Builtin.append_ #[t, t] ty #[v, .slice sa 0 c]).run P w = .ok v w := by
  cases sa <;> rcases hown.2 with ⟨rfl, rfl⟩ | ⟨g, cap, cur, rfl, _, _, hnc, _⟩ <;>
    simp [Builtin.append_, run_underlying ht, sizeOf, typeInfo, hi, Builtin.lenOf, Builtin.firstCells, loadCells, loadCellsFrom, storeCells, *]
/-- From whatever source: elements of one cell. -/
theorem run_append_src (t ty e : TypeId) (i : TypeInfo) (z : Value) (bytes : Nat) (ht : P.underlying t = some (.slice e)) (hi : P.info? e = some i) (hz : i.zero = some z)
    (hsize : i.size = 1) (hby : i.bytes = bytes) (hzs : z.cells.size = 1)
    (v : Value) (n : Nat) (xs : List Value) (hown : w.ownsRow 0 e 1 v n xs)
    (sa : Option Addr) (c : Nat) (news : List Value) (hnews : CellsAt w sa news) (h1 : ∀ u ∈ news, u.oneCell' = true)
    (h63 : n + news.length ≤ maxLen) (hbytes : (n + news.length) * bytes ≤ 140737488355328) :
    ∃ v' w', (Builtin.append_ #[t, t] ty #[v, .slice sa news.length c]).run P w = .ok v' w' ∧ w'.ownsRow 0 e 1 v' (n + news.length) (xs ++ news) ∧ w.grownBy w' v.ownBlock ∧ (∀ g, v'.ownBlock = some g → v.ownBlock = some g ∨ w.heap.size ≤ g) := by
  by_cases hp : 0 < news.length
  · obtain ⟨g, off, rfl, hc⟩ := hnews hp
    obtain ⟨v', w', r, r1, r2, r3, r4⟩ := run_append_fp (P := P) w t ty e i z 1 bytes ht hi hz hsize hby hzs (by decide) v n xs hown ⟨g, off, none⟩ news.length c news (by simp)
      (fun j u hu => by obtain ⟨hj, rfl⟩ := List.getElem?_eq_some_iff.1 hu; rw [Addr.add_lit]; exact hc j hj) h1 h63 hbytes
    exact ⟨v', w', r, r1, r2, r4⟩
  · obtain rfl : news = [] := List.eq_nil_of_length_eq_zero (by omega)
    exact ⟨v, w, run_append_src0 (P := P) w t ty e i 1 ht hi v n xs hown sa c, by simpa using hown, ⟨rfl, rfl, rfl, Nat.le_refl _, fun _ _ _ => rfl⟩, fun g h => .inl h⟩
end

section
variable {F : Fence} {nn : Nat} {P : Program}
theorem wpList_append_src (w : World) {ops : Array Oper} {rest : List Oper} {o : Oper} {a : Act} {Q : Exit → Act → World → Prop}
    (hg : o.guard = none) (s x : Operand) (t : TypeId) (hop : o.op = Op.call { callee := Callee.builtin Builtin.append, args := #[s, x], argTypes := #[t, t] })
    (e : TypeId) (i : TypeInfo) (z : Value) (bytes : Nat) (h1 : P.underlying t = some (.slice e)) (h2 : P.info? e = some i) (h3 : i.zero = some z) (h4 : i.size = 1) (h5 : i.bytes = bytes) (h6 : z.cells.size = 1)
    (v : Value) (k : Nat) (xs : List Value) (hs : a.eval s = v) (hown : w.ownsRow 0 e 1 v k xs) (sa : Option Addr) (m c : Nat) (news : List Value) (hx : a.eval x = .slice sa m c) (hn : news.length = m)
    (hc : CellsAt w sa news) (h1c : ∀ u ∈ news, u.oneCell' = true) (b1 : k + m ≤ maxLen) (b2 : (k + m) * bytes ≤ 140737488355328)
    (hK : ∀ v' w', w'.ownsRow 0 e 1 v' (k + m) (xs ++ news) → w.grownBy w' v.ownBlock → (∀ g, v'.ownBlock = some g → v.ownBlock = some g ∨ w.heap.size ≤ g) → wpList P ops Q rest (a.put o.dst v') w') :
    wpList P ops Q (o :: rest) a w := by
  subst hn
  refine wpList_plain hg fun K hK' => ?_
  obtain ⟨v', w', hr, r1, r2, r4⟩ := run_append_src (P := P) w t o.type e i z bytes h1 h2 h3 h4 h5 h6 v k xs hown sa c news hc h1c b1 b2
  unfold Oper.wp execOp
  simp only [hop, resolve, invoke, builtin, Sem.run_bind, Sem.run_pure, Result.andThen_ok, List.map_toArray, List.map_cons, List.map_nil, hs, hx, hr]
  exact hK' _ _ (hK v' w' r1 r2 r4)
theorem wpListIn_append_src (w : World) {ops : Array Oper} {rest : List Oper} {o : Oper} {a : Act} {Q : Exit → Act → World → Prop}
    (hg : o.guard = none) (s x : Operand) (t : TypeId) (hop : o.op = Op.call { callee := Callee.builtin Builtin.append, args := #[s, x], argTypes := #[t, t] })
    (e : TypeId) (i : TypeInfo) (z : Value) (bytes : Nat) (h1 : P.underlying t = some (.slice e)) (h2 : P.info? e = some i) (h3 : i.zero = some z) (h4 : i.size = 1) (h5 : i.bytes = bytes) (h6 : z.cells.size = 1)
    (v : Value) (k : Nat) (xs : List Value) (hs : a.eval s = v) (hown : w.ownsRow 0 e 1 v k xs) (sa : Option Addr) (m c : Nat) (news : List Value) (hx : a.eval x = .slice sa m c) (hn : news.length = m)
    (hc : CellsAt w sa news) (h1c : ∀ u ∈ news, u.oneCell' = true) (b1 : k + m ≤ maxLen) (b2 : (k + m) * bytes ≤ 140737488355328)
    (hK : ∀ v' w', w'.ownsRow 0 e 1 v' (k + m) (xs ++ news) → w.grownBy w' v.ownBlock → (∀ g, v'.ownBlock = some g → v.ownBlock = some g ∨ w.heap.size ≤ g) → wpListIn F nn P ops Q rest (a.put o.dst v') w') :
    wpListIn F nn P ops Q (o :: rest) a w := by
  subst hn
  refine wpListIn_plain hg fun K hK' => ?_
  obtain ⟨v', w', hrun, r1, r2, r4⟩ := run_append_src (P := P) w t o.type e i z bytes h1 h2 h3 h4 h5 h6 v k xs hown sa c news hc h1c b1 b2
  unfold Oper.wpIn
  refine ⟨?_, ?_⟩
  · simp [Oper.about, hop, resolve, Target.leads, Sem.run_pure]
  · rw [Oper.semAt_plain F _ _ (by rw [hop]; intro c hc'; cases hc')]
    simp [execOp, hop, resolve, invoke, builtin, hs, hx, hrun, Result.andThen]
    exact hK' _ _ (hK v' w' r1 r2 r4)
/-- THE ARM, in a fence. -/
theorem wpListIn_append_fp (w : World) {ops : Array Oper} {rest : List Oper} {o : Oper} {a : Act} {Q : Exit → Act → World → Prop}
    (hg : o.guard = none) (s x : Operand) (t : TypeId) (hop : o.op = Op.call { callee := Callee.builtin Builtin.append, args := #[s, x], argTypes := #[t, t] })
    (e : TypeId) (i : TypeInfo) (z : Value) (size bytes : Nat) (h1 : P.underlying t = some (.slice e)) (h2 : P.info? e = some i) (h3 : i.zero = some z) (h4 : i.size = size) (h5 : i.bytes = bytes) (h6 : z.cells.size = size) (h7 : 0 < size)
    (v : Value) (k : Nat) (xs : List Value) (hs : a.eval s = v) (hown : w.ownsRow 0 e size v k xs) (ad : Addr) (m c : Nat) (news : List Value) (hx : a.eval x = .slice (some ad) m c) (hn : news.length = m * size)
    (hc : ∀ j u, news[j]? = some u → w.cell? (ad.add j) = some u) (h1c : ∀ u ∈ news, u.oneCell' = true) (b1 : k + m ≤ maxLen) (b2 : (k + m) * bytes ≤ 140737488355328)
    (hK : ∀ v' w', w'.ownsRow 0 e size v' (k + m) (xs ++ news) → w.grownBy w' v.ownBlock → (v' = .slice none 0 0 ↔ v = .slice none 0 0 ∧ m = 0) → (∀ g, v'.ownBlock = some g → v.ownBlock = some g ∨ w.heap.size ≤ g) →
      wpListIn F nn P ops Q rest (a.put o.dst v') w') :
    wpListIn F nn P ops Q (o :: rest) a w := by
  refine wpListIn_plain hg fun K hK' => ?_
  obtain ⟨v', w', hrun, r1, r2, r3, r4⟩ := run_append_fp (P := P) w t o.type e i z size bytes h1 h2 h3 h4 h5 h6 h7 v k xs hown ad m c news hn hc h1c b1 b2
  unfold Oper.wpIn
  refine ⟨?_, ?_⟩
  · simp [Oper.about, hop, resolve, Target.leads, Sem.run_pure]
  · rw [Oper.semAt_plain F _ _ (by rw [hop]; intro c hc'; cases hc')]
    simp [execOp, hop, resolve, invoke, builtin, hs, hx, hrun, Result.andThen]
    exact hK' _ _ (hK v' w' r1 r2 r3 r4)
/-- THE ARM, outside. -/
theorem wpList_append_fp (w : World) {ops : Array Oper} {rest : List Oper} {o : Oper} {a : Act} {Q : Exit → Act → World → Prop}
    (hg : o.guard = none) (s x : Operand) (t : TypeId) (hop : o.op = Op.call { callee := Callee.builtin Builtin.append, args := #[s, x], argTypes := #[t, t] })
    (e : TypeId) (i : TypeInfo) (z : Value) (size bytes : Nat) (h1 : P.underlying t = some (.slice e)) (h2 : P.info? e = some i) (h3 : i.zero = some z) (h4 : i.size = size) (h5 : i.bytes = bytes) (h6 : z.cells.size = size) (h7 : 0 < size)
    (v : Value) (k : Nat) (xs : List Value) (hs : a.eval s = v) (hown : w.ownsRow 0 e size v k xs) (ad : Addr) (m c : Nat) (news : List Value) (hx : a.eval x = .slice (some ad) m c) (hn : news.length = m * size)
    (hc : ∀ j u, news[j]? = some u → w.cell? (ad.add j) = some u) (h1c : ∀ u ∈ news, u.oneCell' = true) (b1 : k + m ≤ maxLen) (b2 : (k + m) * bytes ≤ 140737488355328)
    (hK : ∀ v' w', w'.ownsRow 0 e size v' (k + m) (xs ++ news) → w.grownBy w' v.ownBlock → (v' = .slice none 0 0 ↔ v = .slice none 0 0 ∧ m = 0) → (∀ g, v'.ownBlock = some g → v.ownBlock = some g ∨ w.heap.size ≤ g) →
      wpList P ops Q rest (a.put o.dst v') w') :
    wpList P ops Q (o :: rest) a w := by
  refine wpList_plain hg fun K hK' => ?_
  obtain ⟨v', w', hr, r1, r2, r3, r4⟩ := run_append_fp (P := P) w t o.type e i z size bytes h1 h2 h3 h4 h5 h6 h7 v k xs hown ad m c news hn hc h1c b1 b2
  unfold Oper.wp execOp
  simp only [hop, resolve, invoke, builtin, Sem.run_bind, Sem.run_pure, Result.andThen_ok, List.map_toArray, List.map_cons, List.map_nil, hs, hx, hr]
  exact hK' _ _ (hK v' w' r1 r2 r3 r4)
end

/-- A slice of the call's own, base left open. -/
theorem ownsRow_framed {w w' : World} {S : Nat → Prop} {b e size n : Nat} {v : Value} {xs : List Value} (h : w.ownsRow b e size v n xs) (hM : Mods S w w') (hS : ∀ g, v.ownBlock = some g → ¬ S g) : w'.ownsRow b e size v n xs := by
  refine ⟨h.1, ?_⟩
  rcases h.2 with hn | ⟨g, cap, cur, rfl, hbg, hgg, rest⟩
  · exact .inl hn
  · exact .inr ⟨g, cap, cur, rfl, hbg, hM.at hgg (hS g rfl), rest⟩
theorem ownsRow_base {w : World} {b b' e size n : Nat} {v : Value} {xs : List Value} (h : w.ownsRow b e size v n xs) (hb : ∀ g, v.ownBlock = some g → b' ≤ g) : w.ownsRow b' e size v n xs := by
  refine ⟨h.1, ?_⟩
  rcases h.2 with hn | ⟨g, cap, cur, rfl, hbg, hgg, rest⟩
  · exact .inl hn
  · exact .inr ⟨g, cap, cur, rfl, hb g rfl, hgg, rest⟩
theorem ownsRow_lt {w : World} {b e size n : Nat} {v : Value} {xs : List Value} (h : w.ownsRow b e size v n xs) : ∀ g, v.ownBlock = some g → g < w.heap.size := fun g hg => (h.lt g hg).2
theorem Mods.of_grown {w w' : World} {row : Option Nat} (h : w.grownBy w' row) : Mods (fun k => row = some k) w w' :=
  ⟨h.os, h.tape, h.output, h.size, fun k hk hS => h.block k hk (fun e => hS e.symm)⟩

/-! ### copy, on elements of one cell -/
theorem Mods.setRow {S : Nat → Prop} {a w : World} {g : Nat} (h : Mods S a w) (hg : S g ∨ a.heap.size ≤ g) (cs : Array Value) : Mods S a (w.setRow g cs) :=
  ⟨h.os, h.tape, h.output, by simpa [World.setRow] using h.size, fun k hk hs => (setRow_other w g k cs (fun e => by subst e; rcases hg with h' | h' <;> first | exact absurd h' hs | omega)).trans (h.block k hk hs)⟩
theorem wpList_copy_fp {P : Program} {w : World} {ops : Array Oper} {rest : List Oper} {o : Oper} {a : Act} {Q : Exit → Act → World → Prop} (hgd : o.guard = none) (d s : Operand) (dT sT : TypeId)
    (ho : o.op = .call { callee := .builtin .copy, args := #[d, s], argTypes := #[dT, sT] }) (elem : TypeId) (hu : P.underlying dT = some (.slice elem)) (hsz : (P.info? elem).map (·.size) = some 1)
    (dp sp : Option Addr) (dLen dCap sLen sCap : Nat) (hd : a.eval d = .slice dp dLen dCap) (hs : a.eval s = .slice sp sLen sCap)
    (g off : Nat) (cur : List Value) (t : TypeId) (hg : w.heap[g]? = some (.cells cur.toArray t (0, 0))) (cs : List Value) (hn : cs.length = Nat.min sLen dLen)
    (hpos : 0 < cs.length → dp = some ⟨g, off, none⟩ ∧ ∃ ad, sp = some ad ∧ ∀ j v, cs[j]? = some v → w.cell? (ad.add j) = some v)
    (hfit : off + cs.length ≤ cur.length) (h1 : ∀ v ∈ cs, v.oneCell' = true)
    (h : ∀ w', w'.heap[g]? = some (.cells (splice cur off cs).toArray t (0, 0)) → Mods (fun k => k = g) w w' → w'.heap.size = w.heap.size → wpList P ops Q rest (a.put o.dst (goInt cs.length)) w') :
    wpList P ops Q (o :: rest) a w := by
  by_cases h0 : cs.length = 0
  · obtain rfl : cs = [] := List.eq_nil_of_length_eq_zero h0
    refine wpList_copy_nothing hgd d s dT sT ho elem hu hsz dp sp dLen dCap sLen sCap hd hs (by simpa using hn.symm) ?_
    exact h w (show _ = _ by simpa [splice] using hg) (Mods.refl _ _) rfl
  · obtain ⟨rfl, ad, rfl, hsrc⟩ := hpos (by omega)
    refine wpList_copy_own hgd d s dT sT ho elem hu hsz g off dLen dCap ad sLen sCap hd hs cur.toArray t hg cs hn hsrc (by simpa using hfit) h1 ?_
    exact h _ (show _ = _ by simpa [splice] using setRow_heap w g _ _ t _ hg) (Mods.setRow (S := fun k => k = g) (Mods.refl _ _) (.inl rfl) _) (by simp [World.setRow])

end Go.Proofs.YtdhobpbngkainaaGreatDoor
/-
  Ours. A heap described block by block: lists of (block, what its object is like), no block twice; what a step turns of it. No condition; plain lemmas.
-/
namespace Go.Proofs.YtdhobpbngkainaaGreatDoor
open Go.RowKit

theorem enc8_one (l : List UInt8) : ∀ v ∈ l.map enc8, v.oneCell' = true := fun v hv => by
  obtain ⟨x, _, rfl⟩ := List.mem_map.1 hv; rfl

abbrev HF := List (Nat × (Obj → Prop))
def dom (F : HF) : List Nat := F.map (·.1)
@[simp] theorem dom_nil : dom [] = [] := rfl
@[simp] theorem dom_cons (p : Nat × (Obj → Prop)) (F : HF) : dom (p :: F) = p.1 :: dom F := rfl
@[simp] theorem dom_append (F G : HF) : dom (F ++ G) = dom F ++ dom G := by simp [dom]

/-- This very object. -/
def Is (x o : Obj) : Prop := o = x
theorem Is.rfl {x : Obj} : Is x x := by unfold Is; exact Eq.refl x
/-- The heap has these blocks, and they are like this. -/
structure Sat (w : World) (F : HF) : Prop where
  nodup : (dom F).Nodup
  sat : ∀ p ∈ F, ∃ o, w.heap[p.1]? = some o ∧ p.2 o

/-- A step that turns nothing but the blocks of F, behind which F' is there. -/
structure Turns (F F' : HF) (w w' : World) : Prop where
  mods : Mods (fun b => b ∈ dom F) w w'
  sat : Sat w' F'
  fresh : ∀ b ∈ dom F', b ∈ dom F ∨ w.heap.size ≤ b

theorem dom_perm {F G : HF} (h : F.Perm G) : (dom F).Perm (dom G) := h.map _
theorem Sat.lt {w : World} {F : HF} (h : Sat w F) {b : Nat} (hb : b ∈ dom F) : b < w.heap.size := by
  obtain ⟨p, hp, rfl⟩ := List.mem_map.1 hb
  obtain ⟨o, ho, _⟩ := h.sat p hp
  exact lt_of_heap ho
theorem Sat.perm {w : World} {F G : HF} (h : Sat w F) (hp : F.Perm G) : Sat w G :=
  ⟨(dom_perm hp).nodup_iff.1 h.nodup, fun p hq => h.sat p (hp.mem_iff.2 hq)⟩
theorem Sat.left {w : World} {F G : HF} (h : Sat w (F ++ G)) : Sat w F :=
  ⟨by have := h.nodup; rw [dom_append] at this; exact (List.nodup_append.1 this).1, fun p hp => h.sat p (List.mem_append_left _ hp)⟩
theorem Sat.right {w : World} {F G : HF} (h : Sat w (F ++ G)) : Sat w G :=
  ⟨by have := h.nodup; rw [dom_append] at this; exact (List.nodup_append.1 this).2.1, fun p hp => h.sat p (List.mem_append_right _ hp)⟩
theorem Sat.disj {w : World} {F G : HF} (h : Sat w (F ++ G)) {b : Nat} (hb : b ∈ dom F) : b ∉ dom G := by
  have := h.nodup; rw [dom_append] at this
  intro hg
  exact (List.nodup_append.1 this).2.2 b hb b hg rfl
theorem Sat.join {w : World} {F G : HF} (h : Sat w F) (k : Sat w G) (hd : ∀ b ∈ dom F, b ∉ dom G) : Sat w (F ++ G) :=
  ⟨by rw [dom_append]; exact List.nodup_append.2 ⟨h.nodup, k.nodup, fun a ha b hb e => hd a ha (e ▸ hb)⟩,
   fun p hp => by rcases List.mem_append.1 hp with h' | h'; exact h.sat p h'; exact k.sat p h'⟩
theorem Sat.nil (w : World) : Sat w [] := ⟨List.nodup_nil, fun p hp => by simp at hp⟩
theorem Sat.one {w : World} {b : Nat} {φ : Obj → Prop} {o : Obj} (h : w.heap[b]? = some o) (ho : φ o) : Sat w [(b, φ)] :=
  ⟨by simp [dom], fun p hp => by simp at hp; subst hp; exact ⟨o, h, ho⟩⟩
theorem Sat.frame {S : Nat → Prop} {w w' : World} {F : HF} (h : Sat w F) (hm : Mods S w w') (hS : ∀ b ∈ dom F, ¬ S b) : Sat w' F :=
  ⟨h.nodup, fun p hp => by
    obtain ⟨o, ho, hφ⟩ := h.sat p hp
    exact ⟨o, hm.at ho (hS p.1 (List.mem_map.2 ⟨p, hp, rfl⟩)), hφ⟩⟩
theorem Sat.same {w w' : World} {F : HF} (h : Sat w F) (hm : Same w w') : Sat w' F := h.frame hm (fun _ _ => id)
theorem Sat.weak {w : World} {b : Nat} {φ ψ : Obj → Prop} {F : HF} (h : Sat w ((b, φ) :: F)) (hw : ∀ o, φ o → ψ o) : Sat w ((b, ψ) :: F) :=
  ⟨h.nodup, fun p hp => by
    rcases List.mem_cons.1 hp with rfl | hp
    · obtain ⟨o, ho, hφ⟩ := h.sat (b, φ) (by simp)
      exact ⟨o, ho, hw o hφ⟩
    · exact h.sat p (List.mem_cons_of_mem _ hp)⟩
theorem Sat.head {w : World} {b : Nat} {φ : Obj → Prop} {F : HF} (h : Sat w ((b, φ) :: F)) : ∃ o, w.heap[b]? = some o ∧ φ o := h.sat (b, φ) (by simp)
theorem Sat.tail {w : World} {p : Nat × (Obj → Prop)} {F : HF} (h : Sat w (p :: F)) : Sat w F := Sat.right (F := [p]) h
theorem Sat.notMem {w : World} {b : Nat} {φ : Obj → Prop} {F : HF} (h : Sat w ((b, φ) :: F)) : b ∉ dom F := (List.nodup_cons.1 h.nodup).1
/-- The head's block is another object now, all the rest is as it was. -/
theorem Sat.put {w w' : World} {b : Nat} {φ ψ : Obj → Prop} {F : HF} {o : Obj} (h : Sat w ((b, φ) :: F)) (hm : Mods (fun k => k = b) w w') (ho : w'.heap[b]? = some o) (hψ : ψ o) : Sat w' ((b, ψ) :: F) :=
  Sat.join (F := [(b, ψ)]) (Sat.one ho hψ) (h.tail.frame hm (fun k hk e => h.notMem (e ▸ hk))) (fun k hk => by simp at hk; subst hk; exact h.notMem)

theorem Turns.refl {w : World} {F : HF} (h : Sat w F) : Turns F F w w := ⟨Mods.refl _ _, h, fun _ hb => .inl hb⟩
theorem Turns.trans {a b c : World} {F G H : HF} (h : Turns F G a b) (k : Turns G H b c) : Turns F H a c :=
  ⟨h.mods.trans' k.mods h.fresh, k.sat, fun q hq => by
    rcases k.fresh q hq with h' | h'
    · exact h.fresh q h'
    · exact .inr (Nat.le_trans h.mods.size h')⟩
theorem Turns.frame {w w' : World} {F F' : HF} (h : Turns F F' w w') {R : HF} (hs : Sat w (F ++ R)) : Turns (F ++ R) (F' ++ R) w w' :=
  ⟨h.mods.mono (fun b hb => .inl (by simp [hb])), h.sat.join (hs.right.frame h.mods (fun b hb hf => hs.disj hf hb)) (fun b hb hr => by
      rcases h.fresh b hb with h' | h'
      · exact hs.disj h' hr
      · have := hs.right.lt hr; omega),
   fun b hb => by
    rw [dom_append] at hb ⊢
    rcases List.mem_append.1 hb with h' | h'
    · rcases h.fresh b h' with h'' | h''
      · exact .inl (List.mem_append_left _ h'')
      · exact .inr h''
    · exact .inl (List.mem_append_right _ h')⟩
theorem Turns.perm {w w' : World} {F F' G G' : HF} (h : Turns F F' w w') (hp : F.Perm G) (hp' : F'.Perm G') : Turns G G' w w' :=
  ⟨h.mods.mono (fun b hb => .inl ((dom_perm hp).mem_iff.1 hb)), h.sat.perm hp', fun b hb => by
    rcases h.fresh b ((dom_perm hp').mem_iff.2 hb) with h' | h'
    · exact .inl ((dom_perm hp).mem_iff.1 h')
    · exact .inr h'⟩
/-- What is needed no more. -/
theorem Turns.left {w w' : World} {F G H : HF} (h : Turns F (G ++ H) w w') : Turns F G w w' := ⟨h.mods, h.sat.left, fun b hb => h.fresh b (by simp [hb])⟩
theorem Turns.right {w w' : World} {F G H : HF} (h : Turns F (G ++ H) w w') : Turns F H w w' := ⟨h.mods, h.sat.right, fun b hb => h.fresh b (by simp [hb])⟩
theorem Turns.same {w w' : World} {F : HF} (hs : Sat w F) (h : Same w w') : Turns F F w w' := ⟨h.mods _, hs.same h, fun _ hb => .inl hb⟩
/-- A step that is nothing but new memory, ahead or behind. -/
theorem Turns.thenSame {a b c : World} {F G : HF} (h : Turns F G a b) (k : Same b c) : Turns F G a c := h.trans (Turns.same h.sat k)
theorem Turns.sameThen {a b c : World} {F G : HF} (hs : Sat a F) (h : Same a b) (k : Turns F G b c) : Turns F G a c := (Turns.same hs h).trans k
theorem Turns.drewN {a b : World} {F G : HF} (h : Turns F G a b) (n : Nat) : Turns F G a (b.drewN n) := h.thenSame ((Mods.refl _ b).drewN n)
theorem Turns.drew {a b : World} {F G : HF} (h : Turns F G a b) : Turns F G a b.drew := h.thenSame (Mods.refl _ b).drew
theorem Turns.alloc {a b : World} {F G : HF} (h : Turns F G a b) (o : Obj) : Turns F G a (b.alloc o) := h.thenSame ((Mods.refl _ b).alloc o)
/-- A new block joins. -/
theorem Turns.allocIn {a b : World} {F G : HF} (h : Turns F G a b) {o : Obj} {φ : Obj → Prop} (ho : φ o) : Turns F ((b.heap.size, φ) :: G) a (b.alloc o) :=
  ⟨h.mods.alloc o, Sat.join (F := [(b.heap.size, φ)]) (Sat.one (alloc_new b o) ho) (h.sat.same ((Mods.refl _ b).alloc o)) (fun k hk hg => by
      simp at hk; subst hk; have := h.sat.lt hg; omega),
   fun k hk => by
    rcases List.mem_cons.1 hk with rfl | h'
    · exact .inr h.mods.size
    · exact h.fresh k h'⟩
/-- The head's block is turned. -/
theorem Turns.put {a w w' : World} {F G : HF} {b : Nat} {φ ψ : Obj → Prop} {o : Obj} (h : Turns F ((b, φ) :: G) a w) (hm : Mods (fun k => k = b) w w') (ho : w'.heap[b]? = some o) (hψ : ψ o) : Turns F ((b, ψ) :: G) a w' :=
  h.trans ⟨hm.mono (fun k hk => .inl (by simp [hk])), h.sat.put hm ho hψ, fun k hk => .inl (by simpa using hk)⟩

theorem Turns.putIs {a w w' : World} {F G : HF} {b : Nat} {φ : Obj → Prop} {o : Obj} (h : Turns F ((b, φ) :: G) a w) (hm : Mods (fun k => k = b) w w') (ho : w'.heap[b]? = some o) : Turns F ((b, Is o) :: G) a w' := h.put hm ho Is.rfl
theorem Turns.allocIs {a b : World} {F G : HF} (h : Turns F G a b) (o : Obj) : Turns F ((b.heap.size, Is o) :: G) a (b.alloc o) := h.allocIn Is.rfl
theorem Sat.headIs {w : World} {b : Nat} {o : Obj} {F : HF} (h : Sat w ((b, Is o) :: F)) : w.heap[b]? = some o := by
  obtain ⟨o', ho, hi⟩ := h.head; unfold Is at hi; subst hi; exact ho

/-! ### a slice of one's own -/
def rowF (e size : Nat) (v : Value) (n : Nat) (xs : List Value) : HF :=
  match v.ownBlock with
  | none => []
  | some g => [(g, fun o => ∃ cap cur, v = .slice (some ⟨g, 0, none⟩) n cap ∧ o = .cells cur e (0, 0) ∧ n ≤ cap ∧ cap ≤ maxLen ∧ cur.size = cap * size ∧ cur.toList.take (n * size) = xs)]
def RowOk (size : Nat) (v : Value) (n : Nat) (xs : List Value) : Prop := xs.length = n * size ∧ (v.ownBlock = none → v = .slice none 0 0 ∧ n = 0)

theorem owns_of_row {w : World} {e size n : Nat} {v : Value} {xs : List Value} (h : Sat w (rowF e size v n xs)) (k : RowOk size v n xs) : w.ownsRow 0 e size v n xs := by
  refine ⟨k.1, ?_⟩
  unfold rowF at h
  cases hv : v.ownBlock with
  | none => exact .inl (k.2 hv)
  | some g =>
    rw [hv] at h
    obtain ⟨o, ho, cap, cur, hvv, rfl, h1, h2, h3, h4⟩ := h.head
    exact .inr ⟨g, cap, cur, hvv, Nat.zero_le _, ho, h1, h2, h3, h4⟩
theorem row_of_owns {w : World} {b e size n : Nat} {v : Value} {xs : List Value} (h : w.ownsRow b e size v n xs) : Sat w (rowF e size v n xs) ∧ RowOk size v n xs := by
  rcases h.2 with ⟨rfl, rfl⟩ | ⟨g, cap, cur, rfl, hb, hg, h1, h2, h3, h4⟩
  · exact ⟨by simpa [rowF, Value.ownBlock] using Sat.nil w, h.1, fun _ => ⟨rfl, rfl⟩⟩
  · refine ⟨?_, h.1, fun hn => by simp [Value.ownBlock] at hn⟩
    simp only [rowF, Value.ownBlock]
    exact Sat.one hg ⟨cap, cur, rfl, rfl, h1, h2, h3, h4⟩
theorem dom_row (e size n : Nat) (v : Value) (xs : List Value) (b : Nat) : b ∈ dom (rowF e size v n xs) ↔ v.ownBlock = some b := by
  unfold rowF
  cases v.ownBlock with
  | none => simp
  | some g => simp [dom, eq_comm]
/-- Behind an append: the new row in the old one's place. -/
theorem Turns.grow {a w w' : World} {F G : HF} {e size n m : Nat} {v v' : Value} {xs ys : List Value} (h : Turns F (rowF e size v n xs ++ G) a w) (hown : w'.ownsRow 0 e size v' m ys) (hgrow : w.grownBy w' v.ownBlock)
    (hg : ∀ g, v'.ownBlock = some g → v.ownBlock = some g ∨ w.heap.size ≤ g) : Turns F (rowF e size v' m ys ++ G) a w' := by
  have ht : Turns (rowF e size v n xs) (rowF e size v' m ys) w w' :=
    ⟨(Mods.of_grown hgrow).mono (fun b hb => .inl ((dom_row _ _ _ _ _ _).2 hb)), (row_of_owns hown).1, fun b hb => by
      rcases hg b ((dom_row _ _ _ _ _ _).1 hb) with h' | h'
      · exact .inl ((dom_row _ _ _ _ _ _).2 h')
      · exact .inr h'⟩
  exact h.trans (ht.frame h.sat)

end Go.Proofs.YtdhobpbngkainaaGreatDoor
