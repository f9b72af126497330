/-
  Ours. Worlds that differ in a known set of blocks ('Mods'), rows of cells read as whole blocks. No condition; plain lemmas.
-/
import Derived.WalkKit
import Derived.RangeFuncRecord
import Derived.WalkSpells
import Derived.Lib.Hide
import Derived.WalkLawsBesides
namespace Go.Proofs.YtdhobpbngkainaaDoor
open Go.RowKit

/-- Of the blocks that were there only those of S may have turned. -/
structure Mods (S : Nat → Prop) (w w' : World) : Prop where
  os : w'.os = w.os
  tape : w'.tape = w.tape
  output : w'.output = w.output
  size : w.heap.size ≤ w'.heap.size
  block : ∀ k, k < w.heap.size → ¬ S k → w'.heap[k]? = w.heap[k]?

/-- No block that was there has turned. -/
abbrev Same (w w' : World) : Prop := Mods (fun _ => False) w w'

theorem Mods.refl (S : Nat → Prop) (w : World) : Mods S w w := ⟨rfl, rfl, rfl, Nat.le_refl _, fun _ _ _ => rfl⟩
theorem Mods.trans {S : Nat → Prop} {a b c : World} (h : Mods S a b) (k : Mods S b c) : Mods S a c :=
  ⟨k.os.trans h.os, k.tape.trans h.tape, k.output.trans h.output, Nat.le_trans h.size k.size,
    fun i hi hs => (k.block i (Nat.lt_of_lt_of_le hi h.size) hs).trans (h.block i hi hs)⟩
/-- The second step may turn what the first one has made, too. -/
theorem Mods.trans' {S T : Nat → Prop} {a b c : World} (h : Mods S a b) (k : Mods T b c) (hT : ∀ i, T i → S i ∨ a.heap.size ≤ i) : Mods S a c :=
  ⟨k.os.trans h.os, k.tape.trans h.tape, k.output.trans h.output, Nat.le_trans h.size k.size,
    fun i hi hs => (k.block i (Nat.lt_of_lt_of_le hi h.size) (fun ht => by rcases hT i ht with h' | h' <;> first | exact absurd h' hs | omega)).trans (h.block i hi hs)⟩
theorem Mods.mono {S T : Nat → Prop} {a b : World} (h : Mods S a b) (hT : ∀ i, S i → T i ∨ a.heap.size ≤ i) : Mods T a b :=
  ⟨h.os, h.tape, h.output, h.size, fun i hi hs => h.block i hi (fun ht => by rcases hT i ht with h' | h' <;> first | exact absurd h' hs | omega)⟩
theorem Mods.drew {S : Nat → Prop} {a w : World} (h : Mods S a w) : Mods S a w.drew := ⟨h.os, h.tape, h.output, h.size, h.block⟩
theorem Mods.drewN {S : Nat → Prop} {a w : World} (h : Mods S a w) (n : Nat) : Mods S a (w.drewN n) := ⟨h.os, h.tape, h.output, h.size, h.block⟩
theorem Mods.alloc {S : Nat → Prop} {a w : World} (h : Mods S a w) (o : Obj) : Mods S a (w.alloc o) :=
  ⟨h.os, h.tape, h.output, Nat.le_trans h.size (by simp), fun k hk hs => (Below.heap_alloc w o k (Nat.lt_of_lt_of_le hk h.size)).trans (h.block k hk hs)⟩
theorem Mods.setCell {S : Nat → Prop} {a w : World} (h : Mods S a w) {p : Addr} (hp : S p.block ∨ a.heap.size ≤ p.block) (u : Value) : Mods S a (w.setCell p u) :=
  ⟨h.os, h.tape, h.output, by simpa [World.setCell] using h.size,
    fun k hk hs => (Below.heap_setCell w p u k (fun e => by subst e; rcases hp with h' | h' <;> first | exact absurd h' hs | omega)).trans (h.block k hk hs)⟩
theorem Mods.set1 {b i : Nat} {a w : World} (h : Mods (fun x => x = b) a w) (v : Value) : Mods (fun x => x = b) a (w.setCell ⟨b, i, none⟩ v) := h.setCell (p := ⟨b, i, none⟩) (.inl rfl) v
theorem Mods.setIn {S : Nat → Prop} {b i : Nat} {a w : World} (hb : S b) (h : Mods S a w) (v : Value) : Mods S a (w.setCell ⟨b, i, none⟩ v) := h.setCell (p := ⟨b, i, none⟩) (.inl hb) v
theorem Mods.setNew {S : Nat → Prop} {b i : Nat} {a w : World} (hb : a.heap.size ≤ b) (h : Mods S a w) (v : Value) : Mods S a (w.setCell ⟨b, i, none⟩ v) := h.setCell (p := ⟨b, i, none⟩) (.inr hb) v
theorem Mods.putObj {S : Nat → Prop} {a w : World} (h : Mods S a w) {r : Nat} (hr : S r ∨ a.heap.size ≤ r) (o : Obj) : Mods S a (w.putObj r o) :=
  ⟨h.os, h.tape, h.output, by simpa using h.size,
    fun k hk hs => (World.putObj_heap_other (fun e => by subst e; rcases hr with h' | h' <;> first | exact absurd h' hs | omega)).trans (h.block k hk hs)⟩
theorem Mods.grown {S : Nat → Prop} {a w w' : World} {row : Option Nat} (h : Mods S a w) (hg : w.grownBy w' row) (hr : ∀ k, row = some k → S k ∨ a.heap.size ≤ k) : Mods S a w' :=
  ⟨hg.os.trans h.os, hg.tape.trans h.tape, hg.output.trans h.output, Nat.le_trans h.size hg.size,
    fun k hk hs => (hg.block k (Nat.lt_of_lt_of_le hk h.size) (fun e => by rcases hr k e.symm with h' | h' <;> first | exact absurd h' hs | omega)).trans (h.block k hk hs)⟩
theorem Mods.below {B : Nat} {w w' : World} (h : Mods (fun k => B ≤ k) w w') (hB : B ≤ w.heap.size) : Below B w w' :=
  ⟨h.os, h.tape, h.output, h.size, fun k hk => h.block k (by omega) (by omega)⟩
theorem Same.below {w w' : World} (h : Same w w') : Below w.heap.size w w' := ⟨h.os, h.tape, h.output, h.size, fun k hk => h.block k hk id⟩
theorem Same.of_below {w w' : World} (h : Below w.heap.size w w') : Same w w' := ⟨h.os, h.tape, h.output, h.size, fun k hk _ => h.block k hk⟩
theorem Same.mods {w w' : World} (h : Same w w') (S : Nat → Prop) : Mods S w w' := h.mono (fun _ hf => hf.elim)
theorem Mods.at {S : Nat → Prop} {w w' : World} (h : Mods S w w') {b : Nat} {o : Obj} (hb : w.heap[b]? = some o) (hS : ¬ S b) : w'.heap[b]? = some o :=
  (h.block b (Array.getElem?_eq_some_iff.1 hb).1 hS).trans hb

theorem lt_of_heap {w : World} {b : Nat} {o : Obj} (h : w.heap[b]? = some o) : b < w.heap.size := (Array.getElem?_eq_some_iff.1 h).1

/-! ### A block of cells, whole -/
theorem cell_at {w : World} {b : Nat} {c : Array Value} {t : TypeId} {fz : Nat × Nat} (h : w.heap[b]? = some (.cells c t fz)) (i : Nat) {v : Value} (hv : c[i]? = some v) :
    w.cell? ⟨b, i, none⟩ = some v := by simp [World.cell?, h, hv]
theorem free_at {w : World} {b : Nat} {c : Array Value} {t : TypeId} (h : w.heap[b]? = some (.cells c t (0, 0))) (i : Nat) : w.frozen? ⟨b, i, none⟩ = false := by simp [World.frozen?, h]
theorem set_same {w : World} {b : Nat} {c : Array Value} {t : TypeId} {fz : Nat × Nat} (h : w.heap[b]? = some (.cells c t fz)) (i : Nat) (v : Value) :
    (w.setCell ⟨b, i, none⟩ v).heap[b]? = some (.cells (c.setIfInBounds i v) t fz) := by
  simp only [World.setCell, Array.getElem?_modify, if_true, h, Option.map_some]
  rfl
theorem set_other {w : World} {b i : Nat} {v : Value} {k : Nat} (hk : k ≠ b) : (w.setCell ⟨b, i, none⟩ v).heap[k]? = w.heap[k]? := Below.heap_setCell w ⟨b, i, none⟩ v k hk
theorem alloc_old {w : World} {o : Obj} {k : Nat} (h : k < w.heap.size) : (w.alloc o).heap[k]? = w.heap[k]? := Below.heap_alloc w o k h
theorem alloc_new (w : World) (o : Obj) : (w.alloc o).heap[w.heap.size]? = some o := World.alloc_heap_new w o

/-! ### A slice that reads as a list -/
/-- Behind the address a stand, cell by cell, the values xs. -/
def CellsAt (w : World) (a : Option Addr) (xs : List Value) : Prop := 0 < xs.length → ∃ g off, a = some ⟨g, off, none⟩ ∧ ∀ j (h : j < xs.length), w.cell? ⟨g, off + j, none⟩ = some (xs[j]'h)
theorem CellsAt.keep {S : Nat → Prop} {w w' : World} {a : Option Addr} {xs : List Value} (h : CellsAt w a xs) (hm : Mods S w w') (hS : ∀ g off, a = some ⟨g, off, none⟩ → ¬ S g) : CellsAt w' a xs := fun hp => by
  obtain ⟨g, off, ha, hc⟩ := h hp
  refine ⟨g, off, ha, fun j hj => ?_⟩
  have hlt := World.block_lt_of_cell? w _ (hc j hj)
  exact (World.cell?_of_block (w := w) (hm.block g hlt (hS g off ha))).trans (hc j hj)
theorem CellsAt.of_heap {w W : World} (e : W.heap = w.heap) {a : Option Addr} {xs : List Value} (h : CellsAt w a xs) : CellsAt W a xs := fun hp => by
  obtain ⟨g, off, ha, hc⟩ := h hp
  exact ⟨g, off, ha, fun j hj => by rw [← hc j hj]; simp [World.cell?, e]⟩
def enc8 (x : UInt8) : Value := .int .u8 (x.toNat : Nat)
def encI (x : Int) : Value := .int .i64 x
/-- The world has but drawn. -/
def Drew (w w' : World) : Prop := ∃ n, w' = w.drewN n
theorem Drew.refl (w : World) : Drew w w := ⟨0, rfl⟩
theorem Drew.same {w w' : World} : Drew w w' → Same w w' | ⟨n, h⟩ => h ▸ (Mods.refl _ w).drewN n
theorem Drew.trans {a b c : World} : Drew a b → Drew b c → Drew a c | ⟨n, h⟩, ⟨m, k⟩ => ⟨n + m, by subst h; subst k; simp [World.drewN, Nat.add_assoc]⟩
theorem Drew.drew {a b : World} : Drew a b → Drew a b.drew | ⟨n, h⟩ => ⟨n + 1, by subst h; rfl⟩
theorem Drew.drewN {a b : World} (h : Drew a b) (m : Nat) : Drew a (b.drewN m) := h.trans ⟨m, rfl⟩
theorem Drew.heap {a b : World} : Drew a b → b.heap = a.heap | ⟨_, h⟩ => by subst h; rfl

/-- An endings' equation from the numbers'. -/
theorem ret_int {k : IntKind} {a b : Int} (h : a = b) : Ending.returned (.int k a) = .returned (.int k b) := by rw [h]
theorem ret_bool {a b : Bool} (h : a = b) : Ending.returned (.bool a) = .returned (.bool b) := by rw [h]

end Go.Proofs.YtdhobpbngkainaaDoor
