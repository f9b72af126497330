/-
  Ours. api.Tell answers the number of an error: nil, an Errno, a *SectorError.
-/
import Derived.Test.YtdhobpbngkainaaDoorTell
namespace Go.Proofs.YtdhobpbngkainaaDoor
open Go.RowKit

/-- The error value v tells the number n. -/
def ErrIs (w : World) (v : Value) (n : Int) : Prop :=
  (v = .nilIface ∧ n = 0) ∨ v = .iface 30 (.int .i64 n) ∨ ∃ p, v = .iface 100 (.pointer (some ⟨p, 0, none⟩)) ∧ w.cell? ⟨p, 1, none⟩ = some (.int .i64 n)
theorem ErrIs.keep {S : Nat → Prop} {w w' : World} {v : Value} {n : Int} (h : ErrIs w v n) (hm : Mods S w w') (hS : ∀ p, v = .iface 100 (.pointer (some ⟨p, 0, none⟩)) → ¬ S p) : ErrIs w' v n := by
  rcases h with h | h | ⟨p, h, hc⟩
  · exact .inl h
  · exact .inr (.inl h)
  · exact .inr (.inr ⟨p, h, (World.cell?_of_block (w := w) (hm.block p (World.block_lt_of_cell? w _ hc) (hS p h))).trans hc⟩)

theorem errLaid_cell {w : World} (h : ErrLaid w) : w.cell? ⟨0, 0, none⟩ = some (.iface 141 (.agg #[.pointer (some ⟨1, 25, none⟩)])) := h
theorem ErrLaid.keep {S : Nat → Prop} {w w' : World} (h : ErrLaid w) (hm : Mods S w w') (hS : ¬ S 0) : ErrLaid w' := (World.cell?_of_block (w := w) (hm.block 0 (World.block_lt_of_cell? w _ h) hS)).trans h

def TellPost (n : Int) (w : World) (e : Ending) (w' : World) : Prop := e = .returned (.int .i64 n) ∧ Same w w'

set_option maxHeartbeats 2000000 in
set_option maxRecDepth 100000 in
theorem Tell_calls (v : Value) (n : Int) (w : World) (hL : ErrLaid w) (hv : ErrIs w v n) : Calls Tryd.prog 6 #[v] w (TellPost n w) := by
  rcases hv with ⟨rfl, rfl⟩ | rfl | ⟨p, rfl, hp⟩
  · go_enter Tryd.func6, Tryd.ntmps6
    go_wp2
    go_ret
    exact ⟨rfl, (Mods.refl _ w).alloc _⟩
  · have h0 : 0 < w.heap.size := World.block_lt_of_cell? w _ hL
    have hg : (w.alloc (.cells #[.int .i64 0] 30)).cell? ⟨0, 0, none⟩ = _ := (World.cell?_alloc_lt _ _ ⟨0, 0, none⟩ h0).trans (errLaid_cell hL)
    have hc := as_hitE n ⟨w.heap.size, 0, none⟩ (.int .i64 0) _ hg (by simp) (free_at (alloc_new w _) 0)
    have HC := Lib.hid hc
    clear hc hg hL
    go_enter Tryd.func6, Tryd.ntmps6
    go_wp2_with fail
    refine HC.out.mono ?_
    rintro e w' ⟨rfl, hw⟩
    have hcell : w'.cell? ⟨w.heap.size, 0, none⟩ = some (.int .i64 n) := by
      rw [hw]
      exact cell_at (set_same (b := w.heap.size) (c := #[.int .i64 0]) (t := 30) (fz := (0, 0)) (by rw [alloc_old (by simp; omega), alloc_old (by simp; omega), alloc_old (by simp; omega), alloc_old (by simp)]; exact alloc_new w _) 0 (.int .i64 n)) 0 rfl
    have hs : Same w w' := by
      rw [hw]
      exact Mods.setNew (Nat.le_refl _) (((((((Mods.refl _ w).alloc _).alloc _).alloc _).alloc _).alloc _)) _
    have HS := Lib.hid hs
    clear hw hs
    go_wp2
    go_ret
    exact ⟨rfl, HS.out⟩
  · have h0 : 0 < w.heap.size := World.block_lt_of_cell? w _ hL
    have hg : (w.alloc (.cells #[.int .i64 0] 30)).cell? ⟨0, 0, none⟩ = _ := (World.cell?_alloc_lt _ _ ⟨0, 0, none⟩ h0).trans (errLaid_cell hL)
    have hp' : (w.alloc (.cells #[.int .i64 0] 30)).cell? ⟨p, 1, none⟩ = some (.int .i64 n) := (World.cell?_alloc_lt _ _ ⟨p, 1, none⟩ (World.block_lt_of_cell? w _ hp)).trans hp
    have hc := as_hitS p n ⟨w.heap.size, 0, none⟩ (.int .i64 0) _ hg hp' (by simp) (free_at (alloc_new w _) 0)
    have HC := Lib.hid hc
    clear hc hg hL hp hp'
    go_enter Tryd.func6, Tryd.ntmps6
    go_wp2_with fail
    refine HC.out.mono ?_
    rintro e w' ⟨rfl, hw⟩
    have hcell : w'.cell? ⟨w.heap.size, 0, none⟩ = some (.int .i64 n) := by
      rw [hw]
      exact cell_at (set_same (b := w.heap.size) (c := #[.int .i64 0]) (t := 30) (fz := (0, 0)) (by rw [alloc_old (by simp; omega), alloc_old (by simp; omega), alloc_old (by simp; omega), alloc_old (by simp)]; exact alloc_new w _) 0 (.int .i64 n)) 0 rfl
    have hs : Same w w' := by
      rw [hw]
      exact Mods.setNew (Nat.le_refl _) (((((((Mods.refl _ w).alloc _).alloc _).alloc _).alloc _).alloc _)) _
    have HS := Lib.hid hs
    clear hw hs
    go_wp2
    go_ret
    exact ⟨rfl, HS.out⟩
end Go.Proofs.YtdhobpbngkainaaDoor
