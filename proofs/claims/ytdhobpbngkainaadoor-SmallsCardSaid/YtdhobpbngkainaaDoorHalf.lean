/-
  Ours. half, newContent.
-/
import Derived.Test.YtdhobpbngkainaaDoorAreaCut
import Derived.Test.YtdhobpbngkainaaDoorUse
namespace Go.Proofs.YtdhobpbngkainaaDoor
open Go.RowKit

def halfN (n : Nat) : Nat := (n - 2) / 2
set_option maxHeartbeats 1000000 in
set_option maxRecDepth 100000 in
theorem half_calls (d : Nat) (L : DevL) (ep : Nat) (w : World) (h : Sat w (devF d L)) (hn : 2 ≤ L.n) (hn2 : L.n ≤ 1073741824) (hep : ep < 4294967296) :
    Calls Tryd.prog 11 #[.pointer (some ⟨d, 0, none⟩), .int .u32 ep] w (NewAreaPost d (2 + ep % 2 * halfN L.n) (halfN L.n) w) := by
  have HS := Lib.hid (Sectors_calls d L w h)
  obtain ⟨m, hm⟩ : ∃ m, m = halfN L.n := ⟨_, rfl⟩
  have e1 : ((L.n : Int) - 2) / 2 = (m : Int) := by rw [hm]; unfold halfN; omega
  have hml : m ≤ 1073741824 := by rw [hm]; unfold halfN; omega
  obtain ⟨b, hb⟩ : ∃ b, b = ep % 2 := ⟨_, rfl⟩
  have e2 : ((ep : Int)) % 2 = (b : Int) := by omega
  have hb2 : b = 0 ∨ b = 1 := by omega
  have e3 : wrap64 (2 + wrap64 ((b : Int) * (m : Int))) = ((2 + b * m : Nat) : Int) := by
    have hbm : (b : Int) * (m : Int) = ((b * m : Nat) : Int) := by simp
    have hle : b * m ≤ 1 * m := Nat.mul_le_mul_right _ (by omega)
    have i1 : wrap64 ((b * m : Nat) : Int) = ((b * m : Nat) : Int) := IntWalk.wrap64_in _ ⟨by omega, by omega⟩
    rw [hbm, i1, IntWalk.wrap64_in _ ⟨by omega, by omega⟩]
    omega
  rw [← hm, ← hb]
  have HM := Lib.hid (And.intro hm hb)
  clear h hm hb
  go_enter Tryd.func11, Tryd.ntmps11
  go_wp2_with fail
  refine HS.out.mono ?_
  rintro e w1 ⟨rfl, rfl⟩
  have E3 := Lib.hid e3
  clear e3
  go_wp2_with fail
  rw [E3.out]
  refine (NewArea_calls d (2 + b * m) m w).mono ?_
  rintro e w1 ⟨ab, ch, rfl, hT⟩
  have HT := Lib.hid hT
  clear hT
  go_wp2_with fail
  go_ret
  exact ⟨ab, ch, rfl, HT.out⟩

/-! ### newContent -/
def contCells (pm tm cm : Nat) (sc sb used : Int) : Array Value := #[.map (some pm), .map (some tm), .map (some cm), .int .i64 sc, .int .i64 sb, .int .i64 used]
def NewContentPost (w : World) (e : Ending) (w' : World) : Prop :=
  ∃ pm tm cm : Nat, e = .returned (.agg (contCells pm tm cm 0 0 0)) ∧ Turns [] [(cm, Is (.map #[] 0)), (tm, Is (.map #[] 0)), (pm, Is (.map #[] 0))] w w'
set_option maxHeartbeats 1000000 in
set_option maxRecDepth 100000 in
theorem newContent_calls (w : World) : Calls Tryd.prog 10 #[] w (NewContentPost w) := by
  have hmm := @run_makeMap Tryd.prog
  go_enter Tryd.func10, Tryd.ntmps10
  go_wp2_with fail
  have h := ((((Turns.refl (Sat.nil w)).alloc (.cells (contCells (w.heap.size + 1) (w.heap.size + 1 + 1) (w.heap.size + 1 + 1 + 1) 0 0 0) 46)).allocIs (.map #[] 0)).allocIs (.map #[] 0)).allocIs (.map #[] 0)
  simp only [World.size_alloc] at h
  have hc : ((((w.alloc (.cells (contCells (w.heap.size + 1) (w.heap.size + 1 + 1) (w.heap.size + 1 + 1 + 1) 0 0 0) 46)).alloc (.map #[] 0)).alloc (.map #[] 0)).alloc (.map #[] 0)).heap[w.heap.size]? = some (.cells (contCells (w.heap.size + 1) (w.heap.size + 1 + 1) (w.heap.size + 1 + 1 + 1) 0 0 0) 46 (0, 0)) := by
    rw [alloc_old (by simp; omega), alloc_old (by simp; omega), alloc_old (by simp)]; exact alloc_new w _
  exact bodyPost_ret (results_cell_row rfl _ _ w.heap.size 46 _ (0, 0) _ rfl hc Tryd.underlying46 rfl (by kernel_rfl)) rfl ⟨_, _, _, rfl, h⟩

end Go.Proofs.YtdhobpbngkainaaDoor
