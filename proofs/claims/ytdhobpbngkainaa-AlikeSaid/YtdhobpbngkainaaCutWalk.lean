/-
  Ours. The cutter's two functions: what NewCutter makes, what Ends answers and leaves.
-/
import Derived.Test.YtdhobpbngkainaaProg
import Derived.Test.YtdhobpbngkainaaCutPlain
import Derived.RegionTactic
import Derived.BigQuiet
import Derived.Deep.QuietTactic
namespace Go.Proofs.Ytdhobpbngkainaa
open Go.RowKit

def IsCutter (w : World) (b : Nat) (h : Int) (n : Nat) : Prop := w.heap[b]? = some (.cells (cutC h n) 41 (0, 0))

def zcut : Array Value := gearsTo 0
theorem zeroCut (w : World) : (zeroValue 41).run Try.prog w = .ok (.agg zcut) w := by kernel_rfl

def NewCutterPost (w : World) (e : Ending) (w' : World) : Prop :=
  e = .returned (.pointer (some ⟨w.heap.size, 0, none⟩)) ∧ IsCutter w' w.heap.size 0 0 ∧ Same w w'

set_option maxHeartbeats 1000000 in
set_option maxRecDepth 100000 in
theorem NewCutter_calls (w : World) : Calls Try.prog 17 #[] w (NewCutterPost w) := by
  have hz := zeroCut
  go_enter Try.func17, Try.ntmps17
  go_wp2
  clear hz
  go_loopw [6] (fun i wr => ∃ k : Nat, k ≤ 256 ∧ i = .int .i64 k ∧ wr.heap[w.heap.size]? = some (.cells (gearsTo k) 41 (0,0)) ∧ Same w wr)
    (fun i _ => 256 - (intOf i).toNat)
  case atStart => exact ⟨0, by omega, rfl, alloc_new w _, (Mods.refl _ _).alloc _⟩
  case round =>
    obtain ⟨k, hk, rfl, hcs, hs⟩ := hrel
    by_cases hlt : k < 256
    · have hc := cell_at hcs k (gearsTo_get k hlt)
      have hf := free_at hcs k
      have HC := Lib.hid hcs
      clear hcs
      go_wp2
      go_roundw
      case rel =>
        refine ⟨k + 1, by omega, by go_num, ?_, hs.setCell (.inr (Nat.le_refl _)) _⟩
        rw [set_same HC.out]
        exact congrArg some (congrArg (fun c => Obj.cells c _ _) (gearsTo_set k hlt))
      case measure => simp [intOf]; omega
    · obtain rfl : k = 256 := by omega
      have HC := Lib.hid hcs
      clear hcs
      go_wp2
      go_ret
      exact ⟨rfl, by unfold IsCutter; rw [HC.out, gearsTo_full], hs⟩

def EndsPost (w : World) (b : Nat) (h : Int) (n : Nat) (e : Ending) (w' : World) : Prop :=
  e = .returned (.bool (endsB h n)) ∧ IsCutter w' b (if endsB h n then 0 else h) (if endsB h n then 0 else n) ∧ Mods (· = b) w w' ∧ w'.heap.size = w.heap.size

theorem isCutter_h {w : World} {b : Nat} {h : Int} {n : Nat} (hC : IsCutter w b h n) (h' m : Int) (hm : m = h') : IsCutter (w.setCell ⟨b, 256, none⟩ (.int .u32 m)) b h' n :=
  (set_same hC 256 _).trans (by rw [hm, cutC_set_h])
theorem isCutter_n {w : World} {b : Nat} {h : Int} {n : Nat} (hC : IsCutter w b h n) (n' : Nat) (m : Int) (hm : m = n') : IsCutter (w.setCell ⟨b, 257, none⟩ (.int .i64 m)) b h n' :=
  (set_same hC 257 _).trans (by rw [cutC_set_n h n n' _ (by rw [hm])])
theorem isCutter_drew {w : World} {b : Nat} {h : Int} {n : Nat} (hC : IsCutter w b h n) : IsCutter w.drew b h n := hC
theorem endsPost_yes {w w' : World} {b : Nat} {h : Int} {n : Nat} (e : endsB h n = true) (hC : IsCutter w' b 0 0) (hM : Mods (· = b) w w') (hz : w'.heap.size = w.heap.size) :
    EndsPost w b h n (.returned (.bool true)) w' := by
  refine ⟨by rw [e], ?_, hM, hz⟩; rw [e]; exact hC
theorem endsPost_no {w w' : World} {b : Nat} {h : Int} {n : Nat} (e : endsB h n = false) (hC : IsCutter w' b h n) (hM : Mods (· = b) w w') (hz : w'.heap.size = w.heap.size) :
    EndsPost w b h n (.returned (.bool false)) w' := by
  refine ⟨by rw [e], ?_, hM, hz⟩; rw [e]; exact hC
theorem hash_form (h c : Int) : (h * 2 % 4294967296 + gearI c) % 4294967296 = hashI h c := by unfold hashI; omega

set_option maxHeartbeats 1000000 in
set_option maxRecDepth 100000 in
theorem Ends_calls (w : World) (b : Nat) (h : Int) (n c : Nat) (hc : c < 256) (hn : n < 256) (hC : IsCutter w b h n) :
    Calls Try.prog 18 #[.pointer (some ⟨b, 0, none⟩), .int .u8 c] w (EndsPost w b (hashI h c) (n + 1)) := by
  have h1 := cell_at hC c (cutC_g h n c hc)
  have h2 := cell_at hC 256 (cutC_h h n)
  have h3 := cell_at hC 257 (cutC_n h n)
  have f2 := free_at hC 256
  have f3 := free_at hC 257
  have HC := Lib.hid hC
  clear hC
  have b0 := bits_and0
  go_enter Try.func18, Try.ntmps18
  go_wp2
  go_region
  all_goals go_wp2
  all_goals go_ret
  · refine endsPost_yes (ends_256 (by omega)) ?_ ?_ ?_
    · exact isCutter_drew (isCutter_n (isCutter_h (isCutter_n (isCutter_h HC.out (hashI h c) _ rfl) (n + 1) _ rfl) 0 0 rfl) 0 0 rfl)
    · repeat (first | exact Mods.refl _ _ | refine Mods.drew ?_ | refine Mods.set1 ?_ _)
    · simp [World.drew]
  · refine endsPost_no (ends_64 (v := true) (by omega) (by omega) (by assumption)) ?_ ?_ ?_
    · exact isCutter_drew (isCutter_n (isCutter_h HC.out (hashI h c) _ rfl) (n + 1) _ rfl)
    · repeat (first | exact Mods.refl _ _ | refine Mods.drew ?_ | refine Mods.set1 ?_ _)
    · simp [World.drew]
  · refine endsPost_yes (ends_64 (v := false) (by omega) (by omega) (by assumption)) ?_ ?_ ?_
    · exact isCutter_drew (isCutter_n (isCutter_h (isCutter_n (isCutter_h HC.out (hashI h c) _ rfl) (n + 1) _ rfl) 0 0 rfl) 0 0 rfl)
    · repeat (first | exact Mods.refl _ _ | refine Mods.drew ?_ | refine Mods.set1 ?_ _)
    · simp [World.drew]
  · refine endsPost_no (ends_16 (v := true) (by omega) (by omega) (by assumption)) ?_ ?_ ?_
    · exact isCutter_drew (isCutter_n (isCutter_h HC.out (hashI h c) _ rfl) (n + 1) _ rfl)
    · repeat (first | exact Mods.refl _ _ | refine Mods.drew ?_ | refine Mods.set1 ?_ _)
    · simp [World.drew]
  · refine endsPost_yes (ends_16 (v := false) (by omega) (by omega) (by assumption)) ?_ ?_ ?_
    · exact isCutter_drew (isCutter_n (isCutter_h (isCutter_n (isCutter_h HC.out (hashI h c) _ rfl) (n + 1) _ rfl) 0 0 rfl) 0 0 rfl)
    · repeat (first | exact Mods.refl _ _ | refine Mods.drew ?_ | refine Mods.set1 ?_ _)
    · simp [World.drew]
  · refine endsPost_no (ends_0 (by omega)) ?_ ?_ ?_
    · exact isCutter_drew (isCutter_n (isCutter_h HC.out (hashI h c) _ rfl) (n + 1) _ rfl)
    · repeat (first | exact Mods.refl _ _ | refine Mods.drew ?_ | refine Mods.set1 ?_ _)
    · simp [World.drew]

end Go.Proofs.Ytdhobpbngkainaa
