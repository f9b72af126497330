/-
  Ours. uses, where no first sector has a record.
-/
import Derived.Test.YtdhobpbngkainaaDoorAreaCut
import Derived.Test.YtdhobpbngkainaaDoorUse
import Derived.Test.YtdhobpbngkainaaDoorOpenRec
import Derived.Deep.QuietTactic
import Derived.BigQuiet
namespace Go.Proofs.YtdhobpbngkainaaDoor
open Go.RowKit

/-! ### uses, where no first sector has a record -/
theorem openR_zeros : openR (zeros 128) = none := by
  unfold openR; rw [if_neg (by rw [zeros_length]; omega), if_pos (by simp [zeros])]
def UsesNone (z : Bool) (w : World) (e : Ending) (w' : World) : Prop := e = .returned (.tuple #[.slice none 0 0, .bool z, .nilIface]) ∧ Same w w'
/-- Are the first k sectors all zeros? -/
def zerosTo (l : Bs) (k : Nat) : Bool := decide (∀ j, j < k → secOf l j = zeros 128)
theorem zerosTo_zero (l : Bs) : zerosTo l 0 = true := by simp [zerosTo]
theorem zerosTo_yes {l : Bs} {k : Nat} (h : secOf l k = zeros 128) : zerosTo l (k + 1) = zerosTo l k := by
  unfold zerosTo
  refine decide_eq_decide.2 ⟨fun H j hj => H j (by omega), fun H j hj => ?_⟩
  rcases Nat.lt_or_ge j k with h' | h'
  · exact H j h'
  · obtain rfl : j = k := by omega
    exact h
theorem zerosTo_no {l : Bs} {k : Nat} (h : secOf l k ≠ zeros 128) : zerosTo l (k + 1) = false := by
  unfold zerosTo
  exact decide_eq_false (fun H => h (H k (by omega)))
set_option maxHeartbeats 4000000 in
set_option maxRecDepth 100000 in
theorem uses_none (d : Nat) (L : DevL) (w : World) (h : Sat w (devF d L)) (hL : DevOk L) (hn : 16 ≤ L.n) (h01 : ∀ k, k < 2 → openR (secOf L.now k) = none) :
    Calls Tryd.prog 8 #[.pointer (some ⟨d, 0, none⟩)] w (UsesNone (zerosTo L.now 2) w) := by
  have HZ := Lib.hid zeroBuilt
  have HC : Hid (∀ (k : Nat) (W : World), k < 2 → Same w W → Calls Tryd.prog 16 #[.pointer (some ⟨d, 0, none⟩), .int .i64 k] W (ReadPost L k W)) := Lib.hid (fun k W hk hW => Read_calls d L k W (h.same hW) hL (by omega))
  have HL : Hid (∀ k, k < 2 → (secOf L.now k).length = 128) := Lib.hid (fun k hk => secOf_length hL.nowL (by omega))
  have HO := Lib.hid h01
  clear h hL h01
  go_enter Tryd.func8, Tryd.ntmps8
  go_wp2_with fail
  go_loopw [2, 3, 16] (fun l em i wr => ∃ k : Nat, k ≤ 2 ∧ i = .int .i64 k ∧ l = .slice none 0 0 ∧ em = .bool (zerosTo L.now k) ∧ Same w wr) (fun _ _ i _ => 2 - (intOf i).toNat)
  case atStart => exact ⟨0, by omega, rfl, rfl, by rw [zerosTo_zero], Mods.refl _ _⟩
  case round =>
    obtain ⟨k, hk, rfl, rfl, rfl, hs⟩ := hrel
    by_cases hlt : k < 2
    · have HR := Lib.hid (HC.out k wr hlt hs)
      have HS := Lib.hid hs
      have HO' := Lib.hid (HO.out k hlt)
      have HL' := Lib.hid (HL.out k hlt)
      have HZ0 := Lib.hid (zerosTo_yes (l := L.now) (k := k))
      have HZ1 := Lib.hid (zerosTo_no (l := L.now) (k := k))
      unfold ReadPost at HR
      obtain ⟨s, hse⟩ : ∃ s, s = secOf L.now k := ⟨_, rfl⟩
      obtain ⟨z, hz⟩ : ∃ z, z = zerosTo L.now k := ⟨_, rfl⟩
      obtain ⟨z1, hz1⟩ : ∃ z, z = zerosTo L.now (k + 1) := ⟨_, rfl⟩
      rw [← hse] at HR HO' HL' HZ0 HZ1
      rw [← hz, ← hz1] at HZ0
      rw [← hz1] at HZ1
      rw [← hz]
      have H1 := Lib.hid hz1
      clear hs HC HO HL hse hz hz1
      go_wp2_with fail
      refine HR.out.mono ?_
      rintro e w2 ⟨rfl, hs2⟩
      have hb := alloc_new w2 (.cells (row8 (zeros 128)) 64)
      obtain ⟨q1, q2⟩ := setCells_sec hb (s := s) (by rw [HL'.out, zeros_length])
      have hs3 : Same w ((w2.alloc (.cells (row8 (zeros 128)) 64)).setCells w2.heap.size 0 (s.map enc8)) := (((HS.out.trans' hs2 (fun _ h => h.elim)).alloc _).trans' q2 (fun i hi => .inr (by have := (HS.out.trans' hs2 (fun _ h => h.elim)).size; omega)))
      have hth : (w2.alloc (.cells (row8 (zeros 128)) 64)).there w2.heap.size 0 (row8 s).size := by rw [row8_size, HL'.out]; exact there_row hb 0 128 (by rw [zeros_length]; omega)
      have hrg : ((w2.alloc (.cells (row8 (zeros 128)) 64)).setCells w2.heap.size 0 (s.map enc8)).rangeAt w2.heap.size 0 (s.map enc8) := by
        have := rangeAt_row q1 0 128
        rwa [List.drop_zero, List.take_of_length_le (by rw [HL'.out]; omega)] at this
      have HN := Lib.hid (fun W => neq_sec s (zeros 128) HL'.out (zeros_length _) W)
      obtain ⟨W4, hW4⟩ : ∃ W, (w2.alloc (.cells (row8 (zeros 128)) 64)).setCells w2.heap.size 0 (s.map enc8) = W := ⟨_, rfl⟩
      rw [hW4] at q1 hs3 hrg
      have H3 := Lib.hid (And.intro q1 (And.intro hs3 hrg))
      have HT := Lib.hid hth
      have HW := Lib.hid hW4
      clear q1 q2 hb hs3 hs2 hth hrg hW4
      have hz := zeroSec
      go_wp2_with (first | (refine wpList_store_mid rfl 64 (.tmp 6) (.tmp 23) rfl w2.heap.size 0 (row8 s) rfl rfl HT.out (secHr HL'.out) (row8_one _) ?_; change wpList _ _ _ _ _ (World.setCells (w2.alloc (.cells (row8 (zeros 128)) 64)) w2.heap.size 0 (s.map enc8)); rw [HW.out]) | (refine wpList_load_mid rfl 64 (.tmp 6) rfl w2.heap.size 0 rfl (s.map enc8) _ H3.out.2.2 Tryd.underlying64 rfl (secHi HL'.out) ?_) | (refine wpList_build_is rfl 64 #[] rfl (row8 (zeros 128)) HZ.out ?_) | (refine wpList_cmp rfl .neq 64 (.tmp 28) (.tmp 29) _ rfl guardSec _ _ (.bool (!decide (s = zeros 128))) (HN.out _) rfl rfl ?_))
      all_goals
        have hb := H3.out.1
        have hop : Calls Tryd.prog 17 #[.slice (some ⟨w2.heap.size, 0, none⟩) 128 128] W4 (OpenPost (some ⟨w2.heap.size, 0, none⟩) s W4) := by
          have := recOpen_calls (some ⟨w2.heap.size, 0, none⟩) 128 s W4 (fun hp => ⟨w2.heap.size, 0, rfl, fun j hj => by rw [Nat.zero_add]; exact cell_at hb j (by rw [row8_get s j (by simpa using hj)]; simp)⟩) (by rw [HL'.out]; omega) (by rw [HL'.out]; omega)
          rwa [HL'.out] at this
        unfold OpenPost at hop
        rw [HO'.out] at hop
        have HP := Lib.hid hop
        clear hb hop
        first
        | (have hne : s ≠ zeros 128 := by
             have : (!decide (s = zeros 128)) = true := by assumption
             simpa using this
           have HE := Lib.hid (HZ1.out hne))
        | (have hne : s = zeros 128 := by
             have : (!decide (s = zeros 128)) = false := by assumption
             simpa using this
           have HE := Lib.hid (HZ0.out hne))
        clear hne
        refine HP.out.mono ?_
        rintro e w5 ⟨rfl, hs5⟩
        have H5 := Lib.hid (H3.out.2.1.trans hs5)
        clear hs5
        go_wp2_with fail
        go_roundw
        case rel => exact ⟨k + 1, by omega, by go_num, rfl, by rw [← H1.out, HE.out], H5.out⟩
        case measure => simp [intOf]; omega
    · obtain rfl : k = 2 := by omega
      have HS := Lib.hid hs
      clear hs HC HO HL
      go_wp2_with fail
      go_quiet (fail)
      go_wp2_with fail
      go_ret3
      exact ⟨rfl, HS.out.drewN _⟩
end Go.Proofs.YtdhobpbngkainaaDoor
