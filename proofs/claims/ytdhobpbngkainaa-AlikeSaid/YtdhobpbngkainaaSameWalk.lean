/-
  Ours. The laws' own 'same' and 'sameNumbers': they tell whether two lists are the same.
-/
import Derived.Test.YtdhobpbngkainaaProg
import Derived.Test.YtdhobpbngkainaaBase
import Derived.RegionTactic
namespace Go.Proofs.Ytdhobpbngkainaa
open Go.RowKit

def SamePost (b : Bool) (w : World) (e : Ending) (w' : World) : Prop := e = .returned (.bool b) ∧ Drew w w'

section
variable {α : Type} (enc : α → Value)
theorem take_succ_eq {xs ys : List α} {k : Nat} (h : xs.take k = ys.take k) (hx : k < xs.length) (hy : k < ys.length) (he : xs[k] = ys[k]) : xs.take (k + 1) = ys.take (k + 1) := by
  rw [List.take_succ_eq_append_getElem hx, List.take_succ_eq_append_getElem hy, h, he]
theorem cellsAt_map {w : World} {a : Option Addr} {xs : List α} (h : CellsAt w a (xs.map enc)) (hp : 0 < xs.length) : ∃ g off, a = some ⟨g, off, none⟩ ∧ ∀ j (h : j < xs.length), w.cell? ⟨g, off + j, none⟩ = some (enc (xs[j]'h)) := by
  obtain ⟨g, off, ha, hc⟩ := h (by simpa using hp)
  exact ⟨g, off, ha, fun j hj => by rw [hc j (by simpa using hj)]; simp⟩
end

set_option maxHeartbeats 1000000 in
set_option maxRecDepth 100000 in
theorem sameNumbers_calls (a1 a2 : Option Addr) (c1 c2 : Nat) (xs ys : List Int) (w : World) (h1 : CellsAt w a1 (xs.map encI)) (h2 : CellsAt w a2 (ys.map encI)) (hx : xs.length ≤ 1099511627776) (hy : ys.length ≤ 1099511627776) :
    Calls Try.prog 12 #[.slice a1 xs.length c1, .slice a2 ys.length c2] w (SamePost (decide (xs = ys)) w) := by
  by_cases hl : xs.length = ys.length
  · have hb : ((xs.length : Int) != (ys.length : Int)) = false := by simp; omega
    have HL := Lib.hid hl
    clear hl
    go_enter Try.func12, Try.ntmps12
    go_wp2
    go_loopw [5] (fun i wr => ∃ k : Nat, k ≤ xs.length ∧ i = .int .i64 k ∧ xs.take k = ys.take k ∧ Drew w wr) (fun i _ => xs.length - (intOf i).toNat)
    case atStart => exact ⟨0, Nat.zero_le _, rfl, rfl, Drew.refl _⟩
    case round =>
      obtain ⟨k, hk, rfl, ht, n, rfl⟩ := hrel
      have HT := Lib.hid ht
      clear ht
      by_cases hlt : k < xs.length
      · have hlt2 : k < ys.length := by have := HL.out; omega
        obtain ⟨g1, o1, rfl, hc1⟩ := cellsAt_map encI h1 (by omega)
        obtain ⟨g2, o2, rfl, hc2⟩ := cellsAt_map encI h2 (by omega)
        have k1 := hc1 k hlt
        have k2 := hc2 k hlt2
        unfold encI at k1 k2
        clear hc1 hc2 h1 h2
        obtain ⟨x, hxk⟩ : ∃ x, x = xs[k] := ⟨_, rfl⟩
        obtain ⟨y, hyk⟩ : ∃ y, y = ys[k] := ⟨_, rfl⟩
        rw [← hxk] at k1
        rw [← hyk] at k2
        have HX := Lib.hid (And.intro hxk hyk)
        clear hxk hyk
        by_cases he : x = y
        · have hq : (x != y) = false := by simp [he]
          have HE := Lib.hid he
          clear he
          go_wp2
          go_region
          go_wp2
          go_roundw
          case rel => exact ⟨k + 1, by omega, by go_num, take_succ_eq HT.out hlt hlt2 (by rw [← HX.out.1, ← HX.out.2, HE.out]), (Drew.drewN (Drew.refl w) n).drew⟩
          case measure => simp [intOf]; omega
        · have hq : (x != y) = true := by simp [he]
          have hne : decide (xs = ys) = false := by
            apply decide_eq_false
            rintro rfl
            exact he (HX.out.1.trans HX.out.2.symm)
          have HN := Lib.hid hne
          clear he hne
          go_wp2
          go_region
          go_wp2
          go_ret
          exact ⟨ret_bool HN.out.symm, (Drew.drewN (Drew.refl w) n).drew⟩
      · have hkx : k = xs.length := by omega
        have heq : decide (xs = ys) = true := by
          apply decide_eq_true
          have := HT.out
          rw [hkx, List.take_length, List.take_of_length_le (by have := HL.out; omega)] at this
          exact this
        have HN := Lib.hid heq
        clear heq hkx
        go_wp2
        go_ret
        exact ⟨ret_bool HN.out.symm, Drew.drewN (Drew.refl w) n⟩
  · have hb : ((xs.length : Int) != (ys.length : Int)) = true := by simp; omega
    have hne : decide (xs = ys) = false := by apply decide_eq_false; rintro rfl; exact hl rfl
    have HN := Lib.hid hne
    clear hne
    go_enter Try.func12, Try.ntmps12
    go_wp2
    go_ret
    exact ⟨ret_bool HN.out.symm, Drew.refl w⟩

set_option maxHeartbeats 1000000 in
set_option maxRecDepth 100000 in
theorem same_calls (a1 a2 : Option Addr) (c1 c2 : Nat) (xs ys : List UInt8) (w : World) (h1 : CellsAt w a1 (xs.map enc8)) (h2 : CellsAt w a2 (ys.map enc8)) (hx : xs.length ≤ 1099511627776) (hy : ys.length ≤ 1099511627776) :
    Calls Try.prog 14 #[.slice a1 xs.length c1, .slice a2 ys.length c2] w (SamePost (decide (xs = ys)) w) := by
  by_cases hl : xs.length = ys.length
  · have hb : ((xs.length : Int) != (ys.length : Int)) = false := by simp; omega
    have HL := Lib.hid hl
    clear hl
    go_enter Try.func14, Try.ntmps14
    go_wp2
    go_loopw [5] (fun i wr => ∃ k : Nat, k ≤ xs.length ∧ i = .int .i64 k ∧ xs.take k = ys.take k ∧ Drew w wr) (fun i _ => xs.length - (intOf i).toNat)
    case atStart => exact ⟨0, Nat.zero_le _, rfl, rfl, Drew.refl _⟩
    case round =>
      obtain ⟨k, hk, rfl, ht, n, rfl⟩ := hrel
      have HT := Lib.hid ht
      clear ht
      by_cases hlt : k < xs.length
      · have hlt2 : k < ys.length := by have := HL.out; omega
        obtain ⟨g1, o1, rfl, hc1⟩ := cellsAt_map enc8 h1 (by omega)
        obtain ⟨g2, o2, rfl, hc2⟩ := cellsAt_map enc8 h2 (by omega)
        have k1 := hc1 k hlt
        have k2 := hc2 k hlt2
        unfold enc8 at k1 k2
        clear hc1 hc2 h1 h2
        obtain ⟨x, hxk⟩ : ∃ x, x = xs[k] := ⟨_, rfl⟩
        obtain ⟨y, hyk⟩ : ∃ y, y = ys[k] := ⟨_, rfl⟩
        rw [← hxk] at k1
        rw [← hyk] at k2
        have HX := Lib.hid (And.intro hxk hyk)
        clear hxk hyk
        by_cases he : x = y
        · have hq : (((x.toNat : Nat) : Int) != ((y.toNat : Nat) : Int)) = false := by simp [he]
          have HE := Lib.hid he
          clear he
          go_wp2
          go_region
          go_wp2
          go_roundw
          case rel => exact ⟨k + 1, by omega, by go_num, take_succ_eq HT.out hlt hlt2 (by rw [← HX.out.1, ← HX.out.2, HE.out]), (Drew.drewN (Drew.refl w) n).drew⟩
          case measure => simp [intOf]; omega
        · have hq : (((x.toNat : Nat) : Int) != ((y.toNat : Nat) : Int)) = true := by
            simp only [bne_iff_ne]; intro h; exact he (UInt8.toNat_inj.1 (by omega))
          have hne : decide (xs = ys) = false := by
            apply decide_eq_false
            rintro rfl
            exact he (HX.out.1.trans HX.out.2.symm)
          have HN := Lib.hid hne
          clear he hne
          go_wp2
          go_region
          go_wp2
          go_ret
          exact ⟨ret_bool HN.out.symm, (Drew.drewN (Drew.refl w) n).drew⟩
      · have hkx : k = xs.length := by omega
        have heq : decide (xs = ys) = true := by
          apply decide_eq_true
          have := HT.out
          rw [hkx, List.take_length, List.take_of_length_le (by have := HL.out; omega)] at this
          exact this
        have HN := Lib.hid heq
        clear heq hkx
        go_wp2
        go_ret
        exact ⟨ret_bool HN.out.symm, Drew.drewN (Drew.refl w) n⟩
  · have hb : ((xs.length : Int) != (ys.length : Int)) = true := by simp; omega
    have hne : decide (xs = ys) = false := by apply decide_eq_false; rintro rfl; exact hl rfl
    have HN := Lib.hid hne
    clear hne
    go_enter Try.func14, Try.ntmps14
    go_wp2
    go_ret
    exact ⟨ret_bool HN.out.symm, Drew.refl w⟩

end Go.Proofs.Ytdhobpbngkainaa
