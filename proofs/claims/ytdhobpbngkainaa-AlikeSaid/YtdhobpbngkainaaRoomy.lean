/-
  Ours. The laws' own 'roomy' and 'still': a copy with two more bytes in its spare room; is it as it was?
-/
import Derived.Test.YtdhobpbngkainaaProg
import Derived.Test.YtdhobpbngkainaaAppend
import Derived.Test.YtdhobpbngkainaaSameWalk
namespace Go.Proofs.Ytdhobpbngkainaa
open Go.RowKit

theorem infoByte : (Try.prog.info? 5).map (fun i => (i.zero, i.size, i.bytes)) = some (some (.int .u8 0), 1, 1) := by kernel_rfl
/-- The cells of a row of bytes. -/
def row8 (l : List UInt8) : Array Value := (l.map enc8).toArray
theorem row8_get (l : List UInt8) (j : Nat) (h : j < l.length) : (row8 l)[j]? = some (enc8 l[j]) := by simp [row8, h]
theorem row8_set (l : List UInt8) (j : Nat) (x : UInt8) : (row8 l).setIfInBounds j (enc8 x) = row8 (l.set j x) := by
  apply Array.ext'; simp [row8, List.map_set]

def RoomyPost (l : List UInt8) (w : World) (e : Ending) (w' : World) : Prop :=
  e = .returned (.slice (some ⟨w.heap.size, 0, none⟩) l.length (l.length + 2)) ∧ w'.heap[w.heap.size]? = some (.cells (row8 (l ++ [71, 72])) 5 (0, 0)) ∧ Same w w'

theorem run_make8 (n : Nat) (hn : n ≤ 1099511627776) (w : World) : (Instr.makeSlice 25 (.int .i64 ((n : Int) + 2)) (.int .i64 ((n : Int) + 2))).run Try.prog w =
    .ok (.slice (some ⟨w.heap.size, 0, none⟩) (n + 2) (n + 2)) (w.alloc (.cells (row8 (List.replicate (n + 2) 0)) 5)) := by
  obtain ⟨i, hi, hz, hs, hb⟩ := info_parts infoByte
  rw [run_make w 25 5 i (.int .u8 0) Try.underlying25 hi hz .i64 .i64 _ _ (by omega) (by omega) (by rw [hb]; omega) (by omega)]
  have e1 : ((n : Int) + 2).toNat = n + 2 := by omega
  rw [e1, hs]
  congr 4
  apply Array.ext'
  rw [Nat.mul_one]
  rw [show (Value.int IntKind.u8 0).cells = #[Value.int .u8 0] from rfl, toList_madeCells_one]
  simp [row8, enc8]

set_option maxHeartbeats 1000000 in
set_option maxRecDepth 100000 in
theorem roomy_calls (a : Option Addr) (cap : Nat) (l : List UInt8) (w : World) (hl : l.length ≤ 1000000) (h : CellsAt w a (l.map enc8)) :
    Calls Try.prog 8 #[.slice a l.length cap] w (RoomyPost l w) := by
  have hmk := run_make8 l.length (by omega)
  obtain ⟨i0, hi0, hz1, hz2, hz3⟩ := info_parts infoByte
  have hsz : (Try.prog.info? 5).map (·.size) = some 1 := by rw [hi0]; simp [hz2]
  have hw1 := alloc_new w (.cells (row8 (List.replicate (l.length + 2) 0)) 5)
  have hsrc : 0 < (l.map enc8).length → some (⟨w.heap.size, 0, none⟩ : Addr) = some ⟨w.heap.size, 0, none⟩ ∧ ∃ ad, a = some ad ∧ ∀ j v, (l.map enc8)[j]? = some v → (w.alloc (.cells (row8 (List.replicate (l.length + 2) 0)) 5)).cell? (ad.add j) = some v := fun hp => by
    obtain ⟨g, off, ha, hc⟩ := h.keep ((Mods.refl (fun _ => False) w).alloc (.cells (row8 (List.replicate (l.length + 2) 0)) 5)) (fun _ _ _ => id) hp
    refine ⟨rfl, _, ha, fun j v hv => ?_⟩
    obtain ⟨hj, rfl⟩ := List.getElem?_eq_some_iff.1 hv
    have := hc j hj
    simpa [Addr.add_lit] using this
  have HS := Lib.hid (And.intro hsrc hw1)
  clear hsrc hw1 h
  go_enter Try.func8, Try.ntmps8
  go_wp2_with (refine wpList_copy_fp rfl (.tmp 10) (.tmp 11) 25 25 rfl 5 Try.underlying25 hsz _ _ _ _ _ _ rfl rfl w.heap.size 0 ((List.replicate (l.length + 2) 0).map enc8) 5 HS.out.2 (l.map enc8) ?c1 HS.out.1 ?c2 ?c3 ?c4)
  case c3 => intro x _; rfl
  case c4 =>
    intro w2 hg2 hM2 hz2
    have e2 : (splice (List.replicate (l.length + 2) (enc8 0)) 0 (List.map enc8 l)).toArray = row8 (l ++ [0, 0]) := by
      simp [splice, row8, List.drop_replicate]
    rw [e2] at hg2
    have c71 := cell_at hg2 l.length (row8_get _ _ (by simp))
    have c72 := cell_at hg2 (l.length + 1) (row8_get _ _ (by simp))
    have f71 := free_at hg2 l.length
    have f72 := free_at hg2 (l.length + 1)
    have HG := Lib.hid (And.intro hg2 (And.intro hM2 hz2))
    clear hg2 hM2 hz2
    go_wp2
    go_ret
    obtain ⟨hg2, hM2, hz2⟩ := HG.out
    refine ⟨rfl, ?_, ?_⟩
    · have h3 := set_same (set_same hg2 l.length (enc8 71)) (l.length + 1) (enc8 72)
      rw [row8_set, row8_set] at h3
      refine h3.trans ?_
      congr 2
      simp
    · exact (((((Mods.refl _ w).alloc _).trans' hM2 (fun i hi => .inr (by omega))).setNew (Nat.le_refl _) _).setNew (Nat.le_refl _) _)

def StillPost (B : Nat) (w : World) (e : Ending) (w' : World) : Prop := e = .returned (.bool true) ∧ Mods (fun k => k = B) w w'
/-- A row of bytes, whichever. -/
def AnyRow8 (w : World) (B n : Nat) : Prop := ∃ cs : Array Value, w.heap[B]? = some (.cells cs 5 (0, 0)) ∧ cs.size = n ∧ ∀ j, j < n → ∃ x : Int, cs[j]? = some (.int .u8 x)
theorem anyRow8_row (w : World) (B : Nat) (l : List UInt8) (h : w.heap[B]? = some (.cells (row8 l) 5 (0, 0))) : AnyRow8 w B l.length :=
  ⟨_, h, by simp [row8], fun j hj => ⟨_, row8_get l j hj⟩⟩
theorem anyRow8_set {w : World} {B n : Nat} (h : AnyRow8 w B n) (i : Nat) (x : Int) : AnyRow8 (w.setCell ⟨B, i, none⟩ (.int .u8 x)) B n := by
  obtain ⟨cs, hc, hs, hx⟩ := h
  refine ⟨_, set_same hc i _, by simpa using hs, fun j hj => ?_⟩
  rw [Array.getElem?_setIfInBounds]
  split
  · rw [if_pos (by omega)]; exact ⟨x, rfl⟩
  · exact hx j hj

set_option maxHeartbeats 2000000 in
set_option maxRecDepth 100000 in
theorem still_calls (B : Nat) (a : Option Addr) (cap : Nat) (l : List UInt8) (w : World) (hl : l.length ≤ 1000000) (hB : w.heap[B]? = some (.cells (row8 (l ++ [71, 72])) 5 (0, 0))) (h : CellsAt w a (l.map enc8)) :
    Calls Try.prog 10 #[.slice (some ⟨B, 0, none⟩) l.length (l.length + 2), .slice a l.length cap] w (StillPost B w) := by
  have c71 := cell_at hB l.length (row8_get _ _ (by simp))
  have c72 := cell_at hB (l.length + 1) (row8_get _ _ (by simp))
  simp [enc8] at c71 c72
  have hA : CellsAt w (some ⟨B, 0, none⟩) (l.map enc8) := fun hp => ⟨B, 0, rfl, fun j hj => by
    have hj' : j < l.length := by simpa using hj
    rw [Nat.zero_add, cell_at hB j (row8_get _ j (by simp; omega))]
    simp [List.getElem_append_left hj']⟩
  have HB := Lib.hid (And.intro hB (And.intro hA h))
  clear hB hA h
  go_enter Try.func10, Try.ntmps10
  go_wp2_with (first | (go_at_call 14; refine (same_calls _ _ _ _ l l w HB.out.2.1 HB.out.2.2 (by omega) (by omega)).mono ?_; rintro e w2 ⟨rfl, n, rfl⟩))
  go_loopw [8] (fun i wr => ∃ k : Nat, k ≤ l.length + 2 ∧ i = .int .i64 k ∧ AnyRow8 wr B (l.length + 2) ∧ Mods (fun q => q = B) w wr) (fun i _ => l.length + 2 - (intOf i).toNat)
  case atStart =>
    refine ⟨0, by omega, rfl, ?_, (Mods.refl _ w).drewN n⟩
    have := anyRow8_row (w.drewN n) B (l ++ [71, 72]) HB.out.1
    simpa using this
  case round =>
    obtain ⟨k, hk, rfl, hrow, hM⟩ := hrel
    by_cases hlt : k < l.length + 2
    · obtain ⟨cs, hc, hs, hx⟩ := hrow
      obtain ⟨x, hxk⟩ := hx k hlt
      have hck := cell_at hc k hxk
      have hfk := free_at hc k
      have HR := Lib.hid (And.intro (show AnyRow8 wr B (l.length + 2) from ⟨cs, hc, hs, hx⟩) hM)
      clear hc hs hx hxk hM
      go_wp2
      go_roundw
      case rel => exact ⟨k + 1, by omega, by go_num, anyRow8_set HR.out.1 _ _, HR.out.2.set1 _⟩
      case measure => simp [intOf]; omega
    · have HR := Lib.hid hM
      clear hM hrow
      go_wp2
      go_ret
      exact ⟨by simp, HR.out⟩

end Go.Proofs.Ytdhobpbngkainaa
