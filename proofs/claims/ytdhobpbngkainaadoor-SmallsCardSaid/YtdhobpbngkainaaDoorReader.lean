/-
  Ours. record.reader: it takes bytes apart.
-/
import Derived.Test.YtdhobpbngkainaaDoorFrame
import Derived.RegionTactic
import Derived.BigQuiet
import Derived.Deep.QuietTactic
namespace Go.Proofs.YtdhobpbngkainaaDoor
open Go.RowKit

/-- The reader's block; what is still to be read. -/
def RdAt (w : World) (rb : Nat) (a : Option Addr) (n cap : Nat) (bad : Bool) : Prop := w.heap[rb]? = some (.cells #[.slice a n cap, .bool bad] 106 (0, 0))
/-- A reader of these bytes. -/
def Rd (w : World) (rb : Nat) (l : Bs) (bad : Bool) : Prop := ∃ a cap, RdAt w rb a l.length cap bad ∧ l.length ≤ cap ∧ CellsAt w a (l.map enc8) ∧ ∀ x, a = some x → x.block ≠ rb
/-- What came out. -/
def BytesPost (rb : Nat) (l : Bs) (bad : Bool) (n : Nat) (w : World) (e : Ending) (w' : World) : Prop :=
  (bad = true ∨ l.length < n → e = .returned (.slice none 0 0) ∧ Rd w' rb l true) ∧
  (bad = false → n ≤ l.length → (∃ a cap, e = .returned (.slice a n cap) ∧ n ≤ cap ∧ CellsAt w' a ((l.take n).map enc8) ∧ (∀ x, a = some x → x.block ≠ rb)) ∧ Rd w' rb (l.drop n) false) ∧
  Mods (fun k => k = rb) w w' ∧ w'.heap.size = w.heap.size

theorem cells_take {w : World} {a : Option Addr} {l : Bs} (h : CellsAt w a (l.map enc8)) (n : Nat) (hn : n ≤ l.length) : CellsAt w a ((l.take n).map enc8) := fun hp => by
  simp at hp
  obtain ⟨g, off, ha, hc⟩ := h (by simp; omega)
  refine ⟨g, off, ha, fun j hj => ?_⟩
  have hj' : j < n := by simp at hj; omega
  rw [hc j (by simp; omega)]
  simp
theorem cells_drop {w : World} {g off : Nat} {l : Bs} (h : CellsAt w (some ⟨g, off, none⟩) (l.map enc8)) (n : Nat) (hn : n ≤ l.length) : CellsAt w (some ⟨g, off + n, none⟩) ((l.drop n).map enc8) := fun hp => by
  simp at hp
  obtain ⟨g', off', ha, hc⟩ := h (by simp; omega)
  simp only [Option.some.injEq, Addr.mk.injEq, and_true] at ha
  obtain ⟨rfl, rfl⟩ := ha
  refine ⟨g, off + n, rfl, fun j hj => ?_⟩
  have hj' : n + j < l.length := by simp at hj; omega
  rw [Nat.add_assoc, hc (n + j) (by simpa using hj')]
  simp
theorem cells_dropO {w : World} {a : Option Addr} {l : Bs} (h : CellsAt w a (l.map enc8)) (n : Nat) (hn : n ≤ l.length) : CellsAt w (a.map (·.add n)) ((l.drop n).map enc8) := fun hp => by
  simp at hp
  obtain ⟨g, off, rfl, hc⟩ := h (by simp; omega)
  have := cells_drop (fun _ => ⟨g, off, rfl, hc⟩) n hn (by simpa using hp)
  simpa [Addr.add_lit] using this
theorem addO_ne {a : Option Addr} {n rb : Nat} (h : ∀ x, a = some x → x.block ≠ rb) : ∀ x, a.map (·.add n) = some x → x.block ≠ rb := fun x hx => by
  cases a with
  | none => simp at hx
  | some y =>
    simp at hx; subst hx
    have := h y rfl
    simpa [Addr.add, apply_ite Addr.block] using this
theorem cells_empty (w : World) (a : Option Addr) : CellsAt w a (([] : Bs).map enc8) := fun hp => by simp at hp
set_option maxHeartbeats 2000000 in
set_option maxRecDepth 100000 in
theorem bytes_bad (rb : Nat) (l : Bs) (bad : Bool) (n : Nat) (w : World) (h : Rd w rb l bad) (hl : l.length ≤ 1099511627776) (hn : n ≤ 1099511627776) (hb : bad = true ∨ l.length < n) :
    Calls Tryd.prog 45 #[.pointer (some ⟨rb, 0, none⟩), .int .i64 n] w (BytesPost rb l bad n w) := by
  obtain ⟨a, cap, hr, hcap, hc, hne⟩ := h
  have h0 := cell_at hr 0 (v := .slice a l.length cap) (by simp)
  have h1 := cell_at hr 1 (v := .bool bad) (by simp)
  have f1 := free_at hr 1
  have hset := set_same hr 1 (.bool true)
  have H := Lib.hid (And.intro hset (And.intro hcap (And.intro hc hne)))
  clear hset hcap hc hne hr
  rcases hb with rfl | hb
  · go_enter Tryd.func45, Tryd.ntmps45
    go_wp2
    go_ret
    obtain ⟨hset, hcap, hc, hne⟩ := H.out
    have hM : Mods (fun k => k = rb) w (w.setCell ⟨rb, 1, none⟩ (.bool true)) := (Mods.refl _ w).set1 _
    exact ⟨fun _ => ⟨rfl, a, cap, by unfold RdAt; rw [hset]; rfl, hcap, hc.keep hM (fun _ _ e => hne _ e), hne⟩, (fun h => by cases h), hM, by simp⟩
  · cases bad
    · have hg : decide (l.length < n) = true := by simpa using hb
      have hg2 : ((n : Int) ≤ (l.length : Int)) = False := by simp; omega
      go_enter Tryd.func45, Tryd.ntmps45
      go_wp2
      go_ret
      obtain ⟨hset, hcap, hc, hne⟩ := H.out
      have hM : Mods (fun k => k = rb) w (w.setCell ⟨rb, 1, none⟩ (.bool true)) := (Mods.refl _ w).set1 _
      exact ⟨fun _ => ⟨rfl, a, cap, by unfold RdAt; rw [hset]; rfl, hcap, hc.keep hM (fun _ _ e => hne _ e), hne⟩, (fun _ h => by omega), hM, by simp⟩
    · go_enter Tryd.func45, Tryd.ntmps45
      go_wp2
      go_ret
      obtain ⟨hset, hcap, hc, hne⟩ := H.out
      have hM : Mods (fun k => k = rb) w (w.setCell ⟨rb, 1, none⟩ (.bool true)) := (Mods.refl _ w).set1 _
      exact ⟨fun _ => ⟨rfl, a, cap, by unfold RdAt; rw [hset]; rfl, hcap, hc.keep hM (fun _ _ e => hne _ e), hne⟩, (fun h => by cases h), hM, by simp⟩

set_option maxHeartbeats 2000000 in
set_option maxRecDepth 100000 in
theorem bytes_good (rb : Nat) (l : Bs) (n : Nat) (w : World) (h : Rd w rb l false) (hl : l.length ≤ 1099511627776) (hn : n ≤ l.length) :
    Calls Tryd.prog 45 #[.pointer (some ⟨rb, 0, none⟩), .int .i64 n] w (BytesPost rb l false n w) := by
  obtain ⟨a, cap, hr, hcap, hc, hne⟩ := h
  have h0 := cell_at hr 0 (v := .slice a l.length cap) (by simp)
  have h1 := cell_at hr 1 (v := .bool false) (by simp)
  have f0 := free_at hr 0
  have hset := fun v => set_same hr 0 v
  have H := Lib.hid (And.intro hset (And.intro hcap (And.intro hc hne)))
  have hg : decide (l.length < n) = false := by simp; omega
  clear hset hc hne hr
  go_enter Tryd.func45, Tryd.ntmps45
  go_wp2
  all_goals
    go_ret
    obtain ⟨hset, hcap', hc, hne⟩ := H.out
  · have hln : l.length = n := by omega
    have hM : Mods (fun k => k = rb) w (w.setCell ⟨rb, 0, none⟩ (.slice a (l.length - n) 0)) := (Mods.refl _ w).set1 _
    have hd : l.drop n = [] := List.drop_of_length_le (by omega)
    refine ⟨fun h => by rcases h with h | h; cases h; omega, fun _ _ => ⟨⟨a, n, rfl, Nat.le_refl _, (cells_take hc n hn).keep hM (fun _ _ e => hne _ e), hne⟩, a, 0, ?_, ?_, by rw [hd]; exact cells_empty _ _, hne⟩, hM, by simp⟩
    · unfold RdAt; rw [hset]; simp
    · simp; omega
  · have hM : Mods (fun k => k = rb) w (w.setCell ⟨rb, 0, none⟩ (.slice (Option.map (fun x => x.add n) a) (l.length - n) (cap - n))) := (Mods.refl _ w).set1 _
    refine ⟨fun h => by rcases h with h | h; cases h; omega, fun _ _ => ⟨⟨a, cap, rfl, by omega, (cells_take hc n hn).keep hM (fun _ _ e => hne _ e), hne⟩, Option.map (fun x => x.add n) a, cap - n, ?_, ?_, (cells_dropO hc n hn).keep hM (fun _ _ e => addO_ne hne _ e), addO_ne hne⟩, hM, by simp⟩
    · unfold RdAt; rw [hset]; simp
    · simp; omega
theorem bytes_calls (rb : Nat) (l : Bs) (bad : Bool) (n : Nat) (w : World) (h : Rd w rb l bad) (hl : l.length ≤ 1099511627776) (hn : n ≤ 1099511627776) :
    Calls Tryd.prog 45 #[.pointer (some ⟨rb, 0, none⟩), .int .i64 n] w (BytesPost rb l bad n w) := by
  by_cases hb : bad = true ∨ l.length < n
  · exact bytes_bad rb l bad n w h hl hn hb
  · have hbad : bad = false := by cases bad <;> simp_all
    subst hbad
    exact bytes_good rb l n w h hl (by simp at hb; exact hb)

/-- A number of some bytes; none left: bad, 0. -/
def rdNum (l : Bs) (bad : Bool) (n : Nat) : Nat := if bad = true ∨ l.length < n then 0 else beNat (l.take n)
def rdBad (l : Bs) (bad : Bool) (n : Nat) : Bool := bad || decide (l.length < n)
def rdRest (l : Bs) (bad : Bool) (n : Nat) : Bs := if bad = true ∨ l.length < n then l else l.drop n
def NumberPost (rb : Nat) (l : Bs) (bad : Bool) (n : Nat) (w : World) (e : Ending) (w' : World) : Prop :=
  e = .returned (.int .i64 (rdNum l bad n)) ∧ Rd w' rb (rdRest l bad n) (rdBad l bad n) ∧ Mods (fun k => k = rb) w w' ∧ w'.heap.size = w.heap.size
/-- What bytes answers, in one word: a slice that reads as these bytes. -/
theorem bytesPost_one {rb : Nat} {l : Bs} {bad : Bool} {n : Nat} {w w' : World} {e : Ending} (h : BytesPost rb l bad n w e w') :
    ∃ a cap bs, e = .returned (.slice a bs.length cap) ∧ CellsAt w' a (bs.map enc8) ∧ (∀ x, a = some x → x.block ≠ rb) ∧ bs = (if bad = true ∨ l.length < n then [] else l.take n) ∧ Rd w' rb (rdRest l bad n) (rdBad l bad n) ∧ Mods (fun k => k = rb) w w' ∧ w'.heap.size = w.heap.size := by
  obtain ⟨h1, h2, h3, h4⟩ := h
  by_cases hb : bad = true ∨ l.length < n
  · obtain ⟨he, hr⟩ := h1 hb
    refine ⟨none, 0, [], he, cells_empty _ _, fun _ h => (by cases h), by rw [if_pos hb], ?_, h3, h4⟩
    have e2 : rdBad l bad n = true := by unfold rdBad; rcases hb with rfl | hb; rfl; simp [hb]
    rw [e2]; unfold rdRest; rw [if_pos hb]; exact hr
  · have hbad : bad = false := by cases bad <;> simp_all
    have hn : n ≤ l.length := by simp at hb; omega
    obtain ⟨⟨a, cap, he, hc, hca, hne⟩, hr⟩ := h2 hbad hn
    have hl : (l.take n).length = n := by simp; omega
    refine ⟨a, cap, l.take n, by rw [hl]; exact he, hca, hne, by rw [if_neg hb], ?_, h3, h4⟩
    have e2 : rdBad l bad n = false := by unfold rdBad; rw [hbad]; simp; omega
    rw [e2]; unfold rdRest; rw [if_neg hb]; exact hr
set_option maxRecDepth 100000 in
theorem bits_or64 (a b : Nat) (ha : a * 256 + b < 9223372036854775808) (hb : b < 256) : bits BinOp.or IntKind.i64 ((a : Int) * 256) (b : Int) = ((a * 256 + b : Nat) : Int) := by
  have e1 : (BitVec.ofInt 64 ((a : Int) * 256)).toNat = a * 256 := by
    rw [show ((a : Int) * 256) = ((a * 256 : Nat) : Int) by omega, BitVec.ofInt_natCast, BitVec.toNat_ofNat]; exact Nat.mod_eq_of_lt (by omega)
  have e2 : (BitVec.ofInt 64 (b : Int)).toNat = b := by rw [BitVec.ofInt_natCast, BitVec.toNat_ofNat]; exact Nat.mod_eq_of_lt (by omega)
  show IntKind.i64.wrap ((BitVec.ofInt 64 ((a : Int) * 256) ||| BitVec.ofInt 64 (b : Int)).toNat : Int) = _
  have e3 : a * 256 ||| b = a * 256 + b := by
    have := Nat.two_pow_add_eq_or_of_lt (i := 8) hb a
    rw [show (256 : Nat) = 2 ^ 8 from rfl, Nat.mul_comm]; exact this.symm
  rw [BitVec.toNat_or, e1, e2, e3]
  unfold IntKind.wrap
  simp [IntKind.bits, IntKind.signed]
  omega
set_option maxHeartbeats 2000000 in
set_option maxRecDepth 100000 in
theorem rnumber_calls (rb : Nat) (l : Bs) (bad : Bool) (n : Nat) (w : World) (h : Rd w rb l bad) (hl : l.length ≤ 1099511627776) (hn : n ≤ 7) :
    Calls Tryd.prog 31 #[.pointer (some ⟨rb, 0, none⟩), .int .i64 n] w (NumberPost rb l bad n w) := by
  have H := Lib.hid (bytes_calls rb l bad n w h hl (by omega))
  clear h
  go_enter Tryd.func31, Tryd.ntmps31
  go_wp2_with fail
  refine H.out.mono ?_
  rintro e w1 hp
  obtain ⟨a, cap, bs, rfl, hca, hne, hbs, hr, hM, hsz⟩ := bytesPost_one hp
  have hbl : bs.length ≤ 7 := by rw [hbs]; split <;> simp; omega
  have H1 := Lib.hid (And.intro hca (And.intro hbs (And.intro hr (And.intro hM hsz))))
  clear hp H hca hbs hr hM hsz hne
  go_wp2_with fail
  go_loop [5, 12] (fun v i => ∃ j : Nat, j ≤ bs.length ∧ i = .int .i64 j ∧ v = .int .i64 (beNat (bs.take j))) (fun _ i => bs.length - (intOf i).toNat)
  case atStart => exact ⟨0, Nat.zero_le _, rfl, rfl⟩
  case round =>
    obtain ⟨j, hj, rfl, rfl⟩ := hrel
    by_cases hlt : j < bs.length
    · obtain ⟨g, off, rfl, hc⟩ := H1.out.1 (by simp; omega)
      have hcj := hc j (by simpa using hlt)
      simp only [List.getElem_map] at hcj
      unfold enc8 at hcj
      have h8 := UInt8.toNat_lt bs[j]
      have hlb : beNat (bs.take j) < 281474976710656 := by
        have := beNat_lt (bs.take j)
        have h2 : (bs.take j).length ≤ 6 := by simp; omega
        have h3 : (256 : Nat) ^ (bs.take j).length ≤ 256 ^ 6 := Nat.pow_le_pow_right (by omega) h2
        omega
      have hor := bits_or64 (beNat (bs.take j)) bs[j].toNat (by omega) h8
      have hnx : beNat (bs.take (j + 1)) = beNat (bs.take j) * 256 + bs[j].toNat := by rw [List.take_succ_eq_append_getElem hlt, beNat_snoc]
      have HN := Lib.hid hnx
      clear hc hnx
      generalize bs[j].toNat = x at *
      generalize beNat (bs.take j) = q at *
      go_wp2_with fail
      exact ⟨⟨j + 1, by omega, by go_num, by rw [HN.out]; congr 1⟩, by simp [intOf]; omega⟩
    · obtain rfl : j = bs.length := by omega
      go_wp2_with fail
      go_ret
      obtain ⟨hca, hbs, hr, hM, hsz⟩ := H1.out
      refine ⟨ret_int ?_, hr, hM, hsz⟩
      rw [hbs]
      unfold rdNum
      split <;> rfl
end Go.Proofs.YtdhobpbngkainaaDoor
