/-
  Ours. record.Size, record.Frame, record.text: they make records.
-/
import Derived.Test.YtdhobpbngkainaaDoorSum
namespace Go.Proofs.YtdhobpbngkainaaDoor
open Go.RowKit

def SizePost (n : Int) (w : World) (e : Ending) (w' : World) : Prop := e = .returned (.int .i64 (n + 9)) ∧ w = w'
theorem Size_calls (n : Int) (h0 : 0 ≤ n) (h1 : n ≤ 1099511627776) (w : World) : Calls Tryd.prog 30 #[.int .i64 n] w (SizePost n w) := by
  go_enter Tryd.func30, Tryd.ntmps30
  go_wp2
  go_ret
  exact ⟨ret_int (by omega), rfl⟩

/-- What a call leaves that makes a row of bytes. -/
def NewPost (l' : Bs) (w : World) (e : Ending) (w' : World) : Prop := ∃ v', e = .returned v' ∧ bOk v' l' ∧ Turns [] (bRow v' l') w w'
theorem Turns.news {F : HF} {w w' : World} (h : Turns [] F w w') : Same w w' := h.mods.mono (fun b hb => by simp at hb)
theorem Turns.newLe {F : HF} {w w' : World} (h : Turns [] F w w') {b : Nat} (hb : b ∈ dom F) : w.heap.size ≤ b := by
  rcases h.fresh b hb with h' | h'
  · simp at h'
  · exact h'
/-- What was there ahead of all is as it was. -/
theorem CellsAt.turns {F : HF} {w w' : World} {a : Option Addr} {xs : List Value} (h : CellsAt w a xs) (hT : Turns [] F w w') : CellsAt w' a xs := h.keep hT.news (fun _ _ _ => id)
theorem bRow_one (w : World) (k : UInt8) : Turns [] (bRow (.slice (some ⟨w.heap.size, 0, none⟩) 1 1) [k]) w (w.alloc (.cells #[.int .u8 k.toNat] 5)) ∧ bOk (.slice (some ⟨w.heap.size, 0, none⟩) 1 1) [k] := by
  refine ⟨?_, rfl, fun h => by simp [Value.ownBlock] at h⟩
  have := (Turns.refl (Sat.nil w)).allocIn (φ := fun o => ∃ cap cur, (Value.slice (some ⟨w.heap.size, 0, none⟩) 1 1) = .slice (some ⟨w.heap.size, 0, none⟩) 1 cap ∧ o = .cells cur 5 (0, 0) ∧ 1 ≤ cap ∧ cap ≤ maxLen ∧ cur.size = cap * 1 ∧ cur.toList.take (1 * 1) = [k].map enc8)
    (o := .cells #[.int .u8 k.toNat] 5) ⟨1, _, rfl, rfl, Nat.le_refl _, by unfold maxLen; omega, rfl, rfl⟩
  exact this
theorem AppPost.news {v : Value} {l l' : Bs} {w w1 w2 : World} {e : Ending} (hT : Turns [] (bRow v l) w w1) (h : AppPost v l l' w1 e w2) : NewPost l' w e w2 := by
  obtain ⟨v', he, hok, hT'⟩ := h
  exact ⟨v', he, hok, hT.trans hT'⟩
/-- A list more in a row of one's own. -/
theorem bRow_appends {F G : HF} {a w w' : World} {v v' : Value} {l s : Bs} (hT : Turns F (bRow v l ++ G) a w) {n : Nat} (hn : n = s.length)
    (hown : w'.ownsRow 0 5 1 v' (l.length + n) (l.map enc8 ++ s.map enc8)) (hgrow : w.grownBy w' v.ownBlock)
    (hg : ∀ g, v'.ownBlock = some g → v.ownBlock = some g ∨ w.heap.size ≤ g) : bOk v' (l ++ s) ∧ Turns F (bRow v' (l ++ s) ++ G) a w' := by
  subst hn
  have e : l.map enc8 ++ s.map enc8 = (l ++ s).map enc8 := by simp
  have en : l.length + s.length = (l ++ s).length := by simp
  rw [e, en] at hown
  exact ⟨(row_of_owns hown).2, hT.grow hown hgrow hg⟩

theorem bits_not64 (n : Nat) (h : n ≤ 4611686018427387904) : bits BinOp.xor IntKind.i64 (-1) (n : Int) = -(n : Int) - 1 := by
  have e1 : (BitVec.ofInt 64 (-1)) = BitVec.allOnes 64 := by decide
  have e2 : (BitVec.ofInt 64 (n : Int)).toNat = n := by rw [BitVec.ofInt_natCast, BitVec.toNat_ofNat]; exact Nat.mod_eq_of_lt (by omega)
  show IntKind.i64.wrap ((BitVec.ofInt 64 (-1) ^^^ BitVec.ofInt 64 (n : Int)).toNat : Int) = _
  rw [e1, BitVec.allOnes_xor, BitVec.toNat_not, e2]
  unfold IntKind.wrap
  simp [IntKind.bits, IntKind.signed]
  omega

set_option maxHeartbeats 2000000 in
set_option maxRecDepth 100000 in
theorem Frame_calls (k : UInt8) (a : Option Addr) (cap : Nat) (body : Bs) (w : World) (h : CellsAt w a (body.map enc8)) (hl : body.length ≤ 68719476736) :
    Calls Tryd.prog 33 #[.int .u8 k.toNat, .slice a body.length cap] w (NewPost (frame k body) w) := by
  have H := Lib.hid h
  have hbn := bits_not64 body.length (by omega)
  have hsl := sumOf_lt k body
  clear h
  go_enter Tryd.func33, Tryd.ntmps33
  go_wp2_with fail
  obtain ⟨hT1, hok1⟩ := bRow_one w k
  have H1 := Lib.hid (And.intro hT1 hok1)
  clear hT1 hok1
  refine (number_calls _ [k] body.length 2 _ (by omega) (by simp) (by omega) (by omega) H1.out.1.sat H1.out.2).mono ?_
  rintro e w2 hp
  obtain ⟨v2, rfl, hok2, hT2⟩ := AppPost.news H1.out.1 hp
  have H2 := Lib.hid (And.intro hT2 hok2)
  clear hT2 hok2 hp H1
  go_wp2_with fail
  refine (number_calls v2 _ (-(body.length : Int) - 1) 2 w2 (by omega) (by simp [beI_length]) (by omega) (by omega) H2.out.1.sat H2.out.2).mono ?_
  rintro e w3 hp
  obtain ⟨v3, rfl, hok3, hT3⟩ := AppPost.news H2.out.1 hp
  have hown3 := bOwns hT3.sat hok3
  obtain ⟨i0, hi0, hz1, hz2, hz3⟩ := info_parts infoByte
  have H3 := Lib.hid (And.intro hT3 (And.intro hown3 (H.out.turns hT3)))
  have HI := Lib.hid (And.intro hi0 (And.intro hz1 (And.intro hz2 hz3)))
  clear hT3 hok3 hp H2 hown3 hi0 hz1 hz2 hz3
  have hb : (body.map enc8).length = body.length := by simp
  have HB := Lib.hid hb
  clear hb
  go_wp2_with (refine wpList_append_src _ rfl (.tmp 15) (.tmp 16) 52 rfl 5 i0 (.int .u8 0) 1 Tryd.underlying52 HI.out.1 HI.out.2.1 HI.out.2.2.1 HI.out.2.2.2 rfl _ _ _ rfl H3.out.2.1 a body.length cap (body.map enc8) rfl HB.out H3.out.2.2 (enc8_one body) (by unfold maxLen; simp [beI_length]; omega) (by simp [beI_length]; omega) ?_; intro v4 w4 hown4 hgrow4 hg4)
  obtain ⟨hok4, hT4⟩ := bRow_appends (F := []) (G := []) (v := v3) (by simpa using H3.out.1) rfl hown4 hgrow4 hg4
  rw [List.append_nil] at hT4
  have H4 := Lib.hid (And.intro hT4 (And.intro hok4 (H.out.turns hT4)))
  clear hT4 hok4 hown4 hgrow4 hg4
  refine (Sum_calls a cap k body w4 H4.out.2.2 (by omega)).mono ?_
  rintro e w5 ⟨rfl, hs5⟩
  have hT5 := H4.out.1.thenSame hs5
  have H5 := Lib.hid hT5
  clear hs5 hT5
  go_wp2_with fail
  refine (number_calls v4 _ (sumOf k body : Nat) 4 w5 (by omega) (by simp [beI_length]; omega) (by omega) (by omega) H5.out.sat H4.out.2.1).mono ?_
  rintro e w6 hp
  obtain ⟨v6, rfl, hok6, hT6⟩ := AppPost.news H5.out hp
  have H6 := Lib.hid (And.intro hok6 hT6)
  clear hok6 hT6 hp
  go_wp2_with fail
  go_ret
  have e : [k] ++ beI body.length 2 ++ beI (-(body.length : Int) - 1) 2 ++ body ++ beI (sumOf k body : Nat) 4 = frame k body := by
    rw [beI_nat, beI_nat, beI_not]; simp [frame]
  rw [← e]
  exact ⟨v6, rfl, H6.out⟩
end Go.Proofs.YtdhobpbngkainaaDoor
