/-
  Ours. record.number, record.text: they append; the sum's walk.
-/
import Derived.Test.YtdhobpbngkainaaDoorProg
import Derived.Test.YtdhobpbngkainaaDoorHeap
import Derived.Test.YtdhobpbngkainaaDoorRecPlain
import Derived.Test.YtdhobpbngkainaaDoorRow8
import Derived.RangeFuncBox
namespace Go.Proofs.YtdhobpbngkainaaDoor
open Go.RowKit

/-! ### a row of bytes of one's own -/
def bRow (v : Value) (l : Bs) : HF := rowF 5 1 v l.length (l.map enc8)
def bOk (v : Value) (l : Bs) : Prop := RowOk 1 v l.length (l.map enc8)
theorem bOwns {w : World} {v : Value} {l : Bs} (h : Sat w (bRow v l)) (k : bOk v l) : w.ownsRow 0 5 1 v l.length (l.map enc8) := owns_of_row h k
/-- What an appending call leaves: a row in the old one's place. -/
def AppPost (v : Value) (l l' : Bs) (w : World) (e : Ending) (w' : World) : Prop := ∃ v', e = .returned v' ∧ bOk v' l' ∧ Turns (bRow v l) (bRow v' l') w w'
theorem bRow_nil : bRow (.slice none 0 0) [] = [] := rfl
theorem bOk_nil : bOk (.slice none 0 0) [] := ⟨rfl, fun _ => ⟨rfl, rfl⟩⟩

/-- Numbers of some bytes, of whatever sign. -/
def beI : Int → Nat → Bs
  | _, 0 => []
  | n, k + 1 => UInt8.ofNat (n / 256 ^ k % 256).toNat :: beI n k
theorem beI_length (n : Int) (k : Nat) : (beI n k).length = k := by
  induction k with
  | zero => rfl
  | succ k ih => simp [beI, ih]
theorem beI_drop (n : Int) (k j : Nat) (h : j ≤ k) : (beI n k).drop (k - j) = beI n j := by
  induction k with
  | zero => obtain rfl : j = 0 := by omega
            rfl
  | succ k ih =>
    by_cases e : j = k + 1
    · subst e; simp
    · rw [show k + 1 - j = (k - j) + 1 by omega, beI, List.drop_succ_cons]; exact ih (by omega)
theorem beI_take_succ (n : Int) (k j : Nat) (h : j + 1 ≤ k) : (beI n k).take (k - j) = (beI n k).take (k - (j + 1)) ++ [UInt8.ofNat (n / 256 ^ j % 256).toNat] := by
  have hl : k - (j + 1) < (beI n k).length := by rw [beI_length]; omega
  rw [show k - j = (k - (j + 1)) + 1 by omega, List.take_succ_eq_append_getElem hl]
  congr 2
  have hd := beI_drop n k (j + 1) h
  rw [List.drop_eq_getElem_cons hl, beI] at hd
  exact (List.cons.inj hd).1
theorem beI_nat (n k : Nat) : beI (n : Int) k = be n k := by
  induction k with
  | zero => rfl
  | succ k ih =>
    rw [beI, be, ih]
    congr 1
    apply UInt8.toNat_inj.1
    rw [UInt8.toNat_ofNat', UInt8.toNat_ofNat']
    have : ((n : Int) / 256 ^ k % 256).toNat = n / 256 ^ k % 256 := by
      have e : ((n : Int) / 256 ^ k % 256) = ((n / 256 ^ k % 256 : Nat) : Int) := by simp
      exact (congrArg Int.toNat e).trans (Int.toNat_natCast _)
    rw [this]; omega
theorem beI_not (n : Nat) : beI (-(n : Int) - 1) 2 = be (65535 - n % 65536) 2 := by
  have e1 : ((-(n : Int) - 1) / 256 ^ 1 % 256).toNat = (65535 - n % 65536) / 256 % 256 := by omega
  have e2 : ((-(n : Int) - 1) / 256 ^ 0 % 256).toNat = (65535 - n % 65536) % 256 := by omega
  simp only [beI, be, e1, e2, Nat.pow_one, Nat.pow_zero, Nat.div_one]
  congr 1
  · apply UInt8.toNat_inj.1; rw [UInt8.toNat_ofNat', UInt8.toNat_ofNat']; omega
  · congr 1
    apply UInt8.toNat_inj.1; rw [UInt8.toNat_ofNat', UInt8.toNat_ofNat']; omega

def NumRel (v0 : Value) (l : Bs) (n : Int) (m : Nat) (w : World) (v i : Value) (wr : World) : Prop :=
  ∃ j : Nat, j ≤ m ∧ i = .int .i64 ((j : Int) - 1) ∧ bOk v (l ++ (beI n m).take (m - j)) ∧ Turns (bRow v0 l) (bRow v (l ++ (beI n m).take (m - j))) w wr

/-- A byte more in a row of one's own. -/
theorem bRow_grow {F G : HF} {a w w' : World} {v v' : Value} {l : Bs} {o : Obj} {x : UInt8} {y : Value} (hT : Turns F (bRow v l ++ G) a w) (hx : y = enc8 x)
    (hown : w'.ownsRow 0 5 1 v' (l.length + 1) (l.map enc8 ++ [y])) (hgrow : (w.alloc o).grownBy w' v.ownBlock)
    (hg : ∀ g, v'.ownBlock = some g → v.ownBlock = some g ∨ (w.alloc o).heap.size ≤ g) : bOk v' (l ++ [x]) ∧ Turns F (bRow v' (l ++ [x]) ++ G) a w' := by
  subst hx
  have e : l.map enc8 ++ [enc8 x] = (l ++ [x]).map enc8 := by simp
  have en : l.length + 1 = (l ++ [x]).length := by simp
  rw [e, en] at hown
  exact ⟨(row_of_owns hown).2, (hT.alloc o).grow hown hgrow hg⟩
theorem numRel_next {v0 v v' : Value} {l : Bs} {n : Int} {m j : Nat} {w wr w3 : World} {o : Obj} {y : Value} (h0 : 0 < j) (hj : j ≤ m) (hT : Turns (bRow v0 l) (bRow v (l ++ (beI n m).take (m - j))) w wr)
    (hown : w3.ownsRow 0 5 1 v' ((l ++ (beI n m).take (m - j)).length + 1) ((l ++ (beI n m).take (m - j)).map enc8 ++ [y])) (hy : y = .int .u8 (n / 2 ^ (8 * (j - 1)) % 256)) (hgrow : (wr.alloc o).grownBy w3 v.ownBlock)
    (hg : ∀ g, v'.ownBlock = some g → v.ownBlock = some g ∨ (wr.alloc o).heap.size ≤ g) (i : Value) (hi : i = .int .i64 ((j : Int) - 1 - 1)) : NumRel v0 l n m w v' i w3 := by
  have hx : y = enc8 (UInt8.ofNat (n / 256 ^ (j - 1) % 256).toNat) := by
    rw [hy]
    have e2 : (2 : Int) ^ (8 * (j - 1)) = 256 ^ (j - 1) := by rw [Int.pow_mul]; rfl
    rw [e2]
    generalize n / 256 ^ (j - 1) = q
    simp only [enc8, UInt8.toNat_ofNat']
    congr 1; omega
  have e : (beI n m).take (m - (j - 1)) = (beI n m).take (m - j) ++ [UInt8.ofNat (n / 256 ^ (j - 1) % 256).toNat] := by
    have := beI_take_succ n m (j - 1) (by omega)
    rwa [show j - 1 + 1 = j by omega] at this
  have hT' : Turns (bRow v0 l) (bRow v (l ++ (beI n m).take (m - j)) ++ []) w wr := by simpa using hT
  obtain ⟨h1, h2⟩ := bRow_grow hT' hx hown hgrow hg
  refine ⟨j - 1, by omega, by rw [hi]; congr 1; omega, ?_, ?_⟩
  · rw [e, ← List.append_assoc]; exact h1
  · rw [e, ← List.append_assoc]; simpa using h2

set_option maxHeartbeats 1000000 in
set_option maxRecDepth 100000 in
theorem number_calls (v : Value) (l : Bs) (n : Int) (m : Nat) (w : World) (hm : m ≤ 8) (hl : l.length ≤ 1099511627776) (hn1 : -9223372036854775808 ≤ n) (hn2 : n ≤ 9223372036854775807) (h : Sat w (bRow v l)) (hv : bOk v l) :
    Calls Tryd.prog 47 #[v, .int .i64 n, .int .i64 m] w (AppPost v l (l ++ beI n m) w) := by
  have H := Lib.hid (And.intro h hv)
  clear h hv
  go_enter Tryd.func47, Tryd.ntmps47
  go_wp2
  go_loopw [0, 7] (fun v' i wr => NumRel v l n m w v' i wr) (fun _ i _ => (intOf i + 1).toNat)
  case atStart => exact ⟨m, Nat.le_refl _, rfl, by simpa using H.out.2, by simpa using Turns.refl H.out.1⟩
  case round =>
    obtain ⟨j, hj, rfl, hok, hT⟩ := hrel
    by_cases hlt : 0 < j
    · obtain ⟨i0, hi0, hz1, hz2, hz3⟩ := info_parts infoByte
      have HT := Lib.hid (And.intro hok hT)
      have hown := bOwns hT.sat hok
      have HO := Lib.hid hown
      have HI := Lib.hid (And.intro hi0 (And.intro hz1 (And.intro hz2 hz3)))
      clear hok hT hown hi0 hz1 hz2 hz3
      go_wp2_with (refine wpList_append_fp _ rfl _ _ 52 rfl 5 i0 (.int .u8 0) 1 1 Tryd.underlying52 HI.out.1 HI.out.2.1 HI.out.2.2.1 HI.out.2.2.2 rfl (by decide) _ _ _ rfl (HO.out.alloc _) ⟨wr.heap.size, 0, none⟩ 1 1 [_] rfl rfl (cell_one_new _ _ _) (by simp [Value.oneCell']) (by unfold maxLen; simp; omega) (by simp; omega) ?_; intro v' w3 hown' hgrow _ hgb)
      exact ⟨numRel_next hlt hj HT.out.2 hown' rfl hgrow hgb _ rfl, by simp [intOf]; omega⟩
    · obtain rfl : j = 0 := by omega
      have HT := Lib.hid (And.intro hok hT)
      clear hok hT
      go_wp2
      go_ret
      obtain ⟨hok, hT⟩ := HT.out
      rw [Nat.sub_zero, List.take_of_length_le (by rw [beI_length]; omega)] at hok hT
      exact ⟨_, rfl, hok, hT⟩
end Go.Proofs.YtdhobpbngkainaaDoor
