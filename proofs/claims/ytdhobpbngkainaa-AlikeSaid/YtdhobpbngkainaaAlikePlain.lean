/-
  Ours. Plain facts on the lengths of chunks: neither too short nor too long; what follows a cut is cut as if nothing stood ahead of it; what stands behind does not turn the cuts ahead.
-/
import Derived.Test.YtdhobpbngkainaaCutPlain
namespace Go.Proofs.Ytdhobpbngkainaa

theorem endsB_16 {h : Int} {n : Nat} (e : endsB h n = true) : 16 ≤ n := by
  rcases Nat.lt_or_ge n 16 with h' | h'
  · rw [ends_0 h'] at e; cases e
  · exact h'
/-- Neither too short nor too long. -/
theorem cutsN_bounds (l : List UInt8) : ∀ h n, n < 256 → ∀ i (hi : i < (cutsN h n l).length), 1 ≤ (cutsN h n l)[i] ∧ (cutsN h n l)[i] ≤ 256 ∧ (i + 1 < (cutsN h n l).length → 16 ≤ (cutsN h n l)[i]) := by
  induction l with
  | nil => intro h n _ i hi; simp [cutsN] at hi
  | cons c cs ih =>
    intro h n hn i
    cases he : endsB (hashI h c.toNat) (n + 1)
    · by_cases hc : cs = []
      · subst hc
        rw [cutsN_last]
        intro hi
        have hi0 : i = 0 := by simp at hi; omega
        subst hi0
        refine ⟨?_, ?_, ?_⟩
        · simp
        · simp; omega
        · simp
      · rw [cutsN_no _ _ _ _ he hc]
        have hn1 : n + 1 < 256 := by
          rcases Nat.lt_or_ge (n + 1) 256 with h' | h'
          · exact h'
          · rw [ends_256 h'] at he; cases he
        exact ih _ _ hn1 i
    · rw [cutsN_yes _ _ _ _ he]
      intro hi
      cases i with
      | zero => exact ⟨by simp, by simp; omega, fun _ => by have := endsB_16 he; simpa using this⟩
      | succ i =>
        have hi' : i < (cutsN 0 0 cs).length := by simpa using hi
        have := ih 0 0 (by omega) i hi'
        simpa using this
theorem lensOf_bounds (l : List UInt8) (i : Nat) (hi : i < (lensOf l).length) : 1 ≤ (lensOf l)[i] ∧ (lensOf l)[i] ≤ 256 ∧ (i + 1 < (lensOf l).length → 16 ≤ (lensOf l)[i]) :=
  cutsN_bounds l 0 0 (by omega) i hi

/-- Behind the first chunk all begins anew. -/
theorem cutsN_tail (l : List UInt8) : ∀ h n a r, cutsN h n l = a :: r → n < a ∧ a - n ≤ l.length ∧ cutsN 0 0 (l.drop (a - n)) = r := by
  induction l with
  | nil => intro h n a r e; simp [cutsN] at e
  | cons c cs ih =>
    intro h n a r
    cases he : endsB (hashI h c.toNat) (n + 1)
    · by_cases hc : cs = []
      · subst hc
        rw [cutsN_last]
        intro e
        simp only [List.cons.injEq] at e
        obtain ⟨rfl, rfl⟩ := e
        refine ⟨by omega, by simp, ?_⟩
        rw [show n + 1 - n = 1 from by omega]; rfl
      · rw [cutsN_no _ _ _ _ he hc]
        intro e
        obtain ⟨h1, h2, h3⟩ := ih _ _ _ _ e
        refine ⟨by omega, by simp; omega, ?_⟩
        rw [show a - n = (a - (n + 1)) + 1 from by omega]
        exact h3
    · rw [cutsN_yes _ _ _ _ he]
      intro e
      simp only [List.cons.injEq] at e
      obtain ⟨rfl, rfl⟩ := e
      refine ⟨by omega, by simp, ?_⟩
      rw [show n + 1 - n = 1 from by omega]; rfl
theorem lensOf_tail {l : List UInt8} {a : Nat} {r : List Nat} (h : lensOf l = a :: r) : a ≤ l.length ∧ lensOf (l.drop a) = r := by
  obtain ⟨_, h2, h3⟩ := cutsN_tail l 0 0 a r h
  exact ⟨by omega, h3⟩

theorem cutsN_ne {l : List UInt8} {h : Int} {n : Nat} (hl : l ≠ []) : cutsN h n l ≠ [] := by
  intro e
  have := cutsN_sum l h n hl
  rw [e] at this
  have : 0 < l.length := List.length_pos_iff.2 hl
  simp at *
  omega
/-- What stands behind does not turn the cuts ahead, but for the last one. -/
theorem cutsN_more (m : List UInt8) (l : List UInt8) : ∀ h n, ∃ r, cutsN h n (l ++ m) = (cutsN h n l).dropLast ++ r := by
  induction l with
  | nil => intro h n; exact ⟨_, by simp [cutsN]; rfl⟩
  | cons c cs ih =>
    intro h n
    by_cases hc : cs = []
    · subst hc; rw [cutsN_last]; exact ⟨_, rfl⟩
    · have hcm : cs ++ m ≠ [] := by simp [hc]
      cases he : endsB (hashI h c.toNat) (n + 1)
      · rw [List.cons_append, cutsN_no _ _ _ _ he hcm, cutsN_no _ _ _ _ he hc]
        exact ih _ _
      · rw [List.cons_append, cutsN_yes _ _ _ _ he, cutsN_yes _ _ _ _ he]
        obtain ⟨r, hr⟩ := ih 0 0
        refine ⟨r, ?_⟩
        rw [hr, List.dropLast_cons_of_ne_nil (cutsN_ne hc)]
        rfl
theorem lensOf_more (l m : List UInt8) : (lensOf l).length - 1 ≤ (lensOf (l ++ m)).length ∧ (lensOf (l ++ m)).take ((lensOf l).length - 1) = (lensOf l).take ((lensOf l).length - 1) := by
  obtain ⟨r, hr⟩ := cutsN_more m l 0 0
  have hr' : lensOf (l ++ m) = (lensOf l).dropLast ++ r := hr
  rw [hr']
  constructor
  · simp
  · rw [List.take_append_of_le_length (by simp), ← List.dropLast_eq_take, List.take_of_length_le (by simp)]
end Go.Proofs.Ytdhobpbngkainaa
