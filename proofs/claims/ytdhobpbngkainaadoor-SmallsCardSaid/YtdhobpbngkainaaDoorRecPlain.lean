/-
  Ours. The records in plain words: numbers of some bytes, the sum, frames, what stands at the front of bytes. No condition; no program.
-/
import Derived.Test.YtdhobpbngkainaaDoorBase
namespace Go.Proofs.YtdhobpbngkainaaDoor

abbrev Bs := List UInt8

/-! ### the sum -/
def crcBit (c : Nat) : Nat := (c / 2) ^^^ (c % 2 * 3988292384)
def crcBits : Nat → Nat → Nat
  | 0, c => c
  | n + 1, c => crcBits n (crcBit c)
def crcByte (c : Nat) (x : UInt8) : Nat := crcBits 8 (c ^^^ x.toNat)
def crcFrom (c : Nat) (b : Bs) : Nat := b.foldl crcByte c
def sumOf (k : UInt8) (b : Bs) : Nat := 4294967295 ^^^ crcFrom (crcByte 4294967295 k) b

theorem xor_lt32 {a b : Nat} (ha : a < 4294967296) (hb : b < 4294967296) : a ^^^ b < 4294967296 := Nat.xor_lt_two_pow (n := 32) ha hb
theorem crcBit_lt {c : Nat} (h : c < 4294967296) : crcBit c < 4294967296 := by
  unfold crcBit
  refine xor_lt32 (by omega) ?_
  have : c % 2 < 2 := Nat.mod_lt _ (by omega)
  have h2 : c % 2 * 3988292384 ≤ 1 * 3988292384 := Nat.mul_le_mul_right _ (by omega)
  omega
theorem crcBits_lt (n : Nat) : ∀ {c : Nat}, c < 4294967296 → crcBits n c < 4294967296 := by
  induction n with
  | zero => intro c h; exact h
  | succ n ih => intro c h; exact ih (crcBit_lt h)
theorem crcBits_succ' (n : Nat) : ∀ c, crcBits (n + 1) c = crcBit (crcBits n c) := by
  induction n with
  | zero => intro c; rfl
  | succ n ih => intro c; rw [crcBits, ih]; rfl
theorem u8_lt32 (x : UInt8) : x.toNat < 4294967296 := by have := UInt8.toNat_lt x; omega
theorem crcByte_lt {c : Nat} (h : c < 4294967296) (x : UInt8) : crcByte c x < 4294967296 := crcBits_lt 8 (xor_lt32 h (u8_lt32 x))
theorem crcFrom_lt (b : Bs) : ∀ {c : Nat}, c < 4294967296 → crcFrom c b < 4294967296 := by
  induction b with
  | nil => intro c h; exact h
  | cons x r ih => intro c h; exact ih (crcByte_lt h x)
theorem sumOf_lt (k : UInt8) (b : Bs) : sumOf k b < 4294967296 := xor_lt32 (by omega) (crcFrom_lt b (crcByte_lt (by omega) k))

theorem xor_left_inj {a b c : Nat} (h : a ^^^ b = a ^^^ c) : b = c := by
  have := congrArg (a ^^^ ·) h
  simpa [← Nat.xor_assoc] using this
theorem crcBit_inj {a b : Nat} (ha : a < 4294967296) (hb : b < 4294967296) (h : crcBit a = crcBit b) : a = b := by
  unfold crcBit at h
  have bit : ∀ c, c < 4294967296 → ((c / 2) ^^^ (c % 2 * 3988292384)).testBit 31 = decide (c % 2 = 1) := by
    intro c hc
    rw [Nat.testBit_xor, Nat.testBit_lt_two_pow (show c / 2 < 2 ^ 31 by omega)]
    rcases Nat.mod_two_eq_zero_or_one c with h0 | h0
    · rw [h0]; decide
    · rw [h0]; decide
  have e := bit a ha
  rw [h, bit b hb] at e
  have em : a % 2 = b % 2 := by
    rcases Nat.mod_two_eq_zero_or_one a with h0 | h0 <;> rcases Nat.mod_two_eq_zero_or_one b with h1 | h1 <;> simp [h0, h1] at e ⊢
  rw [em, Nat.xor_comm (a / 2), Nat.xor_comm (b / 2)] at h
  have := xor_left_inj h
  omega
theorem crcBits_inj (n : Nat) : ∀ {a b : Nat}, a < 4294967296 → b < 4294967296 → crcBits n a = crcBits n b → a = b := by
  induction n with
  | zero => intro a b _ _ h; exact h
  | succ n ih => intro a b ha hb h; exact crcBit_inj ha hb (ih (crcBit_lt ha) (crcBit_lt hb) h)
theorem crcByte_inj_c {a b : Nat} (ha : a < 4294967296) (hb : b < 4294967296) (x : UInt8) (h : crcByte a x = crcByte b x) : a = b := by
  have := crcBits_inj 8 (xor_lt32 ha (u8_lt32 x)) (xor_lt32 hb (u8_lt32 x)) h
  rw [Nat.xor_comm a, Nat.xor_comm b] at this
  exact xor_left_inj this
theorem crcByte_inj_x {a : Nat} (ha : a < 4294967296) {x y : UInt8} (h : crcByte a x = crcByte a y) : x = y :=
  UInt8.toNat_inj.1 (xor_left_inj (crcBits_inj 8 (xor_lt32 ha (u8_lt32 x)) (xor_lt32 ha (u8_lt32 y)) h))
theorem crcFrom_inj (b : Bs) : ∀ {a c : Nat}, a < 4294967296 → c < 4294967296 → crcFrom a b = crcFrom c b → a = c := by
  induction b with
  | nil => intro a c _ _ h; exact h
  | cons x r ih => intro a c ha hc h; exact crcByte_inj_c ha hc x (ih (crcByte_lt ha x) (crcByte_lt hc x) h)
/-- One byte that is another one is told by the sum. -/
theorem sumOf_other (k : UInt8) (p r : Bs) {x y : UInt8} (h : sumOf k (p ++ x :: r) = sumOf k (p ++ y :: r)) : x = y := by
  have h0 : crcByte 4294967295 k < 4294967296 := crcByte_lt (by omega) k
  have hp := crcFrom_lt p h0
  have e := xor_left_inj h
  unfold crcFrom at e hp
  rw [List.foldl_append, List.foldl_append] at e
  exact crcByte_inj_x hp (crcFrom_inj r (crcByte_lt hp x) (crcByte_lt hp y) e)
theorem sumOf_kind (b : Bs) {k l : UInt8} (h : sumOf k b = sumOf l b) : k = l :=
  crcByte_inj_x (by omega) (crcFrom_inj b (crcByte_lt (by omega) k) (crcByte_lt (by omega) l) (xor_left_inj h))

/-! ### numbers of some bytes -/
def be : Nat → Nat → Bs
  | _, 0 => []
  | n, k + 1 => UInt8.ofNat (n / 256 ^ k) :: be n k
def beNat (b : Bs) : Nat := b.foldl (fun n x => n * 256 + x.toNat) 0
theorem be_length (n k : Nat) : (be n k).length = k := by
  induction k with
  | zero => rfl
  | succ k ih => simp [be, ih]
theorem beNat_go (b : Bs) : ∀ a, b.foldl (fun n x => n * 256 + x.toNat) a = a * 256 ^ b.length + beNat b := by
  unfold beNat
  induction b with
  | nil => intro a; simp
  | cons x r ih =>
    intro a
    simp only [List.foldl_cons, List.length_cons]
    rw [ih (a * 256 + x.toNat), ih (0 * 256 + x.toNat), Nat.pow_succ]
    rw [Nat.zero_mul, Nat.zero_add, Nat.add_mul, Nat.mul_assoc, Nat.mul_comm 256, Nat.add_assoc]
theorem beNat_cons (x : UInt8) (r : Bs) : beNat (x :: r) = x.toNat * 256 ^ r.length + beNat r := by
  have := beNat_go r x.toNat
  unfold beNat at *
  simpa using this
theorem beNat_be (n k : Nat) : beNat (be n k) = n % 256 ^ k := by
  induction k with
  | zero => simp [be, beNat, Nat.mod_one]
  | succ k ih =>
    rw [be, beNat_cons, ih, be_length, UInt8.toNat_ofNat']
    have e : n % 256 ^ (k + 1) = n % 256 ^ k + 256 ^ k * (n / 256 ^ k % 256) := by rw [Nat.pow_succ, Nat.mod_mul]
    rw [e, Nat.mul_comm, Nat.add_comm]
theorem beNat_lt (b : Bs) : beNat b < 256 ^ b.length := by
  induction b with
  | nil => simp [beNat]
  | cons x r ih =>
    rw [beNat_cons, List.length_cons, Nat.pow_succ]
    have := UInt8.toNat_lt x
    have h1 : x.toNat * 256 ^ r.length ≤ 255 * 256 ^ r.length := Nat.mul_le_mul_right _ (by omega)
    have h2 : (256 : Nat) ^ r.length * 256 = 255 * 256 ^ r.length + 256 ^ r.length := by omega
    omega
theorem beNat_snoc (b : Bs) (x : UInt8) : beNat (b ++ [x]) = beNat b * 256 + x.toNat := by simp [beNat, List.foldl_append]

/-! ### frames -/
def sizeOf' (n : Nat) : Nat := n + 9
def frame (k : UInt8) (body : Bs) : Bs := (k :: be body.length 2) ++ be (65535 - body.length % 65536) 2 ++ body ++ be (sumOf k body) 4
theorem frame_length (k : UInt8) (body : Bs) : (frame k body).length = body.length + 9 := by simp [frame, be_length]; omega

/-- What stands at the front of bytes: the kind, the body, how many bytes the record has. -/
def openR (b : Bs) : Option (UInt8 × Bs × Nat) :=
  if b.length < 9 then none
  else if b.getD 0 0 = 0 then none
  else
    let n := (b.getD 1 0).toNat * 256 + (b.getD 2 0).toNat
    if n ≠ (255 - (b.getD 3 0).toNat) * 256 + (255 - (b.getD 4 0).toNat) then none
    else if b.length < n + 9 then none
    else
      let body := (b.drop 5).take n
      if beNat ((b.drop (5 + n)).take 4) ≠ sumOf (b.getD 0 0) body then none
      else some (b.getD 0 0, body, n + 9)

theorem be2 (n : Nat) : be n 2 = [UInt8.ofNat (n / 256), UInt8.ofNat n] := by simp [be]
set_option maxRecDepth 10000 in
theorem openR_frame (k : UInt8) (body rest : Bs) (hk : k ≠ 0) (hl : body.length < 65536) : openR (frame k body ++ rest) = some (k, body, body.length + 9) := by
  have e : frame k body ++ rest = k :: UInt8.ofNat (body.length / 256) :: UInt8.ofNat body.length :: UInt8.ofNat ((65535 - body.length) / 256) :: UInt8.ofNat (65535 - body.length) :: (body ++ (be (sumOf k body) 4 ++ rest)) := by
    unfold frame
    rw [be2, be2, Nat.mod_eq_of_lt hl]
    generalize be (sumOf k body) 4 = s
    generalize 65535 - body.length = z
    simp only [List.cons_append, List.nil_append, List.append_assoc]
  have hn : (UInt8.ofNat (body.length / 256)).toNat * 256 + (UInt8.ofNat body.length).toNat = body.length := by
    rw [UInt8.toNat_ofNat', UInt8.toNat_ofNat']; omega
  have hm : (255 - (UInt8.ofNat ((65535 - body.length) / 256)).toNat) * 256 + (255 - (UInt8.ofNat (65535 - body.length)).toNat) = body.length := by
    obtain ⟨z, hz, hz2⟩ : ∃ z, 65535 - body.length = z ∧ z + body.length = 65535 := ⟨_, rfl, by omega⟩
    rw [hz, UInt8.toNat_ofNat', UInt8.toNat_ofNat']; omega
  rw [e]
  unfold openR
  simp only [List.length_cons, List.length_append, be_length, List.getD_cons_zero, List.getD_cons_succ]
  rw [if_neg (by omega), if_neg hk]
  simp only [hn, hm]
  rw [if_neg (by simp), if_neg (by omega)]
  have d1 : List.drop 5 (k :: UInt8.ofNat (body.length / 256) :: UInt8.ofNat body.length :: UInt8.ofNat ((65535 - body.length) / 256) :: UInt8.ofNat (65535 - body.length) :: (body ++ (be (sumOf k body) 4 ++ rest))) = body ++ (be (sumOf k body) 4 ++ rest) := rfl
  rw [← List.drop_drop, d1, List.take_left' rfl, List.drop_left' rfl, List.take_left' (be_length _ _), beNat_be, Nat.mod_eq_of_lt (sumOf_lt k body)]
  simp
theorem openR_some {b : Bs} {k : UInt8} {body : Bs} {n : Nat} (h : openR b = some (k, body, n)) : k ≠ 0 ∧ n = body.length + 9 ∧ n ≤ b.length ∧ body = (b.drop 5).take (n - 9) ∧ body.length < 65536 := by
  unfold openR at h
  split at h
  · cases h
  split at h
  · cases h
  simp only at h
  split at h
  · cases h
  split at h
  · cases h
  split at h
  · cases h
  rename_i h1 h2 h3 h4 h5
  simp only [Option.some.injEq, Prod.mk.injEq] at h
  obtain ⟨rfl, rfl, rfl⟩ := h
  have := UInt8.toNat_lt (b.getD 1 0)
  have := UInt8.toNat_lt (b.getD 2 0)
  have hl : ((b.drop 5).take ((b.getD 1 0).toNat * 256 + (b.getD 2 0).toNat)).length = (b.getD 1 0).toNat * 256 + (b.getD 2 0).toNat := by
    rw [List.length_take, List.length_drop, Nat.min_eq_left]; omega
  exact ⟨h2, by rw [hl], Nat.le_of_not_lt h4, by rw [Nat.add_sub_cancel], by rw [hl]; omega⟩

end Go.Proofs.YtdhobpbngkainaaDoor
