/-
  Ours. How a content is cut, in plain words: the gear of a byte, the state of a cutter, the cuts of a list. No condition; no program.
-/
import Derived.Test.YtdhobpbngkainaaBase
namespace Go.Proofs.Ytdhobpbngkainaa

/-- P3's G, as the walk spells it. -/
def gearI (c : Int) : Int :=
  bits BinOp.xor IntKind.u32
    (bits BinOp.xor IntKind.u32 ((c + 1) * 2654435769 % 4294967296) ((c + 1) * 2654435769 % 4294967296 / 65536) * 2246822507 % 4294967296)
    (bits BinOp.xor IntKind.u32 ((c + 1) * 2654435769 % 4294967296) ((c + 1) * 2654435769 % 4294967296 / 65536) * 2246822507 % 4294967296 / 8192)
def hashI (h c : Int) : Int := (h * 2 + gearI c) % 4294967296
/-- Does a chunk end where the hash is h and the chunk has n bytes? -/
def endsB (h : Int) (n : Nat) : Bool :=
  if 256 ≤ n then true
  else if 64 ≤ n then !(bits BinOp.and IntKind.u32 h 15 != 0)
  else if 16 ≤ n then !(bits BinOp.and IntKind.u32 h 255 != 0)
  else false

theorem ends_256 {h : Int} {n : Nat} (h1 : 256 ≤ n) : endsB h n = true := by unfold endsB; rw [if_pos h1]
theorem ends_64 {h : Int} {n : Nat} {v : Bool} (h1 : n < 256) (h2 : 64 ≤ n) (hv : (bits BinOp.and IntKind.u32 h 15 != 0) = v) : endsB h n = !v := by
  unfold endsB; rw [if_neg (by omega), if_pos h2, hv]
theorem ends_16 {h : Int} {n : Nat} {v : Bool} (h1 : n < 64) (h2 : 16 ≤ n) (hv : (bits BinOp.and IntKind.u32 h 255 != 0) = v) : endsB h n = !v := by
  unfold endsB; rw [if_neg (by omega), if_neg (by omega), if_pos h2, hv]
theorem ends_0 {h : Int} {n : Nat} (h1 : n < 16) : endsB h n = false := by unfold endsB; rw [if_neg (by omega), if_neg (by omega), if_neg (by omega)]

def gearsA : Array Value := ((List.range 256).map fun k : Nat => Value.int .u32 (gearI k)).toArray
/-- The cells of a cutter. -/
def cutC (h : Int) (n : Nat) : Array Value := gearsA ++ #[.int .u32 h, .int .i64 n]
def gearsTo (k : Nat) : Array Value := ((List.range k).map (fun k : Nat => Value.int .u32 (gearI k)) ++ (List.replicate (256 - k) (Value.int .u32 0) ++ [Value.int .u32 0, Value.int .i64 0])).toArray

theorem gearsA_size : gearsA.size = 256 := by simp [gearsA]
theorem cutC_size (h : Int) (n : Nat) : (cutC h n).size = 258 := by simp [cutC, gearsA_size]
theorem cutC_h (h : Int) (n : Nat) : (cutC h n)[256]? = some (.int .u32 h) := by
  simp [cutC, Array.getElem?_append, gearsA_size]
theorem cutC_n (h : Int) (n : Nat) : (cutC h n)[257]? = some (.int .i64 n) := by
  simp [cutC, Array.getElem?_append, gearsA_size]
theorem cutC_g (h : Int) (n c : Nat) (hc : c < 256) : (cutC h n)[c]? = some (.int .u32 (gearI c)) := by
  rw [cutC, Array.getElem?_append, if_pos (by rw [gearsA_size]; exact hc)]
  simp [gearsA, hc]
theorem set_tail2 (g : Array Value) (a b a' : Value) (k : Nat) (hk : g.size = k) : (g ++ #[a, b]).setIfInBounds k a' = g ++ #[a', b] := by
  subst hk
  rw [Array.setIfInBounds_append_right (Nat.le_refl _)]; simp
theorem set_tail2' (g : Array Value) (a b b' : Value) (k : Nat) (hk : g.size + 1 = k) : (g ++ #[a, b]).setIfInBounds k b' = g ++ #[a, b'] := by
  subst hk
  rw [Array.setIfInBounds_append_right (by omega)]; simp
theorem cutC_set_h (h h' : Int) (n : Nat) : (cutC h n).setIfInBounds 256 (.int .u32 h') = cutC h' n := set_tail2 _ _ _ _ _ gearsA_size
theorem cutC_set_n (h : Int) (n n' : Nat) (v : Value) (hv : v = .int .i64 n') : (cutC h n).setIfInBounds 257 v = cutC h n' := by
  subst hv; exact set_tail2' _ _ _ _ _ (by rw [gearsA_size])
theorem gearsTo_full : gearsTo 256 = cutC 0 0 := by
  simp [gearsTo, cutC, gearsA]
theorem gearsTo_size (k : Nat) (hk : k ≤ 256) : (gearsTo k).size = 258 := by simp [gearsTo]; omega
theorem gearsTo_set (k : Nat) (hk : k < 256) : (gearsTo k).setIfInBounds k (.int .u32 (gearI k)) = gearsTo (k + 1) := by
  apply Array.ext'
  simp only [gearsTo, Array.toList_setIfInBounds]
  rw [List.set_append, if_neg (by simp)]
  obtain ⟨m, hm⟩ : ∃ m, 256 - k = m + 1 := ⟨256 - k - 1, by omega⟩
  have hm' : 256 - (k + 1) = m := by omega
  rw [hm, hm']
  simp [List.range_succ, List.replicate_succ]
theorem gearsTo_get (k : Nat) (hk : k < 256) : (gearsTo k)[k]? = some (.int .u32 0) := by
  simp only [gearsTo, List.getElem?_toArray]
  rw [List.getElem?_append_right (by simp)]
  obtain ⟨m, hm⟩ : ∃ m, 256 - k = m + 1 := ⟨256 - k - 1, by omega⟩
  rw [hm]; simp [List.replicate_succ]

theorem gearI_range (c : Int) : 0 ≤ gearI c ∧ gearI c < 4294967296 := by
  unfold gearI bits IntKind.wrap
  simp [IntKind.bits, IntKind.signed]
  omega
theorem hashI_range (h c : Int) : 0 ≤ hashI h c ∧ hashI h c < 4294967296 := by unfold hashI; omega
theorem bits_and0 (x : Int) : (bits BinOp.and IntKind.u32 x 0 != 0) = false := by
  have h : bits BinOp.and IntKind.u32 x 0 = 0 := by
    show IntKind.u32.wrap ((BitVec.ofInt 32 x &&& BitVec.ofInt 32 0).toNat : Int) = 0
    rw [show BitVec.ofInt 32 0 = 0#32 from rfl, BitVec.and_zero]; rfl
  simp [h]

/-- THE LENGTHS OF A CONTENT's CHUNKS, a cutter standing at (h, n). -/
def cutsN : Int → Nat → List UInt8 → List Nat
  | _, _, [] => []
  | h, n, c :: cs => if endsB (hashI h c.toNat) (n + 1) || cs.isEmpty then (n + 1) :: cutsN 0 0 cs else cutsN (hashI h c.toNat) (n + 1) cs
def lensOf (data : List UInt8) : List Nat := cutsN 0 0 data

theorem cutsN_yes (h : Int) (n : Nat) (c : UInt8) (cs : List UInt8) (e : endsB (hashI h c.toNat) (n + 1) = true) : cutsN h n (c :: cs) = (n + 1) :: cutsN 0 0 cs := by
  rw [cutsN]; simp [e]
theorem cutsN_last (h : Int) (n : Nat) (c : UInt8) : cutsN h n [c] = [n + 1] := by rw [cutsN]; simp [cutsN]
theorem cutsN_no (h : Int) (n : Nat) (c : UInt8) (cs : List UInt8) (e : endsB (hashI h c.toNat) (n + 1) = false) (hcs : cs ≠ []) : cutsN h n (c :: cs) = cutsN (hashI h c.toNat) (n + 1) cs := by
  rw [cutsN]; simp [e, hcs]

theorem cutsN_length_le (l : List UInt8) : ∀ h n, (cutsN h n l).length ≤ l.length := by
  induction l with
  | nil => intro h n; simp [cutsN]
  | cons c cs ih =>
    intro h n
    rw [cutsN]
    split
    · have := ih 0 0; simp; omega
    · have := ih (hashI h c.toNat) (n + 1); simp; omega
theorem cutsN_sum (l : List UInt8) : ∀ h n, l ≠ [] → (cutsN h n l).sum = l.length + n := by
  induction l with
  | nil => intro h n hl; exact absurd rfl hl
  | cons c cs ih =>
    intro h n _
    rw [cutsN]
    split
    · by_cases hc : cs = []
      · subst hc; simp [cutsN]; omega
      · have := ih 0 0 hc; simp; omega
    · rename_i hn
      have hc : cs ≠ [] := by intro hc; subst hc; simp at hn
      have := ih (hashI h c.toNat) (n + 1) hc; simp; omega
theorem lensOf_sum (l : List UInt8) : (lensOf l).sum = l.length := by
  by_cases h : l = []
  · subst h; simp [lensOf, cutsN]
  · have := cutsN_sum l 0 0 h; simpa [lensOf] using this
theorem lensOf_length_le (l : List UInt8) : (lensOf l).length ≤ l.length := cutsN_length_le l 0 0

/-- A block's bytes from a place on. -/
def HasBytes (w : World) (d off : Nat) (l : List UInt8) : Prop := ∀ j (h : j < l.length), w.cell? ⟨d, off + j, none⟩ = some (.int .u8 ((l[j]'h).toNat : Nat))
theorem HasBytes.keep {S : Nat → Prop} {w w' : World} {d off : Nat} {l : List UInt8} (h : HasBytes w d off l) (hm : Mods S w w') (hS : ¬ S d) : HasBytes w' d off l := fun j hj => by
  have hc := h j hj
  have hlt := World.block_lt_of_cell? w _ hc
  exact (World.cell?_of_block (w := w) (hm.block d hlt hS)).trans hc

end Go.Proofs.Ytdhobpbngkainaa
