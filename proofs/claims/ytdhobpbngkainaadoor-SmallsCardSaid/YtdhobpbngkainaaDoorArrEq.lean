/-
  Ours. Arrays of bytes: when two are equal, as the program asks.
-/
import Derived.Test.YtdhobpbngkainaaDoorArea
import Derived.DeepKeys
import Derived.ChangeKeys
namespace Go.Proofs.YtdhobpbngkainaaDoor
open Go.RowKit

theorem arr_lits {t n : Nat} (ht : Tryd.prog.underlying t = some (.array n 5)) (hc : Tryd.prog.cellsOf t = n) (d : Nat) (s : Bs) (hs : s.length = n) :
    Tryd.prog.keyLits (d + 2) t (s.map enc8) = some (s.map fun x => Lit.int .u8 x.toNat) := by
  have h1 : Tryd.prog.cellsOf 5 = 1 := by kernel_rfl
  have e0 : Tryd.prog.keyLits (d + 2) t (s.map enc8) = if (s.map enc8).length = n then ((List.range n).mapM fun i => Tryd.prog.keyLits (d + 1) 5 (((s.map enc8).drop i).take 1)).map List.flatten else none := by
    conv => lhs; unfold Program.keyLits
    simp only [ht, hc, h1, Nat.mul_one]
  rw [e0, if_pos (by simpa using hs)]
  have hm : ∀ (m : Nat) (l : Bs) (o : Nat), (s.drop o).take m = l → l.length = m → (List.range' o m).mapM (fun i => Tryd.prog.keyLits (d + 1) 5 (((s.map enc8).drop i).take 1)) = some (l.map fun x => [Lit.int .u8 x.toNat]) := by
    intro m
    induction m with
    | zero => intro l o h hl; simp at hl; subst hl; rfl
    | succ m ih =>
      intro l o h hl
      cases l with
      | nil => simp at hl
      | cons x r =>
        have ho : o < s.length := by
          rcases Nat.lt_or_ge o s.length with h' | h'
          · exact h'
          · rw [List.drop_of_length_le h'] at h; simp at h
        rw [List.drop_eq_getElem_cons ho, List.take_succ_cons] at h
        obtain ⟨rfl, hr⟩ := List.cons.inj h
        have e1 : ((s.map enc8).drop o).take 1 = [enc8 s[o]] := by
          rw [List.drop_eq_getElem_cons (show o < (s.map enc8).length by simpa using ho)]
          simp only [List.take_succ_cons, List.take_zero, List.getElem_map]
        have e2 : Tryd.prog.keyLits (d + 1) 5 [enc8 s[o]] = some [Lit.int .u8 s[o].toNat] := by
          have := UInt8.toNat_lt s[o]
          have hw : (Lit.int .u8 (s[o].toNat : Int)).wf = true := by simp [Lit.wf, IntKind.min, IntKind.max, IntKind.bits, IntKind.signed]; omega
          simp only [Program.keyLits, Tryd.underlying5, enc8]
          exact if_pos ⟨trivial, hw⟩
        rw [List.range'_succ, List.mapM_cons, e1, e2]
        rw [ih r (o + 1) hr (by simpa using hl)]
        rfl
  have hf : ∀ l : Bs, (l.map fun x => [Lit.int IntKind.u8 (x.toNat : Int)]).flatten = l.map fun x => Lit.int IntKind.u8 (x.toNat : Int) := fun l => by
    induction l with
    | nil => rfl
    | cons x r ih => rw [List.map_cons, List.map_cons, List.flatten_cons, ih]; rfl
  have hm0 := hm n s 0 (by rw [List.drop_zero]; exact List.take_of_length_le (by omega)) hs
  rw [List.range_eq_range', hm0, Option.map_some, hf]
theorem lits_inj {a b : Bs} (h : (a.map fun x => Lit.int IntKind.u8 x.toNat) = b.map fun x => Lit.int IntKind.u8 x.toNat) : a = b := by
  induction a generalizing b with
  | nil => cases b with
    | nil => rfl
    | cons y r => simp at h
  | cons x r ih => cases b with
    | nil => simp at h
    | cons y s =>
      simp only [List.map_cons, List.cons.injEq, Lit.int.injEq, true_and] at h
      obtain ⟨h1, h2⟩ := h
      rw [ih h2, UInt8.toNat_inj.1 (show x.toNat = y.toNat by omega)]
set_option maxRecDepth 100000 in
/-- What the program asks of two arrays of bytes. -/
theorem run_equal_arr {t n : Nat} (ht : Tryd.prog.underlying t = some (.array n 5)) (hc : Tryd.prog.cellsOf t = n) (hk : Tryd.prog.keyTypeAt 2 t = true) (hk2 : Tryd.prog.keyType t = true) (hsz : Tryd.prog.types.size + 1 = 192 + 1)
    (a b : Bs) (ha : a.length = n) (hb : b.length = n) (w : World) : (Op.equal t (.agg (row8 a)) (.agg (row8 b))).run Tryd.prog w = .ok (decide (a = b)) w := by
  have key : ∀ s : Bs, s.length = n → keyOf Tryd.prog t (.agg (row8 s)) = some (.string (keyBytes (s.map fun x => Lit.int .u8 x.toNat))) := fun s hs => by
    unfold keyOf
    rw [ht]
    simp only [hk2, Value.formed, ht, hc, row8_size, hs, beq_self_eq_true, Bool.and_self, if_true]
    rw [hsz]
    show (Tryd.prog.keyLits (192 - 1 + 2) t (row8 s).toList).map _ = _
    rw [show (row8 s).toList = s.map enc8 from rfl, arr_lits ht hc _ s hs]
    rfl
  obtain ⟨r, hr, hiff⟩ := run_equal_deep w (m := 2) (by decide) hk (by rw [ht]) (key a ha) (key b hb)
  rw [hr]
  congr 1
  rw [Bool.eq_iff_iff, hiff, decide_eq_true_iff]
  constructor
  · intro e
    have e' : keyBytes (a.map fun x => Lit.int .u8 x.toNat) = keyBytes (b.map fun x => Lit.int .u8 x.toNat) := by simpa using e
    exact lits_inj (Go.keyLits_inj (arr_lits ht hc 0 a ha) (arr_lits ht hc 0 b hb) e')
  · rintro rfl; rfl
theorem neq_arr {t n : Nat} (ht : Tryd.prog.underlying t = some (.array n 5)) (hc : Tryd.prog.cellsOf t = n) (hk : Tryd.prog.keyTypeAt 2 t = true) (hk2 : Tryd.prog.keyType t = true) (hsz : Tryd.prog.types.size + 1 = 192 + 1)
    (a b : Bs) (ha : a.length = n) (hb : b.length = n) (w : World) : (binOp .neq t (.agg (row8 a)) (.agg (row8 b))).run Tryd.prog w = .ok (.bool (!decide (a = b))) w := by
  simp only [binOp, Sem.run_bind, run_equal_arr ht hc hk hk2 hsz a b ha hb w, Result.andThen_ok, Sem.run_pure]
theorem eql_arr {t n : Nat} (ht : Tryd.prog.underlying t = some (.array n 5)) (hc : Tryd.prog.cellsOf t = n) (hk : Tryd.prog.keyTypeAt 2 t = true) (hk2 : Tryd.prog.keyType t = true) (hsz : Tryd.prog.types.size + 1 = 192 + 1)
    (a b : Bs) (ha : a.length = n) (hb : b.length = n) (w : World) : (binOp .eql t (.agg (row8 a)) (.agg (row8 b))).run Tryd.prog w = .ok (.bool (decide (a = b))) w := by
  simp only [binOp, Sem.run_bind, run_equal_arr ht hc hk hk2 hsz a b ha hb w, Result.andThen_ok, Sem.run_pure]
theorem neq_arr42 (a b : Bs) (ha : a.length = 128) (hb : b.length = 128) (w : World) : (binOp .neq 63 (.agg (row8 a)) (.agg (row8 b))).run Tryd.prog w = .ok (.bool (!decide (a = b))) w :=
  neq_arr Tryd.underlying63 (by kernel_rfl) (by kernel_rfl) (by kernel_rfl) (by kernel_rfl) a b ha hb w
theorem neq_sec (a b : Bs) (ha : a.length = 128) (hb : b.length = 128) (w : World) : (binOp .neq 64 (.agg (row8 a)) (.agg (row8 b))).run Tryd.prog w = .ok (.bool (!decide (a = b))) w :=
  neq_arr Tryd.underlying64 (by kernel_rfl) (by kernel_rfl) (by kernel_rfl) (by kernel_rfl) a b ha hb w
theorem eql_sec (a b : Bs) (ha : a.length = 128) (hb : b.length = 128) (w : World) : (binOp .eql 64 (.agg (row8 a)) (.agg (row8 b))).run Tryd.prog w = .ok (.bool (decide (a = b))) w :=
  eql_arr Tryd.underlying64 (by kernel_rfl) (by kernel_rfl) (by kernel_rfl) (by kernel_rfl) a b ha hb w
end Go.Proofs.YtdhobpbngkainaaDoor
