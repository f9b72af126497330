/-
  Ours. Steps: two arrays compared; a slice taken for an array.
-/
import Derived.Test.YtdhobpbngkainaaDoorArrEq
namespace Go.Proofs.YtdhobpbngkainaaDoor
open Go.RowKit

set_option maxRecDepth 100000 in
theorem run_guard_arr {t : Nat} (hg : Tryd.prog.eqGuardType Tryd.prog.depth t = false) (b : BinOp) (x y : Operand) (A B : Array Value) (w : World) : (eqGuard b t x y (.agg A) (.agg B)).run Tryd.prog w = .ok () w := by
  have hp : ∀ w, Sem.run Tryd.prog program w = .ok Tryd.prog w := fun _ => rfl
  have h1 : (!Tryd.prog.eqGuardType Tryd.prog.depth t) = true := by rw [hg]; rfl
  cases b <;> first | rfl | (unfold eqGuard; simp only [Bool.not_true, Bool.false_eq_true, if_false, Sem.run_bind, hp, Result.andThen_ok, h1, if_true, Sem.run_pure])
/-- Two arrays compared, in the head of a region that draws. -/
theorem wpStill_cmp {ops : Array Oper} {w : World} {Q : Act → Prop} {a : Act} {op : Oper} {rest : List Oper} (hgd : op.guard = none) (b : BinOp) (t : TypeId) (x y : Operand) (ty : TypeId) (ho : op.op = .binOp b t x y ty)
    (hg : Tryd.prog.eqGuardType Tryd.prog.depth t = false) (A B : Array Value) (v : Value) (hn : (binOp b t (.agg A) (.agg B)).run Tryd.prog w = .ok v w) (hx : a.eval x = .agg A) (hy : a.eval y = .agg B)
    (h : wpStill Tryd.prog ops w Q rest (a.put op.dst v)) : wpStill Tryd.prog ops w Q (op :: rest) a := by
  refine wpStill_step (fun K hK => ?_)
  have hw : Region.wanted op (yielded ops a.tmps) = true := by simp [Region.wanted, hgd]
  rw [if_pos hw]
  unfold Oper.still execOp
  simp only [ho, hx, hy, Sem.run_bind, run_guard_arr hg, Result.andThen_ok, hn, Oper.stillUpon, Sem.run_pure]
  exact ⟨trivial, hK _ h⟩
/-- The same, in a region in the text's order. -/
theorem wpList_cmp {ops : Array Oper} {w : World} {Q : Exit → Act → World → Prop} {a : Act} {op : Oper} {rest : List Oper} (hgd : op.guard = none) (b : BinOp) (t : TypeId) (x y : Operand) (ty : TypeId) (ho : op.op = .binOp b t x y ty)
    (hg : Tryd.prog.eqGuardType Tryd.prog.depth t = false) (A B : Array Value) (v : Value) (hn : (binOp b t (.agg A) (.agg B)).run Tryd.prog w = .ok v w) (hx : a.eval x = .agg A) (hy : a.eval y = .agg B)
    (h : wpList Tryd.prog ops Q rest (a.put op.dst v) w) : wpList Tryd.prog ops Q (op :: rest) a w := by
  refine wpList_plain hgd fun K hK => ?_
  unfold Oper.wp execOp
  simp only [ho, hx, hy, Sem.run_bind, run_guard_arr hg, Result.andThen_ok, hn, Sem.run_pure]
  exact hK _ _ h
/-- A slice that is long enough, taken for an array. -/
theorem run_arrayAt (ad : Addr) (len cap : Nat) (h : 128 ≤ len) (w : World) : (Instr.arrayAt 63 (.slice (some ad) len cap)).run Tryd.prog w = .ok (.pointer (some ad)) w := by
  have h' : ¬ len < 128 := by omega
  unfold Instr.arrayAt
  simp [run_underlying Tryd.underlying63, h']
theorem wpStill_arr {ops : Array Oper} {w : World} {Q : Act → Prop} {a : Act} {op : Oper} {rest : List Oper} (hgd : op.guard = none) (x : Operand) (ho : op.op = .sliceToArrayPointer 63 x)
    (ad : Addr) (len cap : Nat) (hl : 128 ≤ len) (hx : a.eval x = .slice (some ad) len cap)
    (h : wpStill Tryd.prog ops w Q rest (a.put op.dst (.pointer (some ad)))) : wpStill Tryd.prog ops w Q (op :: rest) a := by
  refine wpStill_step (fun K hK => ?_)
  have hw : Region.wanted op (yielded ops a.tmps) = true := by simp [Region.wanted, hgd]
  rw [if_pos hw]
  unfold Oper.still execOp
  simp only [ho, hx, Sem.run_bind, run_arrayAt ad len cap hl, Result.andThen_ok, Oper.stillUpon, Sem.run_pure]
  exact ⟨trivial, hK _ h⟩
theorem guard42 : Tryd.prog.eqGuardType Tryd.prog.depth 63 = false := by kernel_rfl
theorem guardSec : Tryd.prog.eqGuardType Tryd.prog.depth 64 = false := by kernel_rfl
end Go.Proofs.YtdhobpbngkainaaDoor
