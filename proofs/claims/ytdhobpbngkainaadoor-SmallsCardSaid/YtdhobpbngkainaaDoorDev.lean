/-
  Ours. The device in memory: what its blocks are, and what its calls do. Its power is not cut.
-/
import Derived.Test.YtdhobpbngkainaaDoorProg
import Derived.Test.YtdhobpbngkainaaDoorHeap
import Derived.Test.YtdhobpbngkainaaDoorRecPlain
import Derived.Test.YtdhobpbngkainaaDoorRow8
import Derived.Deep.RegionHeld3
import Derived.Deep.MidRow
import Derived.Laws.Rows
import Derived.StillTailTactics
import Derived.Deep.RegionLaw
import Derived.RangeFuncBox
import Derived.Great.BuildSlice
namespace Go.Proofs.YtdhobpbngkainaaDoor
open Go.RowKit

/-! ### sectors -/
def zeros (n : Nat) : Bs := List.replicate n 0
def zsec : Array Value := row8 (zeros 128)
theorem zeroSec (w : World) : (zeroValue 64).run Tryd.prog w = .ok (.agg zsec) w := by kernel_rfl
theorem secInfo : (Tryd.prog.info? 64).map (·.size) = some 128 := by kernel_rfl
theorem secInfo3 : (Tryd.prog.info? 64).map (fun i => (i.zero, i.size, i.bytes)) = some (some (.agg zsec), 128, 128) := by kernel_rfl
def zchg : Value := .agg (#[.int .i64 0] ++ zsec)
theorem chgInfo3 : (Tryd.prog.info? 111).map (fun i => (i.zero, i.size, i.bytes)) = some (some zchg, 129, 136) := by kernel_rfl
theorem zchg_size : zchg.cells.size = 129 := by kernel_rfl
theorem rangeAt_row {w : World} {b : Nat} {l : Bs} {t : TypeId} {fz : Nat × Nat} (h : w.heap[b]? = some (.cells (row8 l) t fz)) (o n : Nat) : w.rangeAt b o (((l.drop o).take n).map enc8) := fun j v hv => by
  refine cell_at h (o + j) ?_
  simp only [row8, List.getElem?_toArray, List.getElem?_map] at hv ⊢
  rw [List.getElem?_take] at hv
  split at hv
  · rw [List.getElem?_drop] at hv; exact hv
  · simp at hv
theorem there_row {w : World} {b : Nat} {l : Bs} {t : TypeId} (h : w.heap[b]? = some (.cells (row8 l) t (0, 0))) (o n : Nat) (hn : o + n ≤ l.length) : w.there b o n := fun j hj => by
  rw [cell_at h (o + j) (row8_get l (o + j) (by omega))]
  exact ⟨rfl, free_at h _⟩

theorem secHi {s : Bs} (h : s.length = 128) : (Tryd.prog.info? 64).map (·.size) = some (s.map enc8).length := by rw [List.length_map, h]; exact secInfo
theorem secHr {s : Bs} (h : s.length = 128) : (Tryd.prog.info? 64).map (·.size) = some (row8 s).size := by rw [row8, List.size_toArray]; exact secHi h
theorem row8_size (s : Bs) : (row8 s).size = s.length := by simp [row8]
theorem row8_one (s : Bs) : (row8 s).all (·.oneCell') = true := all_oneCell_toArray (enc8_one s)
/-- Two results: an array that lies in memory, and a slot. -/
theorem results_row_tmp {P : Program} {fn : Func} {p q : Tmp} {ty : TypeId} (h : fn.results = #[.cell p ty, .tmp q]) (tmps : Array Value) (w : World) (g : Nat) (t : TypeId) (cs : Array Value) (fr : Nat × Nat) (d : TypeDesc)
    (hp : tmps.getD p undef = .pointer (some ⟨g, 0, none⟩)) (hg : w.heap[g]? = some (.cells cs t fr))
    (hu : P.underlying ty = some d) (hd : (match d with | .struct _ | .array _ _ => true | _ => false) = true) (hi : (P.info? ty).map (·.size) = some cs.size) :
    (results fn tmps).run P w = .ok (.tuple #[.agg cs, tmps.getD q undef]) w := by
  have hp' : tmps[p]?.getD undef = .pointer (some ⟨g, 0, none⟩) := by simpa using hp
  simp [results, h, hp', asAddr, run_loadVar_row w g t ty cs fr d hg hu hd hi]
/-- The bytes s from place o on. -/
def putAt (l : Bs) (o : Nat) (s : Bs) : Bs := l.take o ++ s ++ l.drop (o + s.length)
theorem putAt_length {l s : Bs} {o : Nat} (h : o + s.length ≤ l.length) : (putAt l o s).length = l.length := by simp [putAt]; omega
theorem setCells_row {w : World} {b : Nat} {l : Bs} {t : TypeId} (h : w.heap[b]? = some (.cells (row8 l) t (0, 0))) (o : Nat) (s : Bs) (hn : o + s.length ≤ l.length) :
    (w.setCells b o (s.map enc8)).heap[b]? = some (.cells (row8 (putAt l o s)) t (0, 0)) ∧ Mods (fun k => k = b) w (w.setCells b o (s.map enc8)) := by
  induction s generalizing w l o with
  | nil => exact ⟨by simpa [World.setCells, putAt] using h, by simpa [World.setCells] using Mods.refl _ w⟩
  | cons x r ih =>
    simp only [List.map_cons, World.setCells]
    simp only [List.length_cons] at hn
    have h1 := set_same h o (enc8 x)
    rw [row8_set] at h1
    obtain ⟨h2, h3⟩ := ih h1 (o + 1) (by rw [List.length_set]; omega)
    refine ⟨h2.trans ?_, ((Mods.refl (fun k => k = b) w).set1 (enc8 x)).trans h3⟩
    congr 3
    obtain ⟨A, y, B, rfl, rfl⟩ : ∃ A y B, l = A ++ y :: B ∧ A.length = o := ⟨l.take o, l[o], l.drop (o + 1), by rw [← List.drop_eq_getElem_cons, List.take_append_drop], by simp; omega⟩
    unfold putAt
    rw [List.set_append_right _ _ (Nat.le_refl _), Nat.sub_self, List.set_cons_zero, List.take_append, List.take_append, List.drop_append, List.drop_append]
    simp only [List.take_of_length_le (show A.length ≤ A.length + 1 by omega), show A.length + 1 - A.length = 1 by omega, Nat.sub_self, List.take_length, List.take_zero, List.append_nil, List.length_cons]
    rw [List.drop_of_length_le (show A.length ≤ A.length + 1 + r.length by omega), List.drop_of_length_le (show A.length ≤ A.length + (r.length + 1) by omega), show A.length + 1 + r.length - A.length = r.length + 1 by omega, show A.length + (r.length + 1) - A.length = r.length + 1 by omega]
    simp

/-- A whole sector goes into a block of its own. -/
theorem setCells_sec {w : World} {b : Nat} {l s : Bs} {t : TypeId} (h : w.heap[b]? = some (.cells (row8 l) t (0, 0))) (hs : s.length = l.length) :
    (w.setCells b 0 (s.map enc8)).heap[b]? = some (.cells (row8 s) t (0, 0)) ∧ Mods (fun k => k = b) w (w.setCells b 0 (s.map enc8)) := by
  obtain ⟨h1, h2⟩ := setCells_row h 0 s (by omega)
  refine ⟨h1.trans ?_, h2⟩
  congr 3
  simp [putAt, hs]

/-- A load of a whole array, in the head of a region that draws. -/
theorem wpStill_load_mid {P : Program} {ops : Array Oper} {w : World} {Q : Act → Prop} {a : Act} {op : Oper} {rest : List Oper} (hgd : op.guard = none) (ty : TypeId) (x : Operand) (ho : op.op = .load ty x)
    (b o : Nat) (hx : a.eval x = .pointer (some ⟨b, o, none⟩)) (cs : List Value) (d : TypeDesc) (hc : w.rangeAt b o cs)
    (hu : P.underlying ty = some d) (hd : d.isRow = true) (hi : (P.info? ty).map (·.size) = some cs.length)
    (h : wpStill P ops w Q rest (a.put op.dst (.agg cs.toArray))) : wpStill P ops w Q (op :: rest) a := by
  refine wpStill_step (fun K hK => ?_)
  have hw : Region.wanted op (yielded ops a.tmps) = true := by simp [Region.wanted, hgd]
  rw [if_pos hw]
  unfold Oper.still execOp
  simp only [ho, hx, Instr.loadAt, Instr.sureAddr, Sem.run_bind, Sem.run_pure, Result.andThen_ok, run_loadVar_mid w b o ty cs d hc hu hd hi, Oper.stillUpon]
  exact ⟨trivial, hK _ h⟩
/-- The cells of an array, as the walk's simp asks for them. -/
theorem run_cells_row {P : Program} {w : World} {b : Nat} {s : Bs} {t : TypeId} {fz : Nat × Nat} (h : w.heap[b]? = some (.cells (row8 s) t fz)) (n : Nat) (hn : s.length = n) :
    (loadCellsFrom ⟨b, 0, none⟩ 0 n #[]).run P w = .ok (row8 s) w := by
  subst hn
  have := run_loadCells_list (P := P) w ⟨b, 0, none⟩ (s.map enc8) (fun j v hv => by
    rw [Addr.add_mid, Nat.zero_add]; exact cell_at h j (by simpa [row8] using hv))
  simpa [loadCells, row8] using this
/-- The load of a whole sector out of a block of its own, behind a name: so that the walk's simp does not lay it open. -/
def secLd (b : Nat) : Sem Value := Instr.loadAt 64 (.pointer (some ⟨b, 0, none⟩))
theorem secLd_eq (b : Nat) : Instr.loadAt 64 (.pointer (some ⟨b, 0, none⟩)) = secLd b := rfl
theorem secLd_run {w : World} {b : Nat} {s : Bs} {t : TypeId} {fz : Nat × Nat} (h : w.heap[b]? = some (.cells (row8 s) t fz)) (hs : s.length = 128) : (secLd b).run Tryd.prog w = .ok (.agg (row8 s)) w := by
  have := rangeAt_row h 0 128
  rw [List.drop_zero, List.take_of_length_le (by omega)] at this
  exact run_loadAt_mid w b 0 _ _ _ this Tryd.underlying64 rfl (secHi hs)
/-- append, at the operation. -/
theorem wp_append_fp {P : Program} {o : Oper} {a : Act} {w : World} {K : Act → World → Prop} {Q : Exit → Act → World → Prop}
    (s x : Operand) (t : TypeId) (hop : o.op = Op.call { callee := Callee.builtin Builtin.append, args := #[s, x], argTypes := #[t, t] })
    (e : TypeId) (i : TypeInfo) (z : Value) (size bytes : Nat) (h1 : P.underlying t = some (.slice e)) (h2 : P.info? e = some i) (h3 : i.zero = some z) (h4 : i.size = size) (h5 : i.bytes = bytes) (h6 : z.cells.size = size) (h7 : 0 < size)
    (v : Value) (k : Nat) (xs : List Value) (hs : a.eval s = v) (hown : w.ownsRow 0 e size v k xs) (ad : Addr) (m c : Nat) (news : List Value) (hx : a.eval x = .slice (some ad) m c) (hn : news.length = m * size)
    (hc : ∀ j u, news[j]? = some u → w.cell? (ad.add j) = some u) (h1c : ∀ u ∈ news, u.oneCell' = true) (b1 : k + m ≤ maxLen) (b2 : (k + m) * bytes ≤ 140737488355328)
    (hK : ∀ v' w', w'.ownsRow 0 e size v' (k + m) (xs ++ news) → w.grownBy w' v.ownBlock → (∀ g, v'.ownBlock = some g → v.ownBlock = some g ∨ w.heap.size ≤ g) → K (a.put o.dst v') w') :
    Oper.wp P o a w K Q := by
  obtain ⟨v', w', hrun, r1, r2, r3, r4⟩ := run_append_fp (P := P) w t o.type e i z size bytes h1 h2 h3 h4 h5 h6 h7 v k xs hown ad m c news hn hc h1c b1 b2
  unfold Oper.wp
  simp [execOp, hop, resolve, invoke, builtin, hs, hx, hrun, Result.andThen]
  exact hK v' w' r1 r2 r4

/-! ### structs that are built -/
def spl (l : List Value) (o : Nat) (v : List Value) : List Value := l.take o ++ v ++ l.drop (o + v.length)
theorem fill_step (place : Nat → Option (Nat × Nat)) (cells : List Value) (i : Nat) (v : Value) (off size : Nat) (rest : List (Nat × Value)) (hp : place i = some (off, size)) (hs : v.cells.size = size) (hfit : off + size ≤ cells.length) :
    Instr.fill place cells.toArray ((i, v) :: rest) = Instr.fill place (spl cells off v.cells.toList).toArray rest := by
  subst hs
  simp only [Instr.fill, hp]
  rw [if_neg (by simp; omega)]
  congr 1
  rw [← Array.foldl_toList, Array.toList_zipIdx]
  obtain ⟨h1, h2⟩ := Great.foldl_set off v.cells.toList 0 cells.toArray
  apply Array.ext_getElem?
  intro k
  rw [h2 k]
  simp only [List.getElem?_toArray, List.size_toArray, Nat.add_zero, Array.length_toList, spl, List.append_assoc]
  rcases Nat.lt_or_ge k off with hk | hk
  · rw [if_neg (by omega), List.getElem?_append_left (by simp; omega), List.getElem?_take_of_lt hk]
  · rw [List.getElem?_append_right (by simp; omega)]
    simp only [List.length_take]
    rw [show min off cells.length = off by omega]
    rcases Nat.lt_or_ge k (off + v.cells.size) with hk2 | hk2
    · rw [if_pos (by omega), List.getElem?_append_left (by simp; omega)]
    · rw [if_neg (by omega), List.getElem?_append_right (by simp; omega), List.getElem?_drop]
      congr 1; simp; omega
theorem spl_head (Z R : List Value) (x : Value) (h : Z.length = R.length + 1) : spl (spl Z 0 [x]) 1 R = x :: R := by
  cases Z with
  | nil => simp at h
  | cons z Z =>
    have h' : Z.length ≤ R.length := by simp at h; omega
    simp [spl, Nat.add_comm 1, h']
set_option maxRecDepth 100000 in
theorem build_chg (a : Int) (s : Bs) (hs : s.length = 128) : Tryd.prog.built 111 [(0, .int .i64 a), (1, .agg (row8 s))] = some (.int .i64 a :: s.map enc8).toArray := by
  have e : Tryd.prog.built 111 [(0, .int .i64 a), (1, .agg (row8 s))] = Instr.fill (#[(0, 1), (1, 128)][·]?) (zchg.cells.toList).toArray [(0, .int .i64 a), (1, .agg (row8 s))] := by kernel_rfl
  have hz : zchg.cells.toList.length = 129 := zchg_size
  rw [e]
  generalize zchg.cells.toList = Z at hz ⊢
  have h8 : (Value.agg (row8 s)).cells.toList = s.map enc8 := by simp [Value.cells, row8]
  have hl : (s.map enc8).length = 128 := by simpa using hs
  have h1 : (spl Z 0 [Value.int IntKind.i64 a]).length = 129 := by simp [spl]; omega
  rw [fill_step _ _ 0 _ 0 1 _ rfl rfl (by omega)]
  show Instr.fill _ (spl Z 0 [Value.int IntKind.i64 a]).toArray _ = _
  rw [fill_step _ _ 1 _ 1 128 _ rfl (by simp [Value.cells, row8, hs]) (by omega), h8, spl_head Z _ _ (by omega)]
  rfl
theorem wp_build_is {P : Program} {o : Oper} {a : Act} {w : World} {K : Act → World → Prop} {Q : Exit → Act → World → Prop} (t : TypeId) (parts : Array (Nat × Operand)) (ho : o.op = .build t parts) (cells : Array Value)
    (hc : P.built t (parts.map fun (i, x) => (i, a.eval x)).toList = some cells) (h : K (a.put o.dst (.agg cells)) w) : o.wp P a w K Q := by
  unfold Oper.wp execOp
  simp only [ho, Sem.run_bind, run_build w t _ cells hc, Result.andThen_ok]
  exact h
theorem slice_chg (cs : List Value) (hcs : cs.length = 129) (n m : Nat) (hn : n = 129) (hm : m = 129) (Z : Array Value) : Instr.fill (fun i => some (i * n, n)) ((Array.range (1 * n)).map (Z[· % m]!)) [(0, .agg cs.toArray)] = some cs.toArray := by
  subst hn; subst hm
  have hf := Great.fill_whole (s := 129) (by omega) [Value.agg cs.toArray] ((Array.range (1 * 129)).map (Z[· % 129]!)) (fun v hv => by simp at hv; subst hv; simpa [Value.cells] using hcs) (by simp)
  simpa [Value.cells] using hf

/-! ### the device's blocks -/
structure DevL where
  n : Nat
  sb : Nat
  nb : Nat
  chv : Value
  safe : Bs
  now : Bs
  chs : List (Nat × Bs)
def chCells (l : List (Nat × Bs)) : List Value := l.flatMap fun c => Value.int .i64 c.1 :: c.2.map enc8
def devF (d : Nat) (L : DevL) : HF :=
  (d, Is (.cells #[.slice (some ⟨L.sb, 0, none⟩) L.n L.n, .slice (some ⟨L.nb, 0, none⟩) L.n L.n, L.chv, .int .i64 (-1)] 60 (0, 0))) ::
  (L.nb, Is (.cells (row8 L.now) 64 (0, 0))) ::
  (L.sb, Is (.cells (row8 L.safe) 64 (0, 0))) ::
  rowF 111 129 L.chv L.chs.length (chCells L.chs)
def applyCh (s : Bs) (l : List (Nat × Bs)) : Bs := l.foldl (fun s c => putAt s (128 * c.1) c.2) s
structure DevOk (L : DevL) : Prop where
  hn : L.n ≤ 1099511627776
  safeL : L.safe.length = 128 * L.n
  nowL : L.now.length = 128 * L.n
  row : RowOk 129 L.chv L.chs.length (chCells L.chs)
  chs : ∀ c ∈ L.chs, c.1 < L.n ∧ c.2.length = 128
  now : applyCh L.safe L.chs = L.now
theorem devF_dev {w : World} {d : Nat} {L : DevL} {R : HF} (h : Sat w (devF d L ++ R)) : w.heap[d]? = some (.cells #[.slice (some ⟨L.sb, 0, none⟩) L.n L.n, .slice (some ⟨L.nb, 0, none⟩) L.n L.n, L.chv, .int .i64 (-1)] 60 (0, 0)) := by
  exact h.headIs
theorem devF_now {w : World} {d : Nat} {L : DevL} {R : HF} (h : Sat w (devF d L ++ R)) : w.heap[L.nb]? = some (.cells (row8 L.now) 64 (0, 0)) := by
  exact h.tail.headIs
theorem devF_safe {w : World} {d : Nat} {L : DevL} {R : HF} (h : Sat w (devF d L ++ R)) : w.heap[L.sb]? = some (.cells (row8 L.safe) 64 (0, 0)) := by
  exact h.tail.tail.headIs
/-- Sector at of what there is now. -/
def secOf (l : Bs) (at_ : Nat) : Bs := (l.drop (128 * at_)).take 128
theorem secOf_length {l : Bs} {n at_ : Nat} (h : l.length = 128 * n) (ha : at_ < n) : (secOf l at_).length = 128 := by simp [secOf]; omega

theorem devF_putNow {d : Nat} {L : DevL} {w w' : World} {now' : Bs} (h : Sat w (devF d L)) (hm : Mods (fun k => k = L.nb) w w') (hn : w'.heap[L.nb]? = some (.cells (row8 now') 64 (0, 0))) : Turns (devF d L) (devF d { L with now := now' }) w w' :=
  ((Turns.refl (h.perm (List.Perm.swap _ _ _))).putIs hm hn).perm (List.Perm.swap _ _ _) (List.Perm.swap _ _ _)
theorem devF_putSafe {d : Nat} {L : DevL} {w w' : World} {safe' : Bs} (h : Sat w (devF d L)) (hm : Mods (fun k => k = L.sb) w w') (hn : w'.heap[L.sb]? = some (.cells (row8 safe') 64 (0, 0))) : Turns (devF d L) (devF d { L with safe := safe' }) w w' := by
  have p : ∀ (a b c : Nat × (Obj → Prop)) (l : HF), (a :: b :: c :: l).Perm (c :: a :: b :: l) := fun a b c l => ((List.Perm.swap _ _ _).cons a).trans (List.Perm.swap _ _ _)
  exact ((Turns.refl (h.perm (p _ _ _ _))).putIs hm hn).perm (p _ _ _ _).symm (p _ _ _ _).symm
/-- The list of changes is another one now: the row has grown, and its head stands in the device. -/
theorem devF_putChs {d : Nat} {L : DevL} {w w1 w2 : World} {v' : Value} {chs' : List (Nat × Bs)} (h : Sat w (devF d L)) (hown : w1.ownsRow 0 111 129 v' chs'.length (chCells chs')) (hgrow : w.grownBy w1 L.chv.ownBlock)
    (hg : ∀ g, v'.ownBlock = some g → L.chv.ownBlock = some g ∨ w.heap.size ≤ g) (hm : Mods (fun k => k = d) w1 w2) (hd : w2.heap[d]? = some (.cells #[.slice (some ⟨L.sb, 0, none⟩) L.n L.n, .slice (some ⟨L.nb, 0, none⟩) L.n L.n, v', .int .i64 (-1)] 60 (0, 0))) :
    Turns (devF d L) (devF d { L with chv := v', chs := chs' }) w w2 := by
  have p : ∀ (a b c : Nat × (Obj → Prop)) (l : HF), (a :: b :: c :: l).Perm (l ++ [a, b, c]) := fun a b c l => by
    have : (a :: b :: c :: l) = [a, b, c] ++ l := rfl
    rw [this]; exact List.perm_append_comm
  have h1 : Turns (devF d L) _ w w1 := ((Turns.refl (h.perm (p _ _ _ _))).grow hown hgrow hg).perm (p _ _ _ _).symm (p _ _ _ _).symm
  exact h1.putIs hm hd
theorem chCells_snoc (l : List (Nat × Bs)) (c : Nat × Bs) : chCells (l ++ [c]) = chCells l ++ (.int .i64 c.1 :: c.2.map enc8) := by simp [chCells]
theorem applyCh_snoc (s : Bs) (l : List (Nat × Bs)) (c : Nat × Bs) : applyCh s (l ++ [c]) = putAt (applyCh s l) (128 * c.1) c.2 := by simp [applyCh]

def OffPost (w : World) (e : Ending) (w' : World) : Prop := e = .returned (.bool false) ∧ w = w'
theorem off_calls (d : Nat) (L : DevL) (w : World) (h : Sat w (devF d L)) : Calls Tryd.prog 29 #[.pointer (some ⟨d, 0, none⟩)] w (OffPost w) := by
  have hd := devF_dev (R := []) (by simpa using h)
  have c3 := cell_at hd 3 (v := .int .i64 (-1)) (by simp)
  have H := Lib.hid (And.intro h hd)
  clear h hd
  go_enter Tryd.func29, Tryd.ntmps29
  go_wp2
  go_ret
  exact ⟨rfl, rfl⟩
def SectorsPost (n : Nat) (w : World) (e : Ending) (w' : World) : Prop := e = .returned (.int .i64 n) ∧ w = w'
theorem Sectors_calls (d : Nat) (L : DevL) (w : World) (h : Sat w (devF d L)) : Calls Tryd.prog 7 #[.pointer (some ⟨d, 0, none⟩)] w (SectorsPost L.n w) := by
  have hd := devF_dev (R := []) (by simpa using h)
  have c0 := cell_at hd 0 (v := .slice (some ⟨L.sb, 0, none⟩) L.n L.n) (by simp)
  have H := Lib.hid (And.intro h hd)
  clear h hd
  go_enter Tryd.func7, Tryd.ntmps7
  go_wp2
  go_ret
  exact ⟨rfl, rfl⟩

/-- A sector that comes out by value. -/
def ReadPost (L : DevL) (at_ : Nat) (w : World) (e : Ending) (w' : World) : Prop :=
  e = .returned (.tuple #[.agg (row8 (secOf L.now at_)), .nilIface]) ∧ Same w w'
set_option maxHeartbeats 1000000 in
set_option maxRecDepth 100000 in
theorem Read_calls (d : Nat) (L : DevL) (at_ : Nat) (w : World) (h : Sat w (devF d L)) (hL : DevOk L) (ha : at_ < L.n) :
    Calls Tryd.prog 16 #[.pointer (some ⟨d, 0, none⟩), .int .i64 at_] w (ReadPost L at_ w) := by
  have hn := hL.hn
  have hd := devF_dev (R := []) (by simpa using h)
  have hnow := devF_now (R := []) (by simpa using h)
  have c0 := cell_at hd 0 (v := .slice (some ⟨L.sb, 0, none⟩) L.n L.n) (by simp)
  have c1 := cell_at hd 1 (v := .slice (some ⟨L.nb, 0, none⟩) L.n L.n) (by simp)
  have HO := Lib.hid (fun W (hs : Same w W) => off_calls d L W (h.same hs))
  have hz := zeroSec
  have g1 : decide ((at_ : Int) < 0) = false := by simp
  have g2 : decide (L.n ≤ at_) = false := by simp; omega
  have hdl : d < w.heap.size := lt_of_heap hd
  have H := Lib.hid (And.intro h (And.intro hd (And.intro hL hnow)))
  clear h hd hL hnow
  go_enter Tryd.func16, Tryd.ntmps16
  go_wp2_with fail
  refine (HO.out _ (((Mods.refl _ w).alloc _).alloc _)).mono ?_
  rintro e w1 ⟨rfl, rfl⟩
  have hsl := secOf_length H.out.2.2.1.nowL ha
  have HR := Lib.hid hsl
  clear hsl
  go_wp2_with (first | (refine wpList_load_mid rfl 64 (.tmp 35) rfl L.nb (at_ * 128) rfl ((secOf L.now at_).map enc8) _ ?c1 Tryd.underlying64 rfl (secHi HR.out) ?_) | (refine wpList_store_mid rfl 64 (.tmp 4) (.tmp 36) rfl w.heap.size 0 (row8 (secOf L.now at_)) rfl rfl ?c2 (secHr HR.out) (row8_one _) ?_))
  case c1 => rw [Nat.mul_comm]; exact World.rangeAt_alloc (World.rangeAt_alloc (rangeAt_row H.out.2.2.2 _ _) _) _
  all_goals have hw0 : ((w.alloc (Obj.cells zsec 64)).alloc (Obj.cells zsec 64)).heap[w.heap.size]? = some (.cells (row8 (zeros 128)) 64 (0, 0)) := (alloc_old (by simp)).trans (alloc_new w _)
  case c2 => exact there_row hw0 0 _ (by rw [row8_size, HR.out]; simp [zeros])
  obtain ⟨h1, h2⟩ := setCells_sec hw0 (s := secOf L.now at_) (by rw [HR.out]; simp [zeros])
  refine bodyPost_ret (results_row_tmp rfl _ _ w.heap.size 64 (row8 (secOf L.now at_)) (0, 0) _ rfl h1 Tryd.underlying64 rfl (secHr HR.out)) rfl ⟨rfl, ?_⟩
  exact (((Mods.refl _ w).alloc _).alloc _).trans' h2 (fun i hi => .inr (by omega))

/-- The change that is written, as one record. -/
def WritePost (d : Nat) (L : DevL) (at_ : Nat) (s : Bs) (w : World) (e : Ending) (w' : World) : Prop :=
  e = .returned .nilIface ∧ ∃ L', Turns (devF d L) (devF d L') w w' ∧ DevOk L' ∧ L'.n = L.n ∧ L'.now = putAt L.now (128 * at_) s ∧ L'.chs.length = L.chs.length + 1
set_option maxHeartbeats 8000000 in
set_option maxRecDepth 100000 in
theorem Write_calls (d : Nat) (L : DevL) (at_ : Nat) (s : Bs) (w : World) (h : Sat w (devF d L)) (hL : DevOk L) (ha : at_ < L.n) (hs : s.length = 128) (hc : L.chs.length ≤ 274877906944) :
    Calls Tryd.prog 19 #[.pointer (some ⟨d, 0, none⟩), .int .i64 at_, .agg (row8 s)] w (WritePost d L at_ s w) := by
  have hn := hL.hn
  have hd := devF_dev (R := []) (by simpa using h)
  have hnow := devF_now (R := []) (by simpa using h)
  have c0 := cell_at hd 0 (v := .slice (some ⟨L.sb, 0, none⟩) L.n L.n) (by simp)
  have c1 := cell_at hd 1 (v := .slice (some ⟨L.nb, 0, none⟩) L.n L.n) (by simp)
  have c2 := cell_at hd 2 (v := L.chv) (by simp)
  have f2 := free_at hd 2
  have hdl : d < w.heap.size := lt_of_heap hd
  have HO := Lib.hid (fun W (hs : Same w W) => off_calls d L W (h.same hs))
  have g1 : decide ((at_ : Int) < 0) = false := by simp
  have g2 : decide (L.n ≤ at_) = false := by simp; omega
  have H := Lib.hid (And.intro h (And.intro hd (And.intro hL (And.intro hnow hs))))
  clear h hd hL hnow hs
  go_enter Tryd.func19, Tryd.ntmps19
  go_wp2_with fail
  refine (HO.out _ (((Mods.refl _ w).alloc _))).mono ?_
  rintro e w1 ⟨rfl, rfl⟩
  go_wp2_with fail
  have hw1 := alloc_new w (.cells (row8 s) 64)
  have hs1 : Same w (w.alloc (.cells (row8 s) 64)) := (Mods.refl _ w).alloc _
  have hsz : (w.alloc (.cells (row8 s) 64)).heap.size = w.heap.size + 1 := by simp
  generalize hB : w.heap.size = B at hw1 hsz hdl ⊢
  generalize w.alloc (.cells (row8 s) 64) = w1 at hw1 hs1 hsz ⊢
  have HB := Lib.hid (And.intro hB (And.intro hw1 hs1))
  have HS := Lib.hid (H.out.1.same hs1)
  clear hB hw1 hs1 c0 c1 c2 f2 HO
  have c1 := cell_at (devF_dev (R := []) (by simpa using HS.out)) 1 (v := .slice (some ⟨L.nb, 0, none⟩) L.n L.n) (by simp)
  have hm : Tryd.prog.follows .mixedOrders = true := by kernel_rfl
  have HM := Lib.hid hm
  clear hm
  refine wp_region_still_tail 7 HM.out (by kernel_rfl) ?_
  simp only [List.take_succ_cons, List.take_zero, List.drop_succ_cons, List.drop_zero]
  repeat still_step
  refine wpStill_load_mid rfl 64 (.tmp 5) rfl B 0 rfl (s.map enc8) _ (by have := rangeAt_row HB.out.2.1 0 128; rwa [List.drop_zero, List.take_of_length_le (by have := H.out.2.2.2.2; omega)] at this) Tryd.underlying64 rfl (secHi H.out.2.2.2.2) ?_
  repeat still_step
  refine wpStill_nil ?_
  change wpList _ _ _ _ _ w1.drew
  go_wp2_with (refine wpList_store_mid rfl 64 (.tmp 34) (.tmp 33) rfl L.nb (at_ * 128) (row8 s) rfl rfl ?c2 (secHr H.out.2.2.2.2) (row8_one _) ?_)
  case c2 => exact (World.there_drew _ _ _ _).2 (there_row (devF_now (R := []) (by simpa using HS.out)) _ _ (by rw [row8_size, H.out.2.2.1.nowL, H.out.2.2.2.2]; omega))
  obtain ⟨hp1, hp2⟩ := setCells_row (w := w1.drew) (devF_now (w := w1) (d := d) (R := []) (by simpa using HS.out)) (at_ * 128) s (by rw [H.out.2.2.1.nowL, H.out.2.2.2.2]; omega)
  have hT2 := (Turns.sameThen H.out.1 HB.out.2.2 ((Turns.refl HS.out).drew)).trans (devF_putNow (HS.out.same ((Mods.refl _ w1).drew)) hp2 hp1)
  have hb2 : (w1.drew.setCells L.nb (at_ * 128) (s.map enc8)).heap[B]? = some (.cells (row8 s) 64 (0, 0)) := hp2.at HB.out.2.1 (fun e => by have := HS.out.lt (b := L.nb) (by simp [devF]); have h0 := H.out.1.lt (b := L.nb) (by simp [devF]); rw [HB.out.1] at h0; omega)
  show Code.wp _ _ _ _ (w1.drew.setCells L.nb (at_ * 128) (s.map enc8))
  refine wp_region_any HM.out ?_
  change wpAny _ _ _ _ _ _ _ (World.drew _)
  have hT3 := hT2.drew
  have hb3 : ((w1.drew.setCells L.nb (at_ * 128) (s.map enc8)).drew).heap[B]? = _ := hb2
  generalize (w1.drew.setCells L.nb (at_ * 128) (s.map enc8)).drew = w2 at hT3 hb3 ⊢
  clear hp1 hp2 hT2 hb2
  have hd2 := devF_dev (R := []) (by simpa using hT3.sat)
  have c2 := cell_at hd2 2 (v := L.chv) (by simp)
  have f2 := free_at hd2 2
  have hdl2 : d < w2.heap.size := lt_of_heap hd2
  have HRG := Lib.hid (by have := rangeAt_row (w := w2) hb3 0 128; rwa [List.drop_zero, List.take_of_length_le (by have := H.out.2.2.2.2; omega)] at this)
  obtain ⟨i0, hi0, hz1, hz2, hz3⟩ := info_parts chgInfo3
  have HBD : Hid (Tryd.prog.built 111 [(0, .int .i64 at_), (1, .agg (s.map enc8).toArray)] = some (.int .i64 at_ :: s.map enc8).toArray) := Lib.hid (build_chg at_ s H.out.2.2.2.2)
  have HSL : Hid (¬ 1 * i0.size > 2 ^ 24 ∧ ¬ 1 * i0.size = 0 ∧ Instr.fill (fun i => some (i * i0.size, i0.size)) ((Array.range (1 * i0.size)).map (zchg.cells[· % zchg.cells.size]!)) [(0, .agg (.int .i64 at_ :: s.map enc8).toArray)] = some (.int .i64 at_ :: s.map enc8).toArray) :=
    Lib.hid ⟨by rw [hz2]; omega, by rw [hz2]; omega, slice_chg _ (by simp [H.out.2.2.2.2]) _ _ hz2 zchg_size _⟩
  have HI := Lib.hid (And.intro hi0 (And.intro hz1 (And.intro hz2 hz3)))
  have hcl : (Value.int .i64 at_ :: s.map enc8).length = 1 * 129 := by simp [H.out.2.2.2.2]
  have h1c : ∀ u ∈ (Value.int .i64 at_ :: s.map enc8), u.oneCell' = true := fun u hu => by
    rcases List.mem_cons.1 hu with rfl | hu
    · rfl
    · exact enc8_one s u hu
  have hnc : ∀ j u, (Value.int .i64 at_ :: s.map enc8)[j]? = some u → (w2.alloc (.cells (Value.int .i64 at_ :: s.map enc8).toArray 111)).cell? ((⟨w2.heap.size, 0, none⟩ : Addr).add j) = some u := fun j u hu => by
    rw [Addr.add_mid, Nat.zero_add]; exact cell_at (alloc_new w2 _) j (by simpa using hu)
  obtain ⟨nw, hnw⟩ : ∃ nw, nw = w2.alloc (.cells (Value.int .i64 at_ :: s.map enc8).toArray 111) := ⟨_, rfl⟩
  have hT4 : Turns (devF d L) (devF d { L with now := putAt L.now (at_ * 128) s }) w nw := by rw [hnw]; exact hT3.alloc _
  have HW : Hid (True ∧ (w2.alloc (.cells (Value.int .i64 at_ :: s.map enc8).toArray 111)).ownsRow 0 111 129 L.chv L.chs.length (chCells L.chs)) := Lib.hid ⟨trivial, by rw [← hnw]; exact owns_of_row hT4.sat.tail.tail.tail H.out.2.2.1.row⟩
  have HA := Lib.hid (And.intro hcl (And.intro hnc h1c))
  have HD : Hid (∀ v' w3, World.ownsRow w3 0 111 129 v' (L.chs.length + 1) (chCells L.chs ++ (Value.int .i64 at_ :: s.map enc8)) → World.grownBy (w2.alloc (.cells (Value.int .i64 at_ :: s.map enc8).toArray 111)) w3 L.chv.ownBlock → (∀ g, v'.ownBlock = some g → L.chv.ownBlock = some g ∨ (w2.alloc (.cells (Value.int .i64 at_ :: s.map enc8).toArray 111)).heap.size ≤ g) → w3.heap[d]? = some (.cells #[.slice (some ⟨L.sb, 0, none⟩) L.n L.n, .slice (some ⟨L.nb, 0, none⟩) L.n L.n, L.chv, .int .i64 (-1)] 60 (0, 0)) ∧ WritePost d L at_ s w (.returned .nilIface) (w3.setCell ⟨d, 2, none⟩ v')) := Lib.hid (by
    rw [← hnw]
    intro v' w3 hown hgrow hg
    have hd4 := devF_dev (R := []) (by simpa using hT4.sat)
    have hd3 := (Mods.of_grown hgrow).at hd4 (fun e => by
      have h1 := hT4.sat.nodup
      have h2 : d ∉ dom (rowF 111 129 L.chv L.chs.length (chCells L.chs)) := fun hm => by
        have := hT4.sat.notMem
        exact this (by simp only [dom_cons, List.mem_cons]; exact .inr (.inr hm))
      exact h2 ((dom_row _ _ _ _ _ _).2 e))
    refine ⟨hd3, rfl, { L with now := putAt L.now (at_ * 128) s, chv := v', chs := L.chs ++ [(at_, s)] }, ?_, ?_, rfl, by rw [Nat.mul_comm], by simp⟩
    · refine hT4.trans (devF_putChs (v' := v') (chs' := L.chs ++ [(at_, s)]) hT4.sat ?_ hgrow hg ((Mods.refl _ w3).set1 v') ((set_same hd3 2 v').trans (by simp)))
      rw [chCells_snoc, List.length_append]; exact hown
    · have hL := H.out.2.2.1
      have hs := H.out.2.2.2.2
      refine ⟨hL.hn, hL.safeL, by rw [putAt_length (by rw [hL.nowL, hs]; omega)]; exact hL.nowL, ?_, ?_, ?_⟩
      · have := (row_of_owns hown).2
        rw [chCells_snoc, List.length_append]; exact this
      · intro c hc
        rcases List.mem_append.1 hc with hc | hc
        · exact hL.chs c hc
        · simp at hc; subst hc; exact ⟨ha, hs⟩
      · show applyCh L.safe (L.chs ++ [(at_, s)]) = _
        rw [applyCh_snoc, hL.now, Nat.mul_comm])
  clear hi0 hz1 hz2 hz3 hT3 hd2 hb3 c1 hcl hnc h1c hT4 hnw
  refine wpAny_take (i := 0) (v := ?_) rfl (by kernel_rfl) (by kernel_rfl) (by kernel_rfl) (fun _ _ _ h => h) (Or.inl ⟨by rfl, ?_⟩) ?_
  rotate_left
  · intro w; go_simp; try (with_reducible rfl)
  refine wpAny_take (i := 1) (v := ?_) rfl (by kernel_rfl) (by kernel_rfl) (by kernel_rfl) (fun _ _ _ h => h) (Or.inl ⟨by rfl, ?_⟩) ?_
  rotate_left
  · intro w; go_simp; try (with_reducible rfl)
  refine wpAny_take (i := 2) (v := ?_) rfl (by kernel_rfl) (by kernel_rfl) (by kernel_rfl) (fun _ _ _ h => h) (Or.inl ⟨by rfl, ?_⟩) ?_
  rotate_left
  · intro w; go_simp; try (with_reducible rfl)
  refine wpAny_take (i := 3) (v := ?_) rfl (by kernel_rfl) (by kernel_rfl) (by kernel_rfl) (fun _ _ _ h => h) (Or.inl ⟨by rfl, ?_⟩) ?_
  rotate_left
  · intro w; go_simp; try (with_reducible rfl)
  refine wpAny_take (i := 5) (v := ?_) rfl (by kernel_rfl) (by kernel_rfl) (by kernel_rfl) (fun _ _ _ h => h) (Or.inl ⟨by rfl, ?_⟩) ?_
  rotate_left
  · intro w; go_simp; try (with_reducible rfl)
  refine wpAny_ready (rs := [4, 6]) (by kernel_rfl) (by simp) ?_
  refine AllReady.cons rfl (fun K hK => ?_) ?_
  · go_simp
    refine hK _ _ ?_
    clear hK K
    refine wpAny_ready (rs := [6]) (by kernel_rfl) (by simp) ?_
    refine AllReady.cons rfl (fun K hK => ?_) ?_
    · simp only [List.getElem_toArray, List.getElem_cons_succ, List.getElem_cons_zero]
      rw [if_pos (by rfl)]
      refine wp_load_mid 64 (.tmp 5) rfl B 0 rfl (s.map enc8) _ HRG.out Tryd.underlying64 rfl (secHi H.out.2.2.2.2) ?_
      simp only [Act.put, List.setIfInBounds_toArray, List.set_cons_zero, List.set_cons_succ]
      refine hK _ _ ?_
      clear hK K
      refine wpAny_ready (rs := [7]) (by kernel_rfl) (by simp) ?_
      refine AllReady.cons rfl (fun K hK => ?_) ?_
      · simp only [List.getElem_toArray, List.getElem_cons_succ, List.getElem_cons_zero]
        rw [if_pos (by rfl)]
        refine wp_build_is 111 _ rfl (Value.int .i64 (at_ : Int) :: s.map enc8).toArray (by simp only [List.map_toArray, List.map_cons, List.map_nil]; exact HBD.out) ?_
        simp only [Act.put, List.setIfInBounds_toArray, List.set_cons_zero, List.set_cons_succ]
        refine hK _ _ ?_
        clear hK K
        refine wpAny_ready (rs := [8]) (by kernel_rfl) (by simp) ?_
        refine AllReady.cons rfl (fun K hK => ?_) ?_
        · simp only [List.getElem_toArray, List.getElem_cons_succ, List.getElem_cons_zero]
          rw [if_pos (by rfl)]
          refine wp_buildSlice 58 111 1 _ rfl (Value.int .i64 (at_ : Int) :: s.map enc8).toArray i0 zchg Tryd.underlying58 HI.out.1 HI.out.2.1 HSL.out.1 HSL.out.2.1 (by simp only [List.map_toArray, List.map_cons, List.map_nil]; exact HSL.out.2.2) ?_
          simp only [Act.put, List.setIfInBounds_toArray, List.set_cons_zero, List.set_cons_succ]
          refine hK _ _ ?_
          clear hK K
          refine wpAny_ready (rs := [9]) (by kernel_rfl) (by simp) ?_
          refine AllReady.cons rfl (fun K hK => ?_) ?_
          · simp only [List.getElem_toArray, List.getElem_cons_succ, List.getElem_cons_zero]
            rw [if_pos (by rfl)]
            refine wp_append_fp (.tmp 39) (.tmp 43) 58 rfl 111 i0 zchg 129 136 Tryd.underlying58 HI.out.1 HI.out.2.1 HI.out.2.2.1 HI.out.2.2.2 zchg_size (by decide) L.chv L.chs.length (chCells L.chs) rfl HW.out.2 ⟨w2.heap.size, 0, none⟩ 1 1 (Value.int .i64 (at_ : Int) :: s.map enc8) rfl HA.out.1 HA.out.2.1 HA.out.2.2 (by unfold maxLen; omega) (by omega) ?_
            intro v' w3 hown hgrow hg
            obtain ⟨g', cap', rfl⟩ := ownsRow_succ hown
            have hd3 := HD.out _ w3 hown hgrow hg
            have c3 := cell_at hd3.1 2 (v := L.chv) (by simp)
            have f3 := free_at hd3.1 2
            have HF := Lib.hid hd3
            clear hd3 hown hgrow hg
            simp only [Act.put, List.setIfInBounds_toArray, List.set_cons_zero, List.set_cons_succ]
            refine hK _ _ ?_
            clear hK K
            refine wpAny_take (i := 10) (v := ?_) rfl (by kernel_rfl) (by kernel_rfl) (by kernel_rfl) (fun _ _ _ h => h) (Or.inl ⟨by rfl, ?_⟩) ?_
            rotate_left
            · intro w; go_simp; try (with_reducible rfl)
            refine wpAny_take (i := 11) (v := ?_) rfl (by kernel_rfl) (by kernel_rfl) (by kernel_rfl) (fun _ _ _ h => h) (Or.inl ⟨by rfl, ?_⟩) ?_
            rotate_left
            · intro w; go_simp; try (with_reducible rfl)
            refine wpAny_ready (rs := [12]) (by kernel_rfl) (by simp) ?_
            refine AllReady.cons rfl (fun K hK => ?_) ?_
            · go_simp
              refine hK _ _ ?_
              clear hK K
              refine wpAny_done (by kernel_rfl) ?_ _
              go_wp2
              go_ret
              exact HF.out.2
            exact AllReady.nil
          exact AllReady.nil
        exact AllReady.nil
      exact AllReady.nil
    exact AllReady.nil
  refine AllReady.cons rfl (fun K hK => ?_) ?_
  · simp only [List.getElem_toArray, List.getElem_cons_succ, List.getElem_cons_zero]
    rw [if_pos (by rfl)]
    refine wp_load_mid 64 (.tmp 5) rfl B 0 rfl (s.map enc8) _ HRG.out Tryd.underlying64 rfl (secHi H.out.2.2.2.2) ?_
    simp only [Act.put, List.setIfInBounds_toArray, List.set_cons_zero, List.set_cons_succ]
    refine hK _ _ ?_
    clear hK K
    refine wpAny_ready (rs := [4, 7]) (by kernel_rfl) (by simp) ?_
    refine AllReady.cons rfl (fun K hK => ?_) ?_
    · go_simp
      refine hK _ _ ?_
      clear hK K
      refine wpAny_ready (rs := [7]) (by kernel_rfl) (by simp) ?_
      refine AllReady.cons rfl (fun K hK => ?_) ?_
      · simp only [List.getElem_toArray, List.getElem_cons_succ, List.getElem_cons_zero]
        rw [if_pos (by rfl)]
        refine wp_build_is 111 _ rfl (Value.int .i64 (at_ : Int) :: s.map enc8).toArray (by simp only [List.map_toArray, List.map_cons, List.map_nil]; exact HBD.out) ?_
        simp only [Act.put, List.setIfInBounds_toArray, List.set_cons_zero, List.set_cons_succ]
        refine hK _ _ ?_
        clear hK K
        refine wpAny_ready (rs := [8]) (by kernel_rfl) (by simp) ?_
        refine AllReady.cons rfl (fun K hK => ?_) ?_
        · simp only [List.getElem_toArray, List.getElem_cons_succ, List.getElem_cons_zero]
          rw [if_pos (by rfl)]
          refine wp_buildSlice 58 111 1 _ rfl (Value.int .i64 (at_ : Int) :: s.map enc8).toArray i0 zchg Tryd.underlying58 HI.out.1 HI.out.2.1 HSL.out.1 HSL.out.2.1 (by simp only [List.map_toArray, List.map_cons, List.map_nil]; exact HSL.out.2.2) ?_
          simp only [Act.put, List.setIfInBounds_toArray, List.set_cons_zero, List.set_cons_succ]
          refine hK _ _ ?_
          clear hK K
          refine wpAny_ready (rs := [9]) (by kernel_rfl) (by simp) ?_
          refine AllReady.cons rfl (fun K hK => ?_) ?_
          · simp only [List.getElem_toArray, List.getElem_cons_succ, List.getElem_cons_zero]
            rw [if_pos (by rfl)]
            refine wp_append_fp (.tmp 39) (.tmp 43) 58 rfl 111 i0 zchg 129 136 Tryd.underlying58 HI.out.1 HI.out.2.1 HI.out.2.2.1 HI.out.2.2.2 zchg_size (by decide) L.chv L.chs.length (chCells L.chs) rfl HW.out.2 ⟨w2.heap.size, 0, none⟩ 1 1 (Value.int .i64 (at_ : Int) :: s.map enc8) rfl HA.out.1 HA.out.2.1 HA.out.2.2 (by unfold maxLen; omega) (by omega) ?_
            intro v' w3 hown hgrow hg
            obtain ⟨g', cap', rfl⟩ := ownsRow_succ hown
            have hd3 := HD.out _ w3 hown hgrow hg
            have c3 := cell_at hd3.1 2 (v := L.chv) (by simp)
            have f3 := free_at hd3.1 2
            have HF := Lib.hid hd3
            clear hd3 hown hgrow hg
            simp only [Act.put, List.setIfInBounds_toArray, List.set_cons_zero, List.set_cons_succ]
            refine hK _ _ ?_
            clear hK K
            refine wpAny_take (i := 10) (v := ?_) rfl (by kernel_rfl) (by kernel_rfl) (by kernel_rfl) (fun _ _ _ h => h) (Or.inl ⟨by rfl, ?_⟩) ?_
            rotate_left
            · intro w; go_simp; try (with_reducible rfl)
            refine wpAny_take (i := 11) (v := ?_) rfl (by kernel_rfl) (by kernel_rfl) (by kernel_rfl) (fun _ _ _ h => h) (Or.inl ⟨by rfl, ?_⟩) ?_
            rotate_left
            · intro w; go_simp; try (with_reducible rfl)
            refine wpAny_ready (rs := [12]) (by kernel_rfl) (by simp) ?_
            refine AllReady.cons rfl (fun K hK => ?_) ?_
            · go_simp
              refine hK _ _ ?_
              clear hK K
              refine wpAny_done (by kernel_rfl) ?_ _
              go_wp2
              go_ret
              exact HF.out.2
            exact AllReady.nil
          exact AllReady.nil
        exact AllReady.nil
      exact AllReady.nil
    refine AllReady.cons rfl (fun K hK => ?_) ?_
    · simp only [List.getElem_toArray, List.getElem_cons_succ, List.getElem_cons_zero]
      rw [if_pos (by rfl)]
      refine wp_build_is 111 _ rfl (Value.int .i64 (at_ : Int) :: s.map enc8).toArray (by simp only [List.map_toArray, List.map_cons, List.map_nil]; exact HBD.out) ?_
      simp only [Act.put, List.setIfInBounds_toArray, List.set_cons_zero, List.set_cons_succ]
      refine hK _ _ ?_
      clear hK K
      refine wpAny_ready (rs := [4, 8]) (by kernel_rfl) (by simp) ?_
      refine AllReady.cons rfl (fun K hK => ?_) ?_
      · go_simp
        refine hK _ _ ?_
        clear hK K
        refine wpAny_ready (rs := [8]) (by kernel_rfl) (by simp) ?_
        refine AllReady.cons rfl (fun K hK => ?_) ?_
        · simp only [List.getElem_toArray, List.getElem_cons_succ, List.getElem_cons_zero]
          rw [if_pos (by rfl)]
          refine wp_buildSlice 58 111 1 _ rfl (Value.int .i64 (at_ : Int) :: s.map enc8).toArray i0 zchg Tryd.underlying58 HI.out.1 HI.out.2.1 HSL.out.1 HSL.out.2.1 (by simp only [List.map_toArray, List.map_cons, List.map_nil]; exact HSL.out.2.2) ?_
          simp only [Act.put, List.setIfInBounds_toArray, List.set_cons_zero, List.set_cons_succ]
          refine hK _ _ ?_
          clear hK K
          refine wpAny_ready (rs := [9]) (by kernel_rfl) (by simp) ?_
          refine AllReady.cons rfl (fun K hK => ?_) ?_
          · simp only [List.getElem_toArray, List.getElem_cons_succ, List.getElem_cons_zero]
            rw [if_pos (by rfl)]
            refine wp_append_fp (.tmp 39) (.tmp 43) 58 rfl 111 i0 zchg 129 136 Tryd.underlying58 HI.out.1 HI.out.2.1 HI.out.2.2.1 HI.out.2.2.2 zchg_size (by decide) L.chv L.chs.length (chCells L.chs) rfl HW.out.2 ⟨w2.heap.size, 0, none⟩ 1 1 (Value.int .i64 (at_ : Int) :: s.map enc8) rfl HA.out.1 HA.out.2.1 HA.out.2.2 (by unfold maxLen; omega) (by omega) ?_
            intro v' w3 hown hgrow hg
            obtain ⟨g', cap', rfl⟩ := ownsRow_succ hown
            have hd3 := HD.out _ w3 hown hgrow hg
            have c3 := cell_at hd3.1 2 (v := L.chv) (by simp)
            have f3 := free_at hd3.1 2
            have HF := Lib.hid hd3
            clear hd3 hown hgrow hg
            simp only [Act.put, List.setIfInBounds_toArray, List.set_cons_zero, List.set_cons_succ]
            refine hK _ _ ?_
            clear hK K
            refine wpAny_take (i := 10) (v := ?_) rfl (by kernel_rfl) (by kernel_rfl) (by kernel_rfl) (fun _ _ _ h => h) (Or.inl ⟨by rfl, ?_⟩) ?_
            rotate_left
            · intro w; go_simp; try (with_reducible rfl)
            refine wpAny_take (i := 11) (v := ?_) rfl (by kernel_rfl) (by kernel_rfl) (by kernel_rfl) (fun _ _ _ h => h) (Or.inl ⟨by rfl, ?_⟩) ?_
            rotate_left
            · intro w; go_simp; try (with_reducible rfl)
            refine wpAny_ready (rs := [12]) (by kernel_rfl) (by simp) ?_
            refine AllReady.cons rfl (fun K hK => ?_) ?_
            · go_simp
              refine hK _ _ ?_
              clear hK K
              refine wpAny_done (by kernel_rfl) ?_ _
              go_wp2
              go_ret
              exact HF.out.2
            exact AllReady.nil
          exact AllReady.nil
        exact AllReady.nil
      refine AllReady.cons rfl (fun K hK => ?_) ?_
      · simp only [List.getElem_toArray, List.getElem_cons_succ, List.getElem_cons_zero]
        rw [if_pos (by rfl)]
        refine wp_buildSlice 58 111 1 _ rfl (Value.int .i64 (at_ : Int) :: s.map enc8).toArray i0 zchg Tryd.underlying58 HI.out.1 HI.out.2.1 HSL.out.1 HSL.out.2.1 (by simp only [List.map_toArray, List.map_cons, List.map_nil]; exact HSL.out.2.2) ?_
        simp only [Act.put, List.setIfInBounds_toArray, List.set_cons_zero, List.set_cons_succ]
        refine hK _ _ ?_
        clear hK K
        refine wpAny_ready (rs := [4]) (by kernel_rfl) (by simp) ?_
        refine AllReady.cons rfl (fun K hK => ?_) ?_
        · go_simp
          refine hK _ _ ?_
          clear hK K
          refine wpAny_ready (rs := [9]) (by kernel_rfl) (by simp) ?_
          refine AllReady.cons rfl (fun K hK => ?_) ?_
          · simp only [List.getElem_toArray, List.getElem_cons_succ, List.getElem_cons_zero]
            rw [if_pos (by rfl)]
            refine wp_append_fp (.tmp 39) (.tmp 43) 58 rfl 111 i0 zchg 129 136 Tryd.underlying58 HI.out.1 HI.out.2.1 HI.out.2.2.1 HI.out.2.2.2 zchg_size (by decide) L.chv L.chs.length (chCells L.chs) rfl HW.out.2 ⟨w2.heap.size, 0, none⟩ 1 1 (Value.int .i64 (at_ : Int) :: s.map enc8) rfl HA.out.1 HA.out.2.1 HA.out.2.2 (by unfold maxLen; omega) (by omega) ?_
            intro v' w3 hown hgrow hg
            obtain ⟨g', cap', rfl⟩ := ownsRow_succ hown
            have hd3 := HD.out _ w3 hown hgrow hg
            have c3 := cell_at hd3.1 2 (v := L.chv) (by simp)
            have f3 := free_at hd3.1 2
            have HF := Lib.hid hd3
            clear hd3 hown hgrow hg
            simp only [Act.put, List.setIfInBounds_toArray, List.set_cons_zero, List.set_cons_succ]
            refine hK _ _ ?_
            clear hK K
            refine wpAny_take (i := 10) (v := ?_) rfl (by kernel_rfl) (by kernel_rfl) (by kernel_rfl) (fun _ _ _ h => h) (Or.inl ⟨by rfl, ?_⟩) ?_
            rotate_left
            · intro w; go_simp; try (with_reducible rfl)
            refine wpAny_take (i := 11) (v := ?_) rfl (by kernel_rfl) (by kernel_rfl) (by kernel_rfl) (fun _ _ _ h => h) (Or.inl ⟨by rfl, ?_⟩) ?_
            rotate_left
            · intro w; go_simp; try (with_reducible rfl)
            refine wpAny_ready (rs := [12]) (by kernel_rfl) (by simp) ?_
            refine AllReady.cons rfl (fun K hK => ?_) ?_
            · go_simp
              refine hK _ _ ?_
              clear hK K
              refine wpAny_done (by kernel_rfl) ?_ _
              go_wp2
              go_ret
              exact HF.out.2
            exact AllReady.nil
          exact AllReady.nil
        exact AllReady.nil
      exact AllReady.nil
    exact AllReady.nil
  exact AllReady.nil
end Go.Proofs.YtdhobpbngkainaaDoor
