/-
  Ours. load's inner function: a chunk's record is opened, and its body put into the outer variable.
-/
import Derived.Test.YtdhobpbngkainaaGreatDoorMo03
import Derived.Test.YtdhobpbngkainaaGreatDoorMo02
import Derived.Conc.LoneSelect
import Derived.Test.YtdhobpbngkainaaGreatDoorProg
import Derived.Test.YtdhobpbngkainaaGreatDoorMo01
import Derived.Deep.RegionHeld3
import Derived.Deep.MidRow
import Derived.Laws.Rows
import Derived.StillTailTactics
import Derived.Deep.RegionLaw
import Derived.RangeFuncBox
import Derived.Great.BuildSlice
namespace Go.Proofs.YtdhobpbngkainaaGreatDoor
open Go.RowKit

def LoadFPost (ob : Nat) (body : Bs) (w : World) (e : Ending) (w' : World) : Prop :=
  e = .returned .nilIface ∧ ∃ v, bOk v body ∧ Turns [(ob, Is (.cells #[.slice none 0 0] 38 (0, 0)))] ((ob, Is (.cells #[v] 38 (0, 0))) :: bRow v body) w w'
set_option maxHeartbeats 1000000 in
set_option maxRecDepth 100000 in
theorem loadF_calls (a : Option Addr) (cap : Nat) (b body : Bs) (at_ pb xb ob : Nat) (w : World) (h : CellsAt w a (b.map enc8)) (hl : b.length ≤ 1099511627776) (hcap : b.length ≤ cap) (ho : openR b = some (1, body, body.length + 9))
    (hp : w.heap[pb]? = some (.cells #[.int .i64 at_, .int .i64 body.length] 161 (0, 0))) (hob : w.heap[ob]? = some (.cells #[.slice none 0 0] 38 (0, 0))) (hpo : pb ≠ ob) (hao : ∀ x, a = some x → x.block ≠ ob) :
    Calls Tryz.prog 131 #[.slice a b.length cap, .pointer (some ⟨pb, 0, none⟩), .pointer (some ⟨xb, 0, none⟩), .pointer (some ⟨ob, 0, none⟩)] w (LoadFPost ob body w) := by
  have hop := recOpen_calls a cap b w h hl hcap
  unfold OpenPost at hop
  rw [ho] at hop
  have hbl : body.length < 65536 := (openR_some ho).2.2.2.2
  have HO := Lib.hid hop
  have HH := Lib.hid (And.intro hp (And.intro hob (And.intro hpo hao)))
  clear h hl hcap hop hp hob hpo hao
  go_enter Tryz.func131, Tryz.ntmps131
  go_wp2_with fail
  refine HO.out.mono ?_
  rintro e w1 ⟨a', rfl, hca, hab, hs1⟩
  have p1 := cell_at (hs1.at HH.out.1 id) 1 rfl
  have o0 := cell_at (hs1.at HH.out.2.1 id) 0 rfl
  have of := free_at (hs1.at HH.out.2.1 id) 0
  have hT1 : Turns [(ob, Is (.cells #[.slice none 0 0] 38 (0, 0)))] (bRow (.slice none 0 0) [] ++ [(ob, Is (.cells #[.slice none 0 0] 38 (0, 0)))]) w w1 := (Turns.refl (Sat.one HH.out.2.1 Is.rfl)).thenSame hs1
  have H1 := Lib.hid (And.intro hT1 hca)
  clear hs1 hca hab hT1
  go_wp2_with ((refine wpList_of_wp rfl (w_append_b (.tmp 38) (.tmp 39) rfl (.slice none 0 0) [] rfl H1.out.1 bOk_nil a' body.length body.length rfl body rfl H1.out.2 (by simp; omega) ?_)); intro av cv w2 hok2 hT2 _; rw [List.nil_append] at hok2 hT2 ⊢; have o2 := cell_at (hT2.sat.right.headIs) 0 rfl; have of2 := free_at (hT2.sat.right.headIs) 0; have H2 := Lib.hid (And.intro hok2 hT2); clear hok2 hT2)
  go_ret
  refine ⟨rfl, .slice av body.length cv, H2.out.1, ?_⟩
  have h3 := H2.out.2.to (H := (ob, Is (.cells #[.slice none 0 0] 38 (0, 0))) :: bRow (.slice av body.length cv) body) (perm_of_cnt fun _ => by simp only [cnt_cons, cnt_append, cnt_nil] <;> omega)
  exact h3.putIs ((Mods.refl (fun k => k = ob) w2).set1 (i := 0) _) (set_same h3.sat.headIs 0 _)
end Go.Proofs.YtdhobpbngkainaaGreatDoor
/-
  Ours. A select of one case with a default, in a function that nobody else runs beside. No condition; plain lemmas.
-/
namespace Go.Proofs.YtdhobpbngkainaaGreatDoor
open Go.RowKit

theorem stepG_comm_any {P : Program} {main : Bool} {b : Frame} {a : Act} {k : List Item} {cs : List Frame} {w w' : World} {ops : Array Oper} {i : Nat} {rest : List Nat} {o : Oper} {cases : Array CommCase} {blocking : Bool} {shape : CommShape}
    (ho : ops[i]? = some o) (hw : Region.wanted o (yielded ops a.tmps) = true) (hr : (execOp a.eval o).run P w = .ok (.comm cases blocking shape) w') :
    ∃ es, stepG P main (Conc.G (b.at a (.inRegion ops (i :: rest) :: k)) cs) w = .comm (Conc.G (b.at a (.inRegion ops (i :: rest) :: k)) cs) cases blocking shape w' es := by
  rw [Conc.stepG_oper ho hw]
  cases main <;> simp [stepG.apply, hr, Conc.G, Frame.at, GStep.after]
theorem wp_region_comm {P : Program} {id n : Nat} {ops : Array Oper} {Q : Exit → Act → World → Prop} {a : Act} {w w1 w' : World} {o : Oper} {cases : Array CommCase} {v : Value}
    (hsz : ops.size = n + 1) (ho : ops[0]? = some o) (hg : o.guard = none) (hr : (execOp a.eval o).run P w = .ok (.comm cases false .select) w1)
    (hstep : ∀ fr cs es, stepG P true (Conc.G fr cs) w = .comm (Conc.G fr cs) cases false .select w1 es → step P (Conc.solo (Conc.G fr cs) w) = .next (Conc.solo (Conc.G (fr.finish v) cs) w'))
    (h : wpList P ops Q (ops.toList.drop 1) (a.put o.dst v) w') : (Code.region id ops false).wp P Q a w := by
  intro b k cs
  have hl : List.range ops.size = 0 :: List.range' 1 n := by rw [hsz, List.range_eq_range', List.range'_succ]
  have h2 : wpOps P ops Q (List.range' 1 n) (a.put o.dst v) w' := by
    have e := wpOps_eq_wpList (P := P) (ops := ops) (Q := Q) (ops.toList.drop 1) 1 (fun j => by rw [List.getElem?_drop]; simp)
    have hn : (ops.toList.drop 1).length = n := by simp; omega
    rw [hn] at e
    rw [e]; exact h
  obtain ⟨e, a', w'', hq, harr⟩ := wp_ops _ _ _ h2 b k cs
  refine ⟨e, a', w'', hq, .of_steps (.head step_region (.one ?_)) harr⟩
  rw [hl]
  obtain ⟨es, hes⟩ := stepG_comm_any (P := P) (main := true) (b := b) (a := a) (k := k) (cs := cs) (w := w) (rest := List.range' 1 n) ho (by simp [Region.wanted, hg]) hr
  have := hstep _ _ _ hes
  rw [Frame.finish_at, ho] at this
  exact this
theorem wp_select_recv {P : Program} {id n : Nat} {ops : Array Oper} {Q : Exit → Act → World → Prop} {a : Act} {w : World} {o : Oper} {c cap s r : Nat} {buf : Array Value} {closed tm : Bool} {z : Value}
    (hsz : ops.size = n + 1) (ho : ops[0]? = some o) (hg : o.guard = none) (hr : (execOp a.eval o).run P w = .ok (.comm #[Conc.rcase c z] false .select) w) (hc : w.heap[c]? = some (.chan cap buf closed s r tm)) (hb : 0 < buf.size)
    (h : wpList P ops Q (ops.toList.drop 1) (a.put o.dst (.tuple #[goInt 0, .bool true, buf.getD 0 undef])) (w.setChan c cap (buf.extract 1 buf.size) closed s (r + 1) tm)) : (Code.region id ops false).wp P Q a w :=
  wp_region_comm hsz ho hg hr (fun _ _ _ hs => Conc.step_lone_select_recv_buf hs hc hb) h
theorem wp_select_none {P : Program} {id n : Nat} {ops : Array Oper} {Q : Exit → Act → World → Prop} {a : Act} {w : World} {o : Oper} {c cap s r : Nat} {tm : Bool} {z : Value}
    (hsz : ops.size = n + 1) (ho : ops[0]? = some o) (hg : o.guard = none) (hr : (execOp a.eval o).run P w = .ok (.comm #[Conc.rcase c z] false .select) w) (hc : w.heap[c]? = some (.chan cap #[] false s r tm))
    (h : wpList P ops Q (ops.toList.drop 1) (a.put o.dst (.tuple #[goInt (-1), .bool false, z])) w) : (Code.region id ops false).wp P Q a w :=
  wp_region_comm hsz ho hg hr (fun _ _ _ hs => Conc.step_lone_select_default hs hc) h
theorem wp_select_send {P : Program} {id n : Nat} {ops : Array Oper} {Q : Exit → Act → World → Prop} {a : Act} {w : World} {o : Oper} {c cap s r : Nat} {buf : Array Value} {tm : Bool} {v z : Value}
    (hsz : ops.size = n + 1) (ho : ops[0]? = some o) (hg : o.guard = none) (hr : (execOp a.eval o).run P w = .ok (.comm #[Conc.scase c v z] false .select) w) (hc : w.heap[c]? = some (.chan cap buf false s r tm)) (hb : buf.size < cap)
    (h : wpList P ops Q (ops.toList.drop 1) (a.put o.dst (.tuple #[goInt 0, .bool false])) (w.setChan c cap (buf.push v) false (s + 1) r tm)) : (Code.region id ops false).wp P Q a w :=
  wp_region_comm hsz ho hg hr (fun _ _ _ hs => Conc.step_lone_select_send_room hs hc hb) h
theorem wp_select_full {P : Program} {id n : Nat} {ops : Array Oper} {Q : Exit → Act → World → Prop} {a : Act} {w : World} {o : Oper} {c cap s r : Nat} {buf : Array Value} {tm : Bool} {v z : Value}
    (hsz : ops.size = n + 1) (ho : ops[0]? = some o) (hg : o.guard = none) (hr : (execOp a.eval o).run P w = .ok (.comm #[Conc.scase c v z] false .select) w) (hc : w.heap[c]? = some (.chan cap buf false s r tm)) (hb : cap ≤ buf.size)
    (h : wpList P ops Q (ops.toList.drop 1) (a.put o.dst (.tuple #[goInt (-1), .bool false])) w) : (Code.region id ops false).wp P Q a w :=
  wp_region_comm hsz ho hg hr (fun _ _ _ hs => Conc.step_lone_select_send_full hs hc hb) h
end Go.Proofs.YtdhobpbngkainaaGreatDoor
/-
  Ours. The device in memory: what its blocks are, and what its calls do. Its power is not cut.
-/
namespace Go.Proofs.YtdhobpbngkainaaGreatDoor
open Go.RowKit

/-! ### sectors -/
def zeros (n : Nat) : Bs := List.replicate n 0
def zsec : Array Value := row8 (zeros 128)
theorem zeroSec (w : World) : (zeroValue 43).run Tryz.prog w = .ok (.agg zsec) w := by kernel_rfl
theorem secInfo : (Tryz.prog.info? 43).map (·.size) = some 128 := by kernel_rfl
theorem secInfo3 : (Tryz.prog.info? 43).map (fun i => (i.zero, i.size, i.bytes)) = some (some (.agg zsec), 128, 128) := by kernel_rfl
def zchg : Value := .agg (#[.int .i64 0] ++ zsec)
theorem chgInfo3 : (Tryz.prog.info? 110).map (fun i => (i.zero, i.size, i.bytes)) = some (some zchg, 129, 136) := by kernel_rfl
theorem zchg_size : zchg.cells.size = 129 := by kernel_rfl
theorem rangeAt_row {w : World} {b : Nat} {l : Bs} {t : TypeId} {fz : Nat × Nat} (h : w.heap[b]? = some (.cells (row8 l) t fz)) (o n : Nat) : w.rangeAt b o (((l.drop o).take n).map enc8) := fun j v hv => by
  refine cell_at h (o + j) ?_
  simp only [row8, List.getElem?_toArray, List.getElem?_map] at hv ⊢
  rw [List.getElem?_take] at hv
  split at hv
  · rw [List.getElem?_drop] at hv; exact hv
  · simp at hv
theorem there_row {w : World} {b : Nat} {l : Bs} {t : TypeId} (h : w.heap[b]? = some (.cells (row8 l) t (0, 0))) (o n : Nat) (hn : o + n ≤ l.length) : w.there b o n := fun j hj => by
  rw [cell_at h (o + j) (row8_get l (o + j) (by omega))]
  exact ⟨rfl, free_at h _⟩

theorem secHi {s : Bs} (h : s.length = 128) : (Tryz.prog.info? 43).map (·.size) = some (s.map enc8).length := by rw [List.length_map, h]; exact secInfo
theorem secHr {s : Bs} (h : s.length = 128) : (Tryz.prog.info? 43).map (·.size) = some (row8 s).size := by rw [row8, List.size_toArray]; exact secHi h
theorem row8_size (s : Bs) : (row8 s).size = s.length := by simp [row8]
theorem row8_one (s : Bs) : (row8 s).all (·.oneCell') = true := all_oneCell_toArray (enc8_one s)
/-- Two results: an array that lies in memory, and a slot. -/
theorem results_row_tmp {P : Program} {fn : Func} {p q : Tmp} {ty : TypeId} (h : fn.results = #[.cell p ty, .tmp q]) (tmps : Array Value) (w : World) (g : Nat) (t : TypeId) (cs : Array Value) (fr : Nat × Nat) (d : TypeDesc)
    (hp : tmps.getD p undef = .pointer (some ⟨g, 0, none⟩)) (hg : w.heap[g]? = some (.cells cs t fr))
    (hu : P.underlying ty = some d) (hd : (match d with | .struct _ | .array _ _ => true | _ => false) = true) (hi : (P.info? ty).map (·.size) = some cs.size) :
    (results fn tmps).run P w = .ok (.tuple #[.agg cs, tmps.getD q undef]) w := by
  have hp' : tmps[p]?.getD undef = .pointer (some ⟨g, 0, none⟩) := by simpa using hp
  simp [results, h, hp', asAddr, run_loadVar_row w g t ty cs fr d hg hu hd hi]
/-- The bytes s from place o on. -/
def putAt (l : Bs) (o : Nat) (s : Bs) : Bs := l.take o ++ s ++ l.drop (o + s.length)
theorem putAt_length {l s : Bs} {o : Nat} (h : o + s.length ≤ l.length) : (putAt l o s).length = l.length := by simp [putAt]; omega
theorem setCells_row {w : World} {b : Nat} {l : Bs} {t : TypeId} (h : w.heap[b]? = some (.cells (row8 l) t (0, 0))) (o : Nat) (s : Bs) (hn : o + s.length ≤ l.length) :
    (w.setCells b o (s.map enc8)).heap[b]? = some (.cells (row8 (putAt l o s)) t (0, 0)) ∧ Mods (fun k => k = b) w (w.setCells b o (s.map enc8)) := by
  induction s generalizing w l o with
  | nil => exact ⟨by simpa [World.setCells, putAt] using h, by simpa [World.setCells] using Mods.refl _ w⟩
  | cons x r ih =>
    simp only [List.map_cons, World.setCells]
    simp only [List.length_cons] at hn
    have h1 := set_same h o (enc8 x)
    rw [row8_set] at h1
    obtain ⟨h2, h3⟩ := ih h1 (o + 1) (by rw [List.length_set]; omega)
    refine ⟨h2.trans ?_, ((Mods.refl (fun k => k = b) w).set1 (enc8 x)).trans h3⟩
    congr 3
    obtain ⟨A, y, B, rfl, rfl⟩ : ∃ A y B, l = A ++ y :: B ∧ A.length = o := ⟨l.take o, l[o], l.drop (o + 1), by rw [← List.drop_eq_getElem_cons, List.take_append_drop], by simp; omega⟩
    unfold putAt
    rw [List.set_append_right _ _ (Nat.le_refl _), Nat.sub_self, List.set_cons_zero, List.take_append, List.take_append, List.drop_append, List.drop_append]
    simp only [List.take_of_length_le (show A.length ≤ A.length + 1 by omega), show A.length + 1 - A.length = 1 by omega, Nat.sub_self, List.take_length, List.take_zero, List.append_nil, List.length_cons]
    rw [List.drop_of_length_le (show A.length ≤ A.length + 1 + r.length by omega), List.drop_of_length_le (show A.length ≤ A.length + (r.length + 1) by omega), show A.length + 1 + r.length - A.length = r.length + 1 by omega, show A.length + (r.length + 1) - A.length = r.length + 1 by omega]
    simp

/-- A whole sector goes into a block of its own. -/
theorem setCells_sec {w : World} {b : Nat} {l s : Bs} {t : TypeId} (h : w.heap[b]? = some (.cells (row8 l) t (0, 0))) (hs : s.length = l.length) :
    (w.setCells b 0 (s.map enc8)).heap[b]? = some (.cells (row8 s) t (0, 0)) ∧ Mods (fun k => k = b) w (w.setCells b 0 (s.map enc8)) := by
  obtain ⟨h1, h2⟩ := setCells_row h 0 s (by omega)
  refine ⟨h1.trans ?_, h2⟩
  congr 3
  simp [putAt, hs]

/-- A load of a whole array, in the head of a region that draws. -/
theorem wpStill_load_mid {P : Program} {ops : Array Oper} {w : World} {Q : Act → Prop} {a : Act} {op : Oper} {rest : List Oper} (hgd : op.guard = none) (ty : TypeId) (x : Operand) (ho : op.op = .load ty x)
    (b o : Nat) (hx : a.eval x = .pointer (some ⟨b, o, none⟩)) (cs : List Value) (d : TypeDesc) (hc : w.rangeAt b o cs)
    (hu : P.underlying ty = some d) (hd : d.isRow = true) (hi : (P.info? ty).map (·.size) = some cs.length)
    (h : wpStill P ops w Q rest (a.put op.dst (.agg cs.toArray))) : wpStill P ops w Q (op :: rest) a := by
  refine wpStill_step (fun K hK => ?_)
  have hw : Region.wanted op (yielded ops a.tmps) = true := by simp [Region.wanted, hgd]
  rw [if_pos hw]
  unfold Oper.still execOp
  simp only [ho, hx, Instr.loadAt, Instr.sureAddr, Sem.run_bind, Sem.run_pure, Result.andThen_ok, run_loadVar_mid w b o ty cs d hc hu hd hi, Oper.stillUpon]
  exact ⟨trivial, hK _ h⟩
/-- The cells of an array, as the walk's simp asks for them. -/
theorem run_cells_row {P : Program} {w : World} {b : Nat} {s : Bs} {t : TypeId} {fz : Nat × Nat} (h : w.heap[b]? = some (.cells (row8 s) t fz)) (n : Nat) (hn : s.length = n) :
    (loadCellsFrom ⟨b, 0, none⟩ 0 n #[]).run P w = .ok (row8 s) w := by
  subst hn
  have := run_loadCells_list (P := P) w ⟨b, 0, none⟩ (s.map enc8) (fun j v hv => by
    rw [Addr.add_mid, Nat.zero_add]; exact cell_at h j (by simpa [row8] using hv))
  simpa [loadCells, row8] using this
/-- The load of a whole sector out of a block of its own, behind a name: so that the walk's simp does not lay it open. -/
def secLd (b : Nat) : Sem Value := Instr.loadAt 43 (.pointer (some ⟨b, 0, none⟩))
theorem secLd_eq (b : Nat) : Instr.loadAt 43 (.pointer (some ⟨b, 0, none⟩)) = secLd b := rfl
theorem secLd_run {w : World} {b : Nat} {s : Bs} {t : TypeId} {fz : Nat × Nat} (h : w.heap[b]? = some (.cells (row8 s) t fz)) (hs : s.length = 128) : (secLd b).run Tryz.prog w = .ok (.agg (row8 s)) w := by
  have := rangeAt_row h 0 128
  rw [List.drop_zero, List.take_of_length_le (by omega)] at this
  exact run_loadAt_mid w b 0 _ _ _ this Tryz.underlying43 rfl (secHi hs)
/-- append, at the operation. -/
theorem wp_append_fp {P : Program} {o : Oper} {a : Act} {w : World} {K : Act → World → Prop} {Q : Exit → Act → World → Prop}
    (s x : Operand) (t : TypeId) (hop : o.op = Op.call { callee := Callee.builtin Builtin.append, args := #[s, x], argTypes := #[t, t] })
    (e : TypeId) (i : TypeInfo) (z : Value) (size bytes : Nat) (h1 : P.underlying t = some (.slice e)) (h2 : P.info? e = some i) (h3 : i.zero = some z) (h4 : i.size = size) (h5 : i.bytes = bytes) (h6 : z.cells.size = size) (h7 : 0 < size)
    (v : Value) (k : Nat) (xs : List Value) (hs : a.eval s = v) (hown : w.ownsRow 0 e size v k xs) (ad : Addr) (m c : Nat) (news : List Value) (hx : a.eval x = .slice (some ad) m c) (hn : news.length = m * size)
    (hc : ∀ j u, news[j]? = some u → w.cell? (ad.add j) = some u) (h1c : ∀ u ∈ news, u.oneCell' = true) (b1 : k + m ≤ maxLen) (b2 : (k + m) * bytes ≤ 140737488355328)
    (hK : ∀ v' w', w'.ownsRow 0 e size v' (k + m) (xs ++ news) → w.grownBy w' v.ownBlock → (∀ g, v'.ownBlock = some g → v.ownBlock = some g ∨ w.heap.size ≤ g) → K (a.put o.dst v') w') :
    Oper.wp P o a w K Q := by
  obtain ⟨v', w', hrun, r1, r2, r3, r4⟩ := run_append_fp (P := P) w t o.type e i z size bytes h1 h2 h3 h4 h5 h6 h7 v k xs hown ad m c news hn hc h1c b1 b2
  unfold Oper.wp
  simp [execOp, hop, resolve, invoke, builtin, hs, hx, hrun, Result.andThen]
  exact hK v' w' r1 r2 r4

/-! ### structs that are built -/
def spl (l : List Value) (o : Nat) (v : List Value) : List Value := l.take o ++ v ++ l.drop (o + v.length)
theorem fill_step (place : Nat → Option (Nat × Nat)) (cells : List Value) (i : Nat) (v : Value) (off size : Nat) (rest : List (Nat × Value)) (hp : place i = some (off, size)) (hs : v.cells.size = size) (hfit : off + size ≤ cells.length) :
    Instr.fill place cells.toArray ((i, v) :: rest) = Instr.fill place (spl cells off v.cells.toList).toArray rest := by
  subst hs
  simp only [Instr.fill, hp]
  rw [if_neg (by simp; omega)]
  congr 1
  rw [← Array.foldl_toList, Array.toList_zipIdx]
  obtain ⟨h1, h2⟩ := Great.foldl_set off v.cells.toList 0 cells.toArray
  apply Array.ext_getElem?
  intro k
  rw [h2 k]
  simp only [List.getElem?_toArray, List.size_toArray, Nat.add_zero, Array.length_toList, spl, List.append_assoc]
  rcases Nat.lt_or_ge k off with hk | hk
  · rw [if_neg (by omega), List.getElem?_append_left (by simp; omega), List.getElem?_take_of_lt hk]
  · rw [List.getElem?_append_right (by simp; omega)]
    simp only [List.length_take]
    rw [show min off cells.length = off by omega]
    rcases Nat.lt_or_ge k (off + v.cells.size) with hk2 | hk2
    · rw [if_pos (by omega), List.getElem?_append_left (by simp; omega)]
    · rw [if_neg (by omega), List.getElem?_append_right (by simp; omega), List.getElem?_drop]
      congr 1; simp; omega
theorem spl_head (Z R : List Value) (x : Value) (h : Z.length = R.length + 1) : spl (spl Z 0 [x]) 1 R = x :: R := by
  cases Z with
  | nil => simp at h
  | cons z Z =>
    have h' : Z.length ≤ R.length := by simp at h; omega
    simp [spl, Nat.add_comm 1, h']
set_option maxRecDepth 100000 in
theorem build_chg (a : Int) (s : Bs) (hs : s.length = 128) : Tryz.prog.built 110 [(0, .int .i64 a), (1, .agg (row8 s))] = some (.int .i64 a :: s.map enc8).toArray := by
  have e : Tryz.prog.built 110 [(0, .int .i64 a), (1, .agg (row8 s))] = Instr.fill (#[(0, 1), (1, 128)][·]?) (zchg.cells.toList).toArray [(0, .int .i64 a), (1, .agg (row8 s))] := by kernel_rfl
  have hz : zchg.cells.toList.length = 129 := zchg_size
  rw [e]
  generalize zchg.cells.toList = Z at hz ⊢
  have h8 : (Value.agg (row8 s)).cells.toList = s.map enc8 := by simp [Value.cells, row8]
  have hl : (s.map enc8).length = 128 := by simpa using hs
  have h1 : (spl Z 0 [Value.int IntKind.i64 a]).length = 129 := by simp [spl]; omega
  rw [fill_step _ _ 0 _ 0 1 _ rfl rfl (by omega)]
  show Instr.fill _ (spl Z 0 [Value.int IntKind.i64 a]).toArray _ = _
  rw [fill_step _ _ 1 _ 1 128 _ rfl (by simp [Value.cells, row8, hs]) (by omega), h8, spl_head Z _ _ (by omega)]
  rfl
theorem wp_build_is {P : Program} {o : Oper} {a : Act} {w : World} {K : Act → World → Prop} {Q : Exit → Act → World → Prop} (t : TypeId) (parts : Array (Nat × Operand)) (ho : o.op = .build t parts) (cells : Array Value)
    (hc : P.built t (parts.map fun (i, x) => (i, a.eval x)).toList = some cells) (h : K (a.put o.dst (.agg cells)) w) : o.wp P a w K Q := by
  unfold Oper.wp execOp
  simp only [ho, Sem.run_bind, run_build w t _ cells hc, Result.andThen_ok]
  exact h
theorem slice_chg (cs : List Value) (hcs : cs.length = 129) (n m : Nat) (hn : n = 129) (hm : m = 129) (Z : Array Value) : Instr.fill (fun i => some (i * n, n)) ((Array.range (1 * n)).map (Z[· % m]!)) [(0, .agg cs.toArray)] = some cs.toArray := by
  subst hn; subst hm
  have hf := Great.fill_whole (s := 129) (by omega) [Value.agg cs.toArray] ((Array.range (1 * 129)).map (Z[· % 129]!)) (fun v hv => by simp at hv; subst hv; simpa [Value.cells] using hcs) (by simp)
  simpa [Value.cells] using hf

/-! ### the device's blocks -/
structure DevL where
  n : Nat
  sb : Nat
  nb : Nat
  chv : Value
  safe : Bs
  now : Bs
  chs : List (Nat × Bs)
def chCells (l : List (Nat × Bs)) : List Value := l.flatMap fun c => Value.int .i64 c.1 :: c.2.map enc8
def devF (d : Nat) (L : DevL) : HF :=
  (d, Is (.cells #[.slice (some ⟨L.sb, 0, none⟩) L.n L.n, .slice (some ⟨L.nb, 0, none⟩) L.n L.n, L.chv, .int .i64 (-1)] 105 (0, 0))) ::
  (L.nb, Is (.cells (row8 L.now) 43 (0, 0))) ::
  (L.sb, Is (.cells (row8 L.safe) 43 (0, 0))) ::
  rowF 110 129 L.chv L.chs.length (chCells L.chs)
def applyCh (s : Bs) (l : List (Nat × Bs)) : Bs := l.foldl (fun s c => putAt s (128 * c.1) c.2) s
structure DevOk (L : DevL) : Prop where
  hn : L.n ≤ 1099511627776
  safeL : L.safe.length = 128 * L.n
  nowL : L.now.length = 128 * L.n
  row : RowOk 129 L.chv L.chs.length (chCells L.chs)
  chs : ∀ c ∈ L.chs, c.1 < L.n ∧ c.2.length = 128
  now : applyCh L.safe L.chs = L.now
theorem devF_dev {w : World} {d : Nat} {L : DevL} {R : HF} (h : Sat w (devF d L ++ R)) : w.heap[d]? = some (.cells #[.slice (some ⟨L.sb, 0, none⟩) L.n L.n, .slice (some ⟨L.nb, 0, none⟩) L.n L.n, L.chv, .int .i64 (-1)] 105 (0, 0)) := by
  exact h.headIs
theorem devF_now {w : World} {d : Nat} {L : DevL} {R : HF} (h : Sat w (devF d L ++ R)) : w.heap[L.nb]? = some (.cells (row8 L.now) 43 (0, 0)) := by
  exact h.tail.headIs
theorem devF_safe {w : World} {d : Nat} {L : DevL} {R : HF} (h : Sat w (devF d L ++ R)) : w.heap[L.sb]? = some (.cells (row8 L.safe) 43 (0, 0)) := by
  exact h.tail.tail.headIs
/-- Sector at of what there is now. -/
def secOf (l : Bs) (at_ : Nat) : Bs := (l.drop (128 * at_)).take 128
theorem secOf_length {l : Bs} {n at_ : Nat} (h : l.length = 128 * n) (ha : at_ < n) : (secOf l at_).length = 128 := by simp [secOf]; omega

theorem devF_putNow {d : Nat} {L : DevL} {w w' : World} {now' : Bs} (h : Sat w (devF d L)) (hm : Mods (fun k => k = L.nb) w w') (hn : w'.heap[L.nb]? = some (.cells (row8 now') 43 (0, 0))) : Turns (devF d L) (devF d { L with now := now' }) w w' :=
  ((Turns.refl (h.perm (List.Perm.swap _ _ _))).putIs hm hn).perm (List.Perm.swap _ _ _) (List.Perm.swap _ _ _)
theorem devF_putSafe {d : Nat} {L : DevL} {w w' : World} {safe' : Bs} (h : Sat w (devF d L)) (hm : Mods (fun k => k = L.sb) w w') (hn : w'.heap[L.sb]? = some (.cells (row8 safe') 43 (0, 0))) : Turns (devF d L) (devF d { L with safe := safe' }) w w' := by
  have p : ∀ (a b c : Nat × (Obj → Prop)) (l : HF), (a :: b :: c :: l).Perm (c :: a :: b :: l) := fun a b c l => ((List.Perm.swap _ _ _).cons a).trans (List.Perm.swap _ _ _)
  exact ((Turns.refl (h.perm (p _ _ _ _))).putIs hm hn).perm (p _ _ _ _).symm (p _ _ _ _).symm
/-- The list of changes is another one now: the row has grown, and its head stands in the device. -/
theorem devF_putChs {d : Nat} {L : DevL} {w w1 w2 : World} {v' : Value} {chs' : List (Nat × Bs)} (h : Sat w (devF d L)) (hown : w1.ownsRow 0 110 129 v' chs'.length (chCells chs')) (hgrow : w.grownBy w1 L.chv.ownBlock)
    (hg : ∀ g, v'.ownBlock = some g → L.chv.ownBlock = some g ∨ w.heap.size ≤ g) (hm : Mods (fun k => k = d) w1 w2) (hd : w2.heap[d]? = some (.cells #[.slice (some ⟨L.sb, 0, none⟩) L.n L.n, .slice (some ⟨L.nb, 0, none⟩) L.n L.n, v', .int .i64 (-1)] 105 (0, 0))) :
    Turns (devF d L) (devF d { L with chv := v', chs := chs' }) w w2 := by
  have p : ∀ (a b c : Nat × (Obj → Prop)) (l : HF), (a :: b :: c :: l).Perm (l ++ [a, b, c]) := fun a b c l => by
    have : (a :: b :: c :: l) = [a, b, c] ++ l := rfl
    rw [this]; exact List.perm_append_comm
  have h1 : Turns (devF d L) _ w w1 := ((Turns.refl (h.perm (p _ _ _ _))).grow hown hgrow hg).perm (p _ _ _ _).symm (p _ _ _ _).symm
  exact h1.putIs hm hd
theorem chCells_snoc (l : List (Nat × Bs)) (c : Nat × Bs) : chCells (l ++ [c]) = chCells l ++ (.int .i64 c.1 :: c.2.map enc8) := by simp [chCells]
theorem applyCh_snoc (s : Bs) (l : List (Nat × Bs)) (c : Nat × Bs) : applyCh s (l ++ [c]) = putAt (applyCh s l) (128 * c.1) c.2 := by simp [applyCh]

def OffPost (w : World) (e : Ending) (w' : World) : Prop := e = .returned (.bool false) ∧ w = w'
theorem off_calls (d : Nat) (L : DevL) (w : World) (h : Sat w (devF d L)) : Calls Tryz.prog 48 #[.pointer (some ⟨d, 0, none⟩)] w (OffPost w) := by
  have hd := devF_dev (R := []) (by simpa using h)
  have c3 := cell_at hd 3 (v := .int .i64 (-1)) (by simp)
  have H := Lib.hid (And.intro h hd)
  clear h hd
  go_enter Tryz.func48, Tryz.ntmps48
  go_wp2
  go_ret
  exact ⟨rfl, rfl⟩
def SectorsPost (n : Nat) (w : World) (e : Ending) (w' : World) : Prop := e = .returned (.int .i64 n) ∧ w = w'
theorem Sectors_calls (d : Nat) (L : DevL) (w : World) (h : Sat w (devF d L)) : Calls Tryz.prog 16 #[.pointer (some ⟨d, 0, none⟩)] w (SectorsPost L.n w) := by
  have hd := devF_dev (R := []) (by simpa using h)
  have c0 := cell_at hd 0 (v := .slice (some ⟨L.sb, 0, none⟩) L.n L.n) (by simp)
  have H := Lib.hid (And.intro h hd)
  clear h hd
  go_enter Tryz.func16, Tryz.ntmps16
  go_wp2
  go_ret
  exact ⟨rfl, rfl⟩

/-- A sector that comes out by value. -/
def ReadPost (L : DevL) (at_ : Nat) (w : World) (e : Ending) (w' : World) : Prop :=
  e = .returned (.tuple #[.agg (row8 (secOf L.now at_)), .nilIface]) ∧ Same w w'
set_option maxHeartbeats 1000000 in
set_option maxRecDepth 100000 in
theorem Read_calls (d : Nat) (L : DevL) (at_ : Nat) (w : World) (h : Sat w (devF d L)) (hL : DevOk L) (ha : at_ < L.n) :
    Calls Tryz.prog 17 #[.pointer (some ⟨d, 0, none⟩), .int .i64 at_] w (ReadPost L at_ w) := by
  have hn := hL.hn
  have hd := devF_dev (R := []) (by simpa using h)
  have hnow := devF_now (R := []) (by simpa using h)
  have c0 := cell_at hd 0 (v := .slice (some ⟨L.sb, 0, none⟩) L.n L.n) (by simp)
  have c1 := cell_at hd 1 (v := .slice (some ⟨L.nb, 0, none⟩) L.n L.n) (by simp)
  have HO := Lib.hid (fun W (hs : Same w W) => off_calls d L W (h.same hs))
  have hz := zeroSec
  have g1 : decide ((at_ : Int) < 0) = false := by simp
  have g2 : decide (L.n ≤ at_) = false := by simp; omega
  have hdl : d < w.heap.size := lt_of_heap hd
  have H := Lib.hid (And.intro h (And.intro hd (And.intro hL hnow)))
  clear h hd hL hnow
  go_enter Tryz.func17, Tryz.ntmps17
  go_wp2_with fail
  refine (HO.out _ (((Mods.refl _ w).alloc _).alloc _)).mono ?_
  rintro e w1 ⟨rfl, rfl⟩
  have hsl := secOf_length H.out.2.2.1.nowL ha
  have HR := Lib.hid hsl
  clear hsl
  go_wp2_with (first | (refine wpList_load_mid rfl 43 (.tmp 35) rfl L.nb (at_ * 128) rfl ((secOf L.now at_).map enc8) _ ?c1 Tryz.underlying43 rfl (secHi HR.out) ?_) | (refine wpList_store_mid rfl 43 (.tmp 4) (.tmp 36) rfl w.heap.size 0 (row8 (secOf L.now at_)) rfl rfl ?c2 (secHr HR.out) (row8_one _) ?_))
  case c1 => rw [Nat.mul_comm]; exact World.rangeAt_alloc (World.rangeAt_alloc (rangeAt_row H.out.2.2.2 _ _) _) _
  all_goals have hw0 : ((w.alloc (Obj.cells zsec 43)).alloc (Obj.cells zsec 43)).heap[w.heap.size]? = some (.cells (row8 (zeros 128)) 43 (0, 0)) := (alloc_old (by simp)).trans (alloc_new w _)
  case c2 => exact there_row hw0 0 _ (by rw [row8_size, HR.out]; simp [zeros])
  obtain ⟨h1, h2⟩ := setCells_sec hw0 (s := secOf L.now at_) (by rw [HR.out]; simp [zeros])
  refine bodyPost_ret (results_row_tmp rfl _ _ w.heap.size 43 (row8 (secOf L.now at_)) (0, 0) _ rfl h1 Tryz.underlying43 rfl (secHr HR.out)) rfl ⟨rfl, ?_⟩
  exact (((Mods.refl _ w).alloc _).alloc _).trans' h2 (fun i hi => .inr (by omega))

/-- The change that is written, as one record. -/
def WritePost (d : Nat) (L : DevL) (at_ : Nat) (s : Bs) (w : World) (e : Ending) (w' : World) : Prop :=
  e = .returned .nilIface ∧ ∃ L', Turns (devF d L) (devF d L') w w' ∧ DevOk L' ∧ L'.n = L.n ∧ L'.now = putAt L.now (128 * at_) s ∧ L'.chs.length = L.chs.length + 1
set_option maxHeartbeats 8000000 in
set_option maxRecDepth 100000 in
theorem Write_calls (d : Nat) (L : DevL) (at_ : Nat) (s : Bs) (w : World) (h : Sat w (devF d L)) (hL : DevOk L) (ha : at_ < L.n) (hs : s.length = 128) (hc : L.chs.length ≤ 274877906944) :
    Calls Tryz.prog 18 #[.pointer (some ⟨d, 0, none⟩), .int .i64 at_, .agg (row8 s)] w (WritePost d L at_ s w) := by
  have hn := hL.hn
  have hd := devF_dev (R := []) (by simpa using h)
  have hnow := devF_now (R := []) (by simpa using h)
  have c0 := cell_at hd 0 (v := .slice (some ⟨L.sb, 0, none⟩) L.n L.n) (by simp)
  have c1 := cell_at hd 1 (v := .slice (some ⟨L.nb, 0, none⟩) L.n L.n) (by simp)
  have c2 := cell_at hd 2 (v := L.chv) (by simp)
  have f2 := free_at hd 2
  have hdl : d < w.heap.size := lt_of_heap hd
  have HO := Lib.hid (fun W (hs : Same w W) => off_calls d L W (h.same hs))
  have g1 : decide ((at_ : Int) < 0) = false := by simp
  have g2 : decide (L.n ≤ at_) = false := by simp; omega
  have H := Lib.hid (And.intro h (And.intro hd (And.intro hL (And.intro hnow hs))))
  clear h hd hL hnow hs
  go_enter Tryz.func18, Tryz.ntmps18
  go_wp2_with fail
  refine (HO.out _ (((Mods.refl _ w).alloc _))).mono ?_
  rintro e w1 ⟨rfl, rfl⟩
  go_wp2_with fail
  have hw1 := alloc_new w (.cells (row8 s) 43)
  have hs1 : Same w (w.alloc (.cells (row8 s) 43)) := (Mods.refl _ w).alloc _
  have hsz : (w.alloc (.cells (row8 s) 43)).heap.size = w.heap.size + 1 := by simp
  generalize hB : w.heap.size = B at hw1 hsz hdl ⊢
  generalize w.alloc (.cells (row8 s) 43) = w1 at hw1 hs1 hsz ⊢
  have HB := Lib.hid (And.intro hB (And.intro hw1 hs1))
  have HS := Lib.hid (H.out.1.same hs1)
  clear hB hw1 hs1 c0 c1 c2 f2 HO
  have c1 := cell_at (devF_dev (R := []) (by simpa using HS.out)) 1 (v := .slice (some ⟨L.nb, 0, none⟩) L.n L.n) (by simp)
  have hm : Tryz.prog.follows .mixedOrders = true := by kernel_rfl
  have HM := Lib.hid hm
  clear hm
  refine wp_region_still_tail 7 HM.out (by kernel_rfl) ?_
  simp only [List.take_succ_cons, List.take_zero, List.drop_succ_cons, List.drop_zero]
  repeat still_step
  refine wpStill_load_mid rfl 43 (.tmp 5) rfl B 0 rfl (s.map enc8) _ (by have := rangeAt_row HB.out.2.1 0 128; rwa [List.drop_zero, List.take_of_length_le (by have := H.out.2.2.2.2; omega)] at this) Tryz.underlying43 rfl (secHi H.out.2.2.2.2) ?_
  repeat still_step
  refine wpStill_nil ?_
  change wpList _ _ _ _ _ w1.drew
  go_wp2_with (refine wpList_store_mid rfl 43 (.tmp 34) (.tmp 33) rfl L.nb (at_ * 128) (row8 s) rfl rfl ?c2 (secHr H.out.2.2.2.2) (row8_one _) ?_)
  case c2 => exact (World.there_drew _ _ _ _).2 (there_row (devF_now (R := []) (by simpa using HS.out)) _ _ (by rw [row8_size, H.out.2.2.1.nowL, H.out.2.2.2.2]; omega))
  obtain ⟨hp1, hp2⟩ := setCells_row (w := w1.drew) (devF_now (w := w1) (d := d) (R := []) (by simpa using HS.out)) (at_ * 128) s (by rw [H.out.2.2.1.nowL, H.out.2.2.2.2]; omega)
  have hT2 := (Turns.sameThen H.out.1 HB.out.2.2 ((Turns.refl HS.out).drew)).trans (devF_putNow (HS.out.same ((Mods.refl _ w1).drew)) hp2 hp1)
  have hb2 : (w1.drew.setCells L.nb (at_ * 128) (s.map enc8)).heap[B]? = some (.cells (row8 s) 43 (0, 0)) := hp2.at HB.out.2.1 (fun e => by have := HS.out.lt (b := L.nb) (by simp [devF]); have h0 := H.out.1.lt (b := L.nb) (by simp [devF]); rw [HB.out.1] at h0; omega)
  show Code.wp _ _ _ _ (w1.drew.setCells L.nb (at_ * 128) (s.map enc8))
  refine wp_region_any HM.out ?_
  change wpAny _ _ _ _ _ _ _ (World.drew _)
  have hT3 := hT2.drew
  have hb3 : ((w1.drew.setCells L.nb (at_ * 128) (s.map enc8)).drew).heap[B]? = _ := hb2
  generalize (w1.drew.setCells L.nb (at_ * 128) (s.map enc8)).drew = w2 at hT3 hb3 ⊢
  clear hp1 hp2 hT2 hb2
  have hd2 := devF_dev (R := []) (by simpa using hT3.sat)
  have c2 := cell_at hd2 2 (v := L.chv) (by simp)
  have f2 := free_at hd2 2
  have hdl2 : d < w2.heap.size := lt_of_heap hd2
  have HRG := Lib.hid (by have := rangeAt_row (w := w2) hb3 0 128; rwa [List.drop_zero, List.take_of_length_le (by have := H.out.2.2.2.2; omega)] at this)
  obtain ⟨i0, hi0, hz1, hz2, hz3⟩ := info_parts chgInfo3
  have HBD : Hid (Tryz.prog.built 110 [(0, .int .i64 at_), (1, .agg (s.map enc8).toArray)] = some (.int .i64 at_ :: s.map enc8).toArray) := Lib.hid (build_chg at_ s H.out.2.2.2.2)
  have HSL : Hid (¬ 1 * i0.size > 2 ^ 24 ∧ ¬ 1 * i0.size = 0 ∧ Instr.fill (fun i => some (i * i0.size, i0.size)) ((Array.range (1 * i0.size)).map (zchg.cells[· % zchg.cells.size]!)) [(0, .agg (.int .i64 at_ :: s.map enc8).toArray)] = some (.int .i64 at_ :: s.map enc8).toArray) :=
    Lib.hid ⟨by rw [hz2]; omega, by rw [hz2]; omega, slice_chg _ (by simp [H.out.2.2.2.2]) _ _ hz2 zchg_size _⟩
  have HI := Lib.hid (And.intro hi0 (And.intro hz1 (And.intro hz2 hz3)))
  have hcl : (Value.int .i64 at_ :: s.map enc8).length = 1 * 129 := by simp [H.out.2.2.2.2]
  have h1c : ∀ u ∈ (Value.int .i64 at_ :: s.map enc8), u.oneCell' = true := fun u hu => by
    rcases List.mem_cons.1 hu with rfl | hu
    · rfl
    · exact enc8_one s u hu
  have hnc : ∀ j u, (Value.int .i64 at_ :: s.map enc8)[j]? = some u → (w2.alloc (.cells (Value.int .i64 at_ :: s.map enc8).toArray 110)).cell? ((⟨w2.heap.size, 0, none⟩ : Addr).add j) = some u := fun j u hu => by
    rw [Addr.add_mid, Nat.zero_add]; exact cell_at (alloc_new w2 _) j (by simpa using hu)
  obtain ⟨nw, hnw⟩ : ∃ nw, nw = w2.alloc (.cells (Value.int .i64 at_ :: s.map enc8).toArray 110) := ⟨_, rfl⟩
  have hT4 : Turns (devF d L) (devF d { L with now := putAt L.now (at_ * 128) s }) w nw := by rw [hnw]; exact hT3.alloc _
  have HW : Hid (True ∧ (w2.alloc (.cells (Value.int .i64 at_ :: s.map enc8).toArray 110)).ownsRow 0 110 129 L.chv L.chs.length (chCells L.chs)) := Lib.hid ⟨trivial, by rw [← hnw]; exact owns_of_row hT4.sat.tail.tail.tail H.out.2.2.1.row⟩
  have HA := Lib.hid (And.intro hcl (And.intro hnc h1c))
  have HD : Hid (∀ v' w3, World.ownsRow w3 0 110 129 v' (L.chs.length + 1) (chCells L.chs ++ (Value.int .i64 at_ :: s.map enc8)) → World.grownBy (w2.alloc (.cells (Value.int .i64 at_ :: s.map enc8).toArray 110)) w3 L.chv.ownBlock → (∀ g, v'.ownBlock = some g → L.chv.ownBlock = some g ∨ (w2.alloc (.cells (Value.int .i64 at_ :: s.map enc8).toArray 110)).heap.size ≤ g) → w3.heap[d]? = some (.cells #[.slice (some ⟨L.sb, 0, none⟩) L.n L.n, .slice (some ⟨L.nb, 0, none⟩) L.n L.n, L.chv, .int .i64 (-1)] 105 (0, 0)) ∧ WritePost d L at_ s w (.returned .nilIface) (w3.setCell ⟨d, 2, none⟩ v')) := Lib.hid (by
    rw [← hnw]
    intro v' w3 hown hgrow hg
    have hd4 := devF_dev (R := []) (by simpa using hT4.sat)
    have hd3 := (Mods.of_grown hgrow).at hd4 (fun e => by
      have h1 := hT4.sat.nodup
      have h2 : d ∉ dom (rowF 110 129 L.chv L.chs.length (chCells L.chs)) := fun hm => by
        have := hT4.sat.notMem
        exact this (by simp only [dom_cons, List.mem_cons]; exact .inr (.inr hm))
      exact h2 ((dom_row _ _ _ _ _ _).2 e))
    refine ⟨hd3, rfl, { L with now := putAt L.now (at_ * 128) s, chv := v', chs := L.chs ++ [(at_, s)] }, ?_, ?_, rfl, by rw [Nat.mul_comm], by simp⟩
    · refine hT4.trans (devF_putChs (v' := v') (chs' := L.chs ++ [(at_, s)]) hT4.sat ?_ hgrow hg ((Mods.refl _ w3).set1 v') ((set_same hd3 2 v').trans (by simp)))
      rw [chCells_snoc, List.length_append]; exact hown
    · have hL := H.out.2.2.1
      have hs := H.out.2.2.2.2
      refine ⟨hL.hn, hL.safeL, by rw [putAt_length (by rw [hL.nowL, hs]; omega)]; exact hL.nowL, ?_, ?_, ?_⟩
      · have := (row_of_owns hown).2
        rw [chCells_snoc, List.length_append]; exact this
      · intro c hc
        rcases List.mem_append.1 hc with hc | hc
        · exact hL.chs c hc
        · simp at hc; subst hc; exact ⟨ha, hs⟩
      · show applyCh L.safe (L.chs ++ [(at_, s)]) = _
        rw [applyCh_snoc, hL.now, Nat.mul_comm])
  clear hi0 hz1 hz2 hz3 hT3 hd2 hb3 c1 hcl hnc h1c hT4 hnw
  refine wpAny_take (i := 0) (v := ?_) rfl (by kernel_rfl) (by kernel_rfl) (by kernel_rfl) (fun _ _ _ h => h) (Or.inl ⟨by rfl, ?_⟩) ?_
  rotate_left
  · intro w; go_simp; try (with_reducible rfl)
  refine wpAny_take (i := 1) (v := ?_) rfl (by kernel_rfl) (by kernel_rfl) (by kernel_rfl) (fun _ _ _ h => h) (Or.inl ⟨by rfl, ?_⟩) ?_
  rotate_left
  · intro w; go_simp; try (with_reducible rfl)
  refine wpAny_take (i := 2) (v := ?_) rfl (by kernel_rfl) (by kernel_rfl) (by kernel_rfl) (fun _ _ _ h => h) (Or.inl ⟨by rfl, ?_⟩) ?_
  rotate_left
  · intro w; go_simp; try (with_reducible rfl)
  refine wpAny_take (i := 3) (v := ?_) rfl (by kernel_rfl) (by kernel_rfl) (by kernel_rfl) (fun _ _ _ h => h) (Or.inl ⟨by rfl, ?_⟩) ?_
  rotate_left
  · intro w; go_simp; try (with_reducible rfl)
  refine wpAny_take (i := 5) (v := ?_) rfl (by kernel_rfl) (by kernel_rfl) (by kernel_rfl) (fun _ _ _ h => h) (Or.inl ⟨by rfl, ?_⟩) ?_
  rotate_left
  · intro w; go_simp; try (with_reducible rfl)
  refine wpAny_ready (rs := [4, 6]) (by kernel_rfl) (by simp) ?_
  refine AllReady.cons rfl (fun K hK => ?_) ?_
  · go_simp
    refine hK _ _ ?_
    clear hK K
    refine wpAny_ready (rs := [6]) (by kernel_rfl) (by simp) ?_
    refine AllReady.cons rfl (fun K hK => ?_) ?_
    · simp only [List.getElem_toArray, List.getElem_cons_succ, List.getElem_cons_zero]
      rw [if_pos (by rfl)]
      refine wp_load_mid 43 (.tmp 5) rfl B 0 rfl (s.map enc8) _ HRG.out Tryz.underlying43 rfl (secHi H.out.2.2.2.2) ?_
      simp only [Act.put, List.setIfInBounds_toArray, List.set_cons_zero, List.set_cons_succ]
      refine hK _ _ ?_
      clear hK K
      refine wpAny_ready (rs := [7]) (by kernel_rfl) (by simp) ?_
      refine AllReady.cons rfl (fun K hK => ?_) ?_
      · simp only [List.getElem_toArray, List.getElem_cons_succ, List.getElem_cons_zero]
        rw [if_pos (by rfl)]
        refine wp_build_is 110 _ rfl (Value.int .i64 (at_ : Int) :: s.map enc8).toArray (by simp only [List.map_toArray, List.map_cons, List.map_nil]; exact HBD.out) ?_
        simp only [Act.put, List.setIfInBounds_toArray, List.set_cons_zero, List.set_cons_succ]
        refine hK _ _ ?_
        clear hK K
        refine wpAny_ready (rs := [8]) (by kernel_rfl) (by simp) ?_
        refine AllReady.cons rfl (fun K hK => ?_) ?_
        · simp only [List.getElem_toArray, List.getElem_cons_succ, List.getElem_cons_zero]
          rw [if_pos (by rfl)]
          refine wp_buildSlice 103 110 1 _ rfl (Value.int .i64 (at_ : Int) :: s.map enc8).toArray i0 zchg Tryz.underlying103 HI.out.1 HI.out.2.1 HSL.out.1 HSL.out.2.1 (by simp only [List.map_toArray, List.map_cons, List.map_nil]; exact HSL.out.2.2) ?_
          simp only [Act.put, List.setIfInBounds_toArray, List.set_cons_zero, List.set_cons_succ]
          refine hK _ _ ?_
          clear hK K
          refine wpAny_ready (rs := [9]) (by kernel_rfl) (by simp) ?_
          refine AllReady.cons rfl (fun K hK => ?_) ?_
          · simp only [List.getElem_toArray, List.getElem_cons_succ, List.getElem_cons_zero]
            rw [if_pos (by rfl)]
            refine wp_append_fp (.tmp 39) (.tmp 43) 103 rfl 110 i0 zchg 129 136 Tryz.underlying103 HI.out.1 HI.out.2.1 HI.out.2.2.1 HI.out.2.2.2 zchg_size (by decide) L.chv L.chs.length (chCells L.chs) rfl HW.out.2 ⟨w2.heap.size, 0, none⟩ 1 1 (Value.int .i64 (at_ : Int) :: s.map enc8) rfl HA.out.1 HA.out.2.1 HA.out.2.2 (by unfold maxLen; omega) (by omega) ?_
            intro v' w3 hown hgrow hg
            obtain ⟨g', cap', rfl⟩ := ownsRow_succ hown
            have hd3 := HD.out _ w3 hown hgrow hg
            have c3 := cell_at hd3.1 2 (v := L.chv) (by simp)
            have f3 := free_at hd3.1 2
            have HF := Lib.hid hd3
            clear hd3 hown hgrow hg
            simp only [Act.put, List.setIfInBounds_toArray, List.set_cons_zero, List.set_cons_succ]
            refine hK _ _ ?_
            clear hK K
            refine wpAny_take (i := 10) (v := ?_) rfl (by kernel_rfl) (by kernel_rfl) (by kernel_rfl) (fun _ _ _ h => h) (Or.inl ⟨by rfl, ?_⟩) ?_
            rotate_left
            · intro w; go_simp; try (with_reducible rfl)
            refine wpAny_take (i := 11) (v := ?_) rfl (by kernel_rfl) (by kernel_rfl) (by kernel_rfl) (fun _ _ _ h => h) (Or.inl ⟨by rfl, ?_⟩) ?_
            rotate_left
            · intro w; go_simp; try (with_reducible rfl)
            refine wpAny_ready (rs := [12]) (by kernel_rfl) (by simp) ?_
            refine AllReady.cons rfl (fun K hK => ?_) ?_
            · go_simp
              refine hK _ _ ?_
              clear hK K
              refine wpAny_done (by kernel_rfl) ?_ _
              go_wp2
              go_ret
              exact HF.out.2
            exact AllReady.nil
          exact AllReady.nil
        exact AllReady.nil
      exact AllReady.nil
    exact AllReady.nil
  refine AllReady.cons rfl (fun K hK => ?_) ?_
  · simp only [List.getElem_toArray, List.getElem_cons_succ, List.getElem_cons_zero]
    rw [if_pos (by rfl)]
    refine wp_load_mid 43 (.tmp 5) rfl B 0 rfl (s.map enc8) _ HRG.out Tryz.underlying43 rfl (secHi H.out.2.2.2.2) ?_
    simp only [Act.put, List.setIfInBounds_toArray, List.set_cons_zero, List.set_cons_succ]
    refine hK _ _ ?_
    clear hK K
    refine wpAny_ready (rs := [4, 7]) (by kernel_rfl) (by simp) ?_
    refine AllReady.cons rfl (fun K hK => ?_) ?_
    · go_simp
      refine hK _ _ ?_
      clear hK K
      refine wpAny_ready (rs := [7]) (by kernel_rfl) (by simp) ?_
      refine AllReady.cons rfl (fun K hK => ?_) ?_
      · simp only [List.getElem_toArray, List.getElem_cons_succ, List.getElem_cons_zero]
        rw [if_pos (by rfl)]
        refine wp_build_is 110 _ rfl (Value.int .i64 (at_ : Int) :: s.map enc8).toArray (by simp only [List.map_toArray, List.map_cons, List.map_nil]; exact HBD.out) ?_
        simp only [Act.put, List.setIfInBounds_toArray, List.set_cons_zero, List.set_cons_succ]
        refine hK _ _ ?_
        clear hK K
        refine wpAny_ready (rs := [8]) (by kernel_rfl) (by simp) ?_
        refine AllReady.cons rfl (fun K hK => ?_) ?_
        · simp only [List.getElem_toArray, List.getElem_cons_succ, List.getElem_cons_zero]
          rw [if_pos (by rfl)]
          refine wp_buildSlice 103 110 1 _ rfl (Value.int .i64 (at_ : Int) :: s.map enc8).toArray i0 zchg Tryz.underlying103 HI.out.1 HI.out.2.1 HSL.out.1 HSL.out.2.1 (by simp only [List.map_toArray, List.map_cons, List.map_nil]; exact HSL.out.2.2) ?_
          simp only [Act.put, List.setIfInBounds_toArray, List.set_cons_zero, List.set_cons_succ]
          refine hK _ _ ?_
          clear hK K
          refine wpAny_ready (rs := [9]) (by kernel_rfl) (by simp) ?_
          refine AllReady.cons rfl (fun K hK => ?_) ?_
          · simp only [List.getElem_toArray, List.getElem_cons_succ, List.getElem_cons_zero]
            rw [if_pos (by rfl)]
            refine wp_append_fp (.tmp 39) (.tmp 43) 103 rfl 110 i0 zchg 129 136 Tryz.underlying103 HI.out.1 HI.out.2.1 HI.out.2.2.1 HI.out.2.2.2 zchg_size (by decide) L.chv L.chs.length (chCells L.chs) rfl HW.out.2 ⟨w2.heap.size, 0, none⟩ 1 1 (Value.int .i64 (at_ : Int) :: s.map enc8) rfl HA.out.1 HA.out.2.1 HA.out.2.2 (by unfold maxLen; omega) (by omega) ?_
            intro v' w3 hown hgrow hg
            obtain ⟨g', cap', rfl⟩ := ownsRow_succ hown
            have hd3 := HD.out _ w3 hown hgrow hg
            have c3 := cell_at hd3.1 2 (v := L.chv) (by simp)
            have f3 := free_at hd3.1 2
            have HF := Lib.hid hd3
            clear hd3 hown hgrow hg
            simp only [Act.put, List.setIfInBounds_toArray, List.set_cons_zero, List.set_cons_succ]
            refine hK _ _ ?_
            clear hK K
            refine wpAny_take (i := 10) (v := ?_) rfl (by kernel_rfl) (by kernel_rfl) (by kernel_rfl) (fun _ _ _ h => h) (Or.inl ⟨by rfl, ?_⟩) ?_
            rotate_left
            · intro w; go_simp; try (with_reducible rfl)
            refine wpAny_take (i := 11) (v := ?_) rfl (by kernel_rfl) (by kernel_rfl) (by kernel_rfl) (fun _ _ _ h => h) (Or.inl ⟨by rfl, ?_⟩) ?_
            rotate_left
            · intro w; go_simp; try (with_reducible rfl)
            refine wpAny_ready (rs := [12]) (by kernel_rfl) (by simp) ?_
            refine AllReady.cons rfl (fun K hK => ?_) ?_
            · go_simp
              refine hK _ _ ?_
              clear hK K
              refine wpAny_done (by kernel_rfl) ?_ _
              go_wp2
              go_ret
              exact HF.out.2
            exact AllReady.nil
          exact AllReady.nil
        exact AllReady.nil
      exact AllReady.nil
    refine AllReady.cons rfl (fun K hK => ?_) ?_
    · simp only [List.getElem_toArray, List.getElem_cons_succ, List.getElem_cons_zero]
      rw [if_pos (by rfl)]
      refine wp_build_is 110 _ rfl (Value.int .i64 (at_ : Int) :: s.map enc8).toArray (by simp only [List.map_toArray, List.map_cons, List.map_nil]; exact HBD.out) ?_
      simp only [Act.put, List.setIfInBounds_toArray, List.set_cons_zero, List.set_cons_succ]
      refine hK _ _ ?_
      clear hK K
      refine wpAny_ready (rs := [4, 8]) (by kernel_rfl) (by simp) ?_
      refine AllReady.cons rfl (fun K hK => ?_) ?_
      · go_simp
        refine hK _ _ ?_
        clear hK K
        refine wpAny_ready (rs := [8]) (by kernel_rfl) (by simp) ?_
        refine AllReady.cons rfl (fun K hK => ?_) ?_
        · simp only [List.getElem_toArray, List.getElem_cons_succ, List.getElem_cons_zero]
          rw [if_pos (by rfl)]
          refine wp_buildSlice 103 110 1 _ rfl (Value.int .i64 (at_ : Int) :: s.map enc8).toArray i0 zchg Tryz.underlying103 HI.out.1 HI.out.2.1 HSL.out.1 HSL.out.2.1 (by simp only [List.map_toArray, List.map_cons, List.map_nil]; exact HSL.out.2.2) ?_
          simp only [Act.put, List.setIfInBounds_toArray, List.set_cons_zero, List.set_cons_succ]
          refine hK _ _ ?_
          clear hK K
          refine wpAny_ready (rs := [9]) (by kernel_rfl) (by simp) ?_
          refine AllReady.cons rfl (fun K hK => ?_) ?_
          · simp only [List.getElem_toArray, List.getElem_cons_succ, List.getElem_cons_zero]
            rw [if_pos (by rfl)]
            refine wp_append_fp (.tmp 39) (.tmp 43) 103 rfl 110 i0 zchg 129 136 Tryz.underlying103 HI.out.1 HI.out.2.1 HI.out.2.2.1 HI.out.2.2.2 zchg_size (by decide) L.chv L.chs.length (chCells L.chs) rfl HW.out.2 ⟨w2.heap.size, 0, none⟩ 1 1 (Value.int .i64 (at_ : Int) :: s.map enc8) rfl HA.out.1 HA.out.2.1 HA.out.2.2 (by unfold maxLen; omega) (by omega) ?_
            intro v' w3 hown hgrow hg
            obtain ⟨g', cap', rfl⟩ := ownsRow_succ hown
            have hd3 := HD.out _ w3 hown hgrow hg
            have c3 := cell_at hd3.1 2 (v := L.chv) (by simp)
            have f3 := free_at hd3.1 2
            have HF := Lib.hid hd3
            clear hd3 hown hgrow hg
            simp only [Act.put, List.setIfInBounds_toArray, List.set_cons_zero, List.set_cons_succ]
            refine hK _ _ ?_
            clear hK K
            refine wpAny_take (i := 10) (v := ?_) rfl (by kernel_rfl) (by kernel_rfl) (by kernel_rfl) (fun _ _ _ h => h) (Or.inl ⟨by rfl, ?_⟩) ?_
            rotate_left
            · intro w; go_simp; try (with_reducible rfl)
            refine wpAny_take (i := 11) (v := ?_) rfl (by kernel_rfl) (by kernel_rfl) (by kernel_rfl) (fun _ _ _ h => h) (Or.inl ⟨by rfl, ?_⟩) ?_
            rotate_left
            · intro w; go_simp; try (with_reducible rfl)
            refine wpAny_ready (rs := [12]) (by kernel_rfl) (by simp) ?_
            refine AllReady.cons rfl (fun K hK => ?_) ?_
            · go_simp
              refine hK _ _ ?_
              clear hK K
              refine wpAny_done (by kernel_rfl) ?_ _
              go_wp2
              go_ret
              exact HF.out.2
            exact AllReady.nil
          exact AllReady.nil
        exact AllReady.nil
      refine AllReady.cons rfl (fun K hK => ?_) ?_
      · simp only [List.getElem_toArray, List.getElem_cons_succ, List.getElem_cons_zero]
        rw [if_pos (by rfl)]
        refine wp_buildSlice 103 110 1 _ rfl (Value.int .i64 (at_ : Int) :: s.map enc8).toArray i0 zchg Tryz.underlying103 HI.out.1 HI.out.2.1 HSL.out.1 HSL.out.2.1 (by simp only [List.map_toArray, List.map_cons, List.map_nil]; exact HSL.out.2.2) ?_
        simp only [Act.put, List.setIfInBounds_toArray, List.set_cons_zero, List.set_cons_succ]
        refine hK _ _ ?_
        clear hK K
        refine wpAny_ready (rs := [4]) (by kernel_rfl) (by simp) ?_
        refine AllReady.cons rfl (fun K hK => ?_) ?_
        · go_simp
          refine hK _ _ ?_
          clear hK K
          refine wpAny_ready (rs := [9]) (by kernel_rfl) (by simp) ?_
          refine AllReady.cons rfl (fun K hK => ?_) ?_
          · simp only [List.getElem_toArray, List.getElem_cons_succ, List.getElem_cons_zero]
            rw [if_pos (by rfl)]
            refine wp_append_fp (.tmp 39) (.tmp 43) 103 rfl 110 i0 zchg 129 136 Tryz.underlying103 HI.out.1 HI.out.2.1 HI.out.2.2.1 HI.out.2.2.2 zchg_size (by decide) L.chv L.chs.length (chCells L.chs) rfl HW.out.2 ⟨w2.heap.size, 0, none⟩ 1 1 (Value.int .i64 (at_ : Int) :: s.map enc8) rfl HA.out.1 HA.out.2.1 HA.out.2.2 (by unfold maxLen; omega) (by omega) ?_
            intro v' w3 hown hgrow hg
            obtain ⟨g', cap', rfl⟩ := ownsRow_succ hown
            have hd3 := HD.out _ w3 hown hgrow hg
            have c3 := cell_at hd3.1 2 (v := L.chv) (by simp)
            have f3 := free_at hd3.1 2
            have HF := Lib.hid hd3
            clear hd3 hown hgrow hg
            simp only [Act.put, List.setIfInBounds_toArray, List.set_cons_zero, List.set_cons_succ]
            refine hK _ _ ?_
            clear hK K
            refine wpAny_take (i := 10) (v := ?_) rfl (by kernel_rfl) (by kernel_rfl) (by kernel_rfl) (fun _ _ _ h => h) (Or.inl ⟨by rfl, ?_⟩) ?_
            rotate_left
            · intro w; go_simp; try (with_reducible rfl)
            refine wpAny_take (i := 11) (v := ?_) rfl (by kernel_rfl) (by kernel_rfl) (by kernel_rfl) (fun _ _ _ h => h) (Or.inl ⟨by rfl, ?_⟩) ?_
            rotate_left
            · intro w; go_simp; try (with_reducible rfl)
            refine wpAny_ready (rs := [12]) (by kernel_rfl) (by simp) ?_
            refine AllReady.cons rfl (fun K hK => ?_) ?_
            · go_simp
              refine hK _ _ ?_
              clear hK K
              refine wpAny_done (by kernel_rfl) ?_ _
              go_wp2
              go_ret
              exact HF.out.2
            exact AllReady.nil
          exact AllReady.nil
        exact AllReady.nil
      exact AllReady.nil
    exact AllReady.nil
  exact AllReady.nil
end Go.Proofs.YtdhobpbngkainaaGreatDoor
/-
  Ours. A new device; Flush.
-/
namespace Go.Proofs.YtdhobpbngkainaaGreatDoor
open Go.RowKit

theorem zeros_length (n : Nat) : (zeros n).length = n := by simp [zeros]
theorem madeZ (m : Nat) : madeCells zsec m = row8 (zeros m) := by
  apply Array.ext_getElem?
  intro k
  unfold madeCells row8 zeros
  by_cases hk : k < m
  · have hz : zsec.size = 128 := by simp [zsec, row8_size, zeros]
    have h2 : k % zsec.size < zsec.size := by rw [hz]; omega
    have h3 : zsec[k % zsec.size]! = enc8 0 := by
      rw [getElem!_pos zsec _ h2]
      have h5 : zsec[k % zsec.size]? = some (enc8 0) := by
        refine (row8_get (zeros 128) (k % zsec.size) (by rw [zeros_length]; omega)).trans ?_
        exact congrArg some (congrArg enc8 (List.getElem_replicate _))
      rw [Array.getElem?_eq_getElem h2] at h5
      exact Option.some.inj h5
    simp [hk, h3]
  · simp [hk]
set_option maxRecDepth 100000 in
theorem run_makeSecs (n : Nat) (hn : n ≤ 1099511627776) (w : World) : (Instr.makeSlice 102 (.int .i64 n) (.int .i64 n)).run Tryz.prog w =
    .ok (.slice (some ⟨w.heap.size, 0, none⟩) n n) (w.alloc (.cells (row8 (zeros (128 * n))) 43)) := by
  obtain ⟨i, hi, hz, hs, hb⟩ := info_parts secInfo3
  rw [run_make w 102 43 i _ Tryz.underlying102 hi hz .i64 .i64 _ _ (by omega) (by omega) (by rw [hb]; omega) (by omega)]
  have e1 : ((n : Int)).toNat = n := by omega
  rw [e1, hs, show (Value.agg zsec).cells = zsec from rfl, madeZ, Nat.mul_comm]

/-- A new device: all its bytes are 0. -/
def NewDevPost (n : Nat) (w : World) (e : Ending) (w' : World) : Prop :=
  ∃ d L, e = .returned (.pointer (some ⟨d, 0, none⟩)) ∧ Turns [] (devF d L) w w' ∧ DevOk L ∧ L.n = n ∧ L.now = zeros (128 * n) ∧ L.chs = []
def newL (n sb nb : Nat) : DevL := ⟨n, sb, nb, .slice none 0 0, zeros (128 * n), zeros (128 * n), []⟩
theorem newL_ok {n : Nat} (hn : n ≤ 1099511627776) (sb nb : Nat) : DevOk (newL n sb nb) :=
  ⟨hn, zeros_length _, zeros_length _, ⟨rfl, fun _ => ⟨rfl, rfl⟩⟩, fun c hc => by simp [newL] at hc, rfl⟩
theorem newDev_ok {n : Nat} (hn : n ≤ 1099511627776) (w : World) (e : Ending) (he : e = .returned (.pointer (some ⟨w.heap.size + 1 + 1, 0, none⟩))) : NewDevPost n w e
    (((w.alloc (Obj.cells (row8 (zeros (128 * n))) 43)).alloc (Obj.cells (row8 (zeros (128 * n))) 43)).alloc (Obj.cells #[Value.slice (some { block := w.heap.size, off := 0 }) n n, Value.slice (some { block := w.heap.size + 1, off := 0 }) n n, Value.slice none 0 0, Value.int IntKind.i64 (-1)] 105)).drew := by
  refine ⟨w.heap.size + 1 + 1, newL n w.heap.size (w.heap.size + 1), he, ?_, newL_ok hn _ _, rfl, rfl, rfl⟩
  have h := ((((Turns.refl (Sat.nil w)).allocIs (Obj.cells (row8 (zeros (128 * n))) 43)).allocIs (Obj.cells (row8 (zeros (128 * n))) 43)).allocIs (Obj.cells #[Value.slice (some { block := w.heap.size, off := 0 }) n n, Value.slice (some { block := w.heap.size + 1, off := 0 }) n n, Value.slice none 0 0, Value.int IntKind.i64 (-1)] 105)).drew
  simpa [devF, newL, rowF, Value.ownBlock] using h
theorem newDev_ok' {n : Nat} (hn : n ≤ 1099511627776) (w : World) (e : Ending) (he : e = .returned (.pointer (some ⟨w.heap.size + 1 + 1, 0, none⟩))) : NewDevPost n w e
    (((w.alloc (Obj.cells (row8 (zeros (128 * n))) 43)).alloc (Obj.cells (row8 (zeros (128 * n))) 43)).alloc (Obj.cells #[Value.slice (some { block := w.heap.size + 1, off := 0 }) n n, Value.slice (some { block := w.heap.size, off := 0 }) n n, Value.slice none 0 0, Value.int IntKind.i64 (-1)] 105)).drew := by
  refine ⟨w.heap.size + 1 + 1, newL n (w.heap.size + 1) w.heap.size, he, ?_, newL_ok hn _ _, rfl, rfl, rfl⟩
  have h := ((((Turns.refl (Sat.nil w)).allocIs (Obj.cells (row8 (zeros (128 * n))) 43)).allocIs (Obj.cells (row8 (zeros (128 * n))) 43)).allocIs (Obj.cells #[Value.slice (some { block := w.heap.size + 1, off := 0 }) n n, Value.slice (some { block := w.heap.size, off := 0 }) n n, Value.slice none 0 0, Value.int IntKind.i64 (-1)] 105)).drew
  refine (h.perm (List.Perm.refl _) ((List.Perm.swap _ _ _).cons _)).perm (List.Perm.refl _) ?_
  simp [devF, newL, rowF, Value.ownBlock]
set_option maxHeartbeats 1000000 in
set_option maxRecDepth 100000 in
theorem NewDevice_calls (n : Nat) (hn : n ≤ 1099511627776) (w : World) : Calls Tryz.prog 46 #[.int .i64 n] w (NewDevPost n w) := by
  have hmk := run_makeSecs n hn
  have hp : (0 : Int) ≤ n := by omega
  go_enter Tryz.func46, Tryz.ntmps46
  go_wp2_with fail
  go_region
  all_goals
    go_wp2_with fail
    go_ret
  · exact newDev_ok hn w _ rfl
  · exact newDev_ok' hn w _ rfl

/-! ### Flush -/
theorem chCells_cons (c : Nat × Bs) (r : List (Nat × Bs)) : chCells (c :: r) = (Value.int .i64 c.1 :: c.2.map enc8) ++ chCells r := by simp [chCells]
theorem chCells_length {l : List (Nat × Bs)} (h : ∀ c ∈ l, c.2.length = 128) : (chCells l).length = 129 * l.length := by
  induction l with
  | nil => rfl
  | cons c r ih =>
    have := ih (fun x hx => h x (List.mem_cons_of_mem _ hx))
    have h1 := h c (by simp)
    simp only [chCells, List.flatMap_cons, List.length_append, List.length_cons, List.length_map] at this ⊢
    omega
theorem chCells_drop {l : List (Nat × Bs)} (h : ∀ c ∈ l, c.2.length = 128) (k : Nat) : (chCells l).drop (129 * k) = chCells (l.drop k) := by
  induction k generalizing l with
  | zero => simp
  | succ k ih =>
    cases l with
    | nil => simp [chCells]
    | cons c r =>
      have h1 := h c (by simp)
      rw [List.drop_succ_cons, ← ih (fun x hx => h x (List.mem_cons_of_mem _ hx))]
      rw [chCells_cons, List.drop_append, List.drop_of_length_le (by simp; omega), List.nil_append]
      congr 1
      simp; omega
theorem chRange {w : World} {g n cap : Nat} {l : List (Nat × Bs)} {k : Nat} (h : w.ownsRow 0 110 129 (.slice (some ⟨g, 0, none⟩) n cap) l.length (chCells l)) (hl : ∀ c ∈ l, c.2.length = 128) (hk : k < l.length) :
    w.rangeAt g (k * 129) (Value.int .i64 l[k].1 :: l[k].2.map enc8) := fun j v hv => by
  have hc := h.cells (g := g) rfl (k * 129 + j) v (by
    have e : (chCells l)[k * 129 + j]? = ((chCells l).drop (129 * k))[j]? := by rw [List.getElem?_drop, Nat.mul_comm]
    rw [e, chCells_drop hl, List.drop_eq_getElem_cons hk]
    rw [chCells_cons, List.getElem?_append_left (List.getElem?_eq_some_iff.1 hv).1]
    exact hv)
  rwa [Addr.add_mid, Nat.zero_add] at hc
theorem applyCh_take {s : Bs} {l : List (Nat × Bs)} {k : Nat} (h : k < l.length) : applyCh s (l.take (k + 1)) = putAt (applyCh s (l.take k)) (128 * l[k].1) l[k].2 := by
  rw [List.take_succ_eq_append_getElem h, applyCh_snoc]
theorem applyCh_length {l : List (Nat × Bs)} {n : Nat} : ∀ {s : Bs}, s.length = 128 * n → (∀ c ∈ l, c.1 < n ∧ c.2.length = 128) → (applyCh s l).length = 128 * n := by
  induction l with
  | nil => intro s h _; exact h
  | cons c r ih =>
    intro s h hl
    have h1 := hl c (by simp)
    exact ih (s := putAt s (128 * c.1) c.2) (by rw [putAt_length (by omega)]; exact h) (fun x hx => hl x (List.mem_cons_of_mem _ hx))
theorem chgInfo : (Tryz.prog.info? 110).map (·.size) = some 129 := by kernel_rfl
theorem chgIsRow : ∃ d, Tryz.prog.underlying 110 = some d ∧ d.isRow = true := ⟨_, Tryz.underlying110, rfl⟩

def FlushPost (d : Nat) (L : DevL) (w : World) (e : Ending) (w' : World) : Prop :=
  e = .returned .nilIface ∧ ∃ L', Turns (devF d L) (devF d L') w w' ∧ DevOk L' ∧ L'.n = L.n ∧ L'.now = L.now ∧ L'.safe = L.now ∧ L'.chs = []
def FlushRel (d : Nat) (L : DevL) (w : World) (i : Value) (wr : World) : Prop :=
  ∃ k : Nat, k ≤ L.chs.length ∧ i = .int .i64 k ∧ Turns (devF d L) (devF d { L with safe := applyCh L.safe (L.chs.take k) }) w wr
def zchgA : Array Value := #[.int .i64 0] ++ zsec
theorem zchgA_size : zchgA.size = 129 := by kernel_rfl
theorem zeroChg (w : World) : (zeroValue 110).run Tryz.prog w = .ok (.agg zchgA) w := by kernel_rfl
theorem there_of {w : World} {b : Nat} {C : Array Value} {t : TypeId} (h : w.heap[b]? = some (.cells C t (0, 0))) (o n : Nat) (hn : o + n ≤ C.size) : w.there b o n := fun j hj => by
  rw [cell_at h (o + j) (Array.getElem?_eq_getElem (by omega))]
  exact ⟨rfl, free_at h _⟩
theorem setCells_gen {w : World} {b : Nat} {C : List Value} {t : TypeId} (h : w.heap[b]? = some (.cells C.toArray t (0, 0))) (o : Nat) (vs : List Value) (hn : o + vs.length ≤ C.length) :
    (w.setCells b o vs).heap[b]? = some (.cells (spl C o vs).toArray t (0, 0)) ∧ Mods (fun k => k = b) w (w.setCells b o vs) := by
  induction vs generalizing w C o with
  | nil => exact ⟨by simpa [World.setCells, spl] using h, by simpa [World.setCells] using Mods.refl _ w⟩
  | cons x r ih =>
    simp only [World.setCells]
    simp only [List.length_cons] at hn
    have h1 := set_same h o x
    rw [List.setIfInBounds_toArray] at h1
    obtain ⟨h2, h3⟩ := ih h1 (o + 1) (by rw [List.length_set]; omega)
    refine ⟨h2.trans ?_, ((Mods.refl (fun k => k = b) w).set1 x).trans h3⟩
    congr 3
    obtain ⟨A, y, B, rfl, rfl⟩ : ∃ A y B, C = A ++ y :: B ∧ A.length = o := ⟨C.take o, C[o], C.drop (o + 1), by rw [← List.drop_eq_getElem_cons, List.take_append_drop], by simp; omega⟩
    unfold spl
    rw [List.set_append_right _ _ (Nat.le_refl _), Nat.sub_self, List.set_cons_zero, List.take_append, List.take_append, List.drop_append, List.drop_append]
    simp only [List.take_of_length_le (show A.length ≤ A.length + 1 by omega), show A.length + 1 - A.length = 1 by omega, Nat.sub_self, List.take_length, List.take_zero, List.append_nil, List.length_cons]
    rw [List.drop_of_length_le (show A.length ≤ A.length + 1 + r.length by omega), List.drop_of_length_le (show A.length ≤ A.length + (r.length + 1) by omega), show A.length + 1 + r.length - A.length = r.length + 1 by omega, show A.length + (r.length + 1) - A.length = r.length + 1 by omega]
    simp
theorem setCells_new {w : World} {b : Nat} {C : Array Value} {t : TypeId} (h : w.heap[b]? = some (.cells C t (0, 0))) (vs : List Value) (hn : vs.length = C.size) :
    (w.setCells b 0 vs).heap[b]? = some (.cells vs.toArray t (0, 0)) ∧ Mods (fun k => k = b) w (w.setCells b 0 vs) := by
  obtain ⟨h1, h2⟩ := setCells_gen (C := C.toList) (by simpa using h) 0 vs (by simp; omega)
  refine ⟨h1.trans ?_, h2⟩
  congr 3
  unfold spl
  rw [List.drop_of_length_le (by simp; omega)]
  simp
theorem flush_end {d : Nat} {L : DevL} {w wr : World} (hT : Turns (devF d L) (devF d { L with safe := L.now }) w wr) (hL : DevOk L) : FlushPost d L w (.returned .nilIface) (wr.setCell ⟨d, 2, none⟩ (.slice none 0 0)) := by
  have hd := devF_dev (R := []) (by simpa using hT.sat)
  have h1 := hT.putIs (o := .cells #[.slice (some ⟨L.sb, 0, none⟩) L.n L.n, .slice (some ⟨L.nb, 0, none⟩) L.n L.n, .slice none 0 0, .int .i64 (-1)] 105 (0, 0)) ((Mods.refl _ wr).set1 _) ((set_same hd 2 (.slice none 0 0)).trans (by simp))
  refine ⟨rfl, { L with safe := L.now, chv := .slice none 0 0, chs := [] }, ?_, ⟨hL.hn, hL.nowL, hL.nowL, ⟨rfl, fun _ => ⟨rfl, rfl⟩⟩, fun c hc => by simp at hc, rfl⟩, rfl, rfl, rfl, rfl⟩
  refine Turns.left (H := rowF 110 129 L.chv L.chs.length (chCells L.chs)) ?_
  exact h1
set_option maxHeartbeats 4000000 in
set_option maxRecDepth 100000 in
theorem Flush_calls (d : Nat) (L : DevL) (w : World) (h : Sat w (devF d L)) (hL : DevOk L) (hc : L.chs.length ≤ 1099511627776) :
    Calls Tryz.prog 20 #[.pointer (some ⟨d, 0, none⟩)] w (FlushPost d L w) := by
  have hd := devF_dev (R := []) (by simpa using h)
  have c2 := cell_at hd 2 (v := L.chv) (by simp)
  have HO := Lib.hid (off_calls d L w h)
  have hown := owns_of_row h.tail.tail.tail hL.row
  have H := Lib.hid (And.intro h (And.intro hd hL))
  obtain ⟨a, cap, hv⟩ : ∃ a cap, L.chv = .slice a L.chs.length cap := by
    rcases hown.2 with ⟨h1, h2⟩ | ⟨g, cp, cur, h1, _⟩
    · exact ⟨none, 0, by rw [h1, h2]⟩
    · exact ⟨_, cp, h1⟩
  rw [hv] at c2
  have HV := Lib.hid hv
  clear h hd hL hown hv
  go_enter Tryz.func20, Tryz.ntmps20
  go_wp2_with fail
  refine HO.out.mono ?_
  rintro e w1 ⟨rfl, rfl⟩
  go_wp2_with fail
  go_loopw [15] (fun i wr => FlushRel d L w i wr) (fun i _ => L.chs.length - (intOf i).toNat)
  case atStart => exact ⟨0, Nat.zero_le _, rfl, Turns.refl H.out.1⟩
  case round =>
    obtain ⟨k, hk, rfl, hT⟩ := hrel
    by_cases hlt : k < L.chs.length
    · have hown : wr.ownsRow 0 110 129 L.chv L.chs.length (chCells L.chs) := owns_of_row hT.sat.tail.tail.tail H.out.2.2.row
      rw [HV.out] at hown
      have hel := H.out.2.2.chs L.chs[k] (List.getElem_mem hlt)
      have ha : ∃ g, a = some ⟨g, 0, none⟩ := by
        rcases hown.2 with ⟨h1, h2⟩ | ⟨g, cp, cur, h1, _⟩
        · omega
        · simp only [Value.slice.injEq] at h1; exact ⟨g, h1.1⟩
      obtain ⟨g, rfl⟩ := ha
      have hr := chRange hown (fun c hc => (H.out.2.2.chs c hc).2) hlt
      have hsl := applyCh_length (l := L.chs.take k) H.out.2.2.safeL (fun c hc => H.out.2.2.chs c (List.mem_of_mem_take hc))
      have hap := applyCh_take (s := L.safe) hlt
      have hd := devF_dev (R := []) (by simpa using hT.sat)
      have hsafe := devF_safe (R := []) (by simpa using hT.sat)
      have c0 := cell_at hd 0 (v := .slice (some ⟨L.sb, 0, none⟩) L.n L.n) (by simp)
      have hdl : d < wr.heap.size := lt_of_heap hd
      generalize L.chs[k] = c at *
      obtain ⟨at_, s⟩ := c
      simp only at hel hr hap
      obtain ⟨hat, hsz⟩ := hel
      have hz := zeroChg
      have hrl : (Tryz.prog.info? 110).map (·.size) = some (Value.int .i64 at_ :: s.map enc8).length := by rw [chgInfo]; simp [hsz]
      have h1c : (Value.int .i64 at_ :: s.map enc8).toArray.all (·.oneCell') = true := all_oneCell_toArray (fun u hu => by
        rcases List.mem_cons.1 hu with rfl | hu
        · rfl
        · exact enc8_one s u hu)
      have hin : (at_ : Int) < (L.n : Int) := by omega
      have HR := Lib.hid (And.intro hT (And.intro hr (And.intro hap (And.intro hsafe (And.intro hrl (And.intro h1c (And.intro hsz hsl)))))))
      clear hT hr hap hsafe hrl h1c hown hd hsl
      go_wp2_with (first | (refine wpList_load_mid rfl 110 (.tmp 17) rfl g (k * 129) rfl (Value.int .i64 at_ :: s.map enc8) _ ?c1 Tryz.underlying110 rfl HR.out.2.2.2.2.1 ?_) | (refine wpList_store_mid rfl 110 (.tmp 4) (.tmp 18) rfl wr.heap.size 0 (Value.int .i64 at_ :: s.map enc8).toArray rfl rfl ?c2 (by rw [List.size_toArray]; exact HR.out.2.2.2.2.1) HR.out.2.2.2.2.2.1 ?_))
      case c1 => exact HR.out.2.1
      case c2 => exact there_of (alloc_new wr _) 0 _ (by rw [zchgA_size]; first | omega | simp [HR.out.2.2.2.2.2.2.1])
      obtain ⟨hb2, hm2⟩ := setCells_new (alloc_new wr (.cells zchgA 110)) (Value.int .i64 at_ :: s.map enc8) (by rw [zchgA_size]; simp [HR.out.2.2.2.2.2.2.1])
      generalize hB : wr.heap.size = B at *
      have hs2 : Same wr ((wr.alloc (.cells zchgA 110)).setCells B 0 (Value.int .i64 at_ :: s.map enc8)) := ((Mods.refl _ wr).alloc _).trans' hm2 (fun i hi => .inr (by omega))
      show Code.wp _ _ _ _ ((wr.alloc (.cells zchgA 110)).setCells B 0 (Value.int .i64 at_ :: s.map enc8))
      generalize (wr.alloc (.cells zchgA 110)).setCells B 0 (Value.int .i64 at_ :: s.map enc8) = w2 at hb2 hs2 ⊢
      have hT2 := HR.out.1.thenSame hs2
      have hd2 := devF_dev (R := []) (by simpa using hT2.sat)
      have e0 := cell_at hd2 0 (v := .slice (some ⟨L.sb, 0, none⟩) L.n L.n) (by simp)
      have e1 := cell_at hb2 0 (v := .int .i64 at_) (by simp)
      have hsf2 := devF_safe (R := []) (by simpa using hT2.sat)
      have hr2 : w2.rangeAt B 1 (s.map enc8) := fun j v hv => cell_at hb2 (1 + j) (by simpa [Nat.add_comm 1] using hv)
      have HM := Lib.hid (show Tryz.prog.follows .mixedOrders = true by kernel_rfl)
      have H2 := Lib.hid (And.intro hT2 (And.intro hsf2 hr2))
      clear hT2 hsf2 hr2 hb2 hm2 hs2 c0 hd2
      refine wp_region_still_tail 9 HM.out (by kernel_rfl) ?_
      simp only [List.take_succ_cons, List.take_zero, List.drop_succ_cons, List.drop_zero]
      iterate 7 still_step
      refine wpStill_load_mid rfl 43 (.tmp 25) rfl B 1 rfl (s.map enc8) _ H2.out.2.2 Tryz.underlying43 rfl (secHi HR.out.2.2.2.2.2.2.1) ?_
      repeat still_step
      refine wpStill_nil ?_
      change wpList _ _ _ _ _ w2.drew
      go_wp2_with (refine wpList_store_mid rfl 43 (.tmp 27) (.tmp 26) rfl L.sb (at_ * 128) (row8 s) rfl rfl ?c3 (secHr HR.out.2.2.2.2.2.2.1) (row8_one _) ?_)
      case c3 => exact there_row H2.out.2.1 _ _ (by rw [row8_size, HR.out.2.2.2.2.2.2.1, HR.out.2.2.2.2.2.2.2]; omega)
      obtain ⟨hp1, hp2⟩ := setCells_row (w := w2.drew) H2.out.2.1 (at_ * 128) s (by rw [HR.out.2.2.2.2.2.2.1, HR.out.2.2.2.2.2.2.2]; omega)
      refine ⟨⟨k + 1, by omega, by go_num, ?_⟩, by simp [intOf]; omega⟩
      have := (H2.out.1.drew).trans (devF_putSafe (H2.out.1.drew).sat hp2 hp1)
      rw [HR.out.2.2.1, Nat.mul_comm 128]
      exact this
    · obtain rfl : k = L.chs.length := by omega
      rw [List.take_length, H.out.2.2.now] at hT
      have hd := devF_dev (R := []) (by simpa using hT.sat)
      have k2 := cell_at hd 2 (v := L.chv) (by simp)
      rw [HV.out] at k2
      have f2 := free_at hd 2
      have HE := Lib.hid (flush_end hT H.out.2.2)
      clear hd hT
      go_wp2_with fail
      go_ret
      exact HE.out
end Go.Proofs.YtdhobpbngkainaaGreatDoor
