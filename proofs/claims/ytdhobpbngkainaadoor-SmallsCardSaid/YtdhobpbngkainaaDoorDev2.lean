/-
  Ours. A new device; Flush.
-/
import Derived.Test.YtdhobpbngkainaaDoorDev
namespace Go.Proofs.YtdhobpbngkainaaDoor
open Go.RowKit

theorem zeros_length (n : Nat) : (zeros n).length = n := by simp [zeros]
theorem madeZ (m : Nat) : madeCells zsec m = row8 (zeros m) := by
  apply Array.ext_getElem?
  intro k
  unfold madeCells row8 zeros
  by_cases hk : k < m
  · have hz : zsec.size = 128 := by simp [zsec, row8_size, zeros]
    have h2 : k % zsec.size < zsec.size := by rw [hz]; omega
    have h3 : zsec[k % zsec.size]! = enc8 0 := by
      rw [getElem!_pos zsec _ h2]
      have h5 : zsec[k % zsec.size]? = some (enc8 0) := by
        refine (row8_get (zeros 128) (k % zsec.size) (by rw [zeros_length]; omega)).trans ?_
        exact congrArg some (congrArg enc8 (List.getElem_replicate _))
      rw [Array.getElem?_eq_getElem h2] at h5
      exact Option.some.inj h5
    simp [hk, h3]
  · simp [hk]
set_option maxRecDepth 100000 in
theorem run_makeSecs (n : Nat) (hn : n ≤ 1099511627776) (w : World) : (Instr.makeSlice 57 (.int .i64 n) (.int .i64 n)).run Tryd.prog w =
    .ok (.slice (some ⟨w.heap.size, 0, none⟩) n n) (w.alloc (.cells (row8 (zeros (128 * n))) 64)) := by
  obtain ⟨i, hi, hz, hs, hb⟩ := info_parts secInfo3
  rw [run_make w 57 64 i _ Tryd.underlying57 hi hz .i64 .i64 _ _ (by omega) (by omega) (by rw [hb]; omega) (by omega)]
  have e1 : ((n : Int)).toNat = n := by omega
  rw [e1, hs, show (Value.agg zsec).cells = zsec from rfl, madeZ, Nat.mul_comm]

/-- A new device: all its bytes are 0. -/
def NewDevPost (n : Nat) (w : World) (e : Ending) (w' : World) : Prop :=
  ∃ d L, e = .returned (.pointer (some ⟨d, 0, none⟩)) ∧ Turns [] (devF d L) w w' ∧ DevOk L ∧ L.n = n ∧ L.now = zeros (128 * n) ∧ L.chs = []
def newL (n sb nb : Nat) : DevL := ⟨n, sb, nb, .slice none 0 0, zeros (128 * n), zeros (128 * n), []⟩
theorem newL_ok {n : Nat} (hn : n ≤ 1099511627776) (sb nb : Nat) : DevOk (newL n sb nb) :=
  ⟨hn, zeros_length _, zeros_length _, ⟨rfl, fun _ => ⟨rfl, rfl⟩⟩, fun c hc => by simp [newL] at hc, rfl⟩
theorem newDev_ok {n : Nat} (hn : n ≤ 1099511627776) (w : World) (e : Ending) (he : e = .returned (.pointer (some ⟨w.heap.size + 1 + 1, 0, none⟩))) : NewDevPost n w e
    (((w.alloc (Obj.cells (row8 (zeros (128 * n))) 64)).alloc (Obj.cells (row8 (zeros (128 * n))) 64)).alloc (Obj.cells #[Value.slice (some { block := w.heap.size, off := 0 }) n n, Value.slice (some { block := w.heap.size + 1, off := 0 }) n n, Value.slice none 0 0, Value.int IntKind.i64 (-1)] 60)).drew := by
  refine ⟨w.heap.size + 1 + 1, newL n w.heap.size (w.heap.size + 1), he, ?_, newL_ok hn _ _, rfl, rfl, rfl⟩
  have h := ((((Turns.refl (Sat.nil w)).allocIs (Obj.cells (row8 (zeros (128 * n))) 64)).allocIs (Obj.cells (row8 (zeros (128 * n))) 64)).allocIs (Obj.cells #[Value.slice (some { block := w.heap.size, off := 0 }) n n, Value.slice (some { block := w.heap.size + 1, off := 0 }) n n, Value.slice none 0 0, Value.int IntKind.i64 (-1)] 60)).drew
  simpa [devF, newL, rowF, Value.ownBlock] using h
theorem newDev_ok' {n : Nat} (hn : n ≤ 1099511627776) (w : World) (e : Ending) (he : e = .returned (.pointer (some ⟨w.heap.size + 1 + 1, 0, none⟩))) : NewDevPost n w e
    (((w.alloc (Obj.cells (row8 (zeros (128 * n))) 64)).alloc (Obj.cells (row8 (zeros (128 * n))) 64)).alloc (Obj.cells #[Value.slice (some { block := w.heap.size + 1, off := 0 }) n n, Value.slice (some { block := w.heap.size, off := 0 }) n n, Value.slice none 0 0, Value.int IntKind.i64 (-1)] 60)).drew := by
  refine ⟨w.heap.size + 1 + 1, newL n (w.heap.size + 1) w.heap.size, he, ?_, newL_ok hn _ _, rfl, rfl, rfl⟩
  have h := ((((Turns.refl (Sat.nil w)).allocIs (Obj.cells (row8 (zeros (128 * n))) 64)).allocIs (Obj.cells (row8 (zeros (128 * n))) 64)).allocIs (Obj.cells #[Value.slice (some { block := w.heap.size + 1, off := 0 }) n n, Value.slice (some { block := w.heap.size, off := 0 }) n n, Value.slice none 0 0, Value.int IntKind.i64 (-1)] 60)).drew
  refine (h.perm (List.Perm.refl _) ((List.Perm.swap _ _ _).cons _)).perm (List.Perm.refl _) ?_
  simp [devF, newL, rowF, Value.ownBlock]
set_option maxHeartbeats 1000000 in
set_option maxRecDepth 100000 in
theorem NewDevice_calls (n : Nat) (hn : n ≤ 1099511627776) (w : World) : Calls Tryd.prog 5 #[.int .i64 n] w (NewDevPost n w) := by
  have hmk := run_makeSecs n hn
  have hp : (0 : Int) ≤ n := by omega
  go_enter Tryd.func5, Tryd.ntmps5
  go_wp2_with fail
  go_region
  all_goals
    go_wp2_with fail
    go_ret
  · exact newDev_ok hn w _ rfl
  · exact newDev_ok' hn w _ rfl

/-! ### Flush -/
theorem chCells_cons (c : Nat × Bs) (r : List (Nat × Bs)) : chCells (c :: r) = (Value.int .i64 c.1 :: c.2.map enc8) ++ chCells r := by simp [chCells]
theorem chCells_length {l : List (Nat × Bs)} (h : ∀ c ∈ l, c.2.length = 128) : (chCells l).length = 129 * l.length := by
  induction l with
  | nil => rfl
  | cons c r ih =>
    have := ih (fun x hx => h x (List.mem_cons_of_mem _ hx))
    have h1 := h c (by simp)
    simp only [chCells, List.flatMap_cons, List.length_append, List.length_cons, List.length_map] at this ⊢
    omega
theorem chCells_drop {l : List (Nat × Bs)} (h : ∀ c ∈ l, c.2.length = 128) (k : Nat) : (chCells l).drop (129 * k) = chCells (l.drop k) := by
  induction k generalizing l with
  | zero => simp
  | succ k ih =>
    cases l with
    | nil => simp [chCells]
    | cons c r =>
      have h1 := h c (by simp)
      rw [List.drop_succ_cons, ← ih (fun x hx => h x (List.mem_cons_of_mem _ hx))]
      rw [chCells_cons, List.drop_append, List.drop_of_length_le (by simp; omega), List.nil_append]
      congr 1
      simp; omega
theorem chRange {w : World} {g n cap : Nat} {l : List (Nat × Bs)} {k : Nat} (h : w.ownsRow 0 111 129 (.slice (some ⟨g, 0, none⟩) n cap) l.length (chCells l)) (hl : ∀ c ∈ l, c.2.length = 128) (hk : k < l.length) :
    w.rangeAt g (k * 129) (Value.int .i64 l[k].1 :: l[k].2.map enc8) := fun j v hv => by
  have hc := h.cells (g := g) rfl (k * 129 + j) v (by
    have e : (chCells l)[k * 129 + j]? = ((chCells l).drop (129 * k))[j]? := by rw [List.getElem?_drop, Nat.mul_comm]
    rw [e, chCells_drop hl, List.drop_eq_getElem_cons hk]
    rw [chCells_cons, List.getElem?_append_left (List.getElem?_eq_some_iff.1 hv).1]
    exact hv)
  rwa [Addr.add_mid, Nat.zero_add] at hc
theorem applyCh_take {s : Bs} {l : List (Nat × Bs)} {k : Nat} (h : k < l.length) : applyCh s (l.take (k + 1)) = putAt (applyCh s (l.take k)) (128 * l[k].1) l[k].2 := by
  rw [List.take_succ_eq_append_getElem h, applyCh_snoc]
theorem applyCh_length {l : List (Nat × Bs)} {n : Nat} : ∀ {s : Bs}, s.length = 128 * n → (∀ c ∈ l, c.1 < n ∧ c.2.length = 128) → (applyCh s l).length = 128 * n := by
  induction l with
  | nil => intro s h _; exact h
  | cons c r ih =>
    intro s h hl
    have h1 := hl c (by simp)
    exact ih (s := putAt s (128 * c.1) c.2) (by rw [putAt_length (by omega)]; exact h) (fun x hx => hl x (List.mem_cons_of_mem _ hx))
theorem chgInfo : (Tryd.prog.info? 111).map (·.size) = some 129 := by kernel_rfl
theorem chgIsRow : ∃ d, Tryd.prog.underlying 111 = some d ∧ d.isRow = true := ⟨_, Tryd.underlying111, rfl⟩

def FlushPost (d : Nat) (L : DevL) (w : World) (e : Ending) (w' : World) : Prop :=
  e = .returned .nilIface ∧ ∃ L', Turns (devF d L) (devF d L') w w' ∧ DevOk L' ∧ L'.n = L.n ∧ L'.now = L.now ∧ L'.safe = L.now ∧ L'.chs = []
def FlushRel (d : Nat) (L : DevL) (w : World) (i : Value) (wr : World) : Prop :=
  ∃ k : Nat, k ≤ L.chs.length ∧ i = .int .i64 k ∧ Turns (devF d L) (devF d { L with safe := applyCh L.safe (L.chs.take k) }) w wr
def zchgA : Array Value := #[.int .i64 0] ++ zsec
theorem zchgA_size : zchgA.size = 129 := by kernel_rfl
theorem zeroChg (w : World) : (zeroValue 111).run Tryd.prog w = .ok (.agg zchgA) w := by kernel_rfl
theorem there_of {w : World} {b : Nat} {C : Array Value} {t : TypeId} (h : w.heap[b]? = some (.cells C t (0, 0))) (o n : Nat) (hn : o + n ≤ C.size) : w.there b o n := fun j hj => by
  rw [cell_at h (o + j) (Array.getElem?_eq_getElem (by omega))]
  exact ⟨rfl, free_at h _⟩
theorem setCells_gen {w : World} {b : Nat} {C : List Value} {t : TypeId} (h : w.heap[b]? = some (.cells C.toArray t (0, 0))) (o : Nat) (vs : List Value) (hn : o + vs.length ≤ C.length) :
    (w.setCells b o vs).heap[b]? = some (.cells (spl C o vs).toArray t (0, 0)) ∧ Mods (fun k => k = b) w (w.setCells b o vs) := by
  induction vs generalizing w C o with
  | nil => exact ⟨by simpa [World.setCells, spl] using h, by simpa [World.setCells] using Mods.refl _ w⟩
  | cons x r ih =>
    simp only [World.setCells]
    simp only [List.length_cons] at hn
    have h1 := set_same h o x
    rw [List.setIfInBounds_toArray] at h1
    obtain ⟨h2, h3⟩ := ih h1 (o + 1) (by rw [List.length_set]; omega)
    refine ⟨h2.trans ?_, ((Mods.refl (fun k => k = b) w).set1 x).trans h3⟩
    congr 3
    obtain ⟨A, y, B, rfl, rfl⟩ : ∃ A y B, C = A ++ y :: B ∧ A.length = o := ⟨C.take o, C[o], C.drop (o + 1), by rw [← List.drop_eq_getElem_cons, List.take_append_drop], by simp; omega⟩
    unfold spl
    rw [List.set_append_right _ _ (Nat.le_refl _), Nat.sub_self, List.set_cons_zero, List.take_append, List.take_append, List.drop_append, List.drop_append]
    simp only [List.take_of_length_le (show A.length ≤ A.length + 1 by omega), show A.length + 1 - A.length = 1 by omega, Nat.sub_self, List.take_length, List.take_zero, List.append_nil, List.length_cons]
    rw [List.drop_of_length_le (show A.length ≤ A.length + 1 + r.length by omega), List.drop_of_length_le (show A.length ≤ A.length + (r.length + 1) by omega), show A.length + 1 + r.length - A.length = r.length + 1 by omega, show A.length + (r.length + 1) - A.length = r.length + 1 by omega]
    simp
theorem setCells_new {w : World} {b : Nat} {C : Array Value} {t : TypeId} (h : w.heap[b]? = some (.cells C t (0, 0))) (vs : List Value) (hn : vs.length = C.size) :
    (w.setCells b 0 vs).heap[b]? = some (.cells vs.toArray t (0, 0)) ∧ Mods (fun k => k = b) w (w.setCells b 0 vs) := by
  obtain ⟨h1, h2⟩ := setCells_gen (C := C.toList) (by simpa using h) 0 vs (by simp; omega)
  refine ⟨h1.trans ?_, h2⟩
  congr 3
  unfold spl
  rw [List.drop_of_length_le (by simp; omega)]
  simp
theorem flush_end {d : Nat} {L : DevL} {w wr : World} (hT : Turns (devF d L) (devF d { L with safe := L.now }) w wr) (hL : DevOk L) : FlushPost d L w (.returned .nilIface) (wr.setCell ⟨d, 2, none⟩ (.slice none 0 0)) := by
  have hd := devF_dev (R := []) (by simpa using hT.sat)
  have h1 := hT.putIs (o := .cells #[.slice (some ⟨L.sb, 0, none⟩) L.n L.n, .slice (some ⟨L.nb, 0, none⟩) L.n L.n, .slice none 0 0, .int .i64 (-1)] 60 (0, 0)) ((Mods.refl _ wr).set1 _) ((set_same hd 2 (.slice none 0 0)).trans (by simp))
  refine ⟨rfl, { L with safe := L.now, chv := .slice none 0 0, chs := [] }, ?_, ⟨hL.hn, hL.nowL, hL.nowL, ⟨rfl, fun _ => ⟨rfl, rfl⟩⟩, fun c hc => by simp at hc, rfl⟩, rfl, rfl, rfl, rfl⟩
  refine Turns.left (H := rowF 111 129 L.chv L.chs.length (chCells L.chs)) ?_
  exact h1
set_option maxHeartbeats 4000000 in
set_option maxRecDepth 100000 in
theorem Flush_calls (d : Nat) (L : DevL) (w : World) (h : Sat w (devF d L)) (hL : DevOk L) (hc : L.chs.length ≤ 1099511627776) :
    Calls Tryd.prog 20 #[.pointer (some ⟨d, 0, none⟩)] w (FlushPost d L w) := by
  have hd := devF_dev (R := []) (by simpa using h)
  have c2 := cell_at hd 2 (v := L.chv) (by simp)
  have HO := Lib.hid (off_calls d L w h)
  have hown := owns_of_row h.tail.tail.tail hL.row
  have H := Lib.hid (And.intro h (And.intro hd hL))
  obtain ⟨a, cap, hv⟩ : ∃ a cap, L.chv = .slice a L.chs.length cap := by
    rcases hown.2 with ⟨h1, h2⟩ | ⟨g, cp, cur, h1, _⟩
    · exact ⟨none, 0, by rw [h1, h2]⟩
    · exact ⟨_, cp, h1⟩
  rw [hv] at c2
  have HV := Lib.hid hv
  clear h hd hL hown hv
  go_enter Tryd.func20, Tryd.ntmps20
  go_wp2_with fail
  refine HO.out.mono ?_
  rintro e w1 ⟨rfl, rfl⟩
  go_wp2_with fail
  go_loopw [15] (fun i wr => FlushRel d L w i wr) (fun i _ => L.chs.length - (intOf i).toNat)
  case atStart => exact ⟨0, Nat.zero_le _, rfl, Turns.refl H.out.1⟩
  case round =>
    obtain ⟨k, hk, rfl, hT⟩ := hrel
    by_cases hlt : k < L.chs.length
    · have hown : wr.ownsRow 0 111 129 L.chv L.chs.length (chCells L.chs) := owns_of_row hT.sat.tail.tail.tail H.out.2.2.row
      rw [HV.out] at hown
      have hel := H.out.2.2.chs L.chs[k] (List.getElem_mem hlt)
      have ha : ∃ g, a = some ⟨g, 0, none⟩ := by
        rcases hown.2 with ⟨h1, h2⟩ | ⟨g, cp, cur, h1, _⟩
        · omega
        · simp only [Value.slice.injEq] at h1; exact ⟨g, h1.1⟩
      obtain ⟨g, rfl⟩ := ha
      have hr := chRange hown (fun c hc => (H.out.2.2.chs c hc).2) hlt
      have hsl := applyCh_length (l := L.chs.take k) H.out.2.2.safeL (fun c hc => H.out.2.2.chs c (List.mem_of_mem_take hc))
      have hap := applyCh_take (s := L.safe) hlt
      have hd := devF_dev (R := []) (by simpa using hT.sat)
      have hsafe := devF_safe (R := []) (by simpa using hT.sat)
      have c0 := cell_at hd 0 (v := .slice (some ⟨L.sb, 0, none⟩) L.n L.n) (by simp)
      have hdl : d < wr.heap.size := lt_of_heap hd
      generalize L.chs[k] = c at *
      obtain ⟨at_, s⟩ := c
      simp only at hel hr hap
      obtain ⟨hat, hsz⟩ := hel
      have hz := zeroChg
      have hrl : (Tryd.prog.info? 111).map (·.size) = some (Value.int .i64 at_ :: s.map enc8).length := by rw [chgInfo]; simp [hsz]
      have h1c : (Value.int .i64 at_ :: s.map enc8).toArray.all (·.oneCell') = true := all_oneCell_toArray (fun u hu => by
        rcases List.mem_cons.1 hu with rfl | hu
        · rfl
        · exact enc8_one s u hu)
      have hin : (at_ : Int) < (L.n : Int) := by omega
      have HR := Lib.hid (And.intro hT (And.intro hr (And.intro hap (And.intro hsafe (And.intro hrl (And.intro h1c (And.intro hsz hsl)))))))
      clear hT hr hap hsafe hrl h1c hown hd hsl
      go_wp2_with (first | (refine wpList_load_mid rfl 111 (.tmp 17) rfl g (k * 129) rfl (Value.int .i64 at_ :: s.map enc8) _ ?c1 Tryd.underlying111 rfl HR.out.2.2.2.2.1 ?_) | (refine wpList_store_mid rfl 111 (.tmp 4) (.tmp 18) rfl wr.heap.size 0 (Value.int .i64 at_ :: s.map enc8).toArray rfl rfl ?c2 (by rw [List.size_toArray]; exact HR.out.2.2.2.2.1) HR.out.2.2.2.2.2.1 ?_))
      case c1 => exact HR.out.2.1
      case c2 => exact there_of (alloc_new wr _) 0 _ (by rw [zchgA_size]; first | omega | simp [HR.out.2.2.2.2.2.2.1])
      obtain ⟨hb2, hm2⟩ := setCells_new (alloc_new wr (.cells zchgA 111)) (Value.int .i64 at_ :: s.map enc8) (by rw [zchgA_size]; simp [HR.out.2.2.2.2.2.2.1])
      generalize hB : wr.heap.size = B at *
      have hs2 : Same wr ((wr.alloc (.cells zchgA 111)).setCells B 0 (Value.int .i64 at_ :: s.map enc8)) := ((Mods.refl _ wr).alloc _).trans' hm2 (fun i hi => .inr (by omega))
      show Code.wp _ _ _ _ ((wr.alloc (.cells zchgA 111)).setCells B 0 (Value.int .i64 at_ :: s.map enc8))
      generalize (wr.alloc (.cells zchgA 111)).setCells B 0 (Value.int .i64 at_ :: s.map enc8) = w2 at hb2 hs2 ⊢
      have hT2 := HR.out.1.thenSame hs2
      have hd2 := devF_dev (R := []) (by simpa using hT2.sat)
      have e0 := cell_at hd2 0 (v := .slice (some ⟨L.sb, 0, none⟩) L.n L.n) (by simp)
      have e1 := cell_at hb2 0 (v := .int .i64 at_) (by simp)
      have hsf2 := devF_safe (R := []) (by simpa using hT2.sat)
      have hr2 : w2.rangeAt B 1 (s.map enc8) := fun j v hv => cell_at hb2 (1 + j) (by simpa [Nat.add_comm 1] using hv)
      have HM := Lib.hid (show Tryd.prog.follows .mixedOrders = true by kernel_rfl)
      have H2 := Lib.hid (And.intro hT2 (And.intro hsf2 hr2))
      clear hT2 hsf2 hr2 hb2 hm2 hs2 c0 hd2
      refine wp_region_still_tail 9 HM.out (by kernel_rfl) ?_
      simp only [List.take_succ_cons, List.take_zero, List.drop_succ_cons, List.drop_zero]
      iterate 7 still_step
      refine wpStill_load_mid rfl 64 (.tmp 25) rfl B 1 rfl (s.map enc8) _ H2.out.2.2 Tryd.underlying64 rfl (secHi HR.out.2.2.2.2.2.2.1) ?_
      repeat still_step
      refine wpStill_nil ?_
      change wpList _ _ _ _ _ w2.drew
      go_wp2_with (refine wpList_store_mid rfl 64 (.tmp 27) (.tmp 26) rfl L.sb (at_ * 128) (row8 s) rfl rfl ?c3 (secHr HR.out.2.2.2.2.2.2.1) (row8_one _) ?_)
      case c3 => exact there_row H2.out.2.1 _ _ (by rw [row8_size, HR.out.2.2.2.2.2.2.1, HR.out.2.2.2.2.2.2.2]; omega)
      obtain ⟨hp1, hp2⟩ := setCells_row (w := w2.drew) H2.out.2.1 (at_ * 128) s (by rw [HR.out.2.2.2.2.2.2.1, HR.out.2.2.2.2.2.2.2]; omega)
      refine ⟨⟨k + 1, by omega, by go_num, ?_⟩, by simp [intOf]; omega⟩
      have := (H2.out.1.drew).trans (devF_putSafe (H2.out.1.drew).sat hp2 hp1)
      rw [HR.out.2.2.1, Nat.mul_comm 128]
      exact this
    · obtain rfl : k = L.chs.length := by omega
      rw [List.take_length, H.out.2.2.now] at hT
      have hd := devF_dev (R := []) (by simpa using hT.sat)
      have k2 := cell_at hd 2 (v := L.chv) (by simp)
      rw [HV.out] at k2
      have f2 := free_at hd 2
      have HE := Lib.hid (flush_end hT H.out.2.2)
      clear hd hT
      go_wp2_with fail
      go_ret
      exact HE.out
end Go.Proofs.YtdhobpbngkainaaDoor
