/-
  Ours. area.Cut: it sets the end, and clears what is behind it.
-/
import Derived.Test.YtdhobpbngkainaaDoorCutLoop
namespace Go.Proofs.YtdhobpbngkainaaDoor
open Go.RowKit

theorem areaCells_list (d : Nat) (A : AreaL) : (areaCells d A).toList = [Value.pointer (some ⟨d, 0, none⟩), .int .i64 A.first, .int .i64 A.count, .int .i64 A.end_] ++ (A.tail.map enc8 ++ [.chan (some A.ch)]) := by simp [areaCells, row8]
theorem areaC_set3 (d : Nat) (A : AreaL) (e : Nat) : (areaCells d A).setIfInBounds 3 (.int .i64 e) = areaCells d { A with end_ := e } := by
  apply Array.ext'
  rw [Array.toList_setIfInBounds, areaCells_list, areaCells_list]
  rfl
theorem areaC_spl (d : Nat) (A : AreaL) (s : Bs) (hs : s.length ≤ A.tail.length) : (spl (areaCells d A).toList 4 (s.map enc8)).toArray = areaCells d { A with tail := putAt A.tail 0 s } := by
  apply Array.ext'
  rw [areaCells_list]
  show spl _ 4 _ = _
  generalize hh : [Value.pointer (some ⟨d, 0, none⟩), Value.int .i64 A.first, Value.int .i64 A.count, Value.int .i64 A.end_] = hd
  have hl : hd.length = 4 := by rw [← hh]; rfl
  unfold spl
  rw [List.take_left' hl, ← hl, ← List.drop_drop, List.drop_left' rfl, List.drop_append_of_le_length (by simpa using hs)]
  rw [areaCells_list]
  simp [putAt, hh]
theorem area_put {w w' : World} {ab d : Nat} {A A' : AreaL} {R : HF} (h : Sat w (areaF ab d A ++ R)) (hm : Mods (fun k => k = ab) w w') (hc : w'.heap[ab]? = some (.cells (areaCells d A') 78 (0, 0))) (h1 : A'.ch = A.ch) (h2 : A'.spare = A.spare) :
    Turns (areaF ab d A ++ R) (areaF ab d A' ++ R) w w' := by
  have := (Turns.refl h).putIs hm hc
  unfold areaF
  rw [h1, h2]
  exact this
theorem areaC_tail {w : World} {ab d : Nat} {A : AreaL} {t : TypeId} {fz : Nat × Nat} (h : w.heap[ab]? = some (.cells (areaCells d A) t fz)) : w.rangeAt ab 4 (A.tail.map enc8) := fun j v hv => by
  refine cell_at h (4 + j) ?_
  rw [← Array.getElem?_toList, areaCells_list, List.getElem?_append_right (by simp)]
  rw [List.getElem?_append_left (by have := (List.getElem?_eq_some_iff.1 hv).1; simpa [Nat.add_sub_cancel_left] using this)]
  simpa [Nat.add_sub_cancel_left] using hv
theorem areaC_size (d : Nat) (A : AreaL) : (areaCells d A).size = A.tail.length + 5 := by simp [areaCells, row8_size]; omega

theorem splice_spl (L : List Value) (o : Nat) (v : List Value) : splice L o v = spl L o v := by simp [splice, spl]
theorem areaC_copy (d : Nat) (A : AreaL) (e : Nat) (s t : Bs) (hs : s.length ≤ 128) (ht : t = s ++ zeros (128 - s.length)) :
    (splice (areaCells d { A with end_ := e, tail := zeros 128 }).toList 4 (s.map enc8)).toArray = areaCells d { A with end_ := e, tail := t } := by
  have e2 : putAt (zeros 128) 0 s = t := by
    rw [ht]; unfold putAt
    rw [List.take_zero, List.nil_append, Nat.zero_add]
    congr 1; unfold zeros; rw [List.drop_replicate]
  rw [splice_spl, areaC_spl d { A with end_ := e, tail := zeros 128 } s (by rw [zeros_length]; exact hs), e2]
/-- The first m sectors from the q-th on are as they must be. -/
def cutTo (l : Bs) (first q : Nat) (t : Bs) : Nat → Bs
  | 0 => l
  | m + 1 => putAt (cutTo l first q t m) (128 * (first + q + m)) (if m = 0 then t else zeros 128)
theorem cutTo_length {l t : Bs} {n first q : Nat} (hl : l.length = 128 * n) (ht : t.length = 128) (m : Nat) (h : first + q + m ≤ n) : (cutTo l first q t m).length = 128 * n := by
  induction m with
  | zero => exact hl
  | succ m ih =>
    rw [cutTo, putAt_length]
    · exact ih (by omega)
    · rw [ih (by omega)]; split <;> simp [ht, zeros_length] <;> omega
def CutPost (ab d : Nat) (A : AreaL) (L : DevL) (end_ : Nat) (ws : Bs) (w : World) (e : Ending) (w' : World) : Prop :=
  e = .returned .nilIface ∧ ∃ L', Turns (areaF ab d A ++ devF d L) (areaF ab d { A with end_ := end_, tail := ((ws.take end_).drop (128 * (end_ / 128)) ++ zeros (128 - end_ % 128)) } ++ devF d L') w w' ∧ DevOk L' ∧ L'.n = L.n ∧
    L'.now = cutTo L.now A.first (end_ / 128) ((ws.take end_).drop (128 * (end_ / 128)) ++ zeros (128 - end_ % 128)) (A.count - end_ / 128) ∧ L'.safe = L'.now ∧ L'.chs = []
theorem zeroBuilt : Tryd.prog.built 64 [] = some (row8 (zeros 128)) := by kernel_rfl

def wantAt (t : Bs) (m : Nat) : Bs := if m = 0 then t else zeros 128
theorem wantAt_length {t : Bs} (ht : t.length = 128) (m : Nat) : (wantAt t m).length = 128 := by unfold wantAt; split; exact ht; exact zeros_length _
def CutRel (ab d T : Nat) (A A1 : AreaL) (L : DevL) (q : Nat) (t : Bs) (w : World) (i : Value) (wr : World) : Prop :=
  ∃ (m : Nat) (L' : DevL), q + m ≤ A.count ∧ i = .int .i64 ((q + m : Nat) : Int) ∧ Turns (areaF ab d A ++ devF d L) ((T, Is (.cells (row8 (wantAt t m)) 64 (0, 0))) :: (areaF ab d A1 ++ devF d L')) w wr ∧
    DevOk L' ∧ L'.n = L.n ∧ L'.now = cutTo L.now A.first q t m ∧ L'.chs.length ≤ L.chs.length + m
theorem cutRel_start {ab d : Nat} {A A1 : AreaL} {L : DevL} {q : Nat} {t : Bs} {w w3 : World} (hq : q ≤ A.count) (hT : Turns (areaF ab d A ++ devF d L) (areaF ab d A1 ++ devF d L) w w3) (hL : DevOk L) (ht : t.length = 128) :
    CutRel ab d w3.heap.size A A1 L q t w (.int .i64 q) ((w3.alloc (.cells zsec 64)).setCells w3.heap.size 0 (t.map enc8)) := by
  obtain ⟨h1, h2⟩ := setCells_sec (alloc_new w3 (.cells (row8 (zeros 128)) 64)) (s := t) (by rw [ht, zeros_length])
  exact ⟨0, L, hq, rfl, (hT.allocIs (.cells (row8 (zeros 128)) 64)).putIs h2 h1, hL, rfl, rfl, Nat.le_refl _⟩
theorem putAt_self {l s : Bs} {o : Nat} (h : (l.drop o).take s.length = s) (ho : o + s.length ≤ l.length) : putAt l o s = l := by
  unfold putAt
  have e : l.drop o = s ++ l.drop (o + s.length) := by
    rw [← List.take_append_drop s.length (l.drop o), h, List.drop_drop]
  rw [List.append_assoc, ← e, List.take_append_drop]
theorem secOf_cutTo {l t : Bs} {n first q : Nat} (hl : l.length = 128 * n) (ht : t.length = 128) (k : Nat) : ∀ m, first + q + m ≤ n → first + q + m ≤ k → secOf (cutTo l first q t m) k = secOf l k := by
  intro m
  induction m with
  | zero => intro _ _; rfl
  | succ m ih =>
    intro h1 h2
    rw [cutTo, ← ih (by omega) (by omega)]
    have hw : (if m = 0 then t else zeros 128).length = 128 := wantAt_length ht m
    have hlen := cutTo_length hl ht (q := q) (first := first) m (by omega)
    unfold secOf putAt
    congr 1
    rw [List.drop_append, List.drop_of_length_le (by simp [hw]; omega), List.nil_append, List.drop_drop]
    congr 1
    simp only [List.length_append, List.length_take, hw, hlen]
    omega
/-- A sector that is as it must be already. -/
theorem cut_skip {ab d T : Nat} {A A1 : AreaL} {L L' : DevL} {q m : Nat} {t : Bs} {w wr w4 : World} (hT : Turns (areaF ab d A ++ devF d L) ((T, Is (.cells (row8 (wantAt t m)) 64 (0, 0))) :: (areaF ab d A1 ++ devF d L')) w wr)
    (hL' : DevOk L') (hn : L'.n = L.n) (hnow : L'.now = cutTo L.now A.first q t m) (hch : L'.chs.length ≤ L.chs.length + m) (hm : q + m < A.count) (hA : A.first + A.count ≤ L.n) (hLn : L.now.length = 128 * L.n) (ht : t.length = 128)
    (heq : secOf L.now (A.first + (q + m)) = wantAt t m) (hs : w4 = (wr.drew.setCells T 0 ((zeros 128).map enc8))) (i : Value) (hi : i = .int .i64 (((q + m : Nat) : Int) + 1)) : CutRel ab d T A A1 L q t w i w4 := by
  have hTd := hT.drew
  have hb := hTd.sat.headIs
  obtain ⟨h1, h2⟩ := setCells_sec hb (s := zeros 128) (by rw [zeros_length, wantAt_length ht])
  subst hs
  refine ⟨m + 1, L', by omega, by rw [hi]; congr 1, ?_, hL', hn, ?_, by omega⟩
  · rw [show wantAt t (m + 1) = zeros 128 from rfl]; exact hTd.putIs h2 h1
  · rw [cutTo, hnow]
    have hw := wantAt_length ht m
    refine (putAt_self (s := wantAt t m) ?_ ?_).symm
    · have := secOf_cutTo hLn ht (A.first + (q + m)) (first := A.first) (q := q) m (by omega) (by omega)
      rw [hw, show A.first + q + m = A.first + (q + m) by omega]
      rw [heq] at this
      exact this
    · rw [hw, cutTo_length hLn ht m (by omega)]; omega
theorem cut_write {ab d T : Nat} {A A1 : AreaL} {L L' L2 : DevL} {q m : Nat} {t : Bs} {w wr w4 w5 : World} (hT : Turns (areaF ab d A ++ devF d L) ((T, Is (.cells (row8 (wantAt t m)) 64 (0, 0))) :: (areaF ab d A1 ++ devF d L')) w wr)
    (hW : Turns (devF d L') (devF d L2) wr.drew.drew w4) (hL2 : DevOk L2) (hn : L'.n = L.n) (hn2 : L2.n = L'.n) (hnow : L'.now = cutTo L.now A.first q t m) (hnow2 : L2.now = putAt L'.now (128 * (A.first + (q + m))) (wantAt t m)) (hch : L'.chs.length ≤ L.chs.length + m) (hch2 : L2.chs.length = L'.chs.length + 1) (hm : q + m < A.count) (ht : t.length = 128)
    (hs : w5 = w4.setCells T 0 ((zeros 128).map enc8)) (i : Value) (hi : i = .int .i64 (((q + m : Nat) : Int) + 1)) : CutRel ab d T A A1 L q t w i w5 := by
  have p : ∀ X : HF, ((T, Is (.cells (row8 (wantAt t m)) 64 (0, 0))) :: (areaF ab d A1 ++ X)).Perm (X ++ ((T, Is (.cells (row8 (wantAt t m)) 64 (0, 0))) :: areaF ab d A1)) := fun X =>
    (List.perm_append_comm (l₁ := (T, Is (.cells (row8 (wantAt t m)) 64 (0, 0))) :: areaF ab d A1) (l₂ := X))
  have hTd := hT.drew.drew
  have h4 := hTd.trans ((hW.frame (hTd.sat.perm (p _))).perm (p _).symm (p _).symm)
  obtain ⟨h1, h2⟩ := setCells_sec h4.sat.headIs (s := zeros 128) (by rw [zeros_length, wantAt_length ht])
  subst hs
  refine ⟨m + 1, L2, by omega, by rw [hi]; congr 1, ?_, hL2, by omega, ?_, by omega⟩
  · rw [show wantAt t (m + 1) = zeros 128 from rfl]; exact h4.putIs h2 h1
  · rw [hnow2, hnow, cutTo, show A.first + (q + m) = A.first + q + m by omega]; rfl
theorem cut_end {F : HF} {ab d T : Nat} {A1 : AreaL} {φ : Obj → Prop} {L' L2 : DevL} {w wr w4 : World} (hT : Turns F ((T, φ) :: (areaF ab d A1 ++ devF d L')) w wr) (hF : Turns (devF d L') (devF d L2) wr w4) : Turns F (areaF ab d A1 ++ devF d L2) w w4 := by
  have p : ∀ X : HF, ((T, φ) :: (areaF ab d A1 ++ X)).Perm (X ++ ((T, φ) :: areaF ab d A1)) := fun X => (List.perm_append_comm (l₁ := (T, φ) :: areaF ab d A1) (l₂ := X))
  have h4 := hT.trans ((hF.frame (hT.sat.perm (p _))).perm (p _).symm (p _).symm)
  exact Turns.right (G := [(T, φ)]) h4
set_option maxHeartbeats 16000000 in
set_option maxRecDepth 100000 in
theorem Cut_calls (ab d : Nat) (A : AreaL) (L : DevL) (end_ : Nat) (a : Option Addr) (cap : Nat) (ws : Bs) (w : World) (h : Sat w (areaF ab d A ++ devF d L)) (hL : DevOk L) (hA : A.first + A.count ≤ L.n) (hn : L.n ≤ 1073741824) (hao : AreaOk A)
    (hw : CellsAt w a (ws.map enc8)) (hne : ∀ x, a = some x → x.block ∉ dom (areaF ab d A ++ devF d L)) (hwl : ws.length = 128 * A.count) (hcap : ws.length ≤ cap) (hcap2 : cap ≤ 9223372036854775807) (hpos : 0 < A.count) (he : end_ ≤ 128 * A.count) (hch : L.chs.length ≤ 137438953472)
    (hok : ∀ m, end_ / 128 + m < A.count → secOf ws (end_ / 128 + m) = (if m = 0 then ((ws.take end_).drop (128 * (end_ / 128)) ++ zeros (128 - end_ % 128)) else zeros 128) → secOf L.now (A.first + (end_ / 128 + m)) = (if m = 0 then ((ws.take end_).drop (128 * (end_ / 128)) ++ zeros (128 - end_ % 128)) else zeros 128)) :
    Calls Tryd.prog 14 #[.pointer (some ⟨ab, 0, none⟩), .int .i64 end_, .slice a ws.length cap] w (CutPost ab d A L end_ ws w) := by
  unfold CutPost
  obtain ⟨g, off, rfl, _⟩ := hw (by rw [List.length_map]; omega)
  have hab := areaF_ab h
  have c3 := cell_at hab 3 (areaC_3 d A)
  have f3 := free_at hab 3
  have hset3 : (w.setCell ⟨ab, 3, none⟩ (.int .i64 end_)).heap[ab]? = some (.cells (areaCells d { A with end_ := end_ }) 78 (0, 0)) := by rw [set_same hab 3, areaC_set3]
  have hT1 := area_put h ((Mods.refl (fun k => k = ab) w).set1 (i := 3) (.int .i64 end_)) hset3 rfl rfl
  obtain ⟨hs4, hm4⟩ := setCells_gen (C := (areaCells d { A with end_ := end_ }).toList) (by simpa using hset3) 4 ((zeros 128).map enc8) (by rw [List.length_map, zeros_length, Array.length_toList, areaC_size, hao.tail]; omega)
  rw [areaC_spl _ _ _ (by show _ ≤ A.tail.length; rw [zeros_length, hao.tail]; omega)] at hs4
  have hth4 : (w.setCell ⟨ab, 3, none⟩ (.int .i64 end_)).there ab 4 128 := there_of hset3 4 128 (by rw [areaC_size]; show _ ≤ A.tail.length + 5; rw [hao.tail]; omega)
  have hpf : putAt A.tail 0 (zeros 128) = zeros 128 := by simp [putAt, zeros_length, hao.tail]
  simp only [hpf] at hs4
  have hT2 := hT1.trans (area_put (A' := { A with end_ := end_, tail := zeros 128 }) hT1.sat hm4 hs4 rfl rfl)
  obtain ⟨q, hq⟩ : ∃ q, end_ / 128 = q := ⟨_, rfl⟩
  obtain ⟨r, hr⟩ : ∃ r, end_ % 128 = r := ⟨_, rfl⟩
  obtain ⟨lo, hlo⟩ : ∃ lo, 128 * q = lo := ⟨_, rfl⟩
  have hrl : r < 128 := by omega
  have hle : lo + r = end_ := by omega
  have hwe : end_ ≤ ws.length := by omega
  have i1 : ((end_ : Int) % 128) = (r : Int) := by omega
  have i2 : ((end_ : Int) / 128) = (q : Int) := by omega
  have i3 : ((end_ : Int) - (r : Int)) = (lo : Int) := by omega
  have hcs : ((ws.drop lo).take r).length = r := by simp; omega
  rw [hq, hr] at hok ⊢
  have HWL := Lib.hid (And.intro hwl (And.intro hq (And.intro hr (And.intro hlo (And.intro hle hcs)))))
  have hlow : lo ≤ end_ := by omega
  have hqc : q ≤ A.count := by omega
  clear hwl hq hr hlo hle hcs
  have H := Lib.hid (And.intro h (And.intro hL (And.intro hw (And.intro hne (And.intro hok (And.intro hT2 (And.intro hs4 hth4)))))))
  have HZ := Lib.hid zeroBuilt
  have hz := zeroSec
  clear h hL hw hne hok hT1 hT2 hs4 hm4 hset3 hth4 hab
  go_enter Tryd.func14, Tryd.ntmps14
  go_wp2_with (first | (refine wpList_build_is rfl 64 #[] rfl (row8 (zeros 128)) HZ.out ?_) | (refine wpList_store_mid rfl 64 (.tmp 17) (.tmp 15) rfl ab 4 (row8 (zeros 128)) rfl rfl (by rw [row8_size, zeros_length]; exact H.out.2.2.2.2.2.2.2) (secHr (zeros_length 128)) (row8_one _) ?_))
  have HM := Lib.hid (show Tryd.prog.follows .mixedOrders = true by kernel_rfl)
  obtain ⟨w2, hw2⟩ : ∃ w2, w2 = (w.setCell ⟨ab, 3, none⟩ (.int .i64 end_)).setCells ab 4 ((zeros 128).map enc8) := ⟨_, rfl⟩
  have hT2 := H.out.2.2.2.2.2.1
  have hc2 := H.out.2.2.2.2.2.2.1
  rw [← hw2] at hT2 hc2
  change Code.wp _ _ _ _ ((w.setCell ⟨ab, 3, none⟩ (.int .i64 end_)).setCells ab 4 ((zeros 128).map enc8))
  rw [← hw2]
  have H2 := Lib.hid (And.intro hT2 hc2)
  clear hT2 hc2 hw2
  have j1 : ((end_ : Int)).tmod 128 = (r : Int) := by rw [Int.tmod_eq_emod_of_nonneg (by omega)]; exact i1
  have j2 : IntKind.i64.wrap (lo : Int) = (lo : Int) := IntWalk.i64_in _ (by omega)
  have j3 : (lo : Int) ≤ (end_ : Int) := by omega
  have j4 : (end_ : Int) ≤ (cap : Int) := by omega
  obtain ⟨t, ht⟩ : ∃ t : Bs, t = (ws.drop lo).take r ++ zeros (128 - r) := ⟨_, rfl⟩
  have htl : t.length = 128 := by rw [ht, List.length_append, HWL.out.2.2.2.2.2, zeros_length]; omega
  have htw : t = (ws.take end_).drop (128 * q) ++ zeros (128 - r) := by rw [ht, List.drop_take, HWL.out.2.2.2.1]; congr 2; have := HWL.out.2.2.2.2.1; omega
  have hcp : ∀ w3, w3.heap[ab]? = some (.cells (splice (areaCells d { A with end_ := end_, tail := zeros 128 }).toList 4 (((ws.drop lo).take r).map enc8)).toArray 78 (0, 0)) → Mods (fun k => k = ab) w2 w3 →
      w3.heap[ab]? = some (.cells (areaCells d { A with end_ := end_, tail := t }) 78 (0, 0)) ∧ Turns (areaF ab d A ++ devF d L) (areaF ab d { A with end_ := end_, tail := t } ++ devF d L) w w3 := fun w3 hh hm => by
    have hc : w3.heap[ab]? = some (.cells (areaCells d { A with end_ := end_, tail := t }) 78 (0, 0)) := by
      rw [hh, areaC_copy d A end_ _ t (by rw [HWL.out.2.2.2.2.2]; omega) (by rw [HWL.out.2.2.2.2.2]; exact ht)]
    exact ⟨hc, (H2.out.1).trans (area_put H2.out.1.sat hm hc rfl rfl)⟩
  have HT := Lib.hid (And.intro htw (And.intro hcp ht))
  have hsz8 : (Tryd.prog.info? 5).map (·.size) = some 1 := by kernel_rfl
  have HS8 := Lib.hid hsz8
  clear htw hcp ht hsz8
  by_cases hcl : cap = lo
  · have HR0 : Hid (r = 0) := Lib.hid (by have := HWL.out.2.2.2.2.1; omega)
    have hcl' := hcl.symm
    clear hcl
    subst hcl'
    refine wp_region_still_tail 11 HM.out (by kernel_rfl) ?_
    simp only [List.take_succ_cons, List.take_zero, List.drop_succ_cons, List.drop_zero]
    repeat still_step
    refine wpStill_nil ?_
    change wpList _ _ _ _ _ w2.drew
    refine wpList_copy_fp rfl (.tmp 21) (.tmp 28) 52 52 rfl 5 Tryd.underlying52 HS8.out _ _ _ _ _ _ rfl rfl ab 4 (areaCells d { A with end_ := end_, tail := zeros 128 }).toList 78 (by rw [Array.toArray_toList]; exact H2.out.2) (((ws.drop lo).take r).map enc8) ?d1 ?d2 ?d3 (enc8_one _) ?d4
    case d1 => rw [List.length_map, HWL.out.2.2.2.2.2]; have := HWL.out.2.2.2.2.1; show r = min (end_ - lo) 128; omega
    case d2 =>
      intro hp
      rw [List.length_map, HWL.out.2.2.2.2.2] at hp
      have := HR0.out
      omega
    case d3 => rw [List.length_map, HWL.out.2.2.2.2.2]; simp [areaCells_list, zeros_length]; omega
    case d4 =>
      intro w3 hh hm hsz3
      clear hsz3
      obtain ⟨hc3, hT3⟩ := HT.out.2.1 w3 hh ((Mods.refl _ w2).drew.trans hm)
      have H3 := Lib.hid (And.intro hc3 hT3)
      have HTL := Lib.hid htl
      clear hc3 hT3 hh hm c3 f3 i1 i3 j1 j2 j3 j4 htl
      go_wp2_with (first | (refine wpList_load_mid rfl 64 (.tmp 32) rfl ab 4 rfl (t.map enc8) _ (areaC_tail H3.out.1) Tryd.underlying64 rfl (secHi HTL.out) ?_) | (refine wpList_store_mid rfl 64 (.tmp 7) (.tmp 33) rfl w3.heap.size 0 (t.map enc8).toArray rfl rfl ?d5 (secHr HTL.out) (row8_one _) ?_))
      case d5 => exact there_of (alloc_new w3 _) 0 _ (by rw [show zsec = row8 (zeros 128) from rfl, row8_size, zeros_length]; simp [HTL.out])
      have hst := cutRel_start (q := q) hqc H3.out.2 H.out.2.1 HTL.out
      have hne' : H3.out = H3.out := rfl
      generalize hTT : w3.heap.size = T at hst ⊢
      generalize (w3.alloc (.cells zsec 64)).setCells T 0 (t.map enc8) = W0 at hst ⊢
      have HST := Lib.hid hst
      clear hst hTT hne' i2
      go_loopw [8] (fun i wr => CutRel ab d T A { A with end_ := end_, tail := t } L q t w i wr) (fun i _ => A.count - (intOf i).toNat)
      case atStart => exact HST.out
      case round =>
        obtain ⟨m, L', hqm, rfl, hT', hL', hn', hnow', hch'⟩ := hrel
        obtain ⟨k, hk⟩ : ∃ k, q + m = k := ⟨_, rfl⟩
        have hab' := areaF_ab hT'.sat.tail
        have a0 := cell_at hab' 0 (areaC_0 d _)
        have a1 := cell_at hab' 1 (areaC_1 d _)
        have a2 := cell_at hab' 2 (areaC_2 d _)
        simp only at a1 a2
        have hTb := hT'.sat.headIs
        by_cases hlt : k < A.count
        · have hcw := H.out.2.2.1.keep (w' := wr) hT'.mods (fun g' off' e hin => H.out.2.2.2.1 _ e hin)
          obtain ⟨g', off', e', hcl'⟩ := hcw (by rw [List.length_map, HWL.out.1]; omega)
          simp only [Option.some.injEq, Addr.mk.injEq, and_true] at e'
          obtain ⟨rfl, rfl⟩ := e'
          have hws : 128 * k + 128 ≤ ws.length := by rw [HWL.out.1]; omega
          have hrg : wr.rangeAt g (off + k * 128) ((secOf ws k).map enc8) := fun j v hv => by
            obtain ⟨hj, rfl⟩ := List.getElem?_eq_some_iff.1 hv
            have hj' : j < 128 := by simp [secOf] at hj; omega
            rw [show off + k * 128 + j = off + (k * 128 + j) by omega]
            refine (hcl' (k * 128 + j) (by rw [List.length_map]; omega)).trans ?_
            simp [secOf, Nat.mul_comm]
          have hsl : (secOf ws k).length = 128 := by simp [secOf]; omega
          obtain ⟨kk, hkk⟩ : ∃ kk, k * 128 = kk := ⟨_, rfl⟩
          have p1 : ((k : Int) * 128) = (kk : Int) := by omega
          have p2 : IntKind.i64.wrap (kk : Int) = (kk : Int) := IntWalk.i64_in _ (by omega)
          have p3 : (kk : Int) ≤ (ws.length : Int) := by omega
          have p4 : (ws.length : Int) ≤ (lo : Int) := by omega
          have p5 : ¬ lo = kk := by omega
          have p6 : 128 ≤ ws.length - kk := by omega
          rw [hkk] at hrg
          have hkq : (k : Int) < (A.count : Int) := by omega
          have hwt := wantAt_length HTL.out m
          have hrT : wr.rangeAt T 0 ((wantAt t m).map enc8) := by have := rangeAt_row hTb 0 128; rwa [List.drop_zero, List.take_of_length_le (by omega)] at this
          have hcmp := neq_arr42 (secOf ws k) (wantAt t m) hsl hwt
          have HR := Lib.hid (And.intro hT' (And.intro hL' (And.intro hn' (And.intro hnow' (And.intro hch' (And.intro hrg (And.intro hrT (And.intro hcmp (And.intro hsl (And.intro hwt hk))))))))))
          have HK := Lib.hid hkk
          clear hT' hL' hn' hnow' hch' hrg hrT hcmp hsl hwt hcl' hcw hTb hab' hkk hqm
          simp only [hk]
          clear hk HST
          have hal : ab < wr.heap.size := World.block_lt_of_cell? wr _ a0
          go_wp2_with fail
          refine wp_region_still_lit HM.out (by kernel_rfl) ?_
          repeat still_step
          refine wpStill_arr rfl (.tmp 47) rfl _ _ _ p6 rfl ?_
          refine wpStill_load_mid rfl 63 (.tmp 48) rfl g (off + kk) rfl ((secOf ws k).map enc8) _ HR.out.2.2.2.2.2.1 Tryd.underlying63 rfl (by rw [List.length_map, HR.out.2.2.2.2.2.2.2.2.1]; kernel_rfl) ?_
          refine wpStill_load_mid rfl 64 (.tmp 7) rfl T 0 rfl ((wantAt t m).map enc8) _ HR.out.2.2.2.2.2.2.1 Tryd.underlying64 rfl (secHi HR.out.2.2.2.2.2.2.2.2.2.1) ?_
          refine wpStill_cmp rfl .neq 63 (.tmp 49) (.tmp 50) _ rfl guard42 _ _ _ (HR.out.2.2.2.2.2.2.2.1 _) rfl rfl ?_
          refine wpStill_nil ?_
          change Exit.then _ _ _ _ wr.drew
          simp only [Act.put, List.setIfInBounds_toArray, List.set_cons_zero, List.set_cons_succ]
          by_cases heq : secOf ws k = wantAt t m
          · have hd0 : (!decide (secOf ws k = wantAt t m)) = false := by simp [heq]
            have hok := H.out.2.2.2.2.1 m
            rw [HR.out.2.2.2.2.2.2.2.2.2.2] at hok
            have hth : wr.drew.there T 0 128 := (World.there_drew _ _ _ _).2 (there_row HR.out.1.sat.headIs 0 128 (by rw [HR.out.2.2.2.2.2.2.2.2.2.1]; omega))
            have hsk := fun w4 hs i hi => cut_skip (w4 := w4) HR.out.1 HR.out.2.1 HR.out.2.2.1 HR.out.2.2.2.1 HR.out.2.2.2.2.1 (by rw [HR.out.2.2.2.2.2.2.2.2.2.2]; omega) hA H.out.2.1.nowL HTL.out (by rw [HR.out.2.2.2.2.2.2.2.2.2.2]; exact (hok (by omega) (heq.trans (by rw [← HT.out.1]; rfl))).trans (by rw [← HT.out.1]; rfl)) hs i hi
            have HSK := Lib.hid hsk
            have HTH := Lib.hid hth
            rw [hd0]
            clear hok hth hsk heq p5 p6 hd0
            go_wp2_with (first | (refine wpList_build_is rfl 64 #[] rfl (row8 (zeros 128)) HZ.out ?_) | (refine wpList_store_mid rfl 64 (.tmp 7) (.tmp 67) rfl T 0 (row8 (zeros 128)) rfl rfl ?d6 (secHr (zeros_length 128)) (row8_one _) ?_))
            case d6 => rw [row8_size, zeros_length]; exact HTH.out
            go_roundw
            case rel => exact HSK.out _ rfl _ (by rw [HR.out.2.2.2.2.2.2.2.2.2.2])
            case measure => simp [intOf]; omega
          · have hd0 : (!decide (secOf ws k = wantAt t m)) = true := by simp [heq]
            have a0' : wr.drew.cell? ⟨ab, 0, none⟩ = some (.pointer (some ⟨d, 0, none⟩)) := a0
            have a1' : wr.drew.cell? ⟨ab, 1, none⟩ = some (.int .i64 A.first) := a1
            have q1 : IntKind.i64.wrap ((A.first : Int) + (k : Int)) = (A.first : Int) + (k : Int) := IntWalk.i64_in _ (by omega)
            have hrT2 : wr.drew.rangeAt T 0 ((wantAt t m).map enc8) := (World.rangeAt_drew _ _ _ _).2 HR.out.2.2.2.2.2.2.1
            have HT2 := Lib.hid hrT2
            have HWr : Hid (∀ W, Sat W (devF d L') → Calls Tryd.prog 19 #[.pointer (some ⟨d, 0, none⟩), .int .i64 ((A.first : Int) + k), .agg ((wantAt t m).map enc8).toArray] W (WritePost d L' (A.first + k) (wantAt t m) W)) := Lib.hid (fun W hW => by
              have := Write_calls d L' (A.first + k) (wantAt t m) W hW HR.out.2.1 (by rw [HR.out.2.2.1]; omega) HR.out.2.2.2.2.2.2.2.2.2.1 (by have := HR.out.2.2.2.2.1; have := HR.out.2.2.2.2.2.2.2.2.2.2; omega)
              exact this)
            rw [hd0]
            clear heq p5 p6 hd0 hrT2
            obtain ⟨wd, hwd⟩ : ∃ wd, wd = wr.drew := ⟨_, rfl⟩
            rw [← hwd] at a0' a1' HT2 ⊢
            have HWD := Lib.hid hwd
            clear hwd
            go_wp2_with fail
            refine wp_region_still_tail 11 HM.out (by kernel_rfl) ?_
            simp only [List.take_succ_cons, List.take_zero, List.drop_succ_cons, List.drop_zero]
            iterate 10 still_step
            refine wpStill_load_mid rfl 64 (.tmp 7) rfl T 0 rfl ((wantAt t m).map enc8) _ HT2.out Tryd.underlying64 rfl (secHi HR.out.2.2.2.2.2.2.2.2.2.1) ?_
            refine wpStill_nil ?_
            simp only [Act.put, List.setIfInBounds_toArray, List.set_cons_zero, List.set_cons_succ]
            change wpList _ _ _ _ _ wd.drew
            go_wp2_with fail
            have hsd : Sat wd.drew ((T, Is (.cells (row8 (wantAt t m)) 64 (0, 0))) :: (areaF ab d { A with end_ := end_, tail := t } ++ devF d L')) := by rw [HWD.out]; exact (HR.out.1.drew.drew).sat
            refine (HWr.out _ hsd.tail.right).mono ?_
            rintro e w4 ⟨rfl, L2, hW, hL2, hn2, hnow2, hch2⟩
            rw [HWD.out] at hW
            have hTw : w4.heap[T]? = some (.cells (row8 (wantAt t m)) 64 (0, 0)) := hW.mods.at (by have := (HR.out.1.drew.drew).sat.headIs; exact this) (fun hin => (HR.out.1.drew.drew).sat.notMem (by rw [dom_append]; exact List.mem_append_right _ hin))
            have hwr := fun w5 hs i hi => cut_write (w5 := w5) HR.out.1 hW hL2 HR.out.2.2.1 hn2 HR.out.2.2.2.1 (by rw [HR.out.2.2.2.2.2.2.2.2.2.2]; exact hnow2) HR.out.2.2.2.2.1 hch2 (by rw [HR.out.2.2.2.2.2.2.2.2.2.2]; omega) HTL.out hs i hi
            have HWF := Lib.hid hwr
            have HTH := Lib.hid (there_row hTw 0 128 (by rw [HR.out.2.2.2.2.2.2.2.2.2.1]; omega))
            clear hW hL2 hn2 hnow2 hch2 hTw hwr hsd a0' a1' HWr HT2
            go_wp2_with (first | (refine wpList_build_is rfl 64 #[] rfl (row8 (zeros 128)) HZ.out ?_) | (refine wpList_store_mid rfl 64 (.tmp 7) (.tmp 67) rfl T 0 (row8 (zeros 128)) rfl rfl ?d7 (secHr (zeros_length 128)) (row8_one _) ?_))
            case d7 => rw [row8_size, zeros_length]; exact HTH.out
            go_roundw
            case rel => exact HWF.out _ rfl _ (by rw [HR.out.2.2.2.2.2.2.2.2.2.2])
            case measure => simp [intOf]; omega
        · obtain rfl : k = A.count := by omega
          have hch3 : L'.chs.length ≤ 1099511627776 := by omega
          have HFl : Hid (∀ W, Sat W (devF d L') → Calls Tryd.prog 20 #[.pointer (some ⟨d, 0, none⟩)] W (FlushPost d L' W)) := Lib.hid (fun W hW => Flush_calls d L' W hW hL' hch3)
          have HR := Lib.hid (And.intro hT' (And.intro hL' (And.intro hn' (And.intro hnow' hk))))
          have hal : ab < wr.heap.size := World.block_lt_of_cell? wr _ a0
          clear hT' hL' hn' hnow' hch' hab' hTb hqm HST
          simp only [hk]
          clear hk
          go_wp2_with fail
          refine (HFl.out _ HR.out.1.sat.tail.right).mono ?_
          rintro e w4 ⟨rfl, L2, hF, hL2, hn2, hnow2, hsafe2, hch2⟩
          have hfin := cut_end HR.out.1 hF
          have HFin := Lib.hid (And.intro hfin (And.intro hL2 (And.intro hn2 (And.intro hnow2 (And.intro hsafe2 hch2)))))
          clear hfin hF hL2 hn2 hnow2 hsafe2 hch2
          go_wp2_with fail
          go_ret
          obtain ⟨hfin, hL2, hn2, hnow2, hsafe2, hch2⟩ := HFin.out
          have hm : m = A.count - q := by have := HR.out.2.2.2.2; omega
          rw [← HWL.out.2.2.2.1] at *
          refine ⟨rfl, L2, ?_, hL2, hn2.trans HR.out.2.2.1, ?_, hsafe2.trans hnow2.symm, hch2⟩
          · rw [← HT.out.1]; exact hfin
          · rw [hnow2, HR.out.2.2.2.1, hm, HT.out.1]
  · refine wp_region_still_tail 11 HM.out (by kernel_rfl) ?_
    simp only [List.take_succ_cons, List.take_zero, List.drop_succ_cons, List.drop_zero]
    repeat still_step
    refine wpStill_nil ?_
    change wpList _ _ _ _ _ w2.drew
    refine wpList_copy_fp rfl (.tmp 21) (.tmp 28) 52 52 rfl 5 Tryd.underlying52 HS8.out _ _ _ _ _ _ rfl rfl ab 4 (areaCells d { A with end_ := end_, tail := zeros 128 }).toList 78 (by rw [Array.toArray_toList]; exact H2.out.2) (((ws.drop lo).take r).map enc8) ?c1 ?c2 ?c3 (enc8_one _) ?c4
    case c1 => rw [List.length_map, HWL.out.2.2.2.2.2]; have := HWL.out.2.2.2.2.1; show r = min (end_ - lo) 128; omega
    case c2 =>
      intro hp
      rw [List.length_map, HWL.out.2.2.2.2.2] at hp
      refine ⟨rfl, ⟨g, off + lo, none⟩, by simp [Addr.add_lit], fun j v hv => ?_⟩
      obtain ⟨hj, rfl⟩ := List.getElem?_eq_some_iff.1 hv
      have hj' : j < r := by rw [List.length_map, HWL.out.2.2.2.2.2] at hj; exact hj
      rw [Addr.add_lit]
      have hne := H.out.2.2.2.1 _ rfl
      have hcw := CellsAt.keep (w' := w2) H.out.2.2.1 H2.out.1.mods (fun g' off' e hin => by
        simp only [Option.some.injEq, Addr.mk.injEq, and_true] at e; exact hne (e.1 ▸ hin))
      obtain ⟨g', off', e, hc'⟩ := hcw (by simp; have := HWL.out.2.2.2.2.1; omega)
      simp only [Option.some.injEq, Addr.mk.injEq, and_true] at e
      obtain ⟨rfl, rfl⟩ := e
      rw [show off + lo + j = off + (lo + j) by omega]
      refine (hc' (lo + j) (by simp; have := HWL.out.2.2.2.2.1; omega)).trans ?_
      simp
    case c3 => rw [List.length_map, HWL.out.2.2.2.2.2]; simp [areaCells_list, zeros_length]; omega
    case c4 =>
      intro w3 hh hm hsz3
      clear hsz3
      obtain ⟨hc3, hT3⟩ := HT.out.2.1 w3 hh ((Mods.refl _ w2).drew.trans hm)
      have H3 := Lib.hid (And.intro hc3 hT3)
      have HTL := Lib.hid htl
      clear hc3 hT3 hh hm c3 f3 i1 i3 j1 j2 j3 j4 htl
      go_wp2_with (first | (refine wpList_load_mid rfl 64 (.tmp 32) rfl ab 4 rfl (t.map enc8) _ (areaC_tail H3.out.1) Tryd.underlying64 rfl (secHi HTL.out) ?_) | (refine wpList_store_mid rfl 64 (.tmp 7) (.tmp 33) rfl w3.heap.size 0 (t.map enc8).toArray rfl rfl ?c5 (secHr HTL.out) (row8_one _) ?_))
      case c5 => exact there_of (alloc_new w3 _) 0 _ (by rw [show zsec = row8 (zeros 128) from rfl, row8_size, zeros_length]; simp [HTL.out])
      have hst := cutRel_start (q := q) hqc H3.out.2 H.out.2.1 HTL.out
      have hne' : H3.out = H3.out := rfl
      generalize hTT : w3.heap.size = T at hst ⊢
      generalize (w3.alloc (.cells zsec 64)).setCells T 0 (t.map enc8) = W0 at hst ⊢
      have HST := Lib.hid hst
      clear hst hTT hne' i2
      go_loopw [8] (fun i wr => CutRel ab d T A { A with end_ := end_, tail := t } L q t w i wr) (fun i _ => A.count - (intOf i).toNat)
      case atStart => exact HST.out
      case round =>
        obtain ⟨m, L', hqm, rfl, hT', hL', hn', hnow', hch'⟩ := hrel
        obtain ⟨k, hk⟩ : ∃ k, q + m = k := ⟨_, rfl⟩
        have hab' := areaF_ab hT'.sat.tail
        have a0 := cell_at hab' 0 (areaC_0 d _)
        have a1 := cell_at hab' 1 (areaC_1 d _)
        have a2 := cell_at hab' 2 (areaC_2 d _)
        simp only at a1 a2
        have hTb := hT'.sat.headIs
        by_cases hlt : k < A.count
        · have hcw := H.out.2.2.1.keep (w' := wr) hT'.mods (fun g' off' e hin => H.out.2.2.2.1 _ e hin)
          obtain ⟨g', off', e', hcl'⟩ := hcw (by rw [List.length_map, HWL.out.1]; omega)
          simp only [Option.some.injEq, Addr.mk.injEq, and_true] at e'
          obtain ⟨rfl, rfl⟩ := e'
          have hws : 128 * k + 128 ≤ ws.length := by rw [HWL.out.1]; omega
          have hrg : wr.rangeAt g (off + k * 128) ((secOf ws k).map enc8) := fun j v hv => by
            obtain ⟨hj, rfl⟩ := List.getElem?_eq_some_iff.1 hv
            have hj' : j < 128 := by simp [secOf] at hj; omega
            rw [show off + k * 128 + j = off + (k * 128 + j) by omega]
            refine (hcl' (k * 128 + j) (by rw [List.length_map]; omega)).trans ?_
            simp [secOf, Nat.mul_comm]
          have hsl : (secOf ws k).length = 128 := by simp [secOf]; omega
          obtain ⟨kk, hkk⟩ : ∃ kk, k * 128 = kk := ⟨_, rfl⟩
          have p1 : ((k : Int) * 128) = (kk : Int) := by omega
          have p2 : IntKind.i64.wrap (kk : Int) = (kk : Int) := IntWalk.i64_in _ (by omega)
          have p3 : (kk : Int) ≤ (ws.length : Int) := by omega
          have p4 : (ws.length : Int) ≤ (cap : Int) := by omega
          have p5 : ¬ cap = kk := by omega
          have p6 : 128 ≤ ws.length - kk := by omega
          rw [hkk] at hrg
          have hkq : (k : Int) < (A.count : Int) := by omega
          have hwt := wantAt_length HTL.out m
          have hrT : wr.rangeAt T 0 ((wantAt t m).map enc8) := by have := rangeAt_row hTb 0 128; rwa [List.drop_zero, List.take_of_length_le (by omega)] at this
          have hcmp := neq_arr42 (secOf ws k) (wantAt t m) hsl hwt
          have HR := Lib.hid (And.intro hT' (And.intro hL' (And.intro hn' (And.intro hnow' (And.intro hch' (And.intro hrg (And.intro hrT (And.intro hcmp (And.intro hsl (And.intro hwt hk))))))))))
          have HK := Lib.hid hkk
          clear hT' hL' hn' hnow' hch' hrg hrT hcmp hsl hwt hcl' hcw hTb hab' hkk hqm
          simp only [hk]
          clear hk HST
          have hal : ab < wr.heap.size := World.block_lt_of_cell? wr _ a0
          go_wp2_with fail
          refine wp_region_still_lit HM.out (by kernel_rfl) ?_
          repeat still_step
          refine wpStill_arr rfl (.tmp 47) rfl _ _ _ p6 rfl ?_
          refine wpStill_load_mid rfl 63 (.tmp 48) rfl g (off + kk) rfl ((secOf ws k).map enc8) _ HR.out.2.2.2.2.2.1 Tryd.underlying63 rfl (by rw [List.length_map, HR.out.2.2.2.2.2.2.2.2.1]; kernel_rfl) ?_
          refine wpStill_load_mid rfl 64 (.tmp 7) rfl T 0 rfl ((wantAt t m).map enc8) _ HR.out.2.2.2.2.2.2.1 Tryd.underlying64 rfl (secHi HR.out.2.2.2.2.2.2.2.2.2.1) ?_
          refine wpStill_cmp rfl .neq 63 (.tmp 49) (.tmp 50) _ rfl guard42 _ _ _ (HR.out.2.2.2.2.2.2.2.1 _) rfl rfl ?_
          refine wpStill_nil ?_
          change Exit.then _ _ _ _ wr.drew
          simp only [Act.put, List.setIfInBounds_toArray, List.set_cons_zero, List.set_cons_succ]
          by_cases heq : secOf ws k = wantAt t m
          · have hd0 : (!decide (secOf ws k = wantAt t m)) = false := by simp [heq]
            have hok := H.out.2.2.2.2.1 m
            rw [HR.out.2.2.2.2.2.2.2.2.2.2] at hok
            have hth : wr.drew.there T 0 128 := (World.there_drew _ _ _ _).2 (there_row HR.out.1.sat.headIs 0 128 (by rw [HR.out.2.2.2.2.2.2.2.2.2.1]; omega))
            have hsk := fun w4 hs i hi => cut_skip (w4 := w4) HR.out.1 HR.out.2.1 HR.out.2.2.1 HR.out.2.2.2.1 HR.out.2.2.2.2.1 (by rw [HR.out.2.2.2.2.2.2.2.2.2.2]; omega) hA H.out.2.1.nowL HTL.out (by rw [HR.out.2.2.2.2.2.2.2.2.2.2]; exact (hok (by omega) (heq.trans (by rw [← HT.out.1]; rfl))).trans (by rw [← HT.out.1]; rfl)) hs i hi
            have HSK := Lib.hid hsk
            have HTH := Lib.hid hth
            rw [hd0]
            clear hok hth hsk heq p5 p6 hd0
            go_wp2_with (first | (refine wpList_build_is rfl 64 #[] rfl (row8 (zeros 128)) HZ.out ?_) | (refine wpList_store_mid rfl 64 (.tmp 7) (.tmp 67) rfl T 0 (row8 (zeros 128)) rfl rfl ?c6 (secHr (zeros_length 128)) (row8_one _) ?_))
            case c6 => rw [row8_size, zeros_length]; exact HTH.out
            go_roundw
            case rel => exact HSK.out _ rfl _ (by rw [HR.out.2.2.2.2.2.2.2.2.2.2])
            case measure => simp [intOf]; omega
          · have hd0 : (!decide (secOf ws k = wantAt t m)) = true := by simp [heq]
            have a0' : wr.drew.cell? ⟨ab, 0, none⟩ = some (.pointer (some ⟨d, 0, none⟩)) := a0
            have a1' : wr.drew.cell? ⟨ab, 1, none⟩ = some (.int .i64 A.first) := a1
            have q1 : IntKind.i64.wrap ((A.first : Int) + (k : Int)) = (A.first : Int) + (k : Int) := IntWalk.i64_in _ (by omega)
            have hrT2 : wr.drew.rangeAt T 0 ((wantAt t m).map enc8) := (World.rangeAt_drew _ _ _ _).2 HR.out.2.2.2.2.2.2.1
            have HT2 := Lib.hid hrT2
            have HWr : Hid (∀ W, Sat W (devF d L') → Calls Tryd.prog 19 #[.pointer (some ⟨d, 0, none⟩), .int .i64 ((A.first : Int) + k), .agg ((wantAt t m).map enc8).toArray] W (WritePost d L' (A.first + k) (wantAt t m) W)) := Lib.hid (fun W hW => by
              have := Write_calls d L' (A.first + k) (wantAt t m) W hW HR.out.2.1 (by rw [HR.out.2.2.1]; omega) HR.out.2.2.2.2.2.2.2.2.2.1 (by have := HR.out.2.2.2.2.1; have := HR.out.2.2.2.2.2.2.2.2.2.2; omega)
              exact this)
            rw [hd0]
            clear heq p5 p6 hd0 hrT2
            obtain ⟨wd, hwd⟩ : ∃ wd, wd = wr.drew := ⟨_, rfl⟩
            rw [← hwd] at a0' a1' HT2 ⊢
            have HWD := Lib.hid hwd
            clear hwd
            go_wp2_with fail
            refine wp_region_still_tail 11 HM.out (by kernel_rfl) ?_
            simp only [List.take_succ_cons, List.take_zero, List.drop_succ_cons, List.drop_zero]
            iterate 10 still_step
            refine wpStill_load_mid rfl 64 (.tmp 7) rfl T 0 rfl ((wantAt t m).map enc8) _ HT2.out Tryd.underlying64 rfl (secHi HR.out.2.2.2.2.2.2.2.2.2.1) ?_
            refine wpStill_nil ?_
            simp only [Act.put, List.setIfInBounds_toArray, List.set_cons_zero, List.set_cons_succ]
            change wpList _ _ _ _ _ wd.drew
            go_wp2_with fail
            have hsd : Sat wd.drew ((T, Is (.cells (row8 (wantAt t m)) 64 (0, 0))) :: (areaF ab d { A with end_ := end_, tail := t } ++ devF d L')) := by rw [HWD.out]; exact (HR.out.1.drew.drew).sat
            refine (HWr.out _ hsd.tail.right).mono ?_
            rintro e w4 ⟨rfl, L2, hW, hL2, hn2, hnow2, hch2⟩
            rw [HWD.out] at hW
            have hTw : w4.heap[T]? = some (.cells (row8 (wantAt t m)) 64 (0, 0)) := hW.mods.at (by have := (HR.out.1.drew.drew).sat.headIs; exact this) (fun hin => (HR.out.1.drew.drew).sat.notMem (by rw [dom_append]; exact List.mem_append_right _ hin))
            have hwr := fun w5 hs i hi => cut_write (w5 := w5) HR.out.1 hW hL2 HR.out.2.2.1 hn2 HR.out.2.2.2.1 (by rw [HR.out.2.2.2.2.2.2.2.2.2.2]; exact hnow2) HR.out.2.2.2.2.1 hch2 (by rw [HR.out.2.2.2.2.2.2.2.2.2.2]; omega) HTL.out hs i hi
            have HWF := Lib.hid hwr
            have HTH := Lib.hid (there_row hTw 0 128 (by rw [HR.out.2.2.2.2.2.2.2.2.2.1]; omega))
            clear hW hL2 hn2 hnow2 hch2 hTw hwr hsd a0' a1' HWr HT2
            go_wp2_with (first | (refine wpList_build_is rfl 64 #[] rfl (row8 (zeros 128)) HZ.out ?_) | (refine wpList_store_mid rfl 64 (.tmp 7) (.tmp 67) rfl T 0 (row8 (zeros 128)) rfl rfl ?c7 (secHr (zeros_length 128)) (row8_one _) ?_))
            case c7 => rw [row8_size, zeros_length]; exact HTH.out
            go_roundw
            case rel => exact HWF.out _ rfl _ (by rw [HR.out.2.2.2.2.2.2.2.2.2.2])
            case measure => simp [intOf]; omega
        · obtain rfl : k = A.count := by omega
          have hch3 : L'.chs.length ≤ 1099511627776 := by omega
          have HFl : Hid (∀ W, Sat W (devF d L') → Calls Tryd.prog 20 #[.pointer (some ⟨d, 0, none⟩)] W (FlushPost d L' W)) := Lib.hid (fun W hW => Flush_calls d L' W hW hL' hch3)
          have HR := Lib.hid (And.intro hT' (And.intro hL' (And.intro hn' (And.intro hnow' hk))))
          have hal : ab < wr.heap.size := World.block_lt_of_cell? wr _ a0
          clear hT' hL' hn' hnow' hch' hab' hTb hqm HST
          simp only [hk]
          clear hk
          go_wp2_with fail
          refine (HFl.out _ HR.out.1.sat.tail.right).mono ?_
          rintro e w4 ⟨rfl, L2, hF, hL2, hn2, hnow2, hsafe2, hch2⟩
          have hfin := cut_end HR.out.1 hF
          have HFin := Lib.hid (And.intro hfin (And.intro hL2 (And.intro hn2 (And.intro hnow2 (And.intro hsafe2 hch2)))))
          clear hfin hF hL2 hn2 hnow2 hsafe2 hch2
          go_wp2_with fail
          go_ret
          obtain ⟨hfin, hL2, hn2, hnow2, hsafe2, hch2⟩ := HFin.out
          have hm : m = A.count - q := by have := HR.out.2.2.2.2; omega
          rw [← HWL.out.2.2.2.1] at *
          refine ⟨rfl, L2, ?_, hL2, hn2.trans HR.out.2.2.1, ?_, hsafe2.trans hnow2.symm, hch2⟩
          · rw [← HT.out.1]; exact hfin
          · rw [hnow2, HR.out.2.2.2.1, hm, HT.out.1]
end Go.Proofs.YtdhobpbngkainaaDoor
