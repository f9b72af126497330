/-
  Ours. area.Cut: it sets the end, and clears what is behind it.
-/
import Derived.Test.YtdhobpbngkainaaGreatDoorMo05
import Derived.Test.YtdhobpbngkainaaGreatDoorMo04
import Derived.Defers
import Derived.Lib.MinMax
import Derived.Deep.Cut
namespace Go.Proofs.YtdhobpbngkainaaGreatDoor
open Go.RowKit

theorem areaCells_list (d : Nat) (A : AreaL) : (areaCells d A).toList = [Value.pointer (some ⟨d, 0, none⟩), .int .i64 A.first, .int .i64 A.count, .int .i64 A.end_] ++ (A.tail.map enc8 ++ [.chan (some A.ch)]) := by simp [areaCells, row8]
theorem areaC_set3 (d : Nat) (A : AreaL) (e : Nat) : (areaCells d A).setIfInBounds 3 (.int .i64 e) = areaCells d { A with end_ := e } := by
  apply Array.ext'
  rw [Array.toList_setIfInBounds, areaCells_list, areaCells_list]
  rfl
theorem areaC_spl (d : Nat) (A : AreaL) (s : Bs) (hs : s.length ≤ A.tail.length) : (spl (areaCells d A).toList 4 (s.map enc8)).toArray = areaCells d { A with tail := putAt A.tail 0 s } := by
  apply Array.ext'
  rw [areaCells_list]
  show spl _ 4 _ = _
  generalize hh : [Value.pointer (some ⟨d, 0, none⟩), Value.int .i64 A.first, Value.int .i64 A.count, Value.int .i64 A.end_] = hd
  have hl : hd.length = 4 := by rw [← hh]; rfl
  unfold spl
  rw [List.take_left' hl, ← hl, ← List.drop_drop, List.drop_left' rfl, List.drop_append_of_le_length (by simpa using hs)]
  rw [areaCells_list]
  simp [putAt, hh]
theorem area_put {w w' : World} {ab d : Nat} {A A' : AreaL} {R : HF} (h : Sat w (areaF ab d A ++ R)) (hm : Mods (fun k => k = ab) w w') (hc : w'.heap[ab]? = some (.cells (areaCells d A') 157 (0, 0))) (h1 : A'.ch = A.ch) (h2 : A'.spare = A.spare) :
    Turns (areaF ab d A ++ R) (areaF ab d A' ++ R) w w' := by
  have := (Turns.refl h).putIs hm hc
  unfold areaF
  rw [h1, h2]
  exact this
theorem areaC_tail {w : World} {ab d : Nat} {A : AreaL} {t : TypeId} {fz : Nat × Nat} (h : w.heap[ab]? = some (.cells (areaCells d A) t fz)) : w.rangeAt ab 4 (A.tail.map enc8) := fun j v hv => by
  refine cell_at h (4 + j) ?_
  rw [← Array.getElem?_toList, areaCells_list, List.getElem?_append_right (by simp)]
  rw [List.getElem?_append_left (by have := (List.getElem?_eq_some_iff.1 hv).1; simpa [Nat.add_sub_cancel_left] using this)]
  simpa [Nat.add_sub_cancel_left] using hv
theorem areaC_size (d : Nat) (A : AreaL) : (areaCells d A).size = A.tail.length + 5 := by simp [areaCells, row8_size]; omega

theorem splice_spl (L : List Value) (o : Nat) (v : List Value) : splice L o v = spl L o v := by simp [splice, spl]
theorem areaC_copy (d : Nat) (A : AreaL) (e : Nat) (s t : Bs) (hs : s.length ≤ 128) (ht : t = s ++ zeros (128 - s.length)) :
    (splice (areaCells d { A with end_ := e, tail := zeros 128 }).toList 4 (s.map enc8)).toArray = areaCells d { A with end_ := e, tail := t } := by
  have e2 : putAt (zeros 128) 0 s = t := by
    rw [ht]; unfold putAt
    rw [List.take_zero, List.nil_append, Nat.zero_add]
    congr 1; unfold zeros; rw [List.drop_replicate]
  rw [splice_spl, areaC_spl d { A with end_ := e, tail := zeros 128 } s (by rw [zeros_length]; exact hs), e2]
/-- The first m sectors from the q-th on are as they must be. -/
def cutTo (l : Bs) (first q : Nat) (t : Bs) : Nat → Bs
  | 0 => l
  | m + 1 => putAt (cutTo l first q t m) (128 * (first + q + m)) (if m = 0 then t else zeros 128)
theorem cutTo_length {l t : Bs} {n first q : Nat} (hl : l.length = 128 * n) (ht : t.length = 128) (m : Nat) (h : first + q + m ≤ n) : (cutTo l first q t m).length = 128 * n := by
  induction m with
  | zero => exact hl
  | succ m ih =>
    rw [cutTo, putAt_length]
    · exact ih (by omega)
    · rw [ih (by omega)]; split <;> simp [ht, zeros_length] <;> omega
def CutPost (ab d : Nat) (A : AreaL) (L : DevL) (end_ : Nat) (ws : Bs) (w : World) (e : Ending) (w' : World) : Prop :=
  e = .returned .nilIface ∧ ∃ L', Turns (areaF ab d A ++ devF d L) (areaF ab d { A with end_ := end_, tail := ((ws.take end_).drop (128 * (end_ / 128)) ++ zeros (128 - end_ % 128)) } ++ devF d L') w w' ∧ DevOk L' ∧ L'.n = L.n ∧
    L'.now = cutTo L.now A.first (end_ / 128) ((ws.take end_).drop (128 * (end_ / 128)) ++ zeros (128 - end_ % 128)) (A.count - end_ / 128) ∧ L'.safe = L'.now ∧ L'.chs = []
theorem zeroBuilt : Tryz.prog.built 43 [] = some (row8 (zeros 128)) := by kernel_rfl

def wantAt (t : Bs) (m : Nat) : Bs := if m = 0 then t else zeros 128
theorem wantAt_length {t : Bs} (ht : t.length = 128) (m : Nat) : (wantAt t m).length = 128 := by unfold wantAt; split; exact ht; exact zeros_length _
def CutRel (ab d T : Nat) (A A1 : AreaL) (L : DevL) (q : Nat) (t : Bs) (w : World) (i : Value) (wr : World) : Prop :=
  ∃ (m : Nat) (L' : DevL), q + m ≤ A.count ∧ i = .int .i64 ((q + m : Nat) : Int) ∧ Turns (areaF ab d A ++ devF d L) ((T, Is (.cells (row8 (wantAt t m)) 43 (0, 0))) :: (areaF ab d A1 ++ devF d L')) w wr ∧
    DevOk L' ∧ L'.n = L.n ∧ L'.now = cutTo L.now A.first q t m ∧ L'.chs.length ≤ L.chs.length + m
theorem cutRel_start {ab d : Nat} {A A1 : AreaL} {L : DevL} {q : Nat} {t : Bs} {w w3 : World} (hq : q ≤ A.count) (hT : Turns (areaF ab d A ++ devF d L) (areaF ab d A1 ++ devF d L) w w3) (hL : DevOk L) (ht : t.length = 128) :
    CutRel ab d w3.heap.size A A1 L q t w (.int .i64 q) ((w3.alloc (.cells zsec 43)).setCells w3.heap.size 0 (t.map enc8)) := by
  obtain ⟨h1, h2⟩ := setCells_sec (alloc_new w3 (.cells (row8 (zeros 128)) 43)) (s := t) (by rw [ht, zeros_length])
  exact ⟨0, L, hq, rfl, (hT.allocIs (.cells (row8 (zeros 128)) 43)).putIs h2 h1, hL, rfl, rfl, Nat.le_refl _⟩
theorem putAt_self {l s : Bs} {o : Nat} (h : (l.drop o).take s.length = s) (ho : o + s.length ≤ l.length) : putAt l o s = l := by
  unfold putAt
  have e : l.drop o = s ++ l.drop (o + s.length) := by
    rw [← List.take_append_drop s.length (l.drop o), h, List.drop_drop]
  rw [List.append_assoc, ← e, List.take_append_drop]
theorem secOf_cutTo {l t : Bs} {n first q : Nat} (hl : l.length = 128 * n) (ht : t.length = 128) (k : Nat) : ∀ m, first + q + m ≤ n → first + q + m ≤ k → secOf (cutTo l first q t m) k = secOf l k := by
  intro m
  induction m with
  | zero => intro _ _; rfl
  | succ m ih =>
    intro h1 h2
    rw [cutTo, ← ih (by omega) (by omega)]
    have hw : (if m = 0 then t else zeros 128).length = 128 := wantAt_length ht m
    have hlen := cutTo_length hl ht (q := q) (first := first) m (by omega)
    unfold secOf putAt
    congr 1
    rw [List.drop_append, List.drop_of_length_le (by simp [hw]; omega), List.nil_append, List.drop_drop]
    congr 1
    simp only [List.length_append, List.length_take, hw, hlen]
    omega
/-- A sector that is as it must be already. -/
theorem cut_skip {ab d T : Nat} {A A1 : AreaL} {L L' : DevL} {q m : Nat} {t : Bs} {w wr w4 : World} (hT : Turns (areaF ab d A ++ devF d L) ((T, Is (.cells (row8 (wantAt t m)) 43 (0, 0))) :: (areaF ab d A1 ++ devF d L')) w wr)
    (hL' : DevOk L') (hn : L'.n = L.n) (hnow : L'.now = cutTo L.now A.first q t m) (hch : L'.chs.length ≤ L.chs.length + m) (hm : q + m < A.count) (hA : A.first + A.count ≤ L.n) (hLn : L.now.length = 128 * L.n) (ht : t.length = 128)
    (heq : secOf L.now (A.first + (q + m)) = wantAt t m) (hs : w4 = (wr.drew.setCells T 0 ((zeros 128).map enc8))) (i : Value) (hi : i = .int .i64 (((q + m : Nat) : Int) + 1)) : CutRel ab d T A A1 L q t w i w4 := by
  have hTd := hT.drew
  have hb := hTd.sat.headIs
  obtain ⟨h1, h2⟩ := setCells_sec hb (s := zeros 128) (by rw [zeros_length, wantAt_length ht])
  subst hs
  refine ⟨m + 1, L', by omega, by rw [hi]; congr 1, ?_, hL', hn, ?_, by omega⟩
  · rw [show wantAt t (m + 1) = zeros 128 from rfl]; exact hTd.putIs h2 h1
  · rw [cutTo, hnow]
    have hw := wantAt_length ht m
    refine (putAt_self (s := wantAt t m) ?_ ?_).symm
    · have := secOf_cutTo hLn ht (A.first + (q + m)) (first := A.first) (q := q) m (by omega) (by omega)
      rw [hw, show A.first + q + m = A.first + (q + m) by omega]
      rw [heq] at this
      exact this
    · rw [hw, cutTo_length hLn ht m (by omega)]; omega
theorem cut_write {ab d T : Nat} {A A1 : AreaL} {L L' L2 : DevL} {q m : Nat} {t : Bs} {w wr w4 w5 : World} (hT : Turns (areaF ab d A ++ devF d L) ((T, Is (.cells (row8 (wantAt t m)) 43 (0, 0))) :: (areaF ab d A1 ++ devF d L')) w wr)
    (hW : Turns (devF d L') (devF d L2) wr.drew.drew w4) (hL2 : DevOk L2) (hn : L'.n = L.n) (hn2 : L2.n = L'.n) (hnow : L'.now = cutTo L.now A.first q t m) (hnow2 : L2.now = putAt L'.now (128 * (A.first + (q + m))) (wantAt t m)) (hch : L'.chs.length ≤ L.chs.length + m) (hch2 : L2.chs.length = L'.chs.length + 1) (hm : q + m < A.count) (ht : t.length = 128)
    (hs : w5 = w4.setCells T 0 ((zeros 128).map enc8)) (i : Value) (hi : i = .int .i64 (((q + m : Nat) : Int) + 1)) : CutRel ab d T A A1 L q t w i w5 := by
  have p : ∀ X : HF, ((T, Is (.cells (row8 (wantAt t m)) 43 (0, 0))) :: (areaF ab d A1 ++ X)).Perm (X ++ ((T, Is (.cells (row8 (wantAt t m)) 43 (0, 0))) :: areaF ab d A1)) := fun X =>
    (List.perm_append_comm (l₁ := (T, Is (.cells (row8 (wantAt t m)) 43 (0, 0))) :: areaF ab d A1) (l₂ := X))
  have hTd := hT.drew.drew
  have h4 := hTd.trans ((hW.frame (hTd.sat.perm (p _))).perm (p _).symm (p _).symm)
  obtain ⟨h1, h2⟩ := setCells_sec h4.sat.headIs (s := zeros 128) (by rw [zeros_length, wantAt_length ht])
  subst hs
  refine ⟨m + 1, L2, by omega, by rw [hi]; congr 1, ?_, hL2, by omega, ?_, by omega⟩
  · rw [show wantAt t (m + 1) = zeros 128 from rfl]; exact h4.putIs h2 h1
  · rw [hnow2, hnow, cutTo, show A.first + (q + m) = A.first + q + m by omega]; rfl
theorem cut_end {F : HF} {ab d T : Nat} {A1 : AreaL} {φ : Obj → Prop} {L' L2 : DevL} {w wr w4 : World} (hT : Turns F ((T, φ) :: (areaF ab d A1 ++ devF d L')) w wr) (hF : Turns (devF d L') (devF d L2) wr w4) : Turns F (areaF ab d A1 ++ devF d L2) w w4 := by
  have p : ∀ X : HF, ((T, φ) :: (areaF ab d A1 ++ X)).Perm (X ++ ((T, φ) :: areaF ab d A1)) := fun X => (List.perm_append_comm (l₁ := (T, φ) :: areaF ab d A1) (l₂ := X))
  have h4 := hT.trans ((hF.frame (hT.sat.perm (p _))).perm (p _).symm (p _).symm)
  exact Turns.right (G := [(T, φ)]) h4
set_option maxHeartbeats 16000000 in
set_option maxRecDepth 100000 in
theorem Cut_calls (ab d : Nat) (A : AreaL) (L : DevL) (end_ : Nat) (a : Option Addr) (cap : Nat) (ws : Bs) (w : World) (h : Sat w (areaF ab d A ++ devF d L)) (hL : DevOk L) (hA : A.first + A.count ≤ L.n) (hn : L.n ≤ 1073741824) (hao : AreaOk A)
    (hw : CellsAt w a (ws.map enc8)) (hne : ∀ x, a = some x → x.block ∉ dom (areaF ab d A ++ devF d L)) (hwl : ws.length = 128 * A.count) (hcap : ws.length ≤ cap) (hcap2 : cap ≤ 9223372036854775807) (hpos : 0 < A.count) (he : end_ ≤ 128 * A.count) (hch : L.chs.length ≤ 137438953472)
    (hok : ∀ m, end_ / 128 + m < A.count → secOf ws (end_ / 128 + m) = (if m = 0 then ((ws.take end_).drop (128 * (end_ / 128)) ++ zeros (128 - end_ % 128)) else zeros 128) → secOf L.now (A.first + (end_ / 128 + m)) = (if m = 0 then ((ws.take end_).drop (128 * (end_ / 128)) ++ zeros (128 - end_ % 128)) else zeros 128)) :
    Calls Tryz.prog 56 #[.pointer (some ⟨ab, 0, none⟩), .int .i64 end_, .slice a ws.length cap] w (CutPost ab d A L end_ ws w) := by
  unfold CutPost
  obtain ⟨g, off, rfl, _⟩ := hw (by rw [List.length_map]; omega)
  have hab := areaF_ab h
  have c3 := cell_at hab 3 (areaC_3 d A)
  have f3 := free_at hab 3
  have hset3 : (w.setCell ⟨ab, 3, none⟩ (.int .i64 end_)).heap[ab]? = some (.cells (areaCells d { A with end_ := end_ }) 157 (0, 0)) := by rw [set_same hab 3, areaC_set3]
  have hT1 := area_put h ((Mods.refl (fun k => k = ab) w).set1 (i := 3) (.int .i64 end_)) hset3 rfl rfl
  obtain ⟨hs4, hm4⟩ := setCells_gen (C := (areaCells d { A with end_ := end_ }).toList) (by simpa using hset3) 4 ((zeros 128).map enc8) (by rw [List.length_map, zeros_length, Array.length_toList, areaC_size, hao.tail]; omega)
  rw [areaC_spl _ _ _ (by show _ ≤ A.tail.length; rw [zeros_length, hao.tail]; omega)] at hs4
  have hth4 : (w.setCell ⟨ab, 3, none⟩ (.int .i64 end_)).there ab 4 128 := there_of hset3 4 128 (by rw [areaC_size]; show _ ≤ A.tail.length + 5; rw [hao.tail]; omega)
  have hpf : putAt A.tail 0 (zeros 128) = zeros 128 := by simp [putAt, zeros_length, hao.tail]
  simp only [hpf] at hs4
  have hT2 := hT1.trans (area_put (A' := { A with end_ := end_, tail := zeros 128 }) hT1.sat hm4 hs4 rfl rfl)
  obtain ⟨q, hq⟩ : ∃ q, end_ / 128 = q := ⟨_, rfl⟩
  obtain ⟨r, hr⟩ : ∃ r, end_ % 128 = r := ⟨_, rfl⟩
  obtain ⟨lo, hlo⟩ : ∃ lo, 128 * q = lo := ⟨_, rfl⟩
  have hrl : r < 128 := by omega
  have hle : lo + r = end_ := by omega
  have hwe : end_ ≤ ws.length := by omega
  have i1 : ((end_ : Int) % 128) = (r : Int) := by omega
  have i2 : ((end_ : Int) / 128) = (q : Int) := by omega
  have i3 : ((end_ : Int) - (r : Int)) = (lo : Int) := by omega
  have hcs : ((ws.drop lo).take r).length = r := by simp; omega
  rw [hq, hr] at hok ⊢
  have HWL := Lib.hid (And.intro hwl (And.intro hq (And.intro hr (And.intro hlo (And.intro hle hcs)))))
  have hlow : lo ≤ end_ := by omega
  have hqc : q ≤ A.count := by omega
  clear hwl hq hr hlo hle hcs
  have H := Lib.hid (And.intro h (And.intro hL (And.intro hw (And.intro hne (And.intro hok (And.intro hT2 (And.intro hs4 hth4)))))))
  have HZ := Lib.hid zeroBuilt
  have hz := zeroSec
  clear h hL hw hne hok hT1 hT2 hs4 hm4 hset3 hth4 hab
  go_enter Tryz.func56, Tryz.ntmps56
  go_wp2_with (first | (refine wpList_build_is rfl 43 #[] rfl (row8 (zeros 128)) HZ.out ?_) | (refine wpList_store_mid rfl 43 (.tmp 17) (.tmp 15) rfl ab 4 (row8 (zeros 128)) rfl rfl (by rw [row8_size, zeros_length]; exact H.out.2.2.2.2.2.2.2) (secHr (zeros_length 128)) (row8_one _) ?_))
  have HM := Lib.hid (show Tryz.prog.follows .mixedOrders = true by kernel_rfl)
  obtain ⟨w2, hw2⟩ : ∃ w2, w2 = (w.setCell ⟨ab, 3, none⟩ (.int .i64 end_)).setCells ab 4 ((zeros 128).map enc8) := ⟨_, rfl⟩
  have hT2 := H.out.2.2.2.2.2.1
  have hc2 := H.out.2.2.2.2.2.2.1
  rw [← hw2] at hT2 hc2
  change Code.wp _ _ _ _ ((w.setCell ⟨ab, 3, none⟩ (.int .i64 end_)).setCells ab 4 ((zeros 128).map enc8))
  rw [← hw2]
  have H2 := Lib.hid (And.intro hT2 hc2)
  clear hT2 hc2 hw2
  have j1 : ((end_ : Int)).tmod 128 = (r : Int) := by rw [Int.tmod_eq_emod_of_nonneg (by omega)]; exact i1
  have j2 : IntKind.i64.wrap (lo : Int) = (lo : Int) := IntWalk.i64_in _ (by omega)
  have j3 : (lo : Int) ≤ (end_ : Int) := by omega
  have j4 : (end_ : Int) ≤ (cap : Int) := by omega
  obtain ⟨t, ht⟩ : ∃ t : Bs, t = (ws.drop lo).take r ++ zeros (128 - r) := ⟨_, rfl⟩
  have htl : t.length = 128 := by rw [ht, List.length_append, HWL.out.2.2.2.2.2, zeros_length]; omega
  have htw : t = (ws.take end_).drop (128 * q) ++ zeros (128 - r) := by rw [ht, List.drop_take, HWL.out.2.2.2.1]; congr 2; have := HWL.out.2.2.2.2.1; omega
  have hcp : ∀ w3, w3.heap[ab]? = some (.cells (splice (areaCells d { A with end_ := end_, tail := zeros 128 }).toList 4 (((ws.drop lo).take r).map enc8)).toArray 157 (0, 0)) → Mods (fun k => k = ab) w2 w3 →
      w3.heap[ab]? = some (.cells (areaCells d { A with end_ := end_, tail := t }) 157 (0, 0)) ∧ Turns (areaF ab d A ++ devF d L) (areaF ab d { A with end_ := end_, tail := t } ++ devF d L) w w3 := fun w3 hh hm => by
    have hc : w3.heap[ab]? = some (.cells (areaCells d { A with end_ := end_, tail := t }) 157 (0, 0)) := by
      rw [hh, areaC_copy d A end_ _ t (by rw [HWL.out.2.2.2.2.2]; omega) (by rw [HWL.out.2.2.2.2.2]; exact ht)]
    exact ⟨hc, (H2.out.1).trans (area_put H2.out.1.sat hm hc rfl rfl)⟩
  have HT := Lib.hid (And.intro htw (And.intro hcp ht))
  have hsz8 : (Tryz.prog.info? 5).map (·.size) = some 1 := by kernel_rfl
  have HS8 := Lib.hid hsz8
  clear htw hcp ht hsz8
  by_cases hcl : cap = lo
  · have HR0 : Hid (r = 0) := Lib.hid (by have := HWL.out.2.2.2.2.1; omega)
    have hcl' := hcl.symm
    clear hcl
    subst hcl'
    refine wp_region_still_tail 11 HM.out (by kernel_rfl) ?_
    simp only [List.take_succ_cons, List.take_zero, List.drop_succ_cons, List.drop_zero]
    repeat still_step
    refine wpStill_nil ?_
    change wpList _ _ _ _ _ w2.drew
    refine wpList_copy_fp rfl (.tmp 21) (.tmp 28) 38 38 rfl 5 Tryz.underlying38 HS8.out _ _ _ _ _ _ rfl rfl ab 4 (areaCells d { A with end_ := end_, tail := zeros 128 }).toList 157 (by rw [Array.toArray_toList]; exact H2.out.2) (((ws.drop lo).take r).map enc8) ?d1 ?d2 ?d3 (enc8_one _) ?d4
    case d1 => rw [List.length_map, HWL.out.2.2.2.2.2]; have := HWL.out.2.2.2.2.1; show r = min (end_ - lo) 128; omega
    case d2 =>
      intro hp
      rw [List.length_map, HWL.out.2.2.2.2.2] at hp
      have := HR0.out
      omega
    case d3 => rw [List.length_map, HWL.out.2.2.2.2.2]; simp [areaCells_list, zeros_length]; omega
    case d4 =>
      intro w3 hh hm hsz3
      clear hsz3
      obtain ⟨hc3, hT3⟩ := HT.out.2.1 w3 hh ((Mods.refl _ w2).drew.trans hm)
      have H3 := Lib.hid (And.intro hc3 hT3)
      have HTL := Lib.hid htl
      clear hc3 hT3 hh hm c3 f3 i1 i3 j1 j2 j3 j4 htl
      go_wp2_with (first | (refine wpList_load_mid rfl 43 (.tmp 32) rfl ab 4 rfl (t.map enc8) _ (areaC_tail H3.out.1) Tryz.underlying43 rfl (secHi HTL.out) ?_) | (refine wpList_store_mid rfl 43 (.tmp 7) (.tmp 33) rfl w3.heap.size 0 (t.map enc8).toArray rfl rfl ?d5 (secHr HTL.out) (row8_one _) ?_))
      case d5 => exact there_of (alloc_new w3 _) 0 _ (by rw [show zsec = row8 (zeros 128) from rfl, row8_size, zeros_length]; simp [HTL.out])
      have hst := cutRel_start (q := q) hqc H3.out.2 H.out.2.1 HTL.out
      have hne' : H3.out = H3.out := rfl
      generalize hTT : w3.heap.size = T at hst ⊢
      generalize (w3.alloc (.cells zsec 43)).setCells T 0 (t.map enc8) = W0 at hst ⊢
      have HST := Lib.hid hst
      clear hst hTT hne' i2
      go_loopw [8] (fun i wr => CutRel ab d T A { A with end_ := end_, tail := t } L q t w i wr) (fun i _ => A.count - (intOf i).toNat)
      case atStart => exact HST.out
      case round =>
        obtain ⟨m, L', hqm, rfl, hT', hL', hn', hnow', hch'⟩ := hrel
        obtain ⟨k, hk⟩ : ∃ k, q + m = k := ⟨_, rfl⟩
        have hab' := areaF_ab hT'.sat.tail
        have a0 := cell_at hab' 0 (areaC_0 d _)
        have a1 := cell_at hab' 1 (areaC_1 d _)
        have a2 := cell_at hab' 2 (areaC_2 d _)
        simp only at a1 a2
        have hTb := hT'.sat.headIs
        by_cases hlt : k < A.count
        · have hcw := H.out.2.2.1.keep (w' := wr) hT'.mods (fun g' off' e hin => H.out.2.2.2.1 _ e hin)
          obtain ⟨g', off', e', hcl'⟩ := hcw (by rw [List.length_map, HWL.out.1]; omega)
          simp only [Option.some.injEq, Addr.mk.injEq, and_true] at e'
          obtain ⟨rfl, rfl⟩ := e'
          have hws : 128 * k + 128 ≤ ws.length := by rw [HWL.out.1]; omega
          have hrg : wr.rangeAt g (off + k * 128) ((secOf ws k).map enc8) := fun j v hv => by
            obtain ⟨hj, rfl⟩ := List.getElem?_eq_some_iff.1 hv
            have hj' : j < 128 := by simp [secOf] at hj; omega
            rw [show off + k * 128 + j = off + (k * 128 + j) by omega]
            refine (hcl' (k * 128 + j) (by rw [List.length_map]; omega)).trans ?_
            simp [secOf, Nat.mul_comm]
          have hsl : (secOf ws k).length = 128 := by simp [secOf]; omega
          obtain ⟨kk, hkk⟩ : ∃ kk, k * 128 = kk := ⟨_, rfl⟩
          have p1 : ((k : Int) * 128) = (kk : Int) := by omega
          have p2 : IntKind.i64.wrap (kk : Int) = (kk : Int) := IntWalk.i64_in _ (by omega)
          have p3 : (kk : Int) ≤ (ws.length : Int) := by omega
          have p4 : (ws.length : Int) ≤ (lo : Int) := by omega
          have p5 : ¬ lo = kk := by omega
          have p6 : 128 ≤ ws.length - kk := by omega
          rw [hkk] at hrg
          have hkq : (k : Int) < (A.count : Int) := by omega
          have hwt := wantAt_length HTL.out m
          have hrT : wr.rangeAt T 0 ((wantAt t m).map enc8) := by have := rangeAt_row hTb 0 128; rwa [List.drop_zero, List.take_of_length_le (by omega)] at this
          have hcmp := neq_arr42 (secOf ws k) (wantAt t m) hsl hwt
          have HR := Lib.hid (And.intro hT' (And.intro hL' (And.intro hn' (And.intro hnow' (And.intro hch' (And.intro hrg (And.intro hrT (And.intro hcmp (And.intro hsl (And.intro hwt hk))))))))))
          have HK := Lib.hid hkk
          clear hT' hL' hn' hnow' hch' hrg hrT hcmp hsl hwt hcl' hcw hTb hab' hkk hqm
          simp only [hk]
          clear hk HST
          have hal : ab < wr.heap.size := World.block_lt_of_cell? wr _ a0
          go_wp2_with fail
          refine wp_region_still_lit HM.out (by kernel_rfl) ?_
          repeat still_step
          refine wpStill_arr rfl (.tmp 47) rfl _ _ _ p6 rfl ?_
          refine wpStill_load_mid rfl 42 (.tmp 48) rfl g (off + kk) rfl ((secOf ws k).map enc8) _ HR.out.2.2.2.2.2.1 Tryz.underlying42 rfl (by rw [List.length_map, HR.out.2.2.2.2.2.2.2.2.1]; kernel_rfl) ?_
          refine wpStill_load_mid rfl 43 (.tmp 7) rfl T 0 rfl ((wantAt t m).map enc8) _ HR.out.2.2.2.2.2.2.1 Tryz.underlying43 rfl (secHi HR.out.2.2.2.2.2.2.2.2.2.1) ?_
          refine wpStill_cmp rfl .neq 42 (.tmp 49) (.tmp 50) _ rfl guard42 _ _ _ (HR.out.2.2.2.2.2.2.2.1 _) rfl rfl ?_
          refine wpStill_nil ?_
          change Exit.then _ _ _ _ wr.drew
          simp only [Act.put, List.setIfInBounds_toArray, List.set_cons_zero, List.set_cons_succ]
          by_cases heq : secOf ws k = wantAt t m
          · have hd0 : (!decide (secOf ws k = wantAt t m)) = false := by simp [heq]
            have hok := H.out.2.2.2.2.1 m
            rw [HR.out.2.2.2.2.2.2.2.2.2.2] at hok
            have hth : wr.drew.there T 0 128 := (World.there_drew _ _ _ _).2 (there_row HR.out.1.sat.headIs 0 128 (by rw [HR.out.2.2.2.2.2.2.2.2.2.1]; omega))
            have hsk := fun w4 hs i hi => cut_skip (w4 := w4) HR.out.1 HR.out.2.1 HR.out.2.2.1 HR.out.2.2.2.1 HR.out.2.2.2.2.1 (by rw [HR.out.2.2.2.2.2.2.2.2.2.2]; omega) hA H.out.2.1.nowL HTL.out (by rw [HR.out.2.2.2.2.2.2.2.2.2.2]; exact (hok (by omega) (heq.trans (by rw [← HT.out.1]; rfl))).trans (by rw [← HT.out.1]; rfl)) hs i hi
            have HSK := Lib.hid hsk
            have HTH := Lib.hid hth
            rw [hd0]
            clear hok hth hsk heq p5 p6 hd0
            go_wp2_with (first | (refine wpList_build_is rfl 43 #[] rfl (row8 (zeros 128)) HZ.out ?_) | (refine wpList_store_mid rfl 43 (.tmp 7) (.tmp 67) rfl T 0 (row8 (zeros 128)) rfl rfl ?d6 (secHr (zeros_length 128)) (row8_one _) ?_))
            case d6 => rw [row8_size, zeros_length]; exact HTH.out
            go_roundw
            case rel => exact HSK.out _ rfl _ (by rw [HR.out.2.2.2.2.2.2.2.2.2.2])
            case measure => simp [intOf]; omega
          · have hd0 : (!decide (secOf ws k = wantAt t m)) = true := by simp [heq]
            have a0' : wr.drew.cell? ⟨ab, 0, none⟩ = some (.pointer (some ⟨d, 0, none⟩)) := a0
            have a1' : wr.drew.cell? ⟨ab, 1, none⟩ = some (.int .i64 A.first) := a1
            have q1 : IntKind.i64.wrap ((A.first : Int) + (k : Int)) = (A.first : Int) + (k : Int) := IntWalk.i64_in _ (by omega)
            have hrT2 : wr.drew.rangeAt T 0 ((wantAt t m).map enc8) := (World.rangeAt_drew _ _ _ _).2 HR.out.2.2.2.2.2.2.1
            have HT2 := Lib.hid hrT2
            have HWr : Hid (∀ W, Sat W (devF d L') → Calls Tryz.prog 18 #[.pointer (some ⟨d, 0, none⟩), .int .i64 ((A.first : Int) + k), .agg ((wantAt t m).map enc8).toArray] W (WritePost d L' (A.first + k) (wantAt t m) W)) := Lib.hid (fun W hW => by
              have := Write_calls d L' (A.first + k) (wantAt t m) W hW HR.out.2.1 (by rw [HR.out.2.2.1]; omega) HR.out.2.2.2.2.2.2.2.2.2.1 (by have := HR.out.2.2.2.2.1; have := HR.out.2.2.2.2.2.2.2.2.2.2; omega)
              exact this)
            rw [hd0]
            clear heq p5 p6 hd0 hrT2
            obtain ⟨wd, hwd⟩ : ∃ wd, wd = wr.drew := ⟨_, rfl⟩
            rw [← hwd] at a0' a1' HT2 ⊢
            have HWD := Lib.hid hwd
            clear hwd
            go_wp2_with fail
            refine wp_region_still_tail 11 HM.out (by kernel_rfl) ?_
            simp only [List.take_succ_cons, List.take_zero, List.drop_succ_cons, List.drop_zero]
            iterate 10 still_step
            refine wpStill_load_mid rfl 43 (.tmp 7) rfl T 0 rfl ((wantAt t m).map enc8) _ HT2.out Tryz.underlying43 rfl (secHi HR.out.2.2.2.2.2.2.2.2.2.1) ?_
            refine wpStill_nil ?_
            simp only [Act.put, List.setIfInBounds_toArray, List.set_cons_zero, List.set_cons_succ]
            change wpList _ _ _ _ _ wd.drew
            go_wp2_with fail
            have hsd : Sat wd.drew ((T, Is (.cells (row8 (wantAt t m)) 43 (0, 0))) :: (areaF ab d { A with end_ := end_, tail := t } ++ devF d L')) := by rw [HWD.out]; exact (HR.out.1.drew.drew).sat
            refine (HWr.out _ hsd.tail.right).mono ?_
            rintro e w4 ⟨rfl, L2, hW, hL2, hn2, hnow2, hch2⟩
            rw [HWD.out] at hW
            have hTw : w4.heap[T]? = some (.cells (row8 (wantAt t m)) 43 (0, 0)) := hW.mods.at (by have := (HR.out.1.drew.drew).sat.headIs; exact this) (fun hin => (HR.out.1.drew.drew).sat.notMem (by rw [dom_append]; exact List.mem_append_right _ hin))
            have hwr := fun w5 hs i hi => cut_write (w5 := w5) HR.out.1 hW hL2 HR.out.2.2.1 hn2 HR.out.2.2.2.1 (by rw [HR.out.2.2.2.2.2.2.2.2.2.2]; exact hnow2) HR.out.2.2.2.2.1 hch2 (by rw [HR.out.2.2.2.2.2.2.2.2.2.2]; omega) HTL.out hs i hi
            have HWF := Lib.hid hwr
            have HTH := Lib.hid (there_row hTw 0 128 (by rw [HR.out.2.2.2.2.2.2.2.2.2.1]; omega))
            clear hW hL2 hn2 hnow2 hch2 hTw hwr hsd a0' a1' HWr HT2
            go_wp2_with (first | (refine wpList_build_is rfl 43 #[] rfl (row8 (zeros 128)) HZ.out ?_) | (refine wpList_store_mid rfl 43 (.tmp 7) (.tmp 67) rfl T 0 (row8 (zeros 128)) rfl rfl ?d7 (secHr (zeros_length 128)) (row8_one _) ?_))
            case d7 => rw [row8_size, zeros_length]; exact HTH.out
            go_roundw
            case rel => exact HWF.out _ rfl _ (by rw [HR.out.2.2.2.2.2.2.2.2.2.2])
            case measure => simp [intOf]; omega
        · obtain rfl : k = A.count := by omega
          have hch3 : L'.chs.length ≤ 1099511627776 := by omega
          have HFl : Hid (∀ W, Sat W (devF d L') → Calls Tryz.prog 20 #[.pointer (some ⟨d, 0, none⟩)] W (FlushPost d L' W)) := Lib.hid (fun W hW => Flush_calls d L' W hW hL' hch3)
          have HR := Lib.hid (And.intro hT' (And.intro hL' (And.intro hn' (And.intro hnow' hk))))
          have hal : ab < wr.heap.size := World.block_lt_of_cell? wr _ a0
          clear hT' hL' hn' hnow' hch' hab' hTb hqm HST
          simp only [hk]
          clear hk
          go_wp2_with fail
          refine (HFl.out _ HR.out.1.sat.tail.right).mono ?_
          rintro e w4 ⟨rfl, L2, hF, hL2, hn2, hnow2, hsafe2, hch2⟩
          have hfin := cut_end HR.out.1 hF
          have HFin := Lib.hid (And.intro hfin (And.intro hL2 (And.intro hn2 (And.intro hnow2 (And.intro hsafe2 hch2)))))
          clear hfin hF hL2 hn2 hnow2 hsafe2 hch2
          go_wp2_with fail
          go_ret
          obtain ⟨hfin, hL2, hn2, hnow2, hsafe2, hch2⟩ := HFin.out
          have hm : m = A.count - q := by have := HR.out.2.2.2.2; omega
          rw [← HWL.out.2.2.2.1] at *
          refine ⟨rfl, L2, ?_, hL2, hn2.trans HR.out.2.2.1, ?_, hsafe2.trans hnow2.symm, hch2⟩
          · rw [← HT.out.1]; exact hfin
          · rw [hnow2, HR.out.2.2.2.1, hm, HT.out.1]
  · refine wp_region_still_tail 11 HM.out (by kernel_rfl) ?_
    simp only [List.take_succ_cons, List.take_zero, List.drop_succ_cons, List.drop_zero]
    repeat still_step
    refine wpStill_nil ?_
    change wpList _ _ _ _ _ w2.drew
    refine wpList_copy_fp rfl (.tmp 21) (.tmp 28) 38 38 rfl 5 Tryz.underlying38 HS8.out _ _ _ _ _ _ rfl rfl ab 4 (areaCells d { A with end_ := end_, tail := zeros 128 }).toList 157 (by rw [Array.toArray_toList]; exact H2.out.2) (((ws.drop lo).take r).map enc8) ?c1 ?c2 ?c3 (enc8_one _) ?c4
    case c1 => rw [List.length_map, HWL.out.2.2.2.2.2]; have := HWL.out.2.2.2.2.1; show r = min (end_ - lo) 128; omega
    case c2 =>
      intro hp
      rw [List.length_map, HWL.out.2.2.2.2.2] at hp
      refine ⟨rfl, ⟨g, off + lo, none⟩, by simp [Addr.add_lit], fun j v hv => ?_⟩
      obtain ⟨hj, rfl⟩ := List.getElem?_eq_some_iff.1 hv
      have hj' : j < r := by rw [List.length_map, HWL.out.2.2.2.2.2] at hj; exact hj
      rw [Addr.add_lit]
      have hne := H.out.2.2.2.1 _ rfl
      have hcw := CellsAt.keep (w' := w2) H.out.2.2.1 H2.out.1.mods (fun g' off' e hin => by
        simp only [Option.some.injEq, Addr.mk.injEq, and_true] at e; exact hne (e.1 ▸ hin))
      obtain ⟨g', off', e, hc'⟩ := hcw (by simp; have := HWL.out.2.2.2.2.1; omega)
      simp only [Option.some.injEq, Addr.mk.injEq, and_true] at e
      obtain ⟨rfl, rfl⟩ := e
      rw [show off + lo + j = off + (lo + j) by omega]
      refine (hc' (lo + j) (by simp; have := HWL.out.2.2.2.2.1; omega)).trans ?_
      simp
    case c3 => rw [List.length_map, HWL.out.2.2.2.2.2]; simp [areaCells_list, zeros_length]; omega
    case c4 =>
      intro w3 hh hm hsz3
      clear hsz3
      obtain ⟨hc3, hT3⟩ := HT.out.2.1 w3 hh ((Mods.refl _ w2).drew.trans hm)
      have H3 := Lib.hid (And.intro hc3 hT3)
      have HTL := Lib.hid htl
      clear hc3 hT3 hh hm c3 f3 i1 i3 j1 j2 j3 j4 htl
      go_wp2_with (first | (refine wpList_load_mid rfl 43 (.tmp 32) rfl ab 4 rfl (t.map enc8) _ (areaC_tail H3.out.1) Tryz.underlying43 rfl (secHi HTL.out) ?_) | (refine wpList_store_mid rfl 43 (.tmp 7) (.tmp 33) rfl w3.heap.size 0 (t.map enc8).toArray rfl rfl ?c5 (secHr HTL.out) (row8_one _) ?_))
      case c5 => exact there_of (alloc_new w3 _) 0 _ (by rw [show zsec = row8 (zeros 128) from rfl, row8_size, zeros_length]; simp [HTL.out])
      have hst := cutRel_start (q := q) hqc H3.out.2 H.out.2.1 HTL.out
      have hne' : H3.out = H3.out := rfl
      generalize hTT : w3.heap.size = T at hst ⊢
      generalize (w3.alloc (.cells zsec 43)).setCells T 0 (t.map enc8) = W0 at hst ⊢
      have HST := Lib.hid hst
      clear hst hTT hne' i2
      go_loopw [8] (fun i wr => CutRel ab d T A { A with end_ := end_, tail := t } L q t w i wr) (fun i _ => A.count - (intOf i).toNat)
      case atStart => exact HST.out
      case round =>
        obtain ⟨m, L', hqm, rfl, hT', hL', hn', hnow', hch'⟩ := hrel
        obtain ⟨k, hk⟩ : ∃ k, q + m = k := ⟨_, rfl⟩
        have hab' := areaF_ab hT'.sat.tail
        have a0 := cell_at hab' 0 (areaC_0 d _)
        have a1 := cell_at hab' 1 (areaC_1 d _)
        have a2 := cell_at hab' 2 (areaC_2 d _)
        simp only at a1 a2
        have hTb := hT'.sat.headIs
        by_cases hlt : k < A.count
        · have hcw := H.out.2.2.1.keep (w' := wr) hT'.mods (fun g' off' e hin => H.out.2.2.2.1 _ e hin)
          obtain ⟨g', off', e', hcl'⟩ := hcw (by rw [List.length_map, HWL.out.1]; omega)
          simp only [Option.some.injEq, Addr.mk.injEq, and_true] at e'
          obtain ⟨rfl, rfl⟩ := e'
          have hws : 128 * k + 128 ≤ ws.length := by rw [HWL.out.1]; omega
          have hrg : wr.rangeAt g (off + k * 128) ((secOf ws k).map enc8) := fun j v hv => by
            obtain ⟨hj, rfl⟩ := List.getElem?_eq_some_iff.1 hv
            have hj' : j < 128 := by simp [secOf] at hj; omega
            rw [show off + k * 128 + j = off + (k * 128 + j) by omega]
            refine (hcl' (k * 128 + j) (by rw [List.length_map]; omega)).trans ?_
            simp [secOf, Nat.mul_comm]
          have hsl : (secOf ws k).length = 128 := by simp [secOf]; omega
          obtain ⟨kk, hkk⟩ : ∃ kk, k * 128 = kk := ⟨_, rfl⟩
          have p1 : ((k : Int) * 128) = (kk : Int) := by omega
          have p2 : IntKind.i64.wrap (kk : Int) = (kk : Int) := IntWalk.i64_in _ (by omega)
          have p3 : (kk : Int) ≤ (ws.length : Int) := by omega
          have p4 : (ws.length : Int) ≤ (cap : Int) := by omega
          have p5 : ¬ cap = kk := by omega
          have p6 : 128 ≤ ws.length - kk := by omega
          rw [hkk] at hrg
          have hkq : (k : Int) < (A.count : Int) := by omega
          have hwt := wantAt_length HTL.out m
          have hrT : wr.rangeAt T 0 ((wantAt t m).map enc8) := by have := rangeAt_row hTb 0 128; rwa [List.drop_zero, List.take_of_length_le (by omega)] at this
          have hcmp := neq_arr42 (secOf ws k) (wantAt t m) hsl hwt
          have HR := Lib.hid (And.intro hT' (And.intro hL' (And.intro hn' (And.intro hnow' (And.intro hch' (And.intro hrg (And.intro hrT (And.intro hcmp (And.intro hsl (And.intro hwt hk))))))))))
          have HK := Lib.hid hkk
          clear hT' hL' hn' hnow' hch' hrg hrT hcmp hsl hwt hcl' hcw hTb hab' hkk hqm
          simp only [hk]
          clear hk HST
          have hal : ab < wr.heap.size := World.block_lt_of_cell? wr _ a0
          go_wp2_with fail
          refine wp_region_still_lit HM.out (by kernel_rfl) ?_
          repeat still_step
          refine wpStill_arr rfl (.tmp 47) rfl _ _ _ p6 rfl ?_
          refine wpStill_load_mid rfl 42 (.tmp 48) rfl g (off + kk) rfl ((secOf ws k).map enc8) _ HR.out.2.2.2.2.2.1 Tryz.underlying42 rfl (by rw [List.length_map, HR.out.2.2.2.2.2.2.2.2.1]; kernel_rfl) ?_
          refine wpStill_load_mid rfl 43 (.tmp 7) rfl T 0 rfl ((wantAt t m).map enc8) _ HR.out.2.2.2.2.2.2.1 Tryz.underlying43 rfl (secHi HR.out.2.2.2.2.2.2.2.2.2.1) ?_
          refine wpStill_cmp rfl .neq 42 (.tmp 49) (.tmp 50) _ rfl guard42 _ _ _ (HR.out.2.2.2.2.2.2.2.1 _) rfl rfl ?_
          refine wpStill_nil ?_
          change Exit.then _ _ _ _ wr.drew
          simp only [Act.put, List.setIfInBounds_toArray, List.set_cons_zero, List.set_cons_succ]
          by_cases heq : secOf ws k = wantAt t m
          · have hd0 : (!decide (secOf ws k = wantAt t m)) = false := by simp [heq]
            have hok := H.out.2.2.2.2.1 m
            rw [HR.out.2.2.2.2.2.2.2.2.2.2] at hok
            have hth : wr.drew.there T 0 128 := (World.there_drew _ _ _ _).2 (there_row HR.out.1.sat.headIs 0 128 (by rw [HR.out.2.2.2.2.2.2.2.2.2.1]; omega))
            have hsk := fun w4 hs i hi => cut_skip (w4 := w4) HR.out.1 HR.out.2.1 HR.out.2.2.1 HR.out.2.2.2.1 HR.out.2.2.2.2.1 (by rw [HR.out.2.2.2.2.2.2.2.2.2.2]; omega) hA H.out.2.1.nowL HTL.out (by rw [HR.out.2.2.2.2.2.2.2.2.2.2]; exact (hok (by omega) (heq.trans (by rw [← HT.out.1]; rfl))).trans (by rw [← HT.out.1]; rfl)) hs i hi
            have HSK := Lib.hid hsk
            have HTH := Lib.hid hth
            rw [hd0]
            clear hok hth hsk heq p5 p6 hd0
            go_wp2_with (first | (refine wpList_build_is rfl 43 #[] rfl (row8 (zeros 128)) HZ.out ?_) | (refine wpList_store_mid rfl 43 (.tmp 7) (.tmp 67) rfl T 0 (row8 (zeros 128)) rfl rfl ?c6 (secHr (zeros_length 128)) (row8_one _) ?_))
            case c6 => rw [row8_size, zeros_length]; exact HTH.out
            go_roundw
            case rel => exact HSK.out _ rfl _ (by rw [HR.out.2.2.2.2.2.2.2.2.2.2])
            case measure => simp [intOf]; omega
          · have hd0 : (!decide (secOf ws k = wantAt t m)) = true := by simp [heq]
            have a0' : wr.drew.cell? ⟨ab, 0, none⟩ = some (.pointer (some ⟨d, 0, none⟩)) := a0
            have a1' : wr.drew.cell? ⟨ab, 1, none⟩ = some (.int .i64 A.first) := a1
            have q1 : IntKind.i64.wrap ((A.first : Int) + (k : Int)) = (A.first : Int) + (k : Int) := IntWalk.i64_in _ (by omega)
            have hrT2 : wr.drew.rangeAt T 0 ((wantAt t m).map enc8) := (World.rangeAt_drew _ _ _ _).2 HR.out.2.2.2.2.2.2.1
            have HT2 := Lib.hid hrT2
            have HWr : Hid (∀ W, Sat W (devF d L') → Calls Tryz.prog 18 #[.pointer (some ⟨d, 0, none⟩), .int .i64 ((A.first : Int) + k), .agg ((wantAt t m).map enc8).toArray] W (WritePost d L' (A.first + k) (wantAt t m) W)) := Lib.hid (fun W hW => by
              have := Write_calls d L' (A.first + k) (wantAt t m) W hW HR.out.2.1 (by rw [HR.out.2.2.1]; omega) HR.out.2.2.2.2.2.2.2.2.2.1 (by have := HR.out.2.2.2.2.1; have := HR.out.2.2.2.2.2.2.2.2.2.2; omega)
              exact this)
            rw [hd0]
            clear heq p5 p6 hd0 hrT2
            obtain ⟨wd, hwd⟩ : ∃ wd, wd = wr.drew := ⟨_, rfl⟩
            rw [← hwd] at a0' a1' HT2 ⊢
            have HWD := Lib.hid hwd
            clear hwd
            go_wp2_with fail
            refine wp_region_still_tail 11 HM.out (by kernel_rfl) ?_
            simp only [List.take_succ_cons, List.take_zero, List.drop_succ_cons, List.drop_zero]
            iterate 10 still_step
            refine wpStill_load_mid rfl 43 (.tmp 7) rfl T 0 rfl ((wantAt t m).map enc8) _ HT2.out Tryz.underlying43 rfl (secHi HR.out.2.2.2.2.2.2.2.2.2.1) ?_
            refine wpStill_nil ?_
            simp only [Act.put, List.setIfInBounds_toArray, List.set_cons_zero, List.set_cons_succ]
            change wpList _ _ _ _ _ wd.drew
            go_wp2_with fail
            have hsd : Sat wd.drew ((T, Is (.cells (row8 (wantAt t m)) 43 (0, 0))) :: (areaF ab d { A with end_ := end_, tail := t } ++ devF d L')) := by rw [HWD.out]; exact (HR.out.1.drew.drew).sat
            refine (HWr.out _ hsd.tail.right).mono ?_
            rintro e w4 ⟨rfl, L2, hW, hL2, hn2, hnow2, hch2⟩
            rw [HWD.out] at hW
            have hTw : w4.heap[T]? = some (.cells (row8 (wantAt t m)) 43 (0, 0)) := hW.mods.at (by have := (HR.out.1.drew.drew).sat.headIs; exact this) (fun hin => (HR.out.1.drew.drew).sat.notMem (by rw [dom_append]; exact List.mem_append_right _ hin))
            have hwr := fun w5 hs i hi => cut_write (w5 := w5) HR.out.1 hW hL2 HR.out.2.2.1 hn2 HR.out.2.2.2.1 (by rw [HR.out.2.2.2.2.2.2.2.2.2.2]; exact hnow2) HR.out.2.2.2.2.1 hch2 (by rw [HR.out.2.2.2.2.2.2.2.2.2.2]; omega) HTL.out hs i hi
            have HWF := Lib.hid hwr
            have HTH := Lib.hid (there_row hTw 0 128 (by rw [HR.out.2.2.2.2.2.2.2.2.2.1]; omega))
            clear hW hL2 hn2 hnow2 hch2 hTw hwr hsd a0' a1' HWr HT2
            go_wp2_with (first | (refine wpList_build_is rfl 43 #[] rfl (row8 (zeros 128)) HZ.out ?_) | (refine wpList_store_mid rfl 43 (.tmp 7) (.tmp 67) rfl T 0 (row8 (zeros 128)) rfl rfl ?c7 (secHr (zeros_length 128)) (row8_one _) ?_))
            case c7 => rw [row8_size, zeros_length]; exact HTH.out
            go_roundw
            case rel => exact HWF.out _ rfl _ (by rw [HR.out.2.2.2.2.2.2.2.2.2.2])
            case measure => simp [intOf]; omega
        · obtain rfl : k = A.count := by omega
          have hch3 : L'.chs.length ≤ 1099511627776 := by omega
          have HFl : Hid (∀ W, Sat W (devF d L') → Calls Tryz.prog 20 #[.pointer (some ⟨d, 0, none⟩)] W (FlushPost d L' W)) := Lib.hid (fun W hW => Flush_calls d L' W hW hL' hch3)
          have HR := Lib.hid (And.intro hT' (And.intro hL' (And.intro hn' (And.intro hnow' hk))))
          have hal : ab < wr.heap.size := World.block_lt_of_cell? wr _ a0
          clear hT' hL' hn' hnow' hch' hab' hTb hqm HST
          simp only [hk]
          clear hk
          go_wp2_with fail
          refine (HFl.out _ HR.out.1.sat.tail.right).mono ?_
          rintro e w4 ⟨rfl, L2, hF, hL2, hn2, hnow2, hsafe2, hch2⟩
          have hfin := cut_end HR.out.1 hF
          have HFin := Lib.hid (And.intro hfin (And.intro hL2 (And.intro hn2 (And.intro hnow2 (And.intro hsafe2 hch2)))))
          clear hfin hF hL2 hn2 hnow2 hsafe2 hch2
          go_wp2_with fail
          go_ret
          obtain ⟨hfin, hL2, hn2, hnow2, hsafe2, hch2⟩ := HFin.out
          have hm : m = A.count - q := by have := HR.out.2.2.2.2; omega
          rw [← HWL.out.2.2.2.1] at *
          refine ⟨rfl, L2, ?_, hL2, hn2.trans HR.out.2.2.1, ?_, hsafe2.trans hnow2.symm, hch2⟩
          · rw [← HT.out.1]; exact hfin
          · rw [hnow2, HR.out.2.2.2.1, hm, HT.out.1]
end Go.Proofs.YtdhobpbngkainaaGreatDoor
/-
  Ours. area.With, where it hands a chunk's record on to load's inner function.
-/
namespace Go.Proofs.YtdhobpbngkainaaGreatDoor
open Go.RowKit

/-! ### what has been read -/
theorem secOf_halfOf' {l : Bs} {first count k : Nat} (h : k < count) : secOf (halfOf l first count) k = secOf l (first + k) := by
  unfold secOf halfOf
  rw [List.drop_take, List.drop_drop, List.take_take]
  congr 1
  · omega
  · congr 1; omega
def gotTo (H : Bs) (at_ n i : Nat) : Bs := (H.take (min (128 * i) (at_ + n))).drop at_
theorem gotTo_start (H : Bs) (at_ n : Nat) : gotTo H at_ n (at_ / 128) = [] := by
  unfold gotTo
  exact List.drop_of_length_le (by rw [List.length_take]; omega)
theorem gotTo_next {H : Bs} {at_ n i : Nat} (hi : 128 * i < at_ + n) (hat : at_ / 128 ≤ i) (hH : at_ + n ≤ H.length) :
    gotTo H at_ n (i + 1) = gotTo H at_ n i ++ ((secOf H i).take (min 128 (at_ + n - 128 * i))).drop (at_ - 128 * i) := by
  unfold gotTo secOf
  rw [Nat.min_eq_left (show 128 * i ≤ at_ + n by omega), List.take_take, show min (min 128 (at_ + n - 128 * i)) 128 = min 128 (at_ + n - 128 * i) by omega]
  have e : min (128 * (i + 1)) (at_ + n) = 128 * i + min 128 (at_ + n - 128 * i) := by omega
  rw [e, List.take_add, List.drop_append]
  congr 2
  rw [List.length_take]
  omega
theorem gotTo_end {H : Bs} {at_ n i : Nat} (hi : ¬ 128 * i < at_ + n) : gotTo H at_ n i = (H.drop at_).take n := by
  unfold gotTo
  rw [Nat.min_eq_right (by omega), List.drop_take, Nat.add_sub_cancel_left]
theorem gotTo_length {H : Bs} {at_ n i : Nat} : (gotTo H at_ n i).length ≤ n := by
  unfold gotTo; rw [List.length_drop, List.length_take]; omega

/-! ### the deferred function -/
def BackDPost (ab d : Nat) (A : AreaL) (g cap : Nat) (l : Bs) (B0 B1 : Nat) (w : World) (e : Ending) (w' : World) : Prop :=
  e = .returned (.tuple #[]) ∧ ∃ sp, Turns (bRow (.slice (some ⟨g, 0, none⟩) l.length cap) l ++ areaF ab d A) (areaF ab d { A with spare := sp }) w w' ∧ AreaOk { A with spare := sp }
set_option maxHeartbeats 1000000 in
theorem backD (ab d : Nat) (A : AreaL) (g cap : Nat) (l : Bs) (B0 B1 : Nat) (u : FrameMode) (w : World) (h : Sat w (bRow (.slice (some ⟨g, 0, none⟩) l.length cap) l ++ areaF ab d A)) (hA : AreaOk A)
    (h0 : w.cell? ⟨B0, 0, none⟩ = some (.pointer (some ⟨ab, 0, none⟩))) (h1 : w.cell? ⟨B1, 0, none⟩ = some (.slice (some ⟨g, 0, none⟩) l.length cap)) :
    CallsD Tryz.prog 152 #[.pointer (some ⟨B0, 0, none⟩), .pointer (some ⟨B1, 0, none⟩)] u w (fun e u' w' => u' = u ∧ BackDPost ab d A g cap l B0 B1 w e w') := by
  have HB := Lib.hid (back_calls ab d A g cap l w h hA)
  clear h hA
  go_enter_d Tryz.func152, Tryz.ntmps152
  go_wp2_with fail
  refine HB.out.mono ?_
  rintro e w' ⟨rfl, hb⟩
  have H := Lib.hid hb
  clear hb
  go_wp2_with fail
  go_end0
  exact ⟨rfl, H.out⟩

/-! ### With -/
def oCell (v : Value) : Obj := .cells #[v] 38 (0, 0)
def WithRel (ab d : Nat) (A : AreaL) (H : Bs) (at_ n B0 B1 : Nat) (R : HF) (w : World) (i : Value) (wr : World) : Prop :=
  ∃ k g cv sp, at_ / 128 ≤ k ∧ 128 * k ≤ at_ + n + 127 ∧ i = .int .i64 ((k : Nat) : Int) ∧ bOk (.slice (some ⟨g, 0, none⟩) (gotTo H at_ n k).length cv) (gotTo H at_ n k) ∧ AreaOk { A with spare := sp } ∧
    Turns (areaF ab d A ++ R) (bRow (.slice (some ⟨g, 0, none⟩) (gotTo H at_ n k).length cv) (gotTo H at_ n k) ++ ((B1, Is (oCell (.slice (some ⟨g, 0, none⟩) (gotTo H at_ n k).length cv))) :: (B0, Is (.cells #[.pointer (some ⟨ab, 0, none⟩)] 125 (0, 0))) :: (areaF ab d { A with spare := sp } ++ R))) w wr
def WithPost (ab d : Nat) (A : AreaL) (R0 : HF) (Pf : HF → Prop) (w : World) (e : Ending) (w' : World) : Prop :=
  e = .returned .nilIface ∧ ∃ R1 sp, Pf R1 ∧ AreaOk { A with spare := sp } ∧ Turns (areaF ab d A ++ R0) (areaF ab d { A with spare := sp } ++ R1) w w'
def InnerPost (ab d : Nat) (A : AreaL) (R0 : HF) (Pf : HF → Prop) (B0 B1 g cv : Nat) (sp : List (Nat × Nat × Nat)) (data : Bs) (w : World) (e : Ending) (w' : World) : Prop :=
  e = .returned .nilIface ∧ ∃ R1, Pf R1 ∧ Turns (areaF ab d A ++ R0) (bRow (.slice (some ⟨g, 0, none⟩) data.length cv) data ++ ((B1, Is (oCell (.slice (some ⟨g, 0, none⟩) data.length cv))) :: (B0, Is (.cells #[.pointer (some ⟨ab, 0, none⟩)] 125 (0, 0))) :: (areaF ab d { A with spare := sp } ++ R1))) w w'
set_option maxHeartbeats 4000000 in
set_option maxRecDepth 100000 in
theorem With_calls (ab d : Nat) (A : AreaL) (L : DevL) (at_ n : Nat) (p0 p1 p2 : Value) (H : Bs) (hH : H = halfOf L.now A.first A.count) (R0 : HF) (Pf : HF → Prop) (w : World) (h : Sat w (areaF ab d A ++ R0)) (hsub : ∀ a, cnt a (devF d L) ≤ cnt a R0) (hL : DevOk L) (hA : AreaOk A) (hAn : A.first + A.count ≤ L.n) (hn : L.n ≤ 1073741824)
    (hfit : at_ + n ≤ 128 * A.count)
    (hf : ∀ (W : World) (B0 B1 g cv : Nat) sp, bOk (.slice (some ⟨g, 0, none⟩) ((H.drop at_).take n).length cv) ((H.drop at_).take n) → Turns (areaF ab d A ++ R0) (bRow (.slice (some ⟨g, 0, none⟩) ((H.drop at_).take n).length cv) ((H.drop at_).take n) ++ ((B1, Is (oCell (.slice (some ⟨g, 0, none⟩) ((H.drop at_).take n).length cv))) :: (B0, Is (.cells #[.pointer (some ⟨ab, 0, none⟩)] 125 (0, 0))) :: (areaF ab d { A with spare := sp } ++ R0))) w W →
      Calls Tryz.prog 131 #[.slice (some ⟨g, 0, none⟩) ((H.drop at_).take n).length cv, p0, p1, p2] W (InnerPost ab d A R0 Pf B0 B1 g cv sp ((H.drop at_).take n) w)) :
    Calls Tryz.prog 130 #[.pointer (some ⟨ab, 0, none⟩), .int .i64 at_, .int .i64 n, .func (.func 131) #[] #[p0, p1, p2]] w (WithPost ab d A R0 Pf w) := by
  have hmf : ∀ (fn : Fn) (first cap : Array Value) (w : World), (Instr.makeFunc fn first cap).run Tryz.prog w = .ok (.func fn first cap) w := fun _ _ _ _ => rfl
  have HB : Hid (∀ W, Sat W (areaF ab d A) → Calls Tryz.prog 151 #[.pointer (some ⟨ab, 0, none⟩)] W (BufferPost ab d A W)) := Lib.hid (fun W hW => buffer_calls ab d A W hW hA)
  have hb1 : (at_ : Int) + n ≤ 1099511627776 := by omega
  have hb2 : (at_ : Int) ≤ 1099511627776 := by omega
  have hc1 : A.count ≤ 1073741824 := by omega
  have hHl : H.length = 128 * A.count := by rw [hH]; exact halfOf_length hL.nowL (by omega)
  have HH := Lib.hid (And.intro h (And.intro hL (And.intro hA (And.intro hAn (And.intro hn (And.intro hfit (And.intro hsub (And.intro hHl (And.intro hH hc1)))))))))
  have HIn := Lib.hid hf
  clear h hL hA hAn hn hfit hf hsub hHl hH hc1
  go_enter_defers Tryz.func130, Tryz.ntmps130
  go_wp2_with fail
  refine (HB.out _ ((HH.out.1.left).same ((Mods.refl _ w).alloc _))).mono ?_
  rintro e w1 ⟨bg, cv, sp, rfl, hok, hT, hAok, -⟩
  have hT0 : Turns (areaF ab d A ++ R0) ((w.heap.size, Is (.cells #[.pointer (some ⟨ab, 0, none⟩)] 125 (0, 0))) :: (areaF ab d A ++ R0)) w _ := (Turns.refl HH.out.1).allocIs (.cells #[.pointer (some ⟨ab, 0, none⟩)] 125)
  have hT1 := hT0.step (F := areaF ab d A) (R := (w.heap.size, Is (.cells #[.pointer (some ⟨ab, 0, none⟩)] 125 (0, 0))) :: R0) (perm_of_cnt fun _ => by simp only [cnt_cons, cnt_append, cnt_nil] <;> omega) hT
  have b0 := cell_at (hT1.sat.memIs (b := w.heap.size) (o := .cells #[.pointer (some ⟨ab, 0, none⟩)] 125 (0, 0)) (by simp)) 0 rfl
  have hB0' : w.heap.size < w1.heap.size := World.block_lt_of_cell? w1 _ b0
  have hst := hT1.allocIs (oCell (.slice (some ⟨bg, 0, none⟩) 0 cv))
  have hst2 : WithRel ab d A H at_ n w.heap.size w1.heap.size R0 w (.int .i64 ((at_ / 128 : Nat) : Int)) (w1.alloc (oCell (.slice (some ⟨bg, 0, none⟩) 0 cv))) := by
    refine ⟨at_ / 128, bg, cv, sp, Nat.le_refl _, by omega, rfl, ?_, hAok, ?_⟩
    · rw [gotTo_start]; exact hok
    · rw [gotTo_start, List.length_nil]; exact hst.to (perm_of_cnt fun _ => by simp only [cnt_cons, cnt_append, cnt_nil] <;> omega)
  have H1 := Lib.hid hst2
  clear hT0 hT1 hst hok hAok hT hst2
  obtain ⟨B0, hB0⟩ : ∃ B0, w.heap.size = B0 := ⟨_, rfl⟩
  obtain ⟨B1, hB1⟩ : ∃ B1, w1.heap.size = B1 := ⟨_, rfl⟩
  rw [hB0, hB1] at H1
  have e128 : ((at_ / 128 : Nat) : Int) = (at_ : Int) / 128 := by omega
  rw [e128] at H1
  clear e128
  go_wp2_with fail
  go_loopw [10] (fun i wr => WithRel ab d A H at_ n B0 B1 R0 w i wr) (fun i _ => at_ + n + 128 - 128 * (intOf i).toNat)
  case atStart => exact H1.out
  case round =>
    obtain ⟨k, g, cv2, sp2, hk1, hk2, rfl, hok, hAo, hT⟩ := hrel
    by_cases hlt : 128 * k < at_ + n
    · have hkc : k < A.count := by have := HH.out.2.2.2.2.2.1; omega
      have hnn := HH.out.2.2.2.2.2.2.2.2.2
      obtain ⟨s, hs⟩ : ∃ s, s = secOf H k := ⟨_, rfl⟩
      have hsL : secOf L.now (A.first + k) = s := by rw [hs, HH.out.2.2.2.2.2.2.2.2.1, secOf_halfOf' hkc]
      have hsl : s.length = 128 := by rw [hs]; exact secOf_length HH.out.2.2.2.2.2.2.2.1 hkc
      have HSL := Lib.hid hsl
      have HRd : Hid (∀ W, Sat W (devF d L) → Calls Tryz.prog 17 #[.pointer (some ⟨d, 0, none⟩), .int .i64 ((A.first : Int) + (k : Nat))] W (fun e w' => e = .returned (.tuple #[.agg (row8 s), .nilIface]) ∧ Same W w')) := Lib.hid (fun W hW => by
        have := Read_calls d L (A.first + k) W hW HH.out.2.1 (by have := HH.out.2.2.2.1; omega)
        unfold ReadPost at this
        rw [hsL] at this
        exact this)
      have HSUM := Lib.hid (show IntKind.i64.wrap ((A.first : Int) + (k : Nat)) = (A.first : Int) + (k : Nat) from IntWalk.i64_in _ (by have := HH.out.2.2.2.1; have := HH.out.2.2.2.2.1; omega))
      have HM := Lib.hid (show Tryz.prog.follows .mixedOrders = true by kernel_rfl)
      have HR := Lib.hid (And.intro hok (And.intro hAo (And.intro hT (And.intro hs hkc))))
      have hlt' : (128 : Int) * k < at_ + n := by omega
      clear hok hAo hT hs hkc hsl hsL
      go_upto_region 6 with (fail)
      refine wp_region_chain (A := ?A) (hA := ?hA) HM.out (phiL [fun v => v = .pointer (some ⟨ab, 0, none⟩), fun v => v = .pointer (some ⟨ab, 0, none⟩), fun v => v = .pointer (some ⟨ab, 0, none⟩), fun v => v = .pointer (some ⟨d, 0, none⟩), fun v => v = .pointer (some ⟨ab, 0, none⟩), fun v => v = .pointer (some ⟨ab, 0, none⟩), fun v => v = .pointer (some ⟨ab, 1, none⟩), fun v => v = .int .i64 A.first, fun v => v = .int .i64 (k : Nat), fun v => v = .int .i64 ((A.first : Int) + (k : Nat)), fun v => v = .tuple #[.agg (row8 s), .nilIface], fun v => v = .tuple #[.agg (row8 s), .nilIface], fun v => v = .agg (row8 s), fun v => v = .nilIface, fun _ => True, fun _ => True, fun v => v = .nilIface])
        (fun vs W => match vs with
      | [] => Turns (areaF ab d A ++ R0) (bRow (.slice (some ⟨g, 0, none⟩) (gotTo H at_ n k).length cv2) (gotTo H at_ n k) ++ ((B1, Is (oCell (.slice (some ⟨g, 0, none⟩) (gotTo H at_ n k).length cv2))) :: (B0, Is (.cells #[.pointer (some ⟨ab, 0, none⟩)] 125 (0, 0))) :: (areaF ab d { A with spare := sp2 } ++ R0))) w W
      | [v] => ∃ g14, v = .pointer (some ⟨g14, 0, none⟩) ∧ Turns (areaF ab d A ++ R0) ((g14, Is (.cells (row8 (zeros 128)) 43 (0, 0))) :: (bRow (.slice (some ⟨g, 0, none⟩) (gotTo H at_ n k).length cv2) (gotTo H at_ n k) ++ ((B1, Is (oCell (.slice (some ⟨g, 0, none⟩) (gotTo H at_ n k).length cv2))) :: (B0, Is (.cells #[.pointer (some ⟨ab, 0, none⟩)] 125 (0, 0))) :: (areaF ab d { A with spare := sp2 } ++ R0)))) w W
      | [v, _] => ∃ g14, v = .pointer (some ⟨g14, 0, none⟩) ∧ Turns (areaF ab d A ++ R0) ((g14, Is (.cells (row8 s) 43 (0, 0))) :: (bRow (.slice (some ⟨g, 0, none⟩) (gotTo H at_ n k).length cv2) (gotTo H at_ n k) ++ ((B1, Is (oCell (.slice (some ⟨g, 0, none⟩) (gotTo H at_ n k).length cv2))) :: (B0, Is (.cells #[.pointer (some ⟨ab, 0, none⟩)] 125 (0, 0))) :: (areaF ab d { A with spare := sp2 } ++ R0)))) w W
      | _ => False)
        (fun W => W.cell? ⟨B0, 0, none⟩ = some (.pointer (some ⟨ab, 0, none⟩)) ∧ W.cell? ⟨ab, 0, none⟩ = some (.pointer (some ⟨d, 0, none⟩)) ∧ W.cell? ⟨ab, 1, none⟩ = some (.int .i64 A.first) ∧ Sat W (devF d L)) [14, 15] ?hC (by kernel_rfl) (by kernel_rfl) (by decide) (by decide) ?h0 ?hs ?he
      case hA => intro x; simp only [fillFrom, Act.put, List.setIfInBounds_toArray, List.set_cons_zero, List.set_cons_succ, Nat.reduceAdd]; rfl
      case hs =>
        refine ⟨chain_quiet rfl rfl (fun x wq hd hC K hK hKw => ?_), chain_quiet rfl rfl (fun x wq hd hC K hK hKw => ?_), chain_quiet rfl rfl (fun x wq hd hC K hK hKw => ?_), chain_quiet rfl rfl (fun x wq hd hC K hK hKw => ?_), chain_quiet rfl rfl (fun x wq hd hC K hK hKw => ?_), chain_quiet rfl rfl (fun x wq hd hC K hK hKw => ?_), chain_quiet rfl rfl (fun x wq hd hC K hK hKw => ?_), chain_quiet rfl rfl (fun x wq hd hC K hK hKw => ?_), chain_quiet rfl rfl (fun x wq hd hC K hK hKw => ?_), chain_quiet rfl rfl (fun x wq hd hC K hK hKw => ?_), chain_quiet rfl rfl (fun x wq hd hC K hK hKw => ?_), chain_quiet rfl rfl (fun x wq hd hC K hK hKw => ?_), chain_quiet rfl rfl (fun x wq hd hC K hK hKw => ?_), chain_quiet rfl rfl (fun x wq hd hC K hK hKw => ?_), chain_noisy 0 rfl rfl (fun x wq hd hS K hK => ?_), chain_noisy 1 rfl rfl (fun x wq hd hS K hK => ?_), chain_quiet rfl rfl (fun x wq hd hC K hK hKw => ?_), trivial⟩
        · exact w_load Tryz.underlying125 rfl rfl (by rfl) (hC.1) (hK _ rfl)
        · have h0 : x 0 = .pointer (some ⟨ab, 0, none⟩) := depsC_get hd 0 (by kernel_rfl)
          exact wp_run (by rw [h0]; kernel_rfl) (hK _ rfl)
        · have h1 : x 1 = .pointer (some ⟨ab, 0, none⟩) := depsC_get hd 1 (by kernel_rfl)
          exact wp_run (by rw [h1]; kernel_rfl) (hK _ rfl)
        · have h2 : x 2 = .pointer (some ⟨ab, 0, none⟩) := depsC_get hd 2 (by kernel_rfl)
          exact w_load Tryz.underlying31 rfl rfl (by rw [h2]; rfl) (hC.2.1) (hK _ rfl)
        · exact w_load Tryz.underlying125 rfl rfl (by rfl) (hC.1) (hK _ rfl)
        · have h4 : x 4 = .pointer (some ⟨ab, 0, none⟩) := depsC_get hd 4 (by kernel_rfl)
          exact wp_run (by rw [h4]; kernel_rfl) (hK _ rfl)
        · have h5 : x 5 = .pointer (some ⟨ab, 0, none⟩) := depsC_get hd 5 (by kernel_rfl)
          exact wp_run (by rw [h5]; kernel_rfl) (hK _ rfl)
        · have h6 : x 6 = .pointer (some ⟨ab, 1, none⟩) := depsC_get hd 6 (by kernel_rfl)
          exact w_load Tryz.underlying3 rfl rfl (by rw [h6]; rfl) (hC.2.2.1) (hK _ rfl)
        · exact wp_run (by kernel_rfl) (hK _ rfl)
        · have h7 : x 7 = .int .i64 A.first := depsC_get hd 7 (by kernel_rfl)
          have h8 : x 8 = .int .i64 (k : Nat) := depsC_get hd 8 (by kernel_rfl)
          exact wp_run (v := .int .i64 (IntKind.i64.wrap ((A.first : Int) + (k : Nat)))) (by rw [h7, h8]; kernel_rfl) (hK _ (show _ = _ by rw [HSUM.out]))
        · have h3 : x 3 = .pointer (some ⟨d, 0, none⟩) := depsC_get hd 3 (by kernel_rfl)
          have h9 : x 9 = .int .i64 ((A.first : Int) + (k : Nat)) := depsC_get hd 9 (by kernel_rfl)
          refine wp_calls (by rw [h3, h9]; kernel_rfl) (HRd.out wq hC.2.2.2) ?_
          rintro e w3 ⟨rfl, hs3⟩
          refine ⟨_, rfl, hKw _ _ rfl ?_⟩
          exact fun vs hvs => by
            match vs, hvs with
            | [], h => exact h.thenSame hs3
            | [_], ⟨g, e, h⟩ => exact ⟨g, e, h.thenSame hs3⟩
            | [_, _], ⟨g, e, h⟩ => exact ⟨g, e, h.thenSame hs3⟩
        · have h10 : x 10 = .tuple #[.agg (row8 s), .nilIface] := depsC_get hd 10 (by kernel_rfl)
          exact wp_run (by rw [h10]; kernel_rfl) (hK _ rfl)
        · have h11 : x 11 = .tuple #[.agg (row8 s), .nilIface] := depsC_get hd 11 (by kernel_rfl)
          exact wp_run (by rw [h11]; kernel_rfl) (hK _ rfl)
        · have h11 : x 11 = .tuple #[.agg (row8 s), .nilIface] := depsC_get hd 11 (by kernel_rfl)
          exact wp_run (by rw [h11]; kernel_rfl) (hK _ rfl)
        · exact wp_run (by kernel_rfl) (hK _ _ trivial ⟨_, rfl, hS.allocIs _⟩)
        · have h12 : x 12 = .agg (row8 s) := depsC_get hd 12 (by kernel_rfl)
          obtain ⟨g14, e14, hT14⟩ := hS
          have e14 : x 14 = .pointer (some ⟨g14, 0, none⟩) := e14
          refine wp_store_mid 43 (.tmp 11) (.tmp 40) rfl g14 0 (row8 s) (by rw [e14]; rfl) (by rw [h12]; rfl) (by rw [row8_size, HSL.out]; exact there_row hT14.sat.headIs 0 128 (by rw [zeros_length]; omega)) (secHr HSL.out) (row8_one _) ?_
          obtain ⟨q1, q2⟩ := setCells_sec hT14.sat.headIs (s := s) (by rw [HSL.out, zeros_length])
          exact hK _ _ trivial ⟨g14, e14, hT14.putIs q2 q1⟩
        · have h13 : x 13 = .nilIface := depsC_get hd 13 (by kernel_rfl)
          exact wp_run (by rw [h13]; kernel_rfl) (hK _ rfl)
      case hC =>
        intro vs W hS
        have key : ∀ {F : HF}, Sat W F → (∀ a, cnt a ((B0, Is (.cells #[.pointer (some ⟨ab, 0, none⟩)] 125 (0, 0))) :: (areaF ab d { A with spare := sp2 } ++ R0)) ≤ cnt a F) → W.cell? ⟨B0, 0, none⟩ = some (.pointer (some ⟨ab, 0, none⟩)) ∧ W.cell? ⟨ab, 0, none⟩ = some (.pointer (some ⟨d, 0, none⟩)) ∧ W.cell? ⟨ab, 1, none⟩ = some (.int .i64 A.first) ∧ Sat W (devF d L) := fun hs hm => by
          have h1 := hs.sub hm
          exact ⟨cell_at h1.headIs 0 rfl, cell_at (areaF_ab h1.tail) 0 (areaC_0 d _), cell_at (areaF_ab h1.tail) 1 (areaC_1 d _), h1.sub (fun a => by have := HH.out.2.2.2.2.2.2.1 a; simp only [cnt_cons, cnt_append]; omega)⟩
        match vs, hS with
        | [], hT => exact key hT.sat (fun _ => by simp only [cnt_cons, cnt_append, cnt_nil] <;> omega)
        | [_], ⟨_, _, hT⟩ => exact key hT.sat (fun _ => by simp only [cnt_cons, cnt_append, cnt_nil] <;> omega)
        | [_, _], ⟨_, _, hT⟩ => exact key hT.sat (fun _ => by simp only [cnt_cons, cnt_append, cnt_nil] <;> omega)
      case h0 => exact HR.out.2.2.1.drew
      case he =>
        intro x w3 hφ hS
        obtain ⟨g14, e14, hT3⟩ := hS
        have e14 : x 14 = .pointer (some ⟨g14, 0, none⟩) := e14
        have e16 : x 16 = .nilIface := allPhi_get hφ 16 (by decide) (by decide)
        simp only [e14, e16]
        have b1 := cell_at (hT3.sat.memIs (b := B1) (o := oCell (.slice (some ⟨g, 0, none⟩) (gotTo H at_ n k).length cv2)) (by simp)) 0 rfl
        have f1 := free_at (hT3.sat.memIs (b := B1) (o := oCell (.slice (some ⟨g, 0, none⟩) (gotTo H at_ n k).length cv2)) (by simp)) 0
        have H3 := Lib.hid hT3
        clear hφ hT3 e14 e16
        obtain ⟨lo, hlo⟩ : ∃ lo, lo = at_ - 128 * k := ⟨_, rfl⟩
        obtain ⟨hi, hhi⟩ : ∃ hi, hi = min 128 (at_ + n - 128 * k) := ⟨_, rfl⟩
        have m1 : max (0 : Int) ((at_ : Int) - (k : Nat) * 128) = (lo : Int) := by omega
        have m2 : min (128 : Int) ((at_ : Int) + n - (k : Nat) * 128) = (hi : Int) := by omega
        have m3 : (lo : Int) ≤ hi := by omega
        have m4 : (hi : Int) ≤ 128 := by omega
        have HLH := Lib.hid (And.intro hlo hhi)
        clear hlo hhi
        go_upto_region 11 with (fail)
        have m5 : ¬ lo = 128 := by have := HLH.out.1; omega
        have m7 : ¬ 128 = lo := by omega
        have m6 : (lo : Int) ≤ 128 := by omega
        obtain ⟨r, hr⟩ : ∃ r, r = (s.take hi).drop lo := ⟨_, rfl⟩
        have hrl : r.length = hi - lo := by rw [hr, List.length_drop, List.length_take, HSL.out]; omega
        have hgn : gotTo H at_ n (k + 1) = gotTo H at_ n k ++ r := by
          rw [hr, HR.out.2.2.2.1, HLH.out.1, HLH.out.2]
          exact gotTo_next (by omega) hk1 (by rw [HH.out.2.2.2.2.2.2.2.1]; exact HH.out.2.2.2.2.2.1)
        have hcr : CellsAt w3 (some ⟨g14, lo, none⟩) (r.map enc8) := fun _ => ⟨g14, lo, rfl, fun j hj => by
          have hj' : j < hi - lo := by simpa [hrl] using hj
          have hx := H3.out.sat.headIs
          refine cell_at hx (lo + j) ?_
          rw [row8_get s (lo + j) (by rw [HSL.out]; omega)]
          simp [hr]⟩
        have hgl := gotTo_length (H := H) (at_ := at_) (n := n) (i := k + 1)
        have H4 := Lib.hid (And.intro hrl (And.intro hgn (And.intro hcr hgl)))
        clear hr hrl hgn hcr hgl
        refine wp_region_still_tail 4 HM.out (by kernel_rfl) ?_
        simp only [List.take_succ_cons, List.take_zero, List.drop_succ_cons, List.drop_zero]
        iterate 4 still_step
        refine wpStill_nil ?_
        change wpList _ _ _ _ _ w3.drew
        have hTd := H3.out.drew.to (H := bRow (.slice (some ⟨g, 0, none⟩) (gotTo H at_ n k).length cv2) (gotTo H at_ n k) ++ ((g14, Is (.cells (row8 s) 43 (0, 0))) :: ((B1, Is (oCell (.slice (some ⟨g, 0, none⟩) (gotTo H at_ n k).length cv2))) :: (B0, Is (.cells #[.pointer (some ⟨ab, 0, none⟩)] 125 (0, 0))) :: (areaF ab d { A with spare := sp2 } ++ R0)))) (perm_of_cnt fun _ => by simp only [cnt_cons, cnt_append, cnt_nil] <;> omega)
        refine wpList_of_wp rfl (w_append_b (.tmp 57) (.tmp 60) rfl (.slice (some ⟨g, 0, none⟩) (gotTo H at_ n k).length cv2) (gotTo H at_ n k) rfl hTd HR.out.1 (some ⟨g14, lo, none⟩) (hi - lo) _ rfl r H4.out.1.symm (CellsAt.of_heap rfl H4.out.2.2.1) (by have h1 := H4.out.2.2.2; rw [H4.out.2.1, List.length_append] at h1; have := HH.out.2.2.2.2.2.1; have := HH.out.2.2.2.2.2.2.2.2.2; omega) ?_)
        intro av cv3 w4 hok4 hT4 hav
        obtain ⟨gx, cx, rfl⟩ : ∃ gx : Nat, ∃ _ : Unit, av = some ⟨gx, 0, none⟩ := by
          cases av with
          | none => exact absurd (hav rfl).1 (by simp)
          | some ad =>
            have hO := bOwns hT4.sat.left hok4
            rcases hO.2 with ⟨hv, _⟩ | ⟨gg, cap, cur, hv, _⟩
            · cases hv
            · simp only [Value.slice.injEq, Option.some.injEq] at hv
              exact ⟨gg, (), by rw [hv.1]⟩
        rw [← H4.out.2.1] at hok4 hT4 ⊢
        have hb1 := hT4.sat.memIs (b := B1) (o := oCell (.slice (some ⟨g, 0, none⟩) (gotTo H at_ n k).length cv2)) (by simp)
        have c1 := cell_at hb1 0 rfl
        have d1 := free_at hb1 0
        have hT5 := (hT4.to (H := (B1, Is (oCell (.slice (some ⟨g, 0, none⟩) (gotTo H at_ n k).length cv2))) :: (bRow (.slice (some ⟨gx, 0, none⟩) (gotTo H at_ n (k + 1)).length cv3) (gotTo H at_ n (k + 1)) ++ ((g14, Is (.cells (row8 s) 43 (0, 0))) :: ((B0, Is (.cells #[.pointer (some ⟨ab, 0, none⟩)] 125 (0, 0))) :: (areaF ab d { A with spare := sp2 } ++ R0))))) (perm_of_cnt fun _ => by simp only [cnt_cons, cnt_append, cnt_nil] <;> omega)).putIs ((Mods.refl (fun k => k = B1) w4).set1 (i := 0) (.slice (some ⟨gx, 0, none⟩) (gotTo H at_ n (k + 1)).length cv3)) (set_same hb1 0 _)
        have hT6 := hT5.drop (H := bRow (.slice (some ⟨gx, 0, none⟩) (gotTo H at_ n (k + 1)).length cv3) (gotTo H at_ n (k + 1)) ++ ((B1, Is (oCell (.slice (some ⟨gx, 0, none⟩) (gotTo H at_ n (k + 1)).length cv3))) :: (B0, Is (.cells #[.pointer (some ⟨ab, 0, none⟩)] 125 (0, 0))) :: (areaF ab d { A with spare := sp2 } ++ R0))) (fun _ => by simp only [cnt_cons, cnt_append]; show _ ≤ cnt1 _ (B1, Is (oCell (.slice (some ⟨gx, 0, none⟩) (gotTo H at_ n (k + 1)).length cv3))) + _; omega)
        have H6 := Lib.hid (And.intro hok4 hT6)
        clear hok4 hT4 hT5 hT6 hb1 hav hTd b1 f1
        go_wp2_with fail
        go_roundw
        case rel => exact ⟨k + 1, gx, cv3, sp2, by omega, by omega, by go_num, H6.out.1, HR.out.2.1, H6.out.2⟩
        case measure => simp [intOf]; omega
    · have hge := gotTo_end (H := H) (at_ := at_) (n := n) (i := k) hlt
      rw [hge] at hok hT
      obtain ⟨data, hd⟩ : ∃ data, data = (H.drop at_).take n := ⟨_, rfl⟩
      have HIn2 := Lib.hid (HIn.out wr B0 B1 g cv2 sp2)
      rw [← hd] at hok hT HIn2
      have b1 := cell_at (hT.sat.memIs (b := B1) (o := oCell (.slice (some ⟨g, 0, none⟩) data.length cv2)) (by simp)) 0 rfl
      have HR := Lib.hid (And.intro hok (And.intro hAo hT))
      have hlt' : ¬ (128 : Int) * k < at_ + n := by omega
      clear hok hAo hT hge hd HIn
      go_wp2_with fail
      refine (HIn2.out HR.out.1 HR.out.2.2).mono ?_
      rintro e w3 ⟨rfl, R1, hP, hT3⟩
      have H3 := Lib.hid (And.intro hP hT3)
      clear hP hT3
      go_wp2_with fail
      have hsat := H3.out.2.sat
      have hb0 := hsat.memIs (b := B0) (o := .cells #[.pointer (some ⟨ab, 0, none⟩)] 125 (0, 0)) (by simp)
      have hb1 := hsat.memIs (b := B1) (o := oCell (.slice (some ⟨g, 0, none⟩) data.length cv2)) (by simp)
      refine leaves_cons (f := 152) (args := #[.pointer (some ⟨B0, 0, none⟩), .pointer (some ⟨B1, 0, none⟩)]) (by simp) (by simp [go_sem]) ?_
      refine (backD ab d { A with spare := sp2 } g cv2 data B0 B1 .returning _ (hsat.sub (fun _ => by simp only [cnt_cons, cnt_append, cnt_nil] <;> omega)) HR.out.2.1 (cell_at hb0 0 rfl) (cell_at hb1 0 rfl)).mono ?_
      rintro e u' w4 ⟨rfl, rfl, sp3, hT4, hA4⟩
      have hT5 := H3.out.2.step (F := bRow (.slice (some ⟨g, 0, none⟩) data.length cv2) data ++ areaF ab d { A with spare := sp2 }) (R := (B1, Is (oCell (.slice (some ⟨g, 0, none⟩) data.length cv2))) :: (B0, Is (.cells #[.pointer (some ⟨ab, 0, none⟩)] 125 (0, 0))) :: R1) (perm_of_cnt fun _ => by simp only [cnt_cons, cnt_append, cnt_nil] <;> omega) hT4
      exact ⟨_, results_tmp rfl _ _ _, rfl, R1, sp3, H3.out.1, hA4, hT5.drop (fun _ => by simp only [cnt_cons, cnt_append, cnt_nil] <;> omega)⟩
end Go.Proofs.YtdhobpbngkainaaGreatDoor
