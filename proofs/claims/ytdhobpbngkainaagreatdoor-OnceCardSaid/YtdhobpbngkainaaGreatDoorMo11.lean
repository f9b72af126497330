/-
  Ours. area.Append: bytes behind the end.
-/
import Derived.Test.YtdhobpbngkainaaGreatDoorMo06
import Derived.Test.YtdhobpbngkainaaGreatDoorMo10
import Derived.Test.YtdhobpbngkainaaGreatDoorMo02
import Derived.Deep.Cut
import Derived.Laws.BytesArg
import Derived.Test.YtdhobpbngkainaaGreatDoorMo01
namespace Go.Proofs.YtdhobpbngkainaaGreatDoor
open Go.RowKit

theorem areaC_splAt (d : Nat) (A : AreaL) (o : Nat) (s : Bs) (hs : o + s.length ≤ A.tail.length) : (splice (areaCells d A).toList (4 + o) (s.map enc8)).toArray = areaCells d { A with tail := putAt A.tail o s } := by
  apply Array.ext'
  rw [areaCells_list]
  show splice _ (4 + o) _ = _
  generalize hh : [Value.pointer (some ⟨d, 0, none⟩), Value.int .i64 A.first, Value.int .i64 A.count, Value.int .i64 A.end_] = hd
  have hl : hd.length = 4 := by rw [← hh]; rfl
  unfold splice
  rw [List.take_append, List.take_of_length_le (by omega), hl, show 4 + o - 4 = o by omega, List.take_append_of_le_length (by simp; omega), List.drop_append, List.drop_of_length_le (by omega), hl]
  rw [show 4 + o + (s.map enc8).length - 4 = o + s.length by simp; omega, List.drop_append_of_le_length (by simp; omega)]
  rw [areaCells_list]
  simp [putAt, hh]
def lenOf : Value → Nat
  | .slice _ n _ => n
  | _ => 0
def AppRel (ab d : Nat) (A : AreaL) (L : DevL) (data b : Bs) (g off : Nat) (w : World) (v : Value) (wr : World) : Prop :=
  ∃ (j : Nat) (aj : Option Addr) (cj : Nat) (L' : DevL), j ≤ b.length ∧ v = .slice aj (b.length - j) cj ∧ b.length - j ≤ cj ∧ cj ≤ 9223372036854775807 ∧ (0 < b.length - j → aj = some ⟨g, off + j, none⟩) ∧
    Turns (areaF ab d A ++ devF d L) (areaF ab d { A with end_ := data.length + j, tail := tailOf (data ++ b.take j) } ++ devF d L') w wr ∧ DevOk L' ∧ L'.n = L.n ∧
    L'.now = (if j = 0 then L.now else putAt L.now (128 * (A.first + data.length / 128)) (padS ((data ++ b.take j).drop (128 * (data.length / 128))))) ∧ L'.chs.length ≤ L.chs.length + j
def AppAPost (ab d : Nat) (A : AreaL) (L : DevL) (data b : Bs) (w : World) (e : Ending) (w' : World) : Prop :=
  e = .returned .nilIface ∧ ∃ L', Turns (areaF ab d A ++ devF d L) (areaF ab d { A with end_ := (data ++ b).length, tail := tailOf (data ++ b) } ++ devF d L') w w' ∧ DevOk L' ∧ L'.n = L.n ∧
    L'.now = (if b = [] then L.now else putAt L.now (128 * (A.first + data.length / 128)) (padS ((data ++ b).drop (128 * (data.length / 128))))) ∧ L'.chs.length ≤ L.chs.length + b.length
set_option maxHeartbeats 4000000 in
set_option maxRecDepth 100000 in
theorem Append_calls (ab d : Nat) (A : AreaL) (L : DevL) (data b : Bs) (a : Option Addr) (cap : Nat) (w : World) (h : Sat w (areaF ab d A ++ devF d L)) (hL : DevOk L) (hA : A.first + A.count ≤ L.n) (hn : L.n ≤ 1073741824)
    (he : A.end_ = data.length) (ht : A.tail = tailOf data) (hfit : data.length + b.length ≤ 128 * A.count) (hb : CellsAt w a (b.map enc8)) (hcap : b.length ≤ cap) (hcap2 : cap ≤ 9223372036854775807) (hne : ∀ x, a = some x → x.block ∉ dom (areaF ab d A ++ devF d L)) (hch : L.chs.length + b.length ≤ 137438953472) :
    Calls Tryz.prog 129 #[.pointer (some ⟨ab, 0, none⟩), .slice a b.length cap] w (AppAPost ab d A L data b w) := by
  obtain ⟨g, off, hgo⟩ : ∃ g off, 0 < b.length → a = some ⟨g, off, none⟩ := by
    rcases Nat.eq_zero_or_pos b.length with h0 | h0
    · exact ⟨0, 0, fun h => by omega⟩
    · obtain ⟨g, off, e, _⟩ := hb (by simpa using h0)
      exact ⟨g, off, fun _ => e⟩
  have hst : AppRel ab d A L data b g off w (.slice a b.length cap) w := by
    refine ⟨0, a, cap, L, Nat.zero_le _, rfl, hcap, hcap2, fun h => by rw [hgo h]; rfl, ?_, hL, rfl, by rw [if_pos rfl], Nat.le_add_right _ _⟩
    have e : ({ A with end_ := data.length + 0, tail := tailOf (data ++ b.take 0) } : AreaL) = A := by rw [List.take_zero, List.append_nil, ← ht, Nat.add_zero, ← he]
    rw [e]; exact Turns.refl h
  have H := Lib.hid (And.intro h (And.intro hA (And.intro hn (And.intro hfit (And.intro hb (And.intro hne (And.intro hch (And.intro hgo hL))))))))
  have HST := Lib.hid hst
  clear h hL hA hn he ht hfit hb hcap hcap2 hne hch hst hgo
  go_enter Tryz.func129, Tryz.ntmps129
  go_wp2_with fail
  go_loopw [1] (fun v wr => AppRel ab d A L data b g off w v wr) (fun v _ => lenOf v)
  case atStart => exact HST.out
  case round =>
    obtain ⟨j, aj, cj, L', hj, rfl, hcj, hcj2, haj, hT, hL', hn', hnow, hch'⟩ := hrel
    by_cases hlt : j < b.length
    · obtain ⟨e, hee⟩ : ∃ e, e = data.length + j := ⟨_, rfl⟩
      obtain ⟨T, hTT⟩ : ∃ T, T = tailOf (data ++ b.take j) := ⟨_, rfl⟩
      rw [← hee, ← hTT] at hT
      have hTl : T.length = 128 := by rw [hTT, tailOf_length]
      obtain ⟨t, htt⟩ : ∃ t, t = e % 128 := ⟨_, rfl⟩
      obtain ⟨r, hr⟩ : ∃ r, r = b.length - j := ⟨_, rfl⟩
      have hab := areaF_ab hT.sat
      have a0 := cell_at hab 0 (areaC_0 d _)
      have a1 := cell_at hab 1 (areaC_1 d _)
      have a3 := cell_at hab 3 (areaC_3 d _)
      have f3 := free_at hab 3
      simp only at a1 a3
      have haj := haj (by omega)
      subst haj
      have hrp : 0 < r := by omega
      have het : (e : Int) % 128 = (t : Int) := by omega
      have ht1 : (t : Int) ≤ 128 := by omega
      have ht2 : ¬ t = 128 := by omega
      have hal : ab < wr.heap.size := lt_of_heap hab
      have HT := Lib.hid (And.intro hT (And.intro hL' (And.intro hn' (And.intro hnow (And.intro hch' (And.intro hab (And.intro hTl hTT)))))))
      have HE := Lib.hid (And.intro hee (And.intro htt hr))
      have he0 : (e : Int) ≤ 1099511627776 := by have := H.out.2.2.2.1; have := H.out.2.1; have := H.out.2.2.1; omega
      rw [← hr]
      clear hT hL' hn' hnow hch' hab hTl hTT hee htt hr HST hj hlt
      obtain ⟨c, hc⟩ : ∃ c, c = (b.drop j).take (min r (128 - t)) := ⟨_, rfl⟩
      have hcl : c.length = min r (128 - t) := by rw [hc, List.length_take, List.length_drop, ← HE.out.2.2]; omega
      have hsrc : ∀ i v, (c.map enc8)[i]? = some v → wr.cell? ((⟨g, off + j, none⟩ : Addr).add i) = some v := fun i v hv => by
        have hbw := H.out.2.2.2.2.1.keep (w' := wr) HT.out.1.mods (fun g' off' e hin => H.out.2.2.2.2.2.1 _ e hin)
        obtain ⟨g', off', e', hcl'⟩ := hbw (by rw [List.length_map]; have := HE.out.2.2; omega)
        have e2 := H.out.2.2.2.2.2.2.2.1 (by have := HE.out.2.2; omega)
        rw [e2] at e'
        simp only [Option.some.injEq, Addr.mk.injEq, and_true] at e'
        obtain ⟨rfl, rfl⟩ := e'
        obtain ⟨hi, rfl⟩ := List.getElem?_eq_some_iff.1 hv
        have hi' : i < c.length := by simpa using hi
        rw [Addr.add_mid, show off + j + i = off + (j + i) by omega]
        refine (hcl' (j + i) (by rw [List.length_map]; have := HE.out.2.2; omega)).trans ?_
        simp [hc]
      have HS8 := Lib.hid (show (Tryz.prog.info? 5).map (·.size) = some 1 by kernel_rfl)
      have HCP := Lib.hid (And.intro hc (And.intro hcl hsrc))
      clear hc hcl hsrc
      go_upto_region 4 with (refine wpList_copy_fp rfl (.tmp 20) (.tmp 21) 38 38 rfl 5 Tryz.underlying38 HS8.out _ _ _ _ _ _ rfl rfl ab (4 + t) (areaCells d { A with end_ := e, tail := T }).toList 157 (by rw [Array.toArray_toList]; exact HT.out.2.2.2.2.2.1) (c.map enc8) (by rw [List.length_map]; exact HCP.out.2.1) (fun _ => ⟨rfl, _, rfl, HCP.out.2.2⟩) (by rw [List.length_map, HCP.out.2.1, Array.length_toList, areaC_size]; simp only; rw [HT.out.2.2.2.2.2.2.1]; omega) (enc8_one _) ?_; intro w4 hh hm4 hz4; rw [areaC_splAt d _ t c (by simp only; rw [HT.out.2.2.2.2.2.2.1, HCP.out.2.1]; omega)] at hh; have H4 := Lib.hid (And.intro hh (And.intro hm4 hz4)); clear hh hm4 hz4)
      obtain ⟨T2, hT2⟩ : ∃ T2, T2 = putAt T t c := ⟨_, rfl⟩
      obtain ⟨q, hq⟩ : ∃ q, q = e / 128 := ⟨_, rfl⟩
      have hab4 : w4.heap[ab]? = some (.cells (areaCells d { A with end_ := e, tail := T2 }) 157 (0, 0)) := by rw [hT2]; exact H4.out.1
      have hT4 : Turns (areaF ab d A ++ devF d L) (areaF ab d { A with end_ := e, tail := T2 } ++ devF d L') w w4 := HT.out.1.trans (area_put HT.out.1.sat H4.out.2.1 hab4 rfl rfl)
      have hT2l : T2.length = 128 := by rw [hT2, putAt_length]; exact HT.out.2.2.2.2.2.2.1; rw [HT.out.2.2.2.2.2.2.1, HCP.out.2.1]; omega
      have b0 := cell_at hab4 0 (areaC_0 d _)
      have b1 := cell_at hab4 1 (areaC_1 d _)
      have b3 := cell_at hab4 3 (areaC_3 d _)
      simp only at b1 b3
      have hrT := areaC_tail hab4
      simp only at hrT
      have hfq : A.first + q < L'.n := by have := H.out.2.2.2.1; have := H.out.2.1; have := HT.out.2.2.1; have := HE.out.1; have := HE.out.2.2; omega
      have HQ2 := Lib.hid (show wrap64 ((A.first : Int) + (e : Int) / 128) = (A.first : Int) + (q : Int) by rw [show (e : Int) / 128 = (q : Int) by omega]; exact IntWalk.wrap64_in _ (by have := H.out.2.2.1; have := HT.out.2.2.1; omega))
      have HWr : Hid (∀ W, Sat W (devF d L') → Calls Tryz.prog 18 #[.pointer (some ⟨d, 0, none⟩), .int .i64 ((A.first : Int) + q), .agg (T2.map enc8).toArray] W (WritePost d L' (A.first + q) T2 W)) := Lib.hid (fun W hW => by
        have := Write_calls d L' (A.first + q) T2 W hW HT.out.2.1 hfq hT2l (by have := HT.out.2.2.2.2.1; have := H.out.2.2.2.2.2.2.1; have := HE.out.2.2; omega)
        exact this)
      have HM := Lib.hid (show Tryz.prog.follows .mixedOrders = true by kernel_rfl)
      have H5 := Lib.hid (And.intro hT4 (And.intro hT2l (And.intro hrT (And.intro hT2 (And.intro hq (And.intro hfq hab4))))))
      clear hT4 hT2l hrT hT2 hq hfq hab4 a0 a1 a3 f3 haj hal
      refine wp_region_still_tail 18 HM.out (by kernel_rfl) ?_
      simp only [List.take_succ_cons, List.take_zero, List.drop_succ_cons, List.drop_zero]
      iterate 17 still_step
      refine wpStill_load_mid rfl 43 (.tmp 39) rfl ab 4 rfl (T2.map enc8) _ H5.out.2.2.1 Tryz.underlying43 rfl (secHi H5.out.2.1) ?_
      refine wpStill_nil ?_
      simp only [Act.put, List.setIfInBounds_toArray, List.set_cons_zero, List.set_cons_succ]
      change wpList _ _ _ _ _ w4.drew
      go_wp2_with fail
      rw [HQ2.out]
      refine (HWr.out _ (by exact (H5.out.1.drew.sat.right))).mono ?_
      rintro ev w5 ⟨rfl, L2, hW, hL2, hn2, hnow2, hch2⟩
      have hx : (data ++ b.take j).length = e := by rw [List.length_append, List.length_take]; have := HE.out.1; have := HE.out.2.2; omega
      have hbt : b.take (j + c.length) = b.take j ++ c := by
        rw [List.take_add]
        congr 1
        rw [HCP.out.1, List.length_take, List.length_drop]
        rw [List.take_eq_take_iff, List.length_drop]
        omega
      have hT2e : T2 = lastOf (data ++ b.take j) ++ c ++ zeros (128 - e % 128 - c.length) := by
        rw [H5.out.2.2.2.1, HT.out.2.2.2.2.2.2.2, HE.out.2.1, ← hx]
        exact putTail (by have := HCP.out.2.1; have := HE.out.2.1; omega)
      have hnow3 : L2.now = putAt L.now (128 * (A.first + data.length / 128)) (padS ((data ++ b.take (j + c.length)).drop (128 * (data.length / 128)))) := by
        rw [hnow2, hT2e, hbt, ← List.append_assoc, ← app_now (l := L.now) (first := A.first) (q := q) (bj := b.take j) (by rw [hx]; exact H5.out.2.2.2.2.1) (by rw [hx]; have := HCP.out.2.1; have := HE.out.2.1; omega) (by have := HCP.out.2.1; have := HE.out.2.1; omega) ?_, hx]
        · congr 1
          rw [HT.out.2.2.2.1]
          by_cases hj0 : j = 0
          · subst hj0; simp
          · rw [if_neg hj0, if_neg (fun h => hj0 (by have h1 := congrArg List.length h; rw [List.length_take] at h1; have := HE.out.2.2; simp only [List.length_nil] at h1; omega))]
        · rw [H.out.2.2.2.2.2.2.2.2.nowL]; have := H5.out.2.2.2.2.2.1; have := HT.out.2.2.1; omega
      have hT5 : Turns (areaF ab d A ++ devF d L) (areaF ab d { A with end_ := e, tail := T2 } ++ devF d L2) w w5 := (H5.out.1.drew.step (perm_of_cnt fun _ => by simp only [cnt_cons, cnt_append, cnt_nil] <;> omega) hW).to List.perm_append_comm
      have hab5 := areaF_ab hT5.sat
      have b3 := cell_at hab5 3 (areaC_3 d _)
      have f3 := free_at hab5 3
      simp only at b3
      have hset : (w5.setCell ⟨ab, 3, none⟩ (.int .i64 ((e : Int) + (c.length : Int)))).heap[ab]? = some (.cells (areaCells d { A with end_ := e + c.length, tail := T2 }) 157 (0, 0)) := by
        rw [set_same hab5 3, show ((e : Int) + (c.length : Int)) = ((e + c.length : Nat) : Int) by omega, areaC_set3]
      have hT6 : Turns (areaF ab d A ++ devF d L) (areaF ab d { A with end_ := e + c.length, tail := T2 } ++ devF d L2) w (w5.setCell ⟨ab, 3, none⟩ (.int .i64 ((e : Int) + (c.length : Int)))) :=
        hT5.trans (area_put hT5.sat ((Mods.refl (fun k => k = ab) w5).set1 (i := 3) _) hset rfl rfl)
      have hth : (w5.setCell ⟨ab, 3, none⟩ (.int .i64 ((e : Int) + (c.length : Int)))).there ab 4 (row8 (zeros 128)).size := by
        rw [row8_size, zeros_length]; exact there_of hset 4 128 (by rw [areaC_size]; simp only; rw [H5.out.2.1]; omega)
      have hcm : c.length ≤ r := by have := HCP.out.2.1; omega
      have hcr : r ≤ cj := by rw [HE.out.2.2]; exact hcj
      have hc0 : (0 : Int) ≤ (c.length : Int) := by omega
      have hcr2 : (c.length : Int) ≤ (r : Int) := by omega
      have hcr3 : (r : Int) ≤ (cj : Int) := by omega
      have HN3 := Lib.hid (And.intro hL2 (And.intro (hn2.trans HT.out.2.2.1) (And.intro hnow3 (And.intro hch2 (And.intro hx (And.intro hbt hT2e))))))
      have H6 := Lib.hid (And.intro hT6 (And.intro hset hth))
      clear hL2 hn2 hnow3 hch2 hx hbt hT2e hT5 hab5 hT6 hset hth hW hnow2 hcj hcm hcr
      have hrel : ∀ (W : World) (tl : Bs) (aj2 : Option Addr) (n2 cj2 : Nat), n2 = r - c.length → Turns (areaF ab d A ++ devF d L) (areaF ab d { A with end_ := e + c.length, tail := tl } ++ devF d L2) w W → tl = tailOf (data ++ b.take (j + c.length)) → r - c.length ≤ cj2 → cj2 ≤ 9223372036854775807 → (0 < r - c.length → aj2 = some ⟨g, off + j + c.length, none⟩) →
          AppRel ab d A L data b g off w (.slice aj2 n2 cj2) W := fun W tl aj2 n2 cj2 hn2 hTW htl h1 h2 h3 => by
        subst hn2
        subst htl
        refine ⟨j + c.length, aj2, cj2, L2, ?_, ?_, ?_, h2, ?_, ?_, HN3.out.1, HN3.out.2.1, ?_, ?_⟩
        · have := HCP.out.2.1; have := HE.out.2.2; omega
        · rw [show b.length - (j + c.length) = r - c.length by have := HE.out.2.2; omega]
        · have := HE.out.2.2; omega
        · intro h4; rw [h3 (by have := HE.out.2.2; omega), Nat.add_assoc]
        · rw [show data.length + (j + c.length) = e + c.length by have := HE.out.1; omega]; exact hTW
        · rw [if_neg (by have := HCP.out.2.1; omega)]; exact HN3.out.2.2.1
        · have := HN3.out.2.2.2.1; have := HT.out.2.2.2.2.1; have := HCP.out.2.1; omega
      have hlen2 : (data ++ b.take (j + c.length)).length = e + c.length := by rw [HN3.out.2.2.2.2.2.1, ← List.append_assoc, List.length_append, HN3.out.2.2.2.2.1]
      have hc0p : 0 < c.length := by have := HCP.out.2.1; omega
      have hc128 : (c.length : Int) ≤ 128 := by have := HCP.out.2.1; omega
      by_cases hfull : t + c.length = 128
      · have hz : ((e : Int) + (c.length : Int)) % 128 = 0 := by omega
        have htf := tailOf_full (x := data ++ b.take (j + c.length)) (by rw [hlen2]; omega)
        have hsz3 : (areaCells d { A with end_ := e + c.length, tail := T2 }).toList.length = 133 := by rw [Array.length_toList, areaC_size]; simp only; rw [H5.out.2.1]
        obtain ⟨q1, q2⟩ := setCells_gen (C := (areaCells d { A with end_ := e + c.length, tail := T2 }).toList) (by rw [Array.toArray_toList]; exact H6.out.2.1) 4 ((zeros 128).map enc8) (by rw [List.length_map, zeros_length, hsz3]; omega)
        rw [areaC_spl d { A with end_ := e + c.length, tail := T2 } (zeros 128) (by rw [zeros_length]; simp only; rw [H5.out.2.1]; omega)] at q1
        have hp0 : putAt T2 0 (zeros 128) = zeros 128 := by unfold putAt; rw [List.take_zero, List.nil_append, List.drop_of_length_le (by rw [zeros_length, H5.out.2.1]; omega), List.append_nil]
        simp only [hp0] at q1
        have hT7 := H6.out.1.trans (area_put H6.out.1.sat q2 q1 rfl rfl)
        have HZ := Lib.hid zeroBuilt
        have HX := Lib.hid (And.intro hT7 (And.intro htf (And.intro q1 hrel)))
        clear hT7 htf q1 q2 hp0 hlen2 hrel
        by_cases hcc : cj = c.length
        · obtain rfl : r = c.length := by omega
          subst hcc
          go_wp2_with (first | (refine wpList_build_is rfl 43 #[] rfl (row8 (zeros 128)) HZ.out ?_) | (refine wpList_store_mid rfl 43 (.tmp 65) (.tmp 63) rfl ab 4 (row8 (zeros 128)) rfl rfl H6.out.2.2 (secHr (zeros_length 128)) (row8_one _) ?_; simp only [Act.put]))
          all_goals
            go_roundw
            case rel => exact HX.out.2.2.2 _ _ (some ⟨g, off + j, none⟩) 0 0 (by omega) HX.out.1 HX.out.2.1.symm (by omega) (by omega) (by omega)
            case measure => simp [lenOf]; omega
        · go_wp2_with (first | (refine wpList_build_is rfl 43 #[] rfl (row8 (zeros 128)) HZ.out ?_) | (refine wpList_store_mid rfl 43 (.tmp 65) (.tmp 63) rfl ab 4 (row8 (zeros 128)) rfl rfl H6.out.2.2 (secHr (zeros_length 128)) (row8_one _) ?_; simp only [Act.put]))
          all_goals
            go_roundw
            case rel => exact HX.out.2.2.2 _ _ (some ⟨g, off + j + c.length, none⟩) (r - c.length) (cj - c.length) rfl HX.out.1 HX.out.2.1.symm (by omega) (by omega) (fun _ => rfl)
            case measure => simp [lenOf]; omega
      · have hz : ¬ ((e : Int) + (c.length : Int)) % 128 = 0 := by have := HCP.out.2.1; omega
        have htn : T2 = tailOf (data ++ b.take (j + c.length)) := by
          rw [HN3.out.2.2.2.2.2.2, HN3.out.2.2.2.2.2.1, ← List.append_assoc, tailOf_next (by rw [HN3.out.2.2.2.2.1]; have := HCP.out.2.1; omega), HN3.out.2.2.2.2.1]
        have HX := Lib.hid (And.intro htn hrel)
        clear htn hlen2 hrel
        by_cases hcc : cj = c.length
        · obtain rfl : r = c.length := by omega
          subst hcc
          go_wp2_with fail
          all_goals
            go_roundw
            case rel => exact HX.out.2 _ _ (some ⟨g, off + j, none⟩) 0 0 (by omega) H6.out.1 HX.out.1 (by omega) (by omega) (by omega)
            case measure => simp [lenOf]; omega
        · go_wp2_with fail
          all_goals
            go_roundw
            case rel => exact HX.out.2 _ _ (some ⟨g, off + j + c.length, none⟩) (r - c.length) (cj - c.length) rfl H6.out.1 HX.out.1 (by omega) (by omega) (fun _ => rfl)
            case measure => simp [lenOf]; omega
    · obtain rfl : j = b.length := by omega
      have HR := Lib.hid (And.intro hT (And.intro hL' (And.intro hn' (And.intro hnow hch'))))
      clear hT hL' hn' hnow hch' haj HST
      simp only [Nat.sub_self]
      go_wp2_with fail
      go_ret
      refine ⟨rfl, L', ?_, HR.out.2.1, HR.out.2.2.1, ?_, HR.out.2.2.2.2⟩
      · have := HR.out.1
        rw [List.take_length] at this
        rw [List.length_append]; exact this
      · rw [HR.out.2.2.2.1, List.take_length]
        rcases b with _ | ⟨x, r⟩
        · rfl
        · simp
end Go.Proofs.YtdhobpbngkainaaGreatDoor
/-
  Ours. Plain: what a half of the device has: bytes, and zeros behind them.
-/
namespace Go.Proofs.YtdhobpbngkainaaGreatDoor
open Go.RowKit

def DataAt (l : Bs) (first count : Nat) (data : Bs) : Prop := halfOf l first count = data ++ zeros (128 * count - data.length) ∧ data.length ≤ 128 * count
theorem putAt_drop {l s : Bs} {a o : Nat} (h : a + o + s.length ≤ l.length) : (putAt l (a + o) s).drop a = putAt (l.drop a) o s := by
  unfold putAt
  rw [List.append_assoc, List.drop_append_of_le_length (by rw [List.length_take]; omega), List.drop_take, List.drop_drop, show a + o - a = o by omega, List.append_assoc, show a + (o + s.length) = a + o + s.length by omega]
theorem putAt_take {l s : Bs} {o n : Nat} (h : o + s.length ≤ n) (hn : n ≤ l.length) : (putAt l o s).take n = putAt (l.take n) o s := by
  unfold putAt
  rw [List.take_append, List.take_of_length_le (by simp; omega), List.take_take, Nat.min_eq_left (by omega), List.drop_take]
  congr 2
  simp
  omega
theorem half_put {l s : Bs} {first count q : Nat} (h : 128 * q + s.length ≤ 128 * count) (hl : 128 * (first + count) ≤ l.length) : halfOf (putAt l (128 * (first + q)) s) first count = putAt (halfOf l first count) (128 * q) s := by
  unfold halfOf
  rw [Nat.mul_add, putAt_drop (by omega), putAt_take h (by rw [List.length_drop]; omega)]
theorem half_other {l s : Bs} {first count q f2 c2 : Nat} (h : 128 * q + s.length ≤ 128 * count) (hl : 128 * (first + count) ≤ l.length) (hd : f2 + c2 ≤ first ∨ first + count ≤ f2) : halfOf (putAt l (128 * (first + q)) s) f2 c2 = halfOf l f2 c2 := by
  unfold halfOf putAt
  rcases hd with hd | hd
  · apply List.ext_getElem?
    intro i
    rw [List.getElem?_take, List.getElem?_take]
    split
    · rw [List.getElem?_drop, List.getElem?_drop, List.append_assoc, List.getElem?_append_left (by rw [List.length_take]; omega), List.getElem?_take, if_pos (by omega)]
    · rfl
  · congr 1
    rw [List.drop_append, List.drop_of_length_le (by simp; omega), List.nil_append, List.drop_drop]
    congr 1
    simp only [List.length_append, List.length_take]
    omega
theorem dataAt_put {l : Bs} {first count : Nat} {data b : Bs} (h : DataAt l first count data) (hl : 128 * (first + count) ≤ l.length) (hfit : data.length + b.length ≤ 128 * count) (hb : b ≠ []) :
    DataAt (putAt l (128 * (first + data.length / 128)) (padS ((data ++ b).drop (128 * (data.length / 128))))) first count (data ++ b) := by
  have hbl : 0 < b.length := List.length_pos_iff.2 hb
  have hdl : ((data ++ b).drop (128 * (data.length / 128))).length = data.length % 128 + b.length := by rw [List.length_drop, List.length_append]; omega
  have hpl := padS_length ((data ++ b).drop (128 * (data.length / 128)))
  rw [hdl] at hpl
  refine ⟨?_, by rw [List.length_append]; exact hfit⟩
  rw [half_put (by omega) hl, h.1]
  unfold putAt
  rw [hpl]
  have hd : (data ++ b).drop (128 * (data.length / 128)) = lastOf data ++ b := List.drop_append_of_le_length (by omega)
  have e : data = data.take (128 * (data.length / 128)) ++ lastOf data := by simp [lastOf]
  rw [hd, List.take_append_of_le_length (by omega), List.drop_append (l₁ := data), List.drop_of_length_le (by omega), List.nil_append, zeros_drop]
  unfold padS
  rw [List.length_append, lastOf_length]
  simp only [List.append_assoc]
  rw [zeros_append, ← List.append_assoc (data.take _), ← e, List.length_append]
  congr 3
  omega
theorem dataAt_app {L L' : DevL} {A : AreaL} {data b : Bs} (h : DataAt L.now A.first A.count data) (hl : L.now.length = 128 * L.n) (hA : A.first + A.count ≤ L.n) (hfit : data.length + b.length ≤ 128 * A.count)
    (hn : L'.now = (if b = [] then L.now else putAt L.now (128 * (A.first + data.length / 128)) (padS ((data ++ b).drop (128 * (data.length / 128)))))) :
    DataAt L'.now A.first A.count (data ++ b) ∧ ∀ f2 c2, (f2 + c2 ≤ A.first ∨ A.first + A.count ≤ f2) → halfOf L'.now f2 c2 = halfOf L.now f2 c2 := by
  by_cases hb : b = []
  · subst hb
    rw [if_pos rfl] at hn
    rw [hn]
    exact ⟨by rw [List.append_nil]; exact h, fun _ _ _ => rfl⟩
  · rw [if_neg hb] at hn
    rw [hn]
    refine ⟨dataAt_put h (by omega) hfit hb, fun f2 c2 hd => half_other ?_ (by omega) hd⟩
    have hdl : ((data ++ b).drop (128 * (data.length / 128))).length = data.length % 128 + b.length := by rw [List.length_drop, List.length_append]; omega
    rw [padS_length, hdl]
    omega
end Go.Proofs.YtdhobpbngkainaaGreatDoor
/-
  Ours. change: it writes records.
-/
namespace Go.Proofs.YtdhobpbngkainaaGreatDoor
open Go.RowKit

/-- A slice that reads as bytes, in none of some blocks. -/
def RecAt (D : List Nat) (w : World) (v : Value) (l : Bs) : Prop := ∃ a cap, v = .slice a l.length cap ∧ l.length ≤ cap ∧ cap ≤ 9223372036854775807 ∧ CellsAt w a (l.map enc8) ∧ ∀ x, a = some x → x.block ∉ D ∧ x.block < w.heap.size
def sumLen (rs : List Bs) : Nat := (rs.map List.length).sum
theorem sumLen_flat (rs : List Bs) : rs.flatten.length = sumLen rs := by simp [sumLen, List.length_flatten]
theorem sumLen_take {rs : List Bs} {k : Nat} (h : k < rs.length) : sumLen (rs.take (k + 1)) = sumLen (rs.take k) + rs[k].length := by
  unfold sumLen
  rw [List.take_succ_eq_append_getElem h, List.map_append, List.sum_append]
  rfl
theorem sumLen_le (rs : List Bs) (k : Nat) : sumLen (rs.take k) ≤ sumLen rs := by
  unfold sumLen
  have : rs.map List.length = (rs.take k).map List.length ++ (rs.drop k).map List.length := by rw [← List.map_append, List.take_append_drop]
  rw [this, List.sum_append]
  omega
def LensRel (rs : List Bs) (w : World) (n i : Value) (wr : World) : Prop := ∃ k : Nat, k ≤ rs.length ∧ i = .int .i64 k ∧ n = .int .i64 (sumLen (rs.take k)) ∧ Same w wr
def ChMid (ab d : Nat) (A : AreaL) (L : DevL) (data b : Bs) (w w' : World) : Prop :=
  ∃ L', Turns (areaF ab d A ++ devF d L) (areaF ab d { A with end_ := (data ++ b).length, tail := tailOf (data ++ b) } ++ devF d L') w w' ∧ DevOk L' ∧ L'.n = L.n ∧ DataAt L'.now A.first A.count (data ++ b) ∧
    (∀ f2 c2, (f2 + c2 ≤ A.first ∨ A.first + A.count ≤ f2) → halfOf L'.now f2 c2 = halfOf L.now f2 c2) ∧ L'.chs.length ≤ L.chs.length + b.length
def ChRel (ab d : Nat) (A : AreaL) (L : DevL) (data : Bs) (rs : List Bs) (w : World) (i : Value) (wr : World) : Prop := ∃ k : Nat, k ≤ rs.length ∧ i = .int .i64 k ∧ ChMid ab d A L data (rs.take k).flatten w wr
def ChangePost (ab d : Nat) (A : AreaL) (L : DevL) (data : Bs) (rs : List Bs) (w : World) (e : Ending) (w' : World) : Prop :=
  (128 * A.count < data.length + sumLen rs ∧ e = .returned (errV 8) ∧ Same w w') ∨ (data.length + sumLen rs ≤ 128 * A.count ∧ e = .returned .nilIface ∧ ChMid ab d A L data rs.flatten w w')
set_option maxHeartbeats 4000000 in
set_option maxRecDepth 100000 in
theorem change_calls (a : Nat) (X : ArchL) (ab d : Nat) (hab : ab = X.ab) (A : AreaL) (L : DevL) (data : Bs) (rs : List Bs) (rvs : List Value) (sl : Option Addr) (cap : Nat) (w : World) (h : Sat w ((a, Is (archO X)) :: (areaF ab d A ++ devF d L))) (hbr : X.broken = .nilIface)
    (hL : DevOk L) (hA : A.first + A.count ≤ L.n) (hn : L.n ≤ 1073741824) (he : A.end_ = data.length) (ht : A.tail = tailOf data) (hd : DataAt L.now A.first A.count data) (hlen : rvs.length = rs.length) (hl : rs.length ≤ 1000000) (hs : sumLen rs ≤ 1099511627776) (hch : L.chs.length + sumLen rs ≤ 137438953472)
    (hrv : CellsAt w sl rvs) (hsl : ∀ x, sl = some x → x.block ∉ dom (areaF ab d A ++ devF d L)) (hr : ∀ k (h1 : k < rvs.length) (h2 : k < rs.length), RecAt (dom (areaF ab d A ++ devF d L)) w rvs[k] rs[k]) :
    Calls Tryz.prog 82 #[.pointer (some ⟨a, 0, none⟩), .slice sl rs.length cap] w (ChangePost ab d A L data rs w) := by
  have hao := h.headIs
  have a11 : w.cell? ⟨a, 11, none⟩ = some .nilIface := by rw [← hbr]; exact cell_at hao 11 rfl
  have a7 : w.cell? ⟨a, 7, none⟩ = some (.pointer (some ⟨ab, 0, none⟩)) := by rw [hab]; exact cell_at hao 7 rfl
  have hal := lt_of_heap hao
  have HAB := Lib.hid hab
  have H := Lib.hid (And.intro h (And.intro hL (And.intro hA (And.intro hn (And.intro he (And.intro ht (And.intro hd (And.intro hrv (And.intro hsl (And.intro hr (And.intro hch (And.intro hlen hao))))))))))))
  clear h hL hA hn he ht hd hrv hsl hr hch hao hbr hab
  go_enter Tryz.func82, Tryz.ntmps82
  go_wp2_with fail
  go_loopw [5, 22] (fun n i wr => LensRel rs w n i wr) (fun _ i _ => rs.length - (intOf i).toNat)
  case atStart => exact ⟨0, Nat.zero_le _, rfl, rfl, Mods.refl _ _⟩
  case round =>
    obtain ⟨k, hk, rfl, rfl, hs1⟩ := hrel
    have HS := Lib.hid hs1
    by_cases hlt : k < rs.length
    · obtain ⟨g, off, hg, hcell⟩ := H.out.2.2.2.2.2.2.2.1.keep hs1 (fun _ _ _ => id) (by have := H.out.2.2.2.2.2.2.2.2.2.2.2.1; omega)
      have hlt2 : k < rvs.length := by have := H.out.2.2.2.2.2.2.2.2.2.2.2.1; omega
      obtain ⟨ra, rc, hrv, -⟩ := H.out.2.2.2.2.2.2.2.2.2.1 k hlt2 hlt
      have hck : wr.cell? ⟨g, off + k, none⟩ = some (.slice ra rs[k].length rc) := by rw [hcell k hlt2, hrv]
      have htk := sumLen_take hlt
      obtain ⟨m, hm⟩ : ∃ m, m = rs[k].length := ⟨_, rfl⟩
      rw [← hm] at hck htk
      obtain ⟨n, hn⟩ : ∃ n, n = sumLen (rs.take k) := ⟨_, rfl⟩
      rw [← hn] at htk ⊢
      have hb : n + m ≤ 1099511627776 := by have := sumLen_le rs (k + 1); omega
      subst hg
      have HK := Lib.hid htk
      clear hcell hrv htk hm hn hs1
      go_wp2_with fail
      go_roundw
      case rel => exact ⟨k + 1, by omega, by go_num, by rw [HK.out]; go_num, HS.out⟩
      case measure => simp [intOf]; omega
    · obtain rfl : k = rs.length := by omega
      rw [List.take_length]
      have b7 : wr.cell? ⟨a, 7, none⟩ = some (.pointer (some ⟨ab, 0, none⟩)) := cell_same hs1 a7
      have hal2 : a < wr.heap.size := Nat.lt_of_lt_of_le hal hs1.size
      have HR := Lib.hid (Room_calls ab d A wr ((H.out.1.tail.left).same hs1) (by have := H.out.2.2.1; have := H.out.2.2.2.1; omega) (by rw [H.out.2.2.2.2.1]; exact H.out.2.2.2.2.2.2.1.2))
      obtain ⟨n, hn⟩ : ∃ n, n = sumLen rs := ⟨_, rfl⟩
      rw [← hn] at hs ⊢
      have HN := Lib.hid hn
      clear hn hs1
      go_wp2_with fail
      refine HR.out.mono ?_
      rintro e w2 ⟨rfl, hs2⟩
      have HS2 := Lib.hid (HS.out.trans hs2)
      have b7 : w2.cell? ⟨a, 7, none⟩ = some (.pointer (some ⟨ab, 0, none⟩)) := cell_same hs2 b7
      have hal2 : a < w2.heap.size := Nat.lt_of_lt_of_le hal2 hs2.size
      clear hs2 HS HR
      obtain ⟨rm, hrm⟩ : ∃ rm : Int, rm = (A.count : Int) * 128 - A.end_ := ⟨_, rfl⟩
      rw [← hrm]
      by_cases hfit : data.length + n ≤ 128 * A.count
      · have hf : ¬ rm < (n : Int) := by have := H.out.2.2.2.2.1; omega
        have HF1 := Lib.hid (And.intro hrm hfit)
        clear hrm hfit
        go_wp2_with fail
        have hst : ChMid ab d A L data (rs.take 0).flatten w w2 := by
          have e : ({ A with end_ := (data ++ (rs.take 0).flatten).length, tail := tailOf (data ++ (rs.take 0).flatten) } : AreaL) = A := by simp [← H.out.2.2.2.2.1, ← H.out.2.2.2.2.2.1]
          refine ⟨L, ?_, H.out.2.1, rfl, by simpa using H.out.2.2.2.2.2.2.1, fun _ _ _ => rfl, by simp⟩
          rw [e]
          exact Turns.same H.out.1.tail HS2.out
        have HST := Lib.hid hst
        clear hst
        go_loopw [41] (fun i wr => ChRel ab d A L data rs w i wr) (fun i _ => rs.length - (intOf i).toNat)
        case atStart => exact ⟨0, Nat.zero_le _, rfl, HST.out⟩
        case round =>
          obtain ⟨k, hk, rfl, hm⟩ := hrel
          have HMd := Lib.hid hm
          clear hm
          by_cases hlt : k < rs.length
          · obtain ⟨L', hT, hL', hn', hdat, hoth, hch'⟩ := HMd.out
            have hlt2 : k < rvs.length := by have := H.out.2.2.2.2.2.2.2.2.2.2.2.1; omega
            obtain ⟨g, off, hg, hcell⟩ := (H.out.2.2.2.2.2.2.2.1.turnsOld hT H.out.2.2.2.2.2.2.2.2.1) (by omega)
            obtain ⟨ra, rc, hrv, hrc1, hrc2, hrcell, hrne⟩ := H.out.2.2.2.2.2.2.2.2.2.1 k hlt2 hlt
            have hao2 := hT.old H.out.2.2.2.2.2.2.2.2.2.2.2.2 H.out.1.notMem
            have c7 : wr.cell? ⟨a, 7, none⟩ = some (.pointer (some ⟨ab, 0, none⟩)) := by
              rw [HAB.out]; exact cell_at hao2 7 rfl
            have hck : wr.cell? ⟨g, off + k, none⟩ = some (.slice ra rs[k].length rc) := by rw [hcell k hlt2, hrv]
            have hpre : data.length + (rs.take k).flatten.length + rs[k].length ≤ 128 * A.count := by
              have h1 := sumLen_take hlt
              have h2 := sumLen_le rs (k + 1)
              have h3 := HN.out
              have h4 := HF1.out.2
              rw [sumLen_flat]
              omega
            have hsl2 := sumLen_le rs k
            have hAp := Append_calls ab d { A with end_ := (data ++ (rs.take k).flatten).length, tail := tailOf (data ++ (rs.take k).flatten) } L' (data ++ (rs.take k).flatten) rs[k] ra rc wr hT.sat hL' (by rw [hn']; exact H.out.2.2.1) (by rw [hn']; exact H.out.2.2.2.1) rfl rfl
              (by rw [List.length_append]; exact hpre) (hrcell.turnsOld hT (fun x hx => (hrne x hx).1)) hrc1 hrc2
              (fun x hx hin => by
                rcases hT.fresh _ hin with h' | h'
                · exact (hrne x hx).1 h'
                · have := (hrne x hx).2; omega)
              (by have h1 := sumLen_take hlt; have h2 := sumLen_le rs (k + 1); have h3 := H.out.2.2.2.2.2.2.2.2.2.2.1; rw [sumLen_flat] at hch'; omega)
            have hAp2 : ∃ Pq : Ending → World → Prop, Calls Tryz.prog 129 #[.pointer (some ⟨ab, 0, none⟩), .slice ra rs[k].length rc] wr Pq ∧ ∀ e W, Pq e W → e = .returned .nilIface ∧ ChMid ab d A L data (rs.take (k + 1)).flatten w W := by
              refine ⟨_, hAp, ?_⟩
              rintro e0 W ⟨he0, L2, hT2, hL2, hn2, hnow2, hch2⟩
              have e : (rs.take (k + 1)).flatten = (rs.take k).flatten ++ rs[k] := by rw [List.take_succ_eq_append_getElem hlt, List.flatten_append, List.flatten_singleton]
              rw [e]
              unfold ChMid
              rw [← List.append_assoc]
              obtain ⟨d1, d2⟩ := dataAt_app (A := A) hdat hL'.nowL (by rw [hn']; exact H.out.2.2.1) (by rw [List.length_append]; exact hpre) hnow2
              exact ⟨he0, L2, hT.trans hT2, hL2, hn2.trans hn', d1, fun f2 c2 hh => (d2 f2 c2 hh).trans (hoth f2 c2 hh), by rw [List.length_append]; omega⟩
            obtain ⟨Pq, hq1, hq2⟩ := hAp2
            have HAp := Lib.hid hq1
            have HNX := Lib.hid hq2
            clear hq1 hq2
            obtain ⟨m, hm⟩ : ∃ m, m = rs[k].length := ⟨_, rfl⟩
            rw [← hm] at hck HAp
            have HM2 := Lib.hid hm
            clear hm
            subst hg
            have hal3 : a < wr.heap.size := lt_of_heap hao2
            clear hcell hrv hrc1 hrc2 hrcell hrne hT hL' hn' hdat hoth hch' hao2 hpre hAp hsl2 b7 hal2
            go_wp2_with fail
            refine HAp.out.mono ?_
            intro e w5 hp5
            obtain ⟨rfl, hr5⟩ := HNX.out e w5 hp5
            have HR5 := Lib.hid hr5
            clear hp5 hr5
            go_wp2_with fail
            go_roundw
            case rel => exact ⟨k + 1, by omega, by go_num, HR5.out⟩
            case measure => simp [intOf]; omega
          · obtain rfl : k = rs.length := by omega
            go_wp2_with fail
            refine bodyPost_end (results_tmp rfl _ _ _) rfl ?_
            refine .inr ⟨by rw [← HN.out]; exact HF1.out.2, rfl, ?_⟩
            have := HMd.out
            rwa [List.take_length] at this
      · have hf : rm < (n : Int) := by have := H.out.2.2.2.2.1; omega
        have HF1 := Lib.hid (And.intro hrm hfit)
        clear hrm hfit
        go_wp2_with fail
        refine bodyPost_ret (results_tmp rfl _ _ _) rfl ?_
        refine .inl ⟨by rw [← HN.out]; have := HF1.out.2; omega, rfl, HS2.out⟩
end Go.Proofs.YtdhobpbngkainaaGreatDoor
/-
  Ours. known: a chunk that is there (the text is printed by wip/genknown.py).
-/
namespace Go.Proofs.YtdhobpbngkainaaGreatDoor
open Go.RowKit Go.Maps

theorem bytes_str {w : World} {sl : Option Addr} {l : Bs} (cap : Nat) (h : CellsAt w sl (l.map enc8)) : (convert 38 9 (.slice sl l.length cap)).run Tryz.prog w = .ok (str l) w := by
  by_cases h0 : l = []
  · subst h0
    cases sl with
    | none => exact run_convert_bytes_nil w 38 5 Tryz.underlying38 Tryz.underlying5 _ _ _ Tryz.underlying9
    | some x =>
      rw [run_convert_bytes_string w 38 9 5 _ _ _ Tryz.underlying38 Tryz.underlying5 Tryz.underlying9]
      simp [Conv.bytesToString, loadCells, loadCellsFrom, str]
      try rfl
  · have hp : 0 < (l.map enc8).length := by simpa using List.length_pos_iff.2 h0
    obtain ⟨g, off, rfl, hc⟩ := h hp
    have := run_convert_bytes_arg (P := Tryz.prog) w 38 5 Tryz.underlying38 Tryz.underlying5 g off l.length cap (l.map fun x => (x.toNat : Int)) (by simp) (fun i hi => by
      rw [hc i (by simpa using hi)]
      simp [enc8, List.getD, hi]) 9 Tryz.underlying9
    have e : strOfNums (l.map fun x => (x.toNat : Int)) = ⟨l.toArray⟩ := by
      unfold strOfNums
      rw [List.map_map]
      have : (fun x : UInt8 => x) = (fun n : Int => UInt8.ofNat n.toNat) ∘ fun x : UInt8 => (x.toNat : Int) := by funext x; simp
      rw [← this, List.map_id']
    rw [this, e]
def HasChunk (H : Bs) (p : Nat × Nat) (b : Bs) : Prop := p.2 = b.length ∧ ChunkAt H p.1 b
def KnownPost (ab d : Nat) (A : AreaL) (L : DevL) (R0 : HF) (pl : List (Nat × Nat)) (b : Bs) (w : World) (e : Ending) (w' : World) : Prop :=
  (∃ sp, AreaOk { A with spare := sp } ∧ Turns (areaF ab d A ++ R0) (areaF ab d { A with spare := sp } ++ R0) w w') ∧
  ((∃ p ∈ pl, HasChunk (halfOf L.now A.first A.count) p b ∧ e = .returned (.tuple #[.agg #[.int .i64 p.1, .int .i64 p.2], .bool true, .nilIface])) ∨
   ((∀ p ∈ pl, ¬ HasChunk (halfOf L.now A.first A.count) p b) ∧ e = .returned (.tuple #[.agg #[.int .i64 0, .int .i64 0], .bool false, .nilIface])))
theorem chunkAt_inj {H : Bs} {at_ : Nat} {a b : Bs} (ha : ChunkAt H at_ a) (hb : ChunkAt H at_ b) (h : a.length = b.length) : a = b := by
  have h1 := ha.2
  have h2 := hb.2
  rw [h] at h1
  rw [h1] at h2
  simpa using h2
theorem chunkRow {w : World} {cm c : Nat} {cs : List ChkL} (h : Sat w (chunksF cm cs c)) (hok : ChunksOk cs c) (k : Bs) : ∃ sl cap, valOf (.slice none 0 0) cs k = .slice sl (placesOf cs k).length cap ∧ (placesOf cs k).length ≤ cap ∧ cap ≤ 9223372036854775807 ∧ CellsAt w sl (placesV (placesOf cs k)) := by
  unfold placesOf valOf gOf
  cases hf : cs.find? (fun p => decide (p.key = k)) with
  | none => exact ⟨none, 0, rfl, Nat.le_refl _, by omega, fun h => by simp [placesV] at h⟩
  | some p =>
    have hm := List.mem_of_find?_eq_some hf
    have hp : Sat w (placeRow p.val p.g) := Sat.flat (f := fun p : ChkL => placeRow p.val p.g) h.tail hm
    exact place_cells hp (hok.rows p hm)
theorem results_row_tmp2 {P : Program} {fn : Func} {p q s : Tmp} {ty : TypeId} (h : fn.results = #[.cell p ty, .tmp q, .tmp s]) (tmps : Array Value) (w : World) (g : Nat) (t : TypeId) (cs : Array Value) (fr : Nat × Nat) (d : TypeDesc)
    (hp : tmps.getD p undef = .pointer (some ⟨g, 0, none⟩)) (hg : w.heap[g]? = some (.cells cs t fr))
    (hu : P.underlying ty = some d) (hd : (match d with | .struct _ | .array _ _ => true | _ => false) = true) (hi : (P.info? ty).map (·.size) = some cs.size) :
    (results fn tmps).run P w = .ok (.tuple #[.agg cs, tmps.getD q undef, tmps.getD s undef]) w := by
  have hp' : tmps[p]?.getD undef = .pointer (some ⟨g, 0, none⟩) := by simpa using hp
  simp [results, h, hp', asAddr, run_loadVar_row w g t ty cs fr d hg hu hd hi]
def placeO (p : Nat × Nat) : Obj := .cells #[.int .i64 p.1, .int .i64 p.2] 161 (0, 0)
def KnownRel (ab d r : Nat) (A : AreaL) (L : DevL) (R0 : HF) (pl : List (Nat × Nat)) (b : Bs) (w : World) (i : Value) (W : World) : Prop :=
  ∃ (j : Nat) (sp : List (Nat × Nat × Nat)), j ≤ pl.length ∧ i = .int .i64 j ∧ AreaOk { A with spare := sp } ∧ Turns (areaF ab d A ++ R0) ((r, Is (placeO (0, 0))) :: (areaF ab d { A with spare := sp } ++ R0)) w W ∧
    ∀ t (h : t < pl.length), t < j → ¬ HasChunk (halfOf L.now A.first A.count) pl[t] b
set_option maxHeartbeats 4000000 in
set_option maxRecDepth 100000 in
theorem known_calls (a : Nat) (X : ArchL) (ab d : Nat) (hab : ab = X.ab) (A : AreaL) (L : DevL) (cs : List ChkL) (c : Nat) (b : Bs) (sl : Option Addr) (cap : Nat) (R0 : HF) (w : World) (h : Sat w (areaF ab d A ++ R0))
    (hsub : ∀ x, cnt x ((a, Is (archO X)) :: (devF d L ++ chunksF X.cm cs c)) ≤ cnt x R0) (hL : DevOk L) (hA : AreaOk A) (hAn : A.first + A.count ≤ L.n) (hn : L.n ≤ 1073741824) (hok : ChunksOk cs c)
    (hb : CellsAt w sl (b.map enc8)) (hbs : ∀ x, sl = some x → x.block ∉ dom (areaF ab d A ++ R0)) (hbl : b.length ≤ 1000000) (hpl : (placesOf cs (be (sumOf 1 b) 4)).length ≤ 1000000)
    (hch : ∀ p ∈ placesOf cs (be (sumOf 1 b) 4), ∃ body, p.2 = body.length ∧ ChunkAt (halfOf L.now A.first A.count) p.1 body) :
    Calls Tryz.prog 77 #[.pointer (some ⟨a, 0, none⟩), .slice sl b.length cap] w (KnownPost ab d A L R0 (placesOf cs (be (sumOf 1 b) 4)) b w) := by
  obtain ⟨k, hk⟩ : ∃ k, k = be (sumOf 1 b) 4 := ⟨_, rfl⟩
  have hk4 : Ok4 k := by rw [hk]; exact be_length _ _
  rw [← hk] at hpl hch ⊢
  obtain ⟨pl, hple⟩ : ∃ pl, pl = placesOf cs k := ⟨_, rfl⟩
  rw [← hple] at hpl hch ⊢
  obtain ⟨r, hr⟩ : ∃ r, r = w.heap.size := ⟨_, rfl⟩
  obtain ⟨F0, hF0⟩ : ∃ F0, F0 = areaF ab d A ++ R0 := ⟨_, rfl⟩
  have hsubC : ∀ {W : World} {F : HF}, Sat W (F ++ R0) → W.heap[a]? = some (archO X) ∧ Sat W (devF d L) ∧ Sat W (chunksF X.cm cs c) := fun hs => by
    have h1 := hs.right.sub hsub
    exact ⟨h1.headIs, h1.tail.left, h1.tail.right⟩
  obtain ⟨psl, pcap, e1, e2, e3, _⟩ := chunkRow (hsubC h).2.2 hok k
  rw [← hple] at e1 e2
  have hT0 : Turns F0 ((r, Is (placeO (0, 0))) :: (areaF ab d A ++ R0)) w (w.alloc (placeO (0, 0))) := by rw [hr, hF0]; exact (Turns.refl h).allocIs _
  have HM := Lib.hid (show Tryz.prog.follows .mixedOrders = true by kernel_rfl)
  have HK := Lib.hid (fun (W : World) (hW : CellsAt W sl (b.map enc8)) => keyOf_calls sl cap b W hW (by omega))
  have HH := Lib.hid (And.intro hT0 (And.intro hab (And.intro hL (And.intro hA (And.intro hAn (And.intro hn (And.intro hok (And.intro hb (And.intro hbs (And.intro hch (And.intro hk4 (And.intro hk (And.intro hple (And.intro e1 hF0))))))))))))))
  have HS := Lib.hid (And.intro hsub @hsubC)
  clear hT0 hab hL hA hAn hn hok hb hbs hch hk4 hk hple e1 hF0 hsub hsubC h
  go_enter Tryz.func77, Tryz.ntmps77
  go_wp2_with fail
  rw [← hr]
  have hw0 : w.alloc (.cells #[.int .i64 0, .int .i64 0] 161) = w.alloc (placeO (0, 0)) := rfl
  rw [hw0]
  clear hw0 hr
  refine wp_region_chain (A := ?A) (hA := ?hA) HM.out (phiL [fun v => v = .pointer (some ⟨a, 0, none⟩), fun v => v = .pointer (some ⟨a, 0, none⟩), fun v => v = .pointer (some ⟨a, 0, none⟩), fun v => v = .pointer (some ⟨a, 2, none⟩), fun v => v = .map (some X.cm), fun v => v = .slice sl b.length cap, fun v => v = keyV k, fun v => v = .slice psl pl.length pcap, fun v => v = .int .i64 pl.length, fun v => v = .int .i64 0])
    (fun vs1 W => match vs1 with
    | [] => Turns F0 ((r, Is (placeO (0, 0))) :: (areaF ab d A ++ R0)) w W
    | _ => False)
    (fun W => Turns F0 ((r, Is (placeO (0, 0))) :: (areaF ab d A ++ R0)) w W) [] ?hC (by kernel_rfl) (by kernel_rfl) (by decide) (by decide) ?h0 ?hs ?he
  case hA => intro x; simp only [fillFrom, Act.put, List.setIfInBounds_toArray, List.set_cons_zero, List.set_cons_succ, Nat.reduceAdd]; rfl
  case hs =>
    refine ⟨chain_quiet rfl rfl (fun x wq hd hC K hK hKw => ?_), chain_quiet rfl rfl (fun x wq hd hC K hK hKw => ?_), chain_quiet rfl rfl (fun x wq hd hC K hK hKw => ?_), chain_quiet rfl rfl (fun x wq hd hC K hK hKw => ?_), chain_quiet rfl rfl (fun x wq hd hC K hK hKw => ?_), chain_quiet rfl rfl (fun x wq hd hC K hK hKw => ?_), chain_quiet rfl rfl (fun x wq hd hC K hK hKw => ?_), chain_quiet rfl rfl (fun x wq hd hC K hK hKw => ?_), chain_quiet rfl rfl (fun x wq hd hC K hK hKw => ?_), chain_quiet rfl rfl (fun x wq hd hC K hK hKw => ?_), trivial⟩
    · exact wp_run (by kernel_rfl) (hK _ rfl)
    · have h0 : x 0 = .pointer (some ⟨a, 0, none⟩) := depsC_get hd 0 (by kernel_rfl)
      exact wp_run (by rw [h0]; kernel_rfl) (hK _ rfl)
    · have h1 : x 1 = .pointer (some ⟨a, 0, none⟩) := depsC_get hd 1 (by kernel_rfl)
      exact wp_run (by rw [h1]; kernel_rfl) (hK _ rfl)
    · have h2 : x 2 = .pointer (some ⟨a, 0, none⟩) := depsC_get hd 2 (by kernel_rfl)
      exact wp_run (by rw [h2]; kernel_rfl) (hK _ rfl)
    · have h3 : x 3 = .pointer (some ⟨a, 2, none⟩) := depsC_get hd 3 (by kernel_rfl)
      exact w_load Tryz.underlying121 rfl rfl (by rw [h3]; rfl) (cell_at (HS.out.2 (F := (r, Is (placeO (0, 0))) :: areaF ab d A) hC.sat).1 2 rfl) (hK _ rfl)
    · exact wp_run (by kernel_rfl) (hK _ rfl)
    · have h5 : x 5 = .slice sl b.length cap := depsC_get hd 5 (by kernel_rfl)
      refine wp_calls (by rw [h5]; kernel_rfl) (HK.out wq (HH.out.2.2.2.2.2.2.2.1.turnsOld hC (HH.out.2.2.2.2.2.2.2.2.2.2.2.2.2.2.symm ▸ HH.out.2.2.2.2.2.2.2.2.1))) ?_
      rintro e w3 ⟨rfl, hs3⟩
      refine ⟨_, rfl, hKw _ _ (by rw [← HH.out.2.2.2.2.2.2.2.2.2.2.2.1]; rfl) ?_⟩
      intro vs hvs
      match vs, hvs with
      | [], hT => exact hT.thenSame hs3
    · have h4 : x 4 = .map (some X.cm) := depsC_get hd 4 (by kernel_rfl)
      have h6 : x 6 = keyV k := depsC_get hd 6 (by kernel_rfl)
      have hcm := (HS.out.2 (F := (r, Is (placeO (0, 0))) :: areaF ab d A) hC.sat).2.2.headIs
      refine w_look keyEnc (.tmp 15) (.tmp 17) rfl Tryz.underlying121 hcm HH.out.2.2.2.2.2.2.1.map (zeroPlaces _) k (by rw [h4]; rfl) (by rw [h6]; rfl) HH.out.2.2.2.2.2.2.2.2.2.2.1 ?_
      rw [getE_valOf, HH.out.2.2.2.2.2.2.2.2.2.2.2.2.2.1]
      exact hK _ rfl
    · have h7 : x 7 = .slice psl pl.length pcap := depsC_get hd 7 (by kernel_rfl)
      exact wp_run (by rw [h7]; kernel_rfl) (hK _ rfl)
    · exact wp_run (by kernel_rfl) (hK _ rfl)
  case hC =>
    intro vs1 W hS
    match vs1, hS with
    | [], hT => exact hT
  case h0 => exact HH.out.1.drew
  case he =>
    intro x w3 hφ hT3
    have e7 : x 7 = .slice psl pl.length pcap := allPhi_get hφ 7 (by decide) (by decide)
    have e8 : x 8 = .int .i64 pl.length := allPhi_get hφ 8 (by decide) (by decide)
    have e9 : x 9 = .int .i64 0 := allPhi_get hφ 9 (by decide) (by decide)
    simp only [e7, e8, e9]
    have hT3' : Turns F0 ((r, Is (placeO (0, 0))) :: (areaF ab d A ++ R0)) w w3 := hT3
    have HT3 := Lib.hid hT3'
    clear hφ hT3 hT3' e7 e8 e9
    go_wp2_with fail
    rw [HH.out.2.2.2.2.2.2.2.2.2.2.2.2.2.2] at HT3
    go_loopw [20] (fun i wr => KnownRel ab d r A L R0 pl b w i wr) (fun i _ => pl.length - (intOf i).toNat)
    case atStart => exact ⟨0, A.spare, Nat.zero_le _, rfl, HH.out.2.2.2.1, HT3.out, fun t h h0 => by omega⟩
    case round =>
      obtain ⟨j, sp, hj, rfl, hAo, hT, hno⟩ := hrel
      have HR := Lib.hid (And.intro hAo (And.intro hT hno))
      clear hAo hT hno
      by_cases hlt : j < pl.length
      · obtain ⟨psl2, pcap2, f1, f2, f3, f4⟩ := chunkRow (HS.out.2 (F := (r, Is (placeO (0, 0))) :: areaF ab d { A with spare := sp }) HR.out.2.1.sat).2.2 HH.out.2.2.2.2.2.2.1 k
        rw [HH.out.2.2.2.2.2.2.2.2.2.2.2.2.2.1, ← HH.out.2.2.2.2.2.2.2.2.2.2.2.2.1] at f1
        simp only [Value.slice.injEq, true_and] at f1
        obtain ⟨rfl, rfl⟩ := f1
        rw [← HH.out.2.2.2.2.2.2.2.2.2.2.2.2.1] at f4
        obtain ⟨g, off, hg, hcell⟩ := f4 (by rw [placesV_length]; omega)
        subst hg
        obtain ⟨hc1, hc2⟩ := place_at hcell hlt
        obtain ⟨q, hq⟩ : ∃ q, q = pl[j] := ⟨_, rfl⟩
        rw [← hq] at hc1 hc2
        obtain ⟨body, hq2, hbody⟩ := HH.out.2.2.2.2.2.2.2.2.2.1 q (hq ▸ List.getElem_mem hlt)
        obtain ⟨B8, hB8⟩ : ∃ B8, B8 = wr.heap.size := ⟨_, rfl⟩
        have hT8 : Turns (areaF ab d A ++ R0) (areaF ab d { A with spare := sp } ++ ((B8, Is (placeO q)) :: (r, Is (placeO (0, 0))) :: R0)) w (wr.alloc (placeO q)) := by
          rw [hB8]
          exact (HR.out.2.1.allocIs (placeO q)).to (perm_of_cnt fun _ => by simp only [cnt_cons, cnt_append, cnt_nil] <;> omega)
        have HLd := Lib.hid (load_calls a X ab d HH.out.2.1 { A with spare := sp } L q.1 body ((B8, Is (placeO q)) :: (r, Is (placeO (0, 0))) :: R0) (wr.alloc (placeO q)) hT8.sat (fun x => by have := HS.out.1 x; simp only [cnt_cons, cnt_append] at this ⊢; omega) HH.out.2.2.1 HR.out.1 HH.out.2.2.2.2.1 HH.out.2.2.2.2.2.1 hbody)
        rw [← hq2] at HLd
        have HQ := Lib.hid (And.intro hq (And.intro hq2 (And.intro hbody (And.intro hT8 hB8))))
        clear hcell hq hq2 hbody hT8 hB8 f2 f3
        go_wp2_with fail
        refine HLd.out.mono ?_
        rintro e w4 ⟨av, cv, sp2, rfl, hok4, hAo4, hT4⟩
        have hT5 := HQ.out.2.2.2.1.trans hT4
        obtain ⟨av', cv', hev, -, -, hav, -⟩ := own_cells' (bOwns hT4.sat.left hok4)
        simp only [Value.slice.injEq, true_and] at hev
        obtain ⟨rfl, rfl⟩ := hev
        rw [← HQ.out.2.2.2.2]
        have h8 : w4.heap[B8]? = some (placeO q) := hT4.sat.memIs (by simp)
        have hrr : w4.heap[r]? = some (placeO (0, 0)) := hT4.sat.memIs (by simp)
        have c80 : w4.cell? ⟨B8, 0, none⟩ = some (.int .i64 q.1) := cell_at h8 0 rfl
        have c81 : w4.cell? ⟨B8, 1, none⟩ = some (.int .i64 q.2) := cell_at h8 1 rfl
        have hcv1 := bytes_str cv hav
        have hbw4 : CellsAt w4 sl (b.map enc8) := HH.out.2.2.2.2.2.2.2.1.turnsOld hT5 HH.out.2.2.2.2.2.2.2.2.1
        have hcv2 := bytes_str cap hbw4
        have hth := there_of (C := #[.int .i64 0, .int .i64 0]) hrr 0 2 (by simp)
        obtain ⟨q1, q2⟩ := setCells_new hrr [.int .i64 q.1, .int .i64 q.2] (by simp)
        have H4 := Lib.hid (And.intro hok4 (And.intro hAo4 (And.intro hT5 (And.intro hth (And.intro q1 q2)))))
        have hbl4 := lt_of_heap h8
        clear hok4 hAo4 hT4 hT5 hav h8 hrr hbw4 hth q1 q2 hc1 hc2
        by_cases hbb : body = b
        · subst hbb
          go_wp2_with ((refine wpList_store_mid rfl 161 (.tmp 4) (.tmp 39) rfl r 0 #[.int .i64 q.1, .int .i64 q.2] rfl rfl H4.out.2.2.2.1 (by kernel_rfl) (by simp [Value.oneCell']) ?_; simp only [Act.put]))
          refine bodyPost_ret (results_row_tmp2 rfl _ _ r 161 _ (0, 0) _ rfl H4.out.2.2.2.2.1 Tryz.underlying161 rfl (by kernel_rfl)) rfl ?_
          refine ⟨⟨sp2, H4.out.2.1, ?_⟩, .inl ⟨q, HQ.out.1 ▸ List.getElem_mem hlt, ⟨HQ.out.2.1, HQ.out.2.2.1⟩, rfl⟩⟩
          have hq5 := (H4.out.2.2.1.to (H := (r, Is (placeO (0, 0))) :: (bRow (.slice av body.length cv) body ++ (areaF ab d { A with spare := sp2 } ++ ((B8, Is (placeO q)) :: R0)))) (perm_of_cnt fun _ => by simp only [cnt_cons, cnt_append, cnt_nil] <;> omega)).putIs (o := placeO q) H4.out.2.2.2.2.2 H4.out.2.2.2.2.1
          exact hq5.drop (fun _ => by simp only [cnt_cons, cnt_append, cnt_nil] <;> omega)
        · have HNB := Lib.hid hbb
          have hsn : (body == b) = false := by simpa using hbb
          clear hbb
          go_wp2_with fail
          go_roundw
          case rel =>
            refine ⟨j + 1, sp2, by omega, by go_num, H4.out.2.1, H4.out.2.2.1.drop (fun _ => by simp only [cnt_cons, cnt_append, cnt_nil] <;> omega), fun t ht htj => ?_⟩
            rcases Nat.lt_or_ge t j with h' | h'
            · exact HR.out.2.2 t ht h'
            · obtain rfl : t = j := by omega
              intro hc
              rw [← HQ.out.1] at hc
              exact HNB.out (chunkAt_inj HQ.out.2.2.1 hc.2 (HQ.out.2.1.symm.trans hc.1))
          case measure => simp [intOf]; omega
      · obtain rfl : j = pl.length := by omega
        have hrr := HR.out.2.1.sat.headIs
        have hth := there_of (C := #[.int .i64 0, .int .i64 0]) hrr 0 2 (by simp)
        obtain ⟨q1, q2⟩ := setCells_new hrr [.int .i64 0, .int .i64 0] (by simp)
        have hTe := HR.out.2.1.putIs (o := placeO (0, 0)) q2 q1
        have HE := Lib.hid (And.intro q1 (And.intro hTe hth))
        clear hrr hth q1 q2 hTe
        go_wp2_with ((refine wpList_store_mid rfl 161 (.tmp 4) (.tmp 41) rfl r 0 #[.int .i64 0, .int .i64 0] rfl rfl HE.out.2.2 (by kernel_rfl) (by simp [Value.oneCell']) ?_; simp only [Act.put]))
        refine bodyPost_ret (results_row_tmp2 rfl _ _ r 161 _ (0, 0) _ rfl HE.out.1 Tryz.underlying161 rfl (by kernel_rfl)) rfl ?_
        refine ⟨⟨sp, HR.out.1, HE.out.2.1.drop (fun _ => by simp only [cnt_cons, cnt_append, cnt_nil] <;> omega)⟩, .inr ⟨fun p hp => ?_, rfl⟩⟩
        obtain ⟨t, ht, rfl⟩ := List.mem_iff_getElem.1 hp
        exact HR.out.2.2 t ht ht
end Go.Proofs.YtdhobpbngkainaaGreatDoor
/-
  Ours. An archive as it lies, whole; what holds of it between two calls; plain words on its bytes and chunks. No condition.
-/
namespace Go.Proofs.YtdhobpbngkainaaGreatDoor
open Go.RowKit Go.Maps

abbrev TagL := GE (Bs × Int)
def tagV (n : Bs) (g : Bs × Int) : Value := .agg #[str n, str g.1, .int .i64 g.2]
def tagsF (tm : Nat) (ts : List TagL) (tc : Nat) : HF := [(tm, Is (mapO str (ts.map entG) tc))]
structure TagsOk (ts : List TagL) (tc : Nat) : Prop where
  map : MapOk OkS (ts.map entG) tc
  val : ∀ p ∈ ts, p.val = tagV p.key p.g
def keyB (body : Bs) : Bs := be (sumOf 1 body) 4
structure AS where
  a : Nat
  X : ArchL
  A : AreaL
  L : DevL
  ps : List PathL
  pc : Nat
  cs : List ChkL
  cc : Nat
  ts : List TagL
  tc : Nat
  data : Bs
  K : List (Bs × Nat × Nat)
def arF (S : AS) : HF := (S.a, Is (archO S.X)) :: (areaF S.X.ab S.X.d S.A ++ (devF S.X.d S.L ++ (pathsF S.X.pm S.ps S.pc ++ (tagsF S.X.tm S.ts S.tc ++ chunksF S.X.cm S.cs S.cc))))
/-- A record of a chunk stands there, within what is written. -/
def InData (data : Bs) (at_ : Nat) (body : Bs) : Prop := at_ + (body.length + 9) ≤ data.length ∧ openR ((data.drop at_).take (body.length + 9)) = some (1, body, body.length + 9)
theorem InData.more {data more body : Bs} {at_ : Nat} (h : InData data at_ body) : InData (data ++ more) at_ body := by
  refine ⟨by have := h.1; simp; omega, ?_⟩
  rw [List.drop_append_of_le_length (by have := h.1; omega), List.take_append_of_le_length (by rw [List.length_drop]; have := h.1; omega)]
  exact h.2
theorem InData.frame {data body rest : Bs} (hl : body.length < 65536) : InData (data ++ frame 1 body ++ rest) data.length body := by
  refine ⟨by simp [frame_length], ?_⟩
  rw [List.append_assoc, List.drop_left, List.take_append_of_le_length (by rw [frame_length]; omega), List.take_of_length_le (by rw [frame_length]; omega)]
  have := openR_frame 1 body [] (by decide) hl
  rwa [List.append_nil] at this
theorem InData.chunkAt {l data body : Bs} {first count at_ : Nat} (h : InData data at_ body) (hd : DataAt l first count data) : ChunkAt (halfOf l first count) at_ body := by
  rw [hd.1]
  refine ⟨by have := h.1; simp; omega, ?_⟩
  rw [List.drop_append_of_le_length (by have := h.1; omega), List.take_append_of_le_length (by rw [List.length_drop]; have := h.1; omega)]
  exact h.2
structure ArOk (S : AS) : Prop where
  dev : DevOk S.L
  n16 : 16 ≤ S.L.n
  nmax : S.L.n ≤ 1073741824
  area : AreaOk S.A
  first : S.A.first = 2 + S.X.ep % 2 * halfN S.L.n
  count : S.A.count = halfN S.L.n
  end_ : S.A.end_ = S.data.length
  tail : S.A.tail = tailOf S.data
  dat : DataAt S.L.now S.A.first S.A.count S.data
  paths : PathsOk S.ps S.pc
  tags : TagsOk S.ts S.tc
  chunks : ChunksOk S.cs S.cc
  kin : ∀ k, (placesOf S.cs k).Perm ((S.K.filter (fun e => decide (keyB e.1 = k))).map (·.2))
  kat : ∀ e ∈ S.K, e.2.2 = e.1.length ∧ InData S.data e.2.1 e.1
  vers : ∀ p ∈ S.ps, ∀ V ∈ p.g, (∀ q ∈ V.chs, ∃ e ∈ S.K, e.2 = q) ∧ V.size = (V.chs.map (·.2)).sum
  some : ∀ p ∈ S.ps, p.g ≠ []
  sound : S.X.broken = .nilIface
  ep : S.X.ep < 4294967296
/-- How much there is at the most. -/
structure ArB (S : AS) (b : Nat) : Prop where
  K : S.K.length ≤ b
  np : S.ps.length ≤ b
  nt : S.ts.length ≤ b
  vers : ∀ p ∈ S.ps, p.key.length ≤ 255 ∧ p.g.length ≤ b ∧ ∀ V ∈ p.g, V.num ≤ 4294967296 + b ∧ V.chs.length ≤ b ∧ V.size ≤ 65536 * b ∧ V.held.natAbs ≤ b
  tags : ∀ p ∈ S.ts, p.key.length ≤ 255 ∧ p.g.1.length ≤ 255 ∧ p.g.2.natAbs ≤ 4294967296 + b
  used : S.X.used.natAbs ≤ 65536 * b
  sc : S.X.sc.natAbs ≤ b
  sb : S.X.sb.natAbs ≤ 65536 * b
  quota : S.X.quota.natAbs ≤ 9223372036854775807
  chs : S.L.chs.length ≤ 262144 * b
theorem ArOk.fits {S : AS} (h : ArOk S) : S.A.first + S.A.count ≤ S.L.n := by
  rw [h.first, h.count]
  have := h.n16
  unfold halfN
  rcases Nat.mod_two_eq_zero_or_one S.X.ep with e | e <;> rw [e] <;> omega
theorem places_len {S : AS} (h : ArOk S) (k : Bs) : (placesOf S.cs k).length ≤ S.K.length := by
  rw [(h.kin k).length_eq, List.length_map]
  exact List.length_filter_le _ _
theorem places_mem {S : AS} (h : ArOk S) {k : Bs} {q : Nat × Nat} : q ∈ placesOf S.cs k ↔ ∃ e ∈ S.K, keyB e.1 = k ∧ e.2 = q := by
  rw [(h.kin k).mem_iff]
  simp only [List.mem_map, List.mem_filter, decide_eq_true_eq]
  exact ⟨fun ⟨e, ⟨h1, h2⟩, h3⟩ => ⟨e, h1, h2, h3⟩, fun ⟨e, h1, h2, h3⟩ => ⟨e, ⟨h1, h2⟩, h3⟩⟩
/-- What 'known' asks of the places. -/
theorem places_body {S : AS} (h : ArOk S) {k : Bs} : ∀ q ∈ placesOf S.cs k, ∃ body, q.2 = body.length ∧ ChunkAt (halfOf S.L.now S.A.first S.A.count) q.1 body := fun q hq => by
  obtain ⟨e, he, _, rfl⟩ := (places_mem h).1 hq
  exact ⟨e.1, (h.kat e he).1, (h.kat e he).2.chunkAt h.dat⟩
theorem has_in {S : AS} (h : ArOk S) {b : Bs} {q : Nat × Nat} (hq : q ∈ placesOf S.cs (keyB b)) (hc : HasChunk (halfOf S.L.now S.A.first S.A.count) q b) : (b, q) ∈ S.K := by
  obtain ⟨e, he, _, rfl⟩ := (places_mem h).1 hq
  have := chunkAt_inj ((h.kat e he).2.chunkAt h.dat) hc.2 ((h.kat e he).1.symm.trans hc.1)
  rw [← this]
  exact he
theorem in_has {S : AS} (h : ArOk S) {b : Bs} {q : Nat × Nat} (he : (b, q) ∈ S.K) : q ∈ placesOf S.cs (keyB b) ∧ HasChunk (halfOf S.L.now S.A.first S.A.count) q b :=
  ⟨(places_mem h).2 ⟨_, he, rfl, rfl⟩, (h.kat _ he).1, (h.kat _ he).2.chunkAt h.dat⟩
/-! ### the plan of a Put -/
def chunksFrom : List Nat → Bs → List Bs
  | [], _ => []
  | n :: r, d => d.take n :: chunksFrom r (d.drop n)
/-- Of a content's chunks those that are new, each once. -/
def freshOf (has : List Bs) : List Bs → List Bs → List Bs
  | acc, [] => acc
  | acc, c :: r => if c ∈ has ∨ c ∈ acc then freshOf has acc r else freshOf has (acc ++ [c]) r
def placed : Nat → List Bs → List (Bs × Nat × Nat)
  | _, [] => []
  | at_, c :: r => (c, at_, c.length) :: placed (at_ + c.length + 9) r
def framesLen (l : List Bs) : Nat := (l.map fun c => c.length + 9).sum
theorem placed_append (l m : List Bs) : ∀ at_, placed at_ (l ++ m) = placed at_ l ++ placed (at_ + framesLen l) m := by
  induction l with
  | nil => intro a; simp [placed, framesLen]
  | cons c r ih =>
    intro a
    simp only [List.cons_append, placed, ih, framesLen, List.map_cons, List.sum_cons]
    rw [show a + c.length + 9 + (r.map fun c => c.length + 9).sum = a + (c.length + 9 + (r.map fun c => c.length + 9).sum) by omega]
theorem chunksFrom_length : ∀ (l : List Nat) (d : Bs), (chunksFrom l d).length = l.length
  | [], _ => rfl
  | _ :: r, d => by simp [chunksFrom, chunksFrom_length r]
theorem chunksFrom_at : ∀ (l : List Nat) (d : Bs) (i : Nat) (h : i < l.length), (chunksFrom l d)[i]'(by rw [chunksFrom_length]; exact h) = (d.drop (l.take i).sum).take l[i]
  | n :: r, d, 0, _ => by simp [chunksFrom]
  | n :: r, d, i + 1, h => by
    simp only [chunksFrom, List.getElem_cons_succ]
    rw [chunksFrom_at r _ i (by simpa using h), List.drop_drop]
    simp
end Go.Proofs.YtdhobpbngkainaaGreatDoor
/-
  Ours. How a content is cut, in plain words: the gear of a byte, the state of a cutter, the cuts of a list. No condition; no program.
-/
namespace Go.Proofs.YtdhobpbngkainaaGreatDoor

/-- P3's G, as the walk spells it. -/
def gearI (c : Int) : Int :=
  bits BinOp.xor IntKind.u32
    (bits BinOp.xor IntKind.u32 ((c + 1) * 2654435769 % 4294967296) ((c + 1) * 2654435769 % 4294967296 / 65536) * 2246822507 % 4294967296)
    (bits BinOp.xor IntKind.u32 ((c + 1) * 2654435769 % 4294967296) ((c + 1) * 2654435769 % 4294967296 / 65536) * 2246822507 % 4294967296 / 8192)
def hashI (h c : Int) : Int := (h * 2 + gearI c) % 4294967296
/-- Does a chunk end where the hash is h and the chunk has n bytes? -/
def endsB (h : Int) (n : Nat) : Bool :=
  if 256 ≤ n then true
  else if 64 ≤ n then !(bits BinOp.and IntKind.u32 h 15 != 0)
  else if 16 ≤ n then !(bits BinOp.and IntKind.u32 h 255 != 0)
  else false

theorem ends_256 {h : Int} {n : Nat} (h1 : 256 ≤ n) : endsB h n = true := by unfold endsB; rw [if_pos h1]
theorem ends_64 {h : Int} {n : Nat} {v : Bool} (h1 : n < 256) (h2 : 64 ≤ n) (hv : (bits BinOp.and IntKind.u32 h 15 != 0) = v) : endsB h n = !v := by
  unfold endsB; rw [if_neg (by omega), if_pos h2, hv]
theorem ends_16 {h : Int} {n : Nat} {v : Bool} (h1 : n < 64) (h2 : 16 ≤ n) (hv : (bits BinOp.and IntKind.u32 h 255 != 0) = v) : endsB h n = !v := by
  unfold endsB; rw [if_neg (by omega), if_neg (by omega), if_pos h2, hv]
theorem ends_0 {h : Int} {n : Nat} (h1 : n < 16) : endsB h n = false := by unfold endsB; rw [if_neg (by omega), if_neg (by omega), if_neg (by omega)]

def gearsA : Array Value := ((List.range 256).map fun k : Nat => Value.int .u32 (gearI k)).toArray
/-- The cells of a cutter. -/
def cutC (h : Int) (n : Nat) : Array Value := gearsA ++ #[.int .u32 h, .int .i64 n]
def gearsTo (k : Nat) : Array Value := ((List.range k).map (fun k : Nat => Value.int .u32 (gearI k)) ++ (List.replicate (256 - k) (Value.int .u32 0) ++ [Value.int .u32 0, Value.int .i64 0])).toArray

theorem gearsA_size : gearsA.size = 256 := by simp [gearsA]
theorem cutC_size (h : Int) (n : Nat) : (cutC h n).size = 258 := by simp [cutC, gearsA_size]
theorem cutC_h (h : Int) (n : Nat) : (cutC h n)[256]? = some (.int .u32 h) := by
  simp [cutC, Array.getElem?_append, gearsA_size]
theorem cutC_n (h : Int) (n : Nat) : (cutC h n)[257]? = some (.int .i64 n) := by
  simp [cutC, Array.getElem?_append, gearsA_size]
theorem cutC_g (h : Int) (n c : Nat) (hc : c < 256) : (cutC h n)[c]? = some (.int .u32 (gearI c)) := by
  rw [cutC, Array.getElem?_append, if_pos (by rw [gearsA_size]; exact hc)]
  simp [gearsA, hc]
theorem set_tail2 (g : Array Value) (a b a' : Value) (k : Nat) (hk : g.size = k) : (g ++ #[a, b]).setIfInBounds k a' = g ++ #[a', b] := by
  subst hk
  rw [Array.setIfInBounds_append_right (Nat.le_refl _)]; simp
theorem set_tail2' (g : Array Value) (a b b' : Value) (k : Nat) (hk : g.size + 1 = k) : (g ++ #[a, b]).setIfInBounds k b' = g ++ #[a, b'] := by
  subst hk
  rw [Array.setIfInBounds_append_right (by omega)]; simp
theorem cutC_set_h (h h' : Int) (n : Nat) : (cutC h n).setIfInBounds 256 (.int .u32 h') = cutC h' n := set_tail2 _ _ _ _ _ gearsA_size
theorem cutC_set_n (h : Int) (n n' : Nat) (v : Value) (hv : v = .int .i64 n') : (cutC h n).setIfInBounds 257 v = cutC h n' := by
  subst hv; exact set_tail2' _ _ _ _ _ (by rw [gearsA_size])
theorem gearsTo_full : gearsTo 256 = cutC 0 0 := by
  simp [gearsTo, cutC, gearsA]
theorem gearsTo_size (k : Nat) (hk : k ≤ 256) : (gearsTo k).size = 258 := by simp [gearsTo]; omega
theorem gearsTo_set (k : Nat) (hk : k < 256) : (gearsTo k).setIfInBounds k (.int .u32 (gearI k)) = gearsTo (k + 1) := by
  apply Array.ext'
  simp only [gearsTo, Array.toList_setIfInBounds]
  rw [List.set_append, if_neg (by simp)]
  obtain ⟨m, hm⟩ : ∃ m, 256 - k = m + 1 := ⟨256 - k - 1, by omega⟩
  have hm' : 256 - (k + 1) = m := by omega
  rw [hm, hm']
  simp [List.range_succ, List.replicate_succ]
theorem gearsTo_get (k : Nat) (hk : k < 256) : (gearsTo k)[k]? = some (.int .u32 0) := by
  simp only [gearsTo, List.getElem?_toArray]
  rw [List.getElem?_append_right (by simp)]
  obtain ⟨m, hm⟩ : ∃ m, 256 - k = m + 1 := ⟨256 - k - 1, by omega⟩
  rw [hm]; simp [List.replicate_succ]

theorem gearI_range (c : Int) : 0 ≤ gearI c ∧ gearI c < 4294967296 := by
  unfold gearI bits IntKind.wrap
  simp [IntKind.bits, IntKind.signed]
  omega
theorem hashI_range (h c : Int) : 0 ≤ hashI h c ∧ hashI h c < 4294967296 := by unfold hashI; omega
theorem bits_and0 (x : Int) : (bits BinOp.and IntKind.u32 x 0 != 0) = false := by
  have h : bits BinOp.and IntKind.u32 x 0 = 0 := by
    show IntKind.u32.wrap ((BitVec.ofInt 32 x &&& BitVec.ofInt 32 0).toNat : Int) = 0
    rw [show BitVec.ofInt 32 0 = 0#32 from rfl, BitVec.and_zero]; rfl
  simp [h]

/-- THE LENGTHS OF A CONTENT's CHUNKS, a cutter standing at (h, n). -/
def cutsN : Int → Nat → List UInt8 → List Nat
  | _, _, [] => []
  | h, n, c :: cs => if endsB (hashI h c.toNat) (n + 1) || cs.isEmpty then (n + 1) :: cutsN 0 0 cs else cutsN (hashI h c.toNat) (n + 1) cs
def lensOf (data : List UInt8) : List Nat := cutsN 0 0 data

theorem cutsN_yes (h : Int) (n : Nat) (c : UInt8) (cs : List UInt8) (e : endsB (hashI h c.toNat) (n + 1) = true) : cutsN h n (c :: cs) = (n + 1) :: cutsN 0 0 cs := by
  rw [cutsN]; simp [e]
theorem cutsN_last (h : Int) (n : Nat) (c : UInt8) : cutsN h n [c] = [n + 1] := by rw [cutsN]; simp [cutsN]
theorem cutsN_no (h : Int) (n : Nat) (c : UInt8) (cs : List UInt8) (e : endsB (hashI h c.toNat) (n + 1) = false) (hcs : cs ≠ []) : cutsN h n (c :: cs) = cutsN (hashI h c.toNat) (n + 1) cs := by
  rw [cutsN]; simp [e, hcs]

theorem cutsN_length_le (l : List UInt8) : ∀ h n, (cutsN h n l).length ≤ l.length := by
  induction l with
  | nil => intro h n; simp [cutsN]
  | cons c cs ih =>
    intro h n
    rw [cutsN]
    split
    · have := ih 0 0; simp; omega
    · have := ih (hashI h c.toNat) (n + 1); simp; omega
theorem cutsN_sum (l : List UInt8) : ∀ h n, l ≠ [] → (cutsN h n l).sum = l.length + n := by
  induction l with
  | nil => intro h n hl; exact absurd rfl hl
  | cons c cs ih =>
    intro h n _
    rw [cutsN]
    split
    · by_cases hc : cs = []
      · subst hc; simp [cutsN]; omega
      · have := ih 0 0 hc; simp; omega
    · rename_i hn
      have hc : cs ≠ [] := by intro hc; subst hc; simp at hn
      have := ih (hashI h c.toNat) (n + 1) hc; simp; omega
theorem lensOf_sum (l : List UInt8) : (lensOf l).sum = l.length := by
  by_cases h : l = []
  · subst h; simp [lensOf, cutsN]
  · have := cutsN_sum l 0 0 h; simpa [lensOf] using this
theorem lensOf_length_le (l : List UInt8) : (lensOf l).length ≤ l.length := cutsN_length_le l 0 0

/-- A block's bytes from a place on. -/
def HasBytes (w : World) (d off : Nat) (l : List UInt8) : Prop := ∀ j (h : j < l.length), w.cell? ⟨d, off + j, none⟩ = some (.int .u8 ((l[j]'h).toNat : Nat))
theorem HasBytes.keep {S : Nat → Prop} {w w' : World} {d off : Nat} {l : List UInt8} (h : HasBytes w d off l) (hm : Mods S w w') (hS : ¬ S d) : HasBytes w' d off l := fun j hj => by
  have hc := h j hj
  have hlt := World.block_lt_of_cell? w _ hc
  exact (World.cell?_of_block (w := w) (hm.block d hlt hS)).trans hc

end Go.Proofs.YtdhobpbngkainaaGreatDoor
/-
  Ours. Plain: what a Put adds. No condition.
-/
namespace Go.Proofs.YtdhobpbngkainaaGreatDoor
open Go.RowKit Go.Maps

def chunksOf (D : Bs) : List Bs := chunksFrom (lensOf D) D
def lastNum (l : List VerL) : Nat := (l.getLast?.map (·.num)).getD 0
def freshS (S : AS) (D : Bs) : List Bs := freshOf (S.K.map (·.1)) [] (chunksOf D)
def frames (l : List Bs) : Bs := (l.map (frame 1)).flatten
/-- What a Put that is done makes of an archive. -/
structure PutStep (S S' : AS) (l D : Bs) (V : VerL) : Prop where
  a : S'.a = S.a
  quota : S'.X.quota = S.X.quota
  closed : S'.X.closed = S.X.closed
  ep : S'.X.ep = S.X.ep
  d : S'.X.d = S.X.d
  n : S'.L.n = S.L.n
  sc : S'.X.sc = S.X.sc + (freshS S D).length
  sb : S'.X.sb = S.X.sb + ((freshS S D).map List.length).sum
  used : S'.X.used = S.X.used + D.length
  K : S'.K = S.K ++ placed S.data.length (freshS S D)
  ts : S'.ts = S.ts
  vers : ∀ m, versOf S'.ps m = if m = l then versOf S.ps l ++ [V] else versOf S.ps m
  num : V.num = lastNum (versOf S.ps l) + 1
  size : V.size = D.length
  held : V.held = 0
  nchs : V.chs.length = (chunksOf D).length
  chs : ∀ e ∈ (chunksOf D).zip V.chs, e ∈ S'.K
  data : S'.data = S.data ++ frames (freshS S D) ++ frame 2 (verB l V.num V.size (atsOf V.chs))
  other : ∀ f2 c2, (f2 + c2 ≤ S.A.first ∨ S.A.first + S.A.count ≤ f2) → halfOf S'.L.now f2 c2 = halfOf S.L.now f2 c2
/-- How much there is at the most behind a Put. -/
def PutB (S : AS) (D : Bs) (b : Nat) (S' : AS) : Prop := ∀ b', b + (freshS S D).length + 2 ≤ b' → (chunksOf D).length ≤ b' → ArB S' b'
def PutPost (S : AS) (l D : Bs) (b : Nat) (w : World) (e : Ending) (w' : World) : Prop :=
  (∃ n, e = .returned (.tuple #[.int .i64 0, errV n]) ∧ Turns (arF S) (arF S) w w' ∧
    ((S.X.closed = true ∧ n = 9) ∨ (S.X.closed = false ∧ isPathB l = false ∧ n = 1) ∨ (S.X.closed = false ∧ isPathB l = true ∧ 4000 < D.length ∧ n = 2) ∨
     (S.X.closed = false ∧ isPathB l = true ∧ D.length ≤ 4000 ∧ S.X.quota < S.X.used + D.length ∧ n = 7))) ∨
  (S.X.closed = false ∧ isPathB l = true ∧ D.length ≤ 4000 ∧ S.X.used + D.length ≤ S.X.quota ∧
    ((∃ sp chs, e = .returned (.tuple #[.int .i64 0, errV 8]) ∧ AreaOk { S.A with spare := sp } ∧ Turns (arF S) (arF { S with A := { S.A with spare := sp } }) w w' ∧
        128 * S.A.count < S.data.length + (frames (freshS S D)).length + (frame 2 (verB l (lastNum (versOf S.ps l) + 1) D.length (atsOf chs))).length ∧ chs.length = (chunksOf D).length) ∨
     (∃ S' V, e = .returned (.tuple #[.int .i64 (lastNum (versOf S.ps l) + 1), .nilIface]) ∧ PutStep S S' l D V ∧ ArOk S' ∧ PutB S D b S' ∧ Turns (arF S) (arF S') w w')))
end Go.Proofs.YtdhobpbngkainaaGreatDoor
