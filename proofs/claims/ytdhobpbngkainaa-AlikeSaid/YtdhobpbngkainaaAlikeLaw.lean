/-
  Ours. The walk of the law Alike: it answers true, and nothing that was there has turned.
-/
import Derived.Test.YtdhobpbngkainaaCutLaw
import Derived.Test.YtdhobpbngkainaaAlikePlain
import Derived.Deep.DeepCutAuto
import Derived.Deep.RegionWith
namespace Go.Proofs.Ytdhobpbngkainaa
open Go.RowKit

set_option maxHeartbeats 1000000 in
set_option maxRecDepth 100000 in
theorem Alike_big (a1 a2 : Option Addr) (n1 n2 c1 c2 : Nat) (w : World) (h1 : n1 ≤ 140737488351232) (h2 : n2 ≤ 140737488351232) (h : 60000 < n1 + n2) :
    Calls Try.prog 5 #[.slice a1 n1 c1, .slice a2 n2 c2] w (LawPost w) := by
  go_enter Try.func5, Try.ntmps5
  go_wp2
  go_ret
  exact ⟨rfl, Mods.refl _ w⟩

theorem lens_cells {w : World} {av : Option Addr} {l : List Nat} (h : CellsAt w av (l.map nat64)) (k : Nat) (hk : k < l.length) : ∃ g off, av = some ⟨g, off, none⟩ ∧ w.cell? ⟨g, off + k, none⟩ = some (.int .i64 (l[k] : Nat)) := by
  obtain ⟨g, off, ha, hc⟩ := h (by simp; omega)
  exact ⟨g, off, ha, by rw [hc k (by simpa using hk)]; simp [nat64]⟩

theorem CellsAt.drop {w : World} {g off : Nat} {xs : List Value} (h : CellsAt w (some ⟨g, off, none⟩) xs) (k : Nat) : CellsAt w (some ⟨g, off + k, none⟩) (xs.drop k) := fun hp => by
  simp at hp
  obtain ⟨g', off', e, hc⟩ := h (by omega)
  simp only [Option.some.injEq, Addr.mk.injEq, and_true] at e
  obtain ⟨rfl, rfl⟩ := e
  refine ⟨g, off + k, rfl, fun j hj => ?_⟩
  have hj' : k + j < xs.length := by simp at hj; omega
  have := hc (k + j) hj'
  rw [List.getElem_drop, Nat.add_assoc]
  exact this
theorem CellsAt.take {w : World} {a : Option Addr} {xs : List Value} (h : CellsAt w a xs) (k : Nat) : CellsAt w a (xs.take k) := fun hp => by
  simp at hp
  obtain ⟨g', off', e, hc⟩ := h (by omega)
  refine ⟨g', off', e, fun j hj => ?_⟩
  rw [List.getElem_take]
  exact hc j (by simp at hj; omega)
theorem nat64_map (l : List Nat) : (l.map fun n : Nat => (n : Int)).map encI = l.map nat64 := by rw [List.map_map]; rfl

set_option maxHeartbeats 4000000 in
set_option maxRecDepth 100000 in
theorem Alike_walk (a1 a2 : Option Addr) (c1 c2 : Nat) (l m : List UInt8) (w : World) (hl : l.length + m.length ≤ 60000) (h1 : CellsAt w a1 (l.map enc8)) (h2 : CellsAt w a2 (m.map enc8))
    (hc1 : l.length ≤ c1) : Calls Try.prog 5 #[.slice a1 l.length c1, .slice a2 m.length c2] w (LawPost w) := by
  have H := Lib.hid (And.intro h1 h2)
  clear h1 h2
  go_enter Try.func5, Try.ntmps5
  go_wp2_with fail
  refine (Cuts_at c1 a1 l w H.out.1 hc1 (by omega)).mono ?_
  rintro e w1 ⟨v, rfl, hv, hs1⟩
  obtain ⟨av, cv, rfl, hlen, hcv⟩ := ownsRow_cellsAt hv
  have HV := Lib.hid (And.intro hcv (And.intro hs1 hv))
  have hll := lensOf_length_le l
  obtain ⟨N, hN⟩ : ∃ N, N = (lensOf l).length := ⟨_, rfl⟩
  rw [← hN] at hll ⊢
  have HN := Lib.hid hN
  clear hv hs1 hcv hlen hN
  go_wp2_with fail
  go_loop [6, 7] (fun at' ii => ∃ k : Nat, k ≤ N ∧ ii = .int .i64 k ∧ at' = .int .i64 (((lensOf l).take k).sum : Nat)) (fun _ ii => N - (intOf ii).toNat)
  case atStart => exact ⟨0, Nat.zero_le _, rfl, rfl⟩
  case round =>
    obtain ⟨k, hk, rfl, rfl⟩ := hrel
    by_cases hlt : k < N
    · have hkl : k < (lensOf l).length := by have := HN.out; omega
      obtain ⟨g, off, rfl, hck⟩ := lens_cells HV.out.1 k hkl
      have hb := lensOf_bounds l k hkl
      obtain ⟨x, hx⟩ : ∃ x, x = (lensOf l)[k] := ⟨_, rfl⟩
      rw [← hx] at hck hb
      have hsum : ((lensOf l).take (k + 1)).sum = ((lensOf l).take k).sum + x := by
        rw [List.take_succ_eq_append_getElem hkl, List.sum_append, hx]; simp
      have hle : ((lensOf l).take (k + 1)).sum ≤ l.length := by
        rw [← lensOf_sum l]
        conv => rhs; rw [← List.take_append_drop (k + 1) (lensOf l), List.sum_append]
        omega
      have hlast : k + 1 < N → 16 ≤ x := fun h => hb.2.2 (by have := HN.out; omega)
      obtain ⟨s, hs⟩ : ∃ s, s = ((lensOf l).take k).sum := ⟨_, rfl⟩
      rw [← hs] at hsum ⊢
      rw [hsum] at hle
      have HX := Lib.hid (And.intro hx (And.intro hsum hs))
      have hx1 := hb.1
      have hx2 := hb.2.1
      clear hx hsum hs hb
      by_cases hlk : k + 1 < N
      · have hx3 := hlast hlk
        have ht : ((k : Int) == (N : Int) - 1) = false := by simp; omega
        clear hlast
        go_wp2
        go_round
        case rel => exact ⟨k + 1, by omega, by go_num, by rw [HX.out.2.1]; go_num⟩
        case measure => simp [intOf]; omega
      · have ht : ((k : Int) == (N : Int) - 1) = true := by simp; omega
        clear hlast
        go_wp2
        all_goals go_round
        all_goals first
          | exact ⟨k + 1, by omega, by go_num, by rw [HX.out.2.1]; go_num⟩
          | (simp [intOf]; omega)
    · have hkN : k = N := by omega
      have hs : ((lensOf l).take k).sum = l.length := by rw [hkN, HN.out, List.take_length]; exact lensOf_sum l
      rw [hs]
      have hne : (((l.length : Nat) : Int) != (l.length : Int)) = false := by simp
      clear hs hkN
      go_upto_if 67 with (fail)
      go_cut [9] (fun _ wb => Hid (Same w1 wb))
      case first =>
        by_cases h1N : 1 < N
        · obtain ⟨x, r, hxr⟩ : ∃ x r, lensOf l = x :: r := by
            cases hL : lensOf l with
            | nil => have := HN.out; rw [hL] at this; simp at this; omega
            | cons x r => exact ⟨x, r, rfl⟩
          have hNr : N = r.length + 1 := by rw [HN.out, hxr]; simp
          obtain ⟨hxl, htail⟩ := lensOf_tail hxr
          have hsum := lensOf_sum l
          have hr1 : 1 ≤ r.sum := by
            have := lensOf_bounds l 1 (by rw [hxr]; simp; omega)
            cases r with
            | nil => simp at hNr; omega
            | cons y r' => rw [show (lensOf l)[1]'(by rw [hxr]; simp) = y from by simp [hxr]] at this; simp; omega
          have hxlt : x < l.length := by rw [hxr] at hsum; simp at hsum; omega
          obtain ⟨g0, o0, rfl, hcl⟩ := H.out.1 (by simp; omega)
          obtain ⟨g, off, rfl, hck⟩ := lens_cells HV.out.1 0 (by have := HN.out; omega)
          have hx0 : (lensOf l)[0]'(by have := HN.out; omega) = x := by simp [hxr]
          rw [hx0] at hck
          simp only [Nat.add_zero] at hck
          have hcut := Cuts_at (c1 - x) (some ⟨g0, o0 + x, none⟩) (l.drop x) w1 (by rw [List.map_drop]; exact (H.out.1.keep HV.out.2.1 (fun _ _ _ => id)).drop x) (by simp; omega) (by simp; omega)
          rw [List.length_drop] at hcut
          have HC := Lib.hid hcut
          have hL1 : CellsAt w1 (some ⟨g, off + 1, none⟩) (r.map nat64) := by
            have := HV.out.1.drop 1
            rw [hxr] at this
            simpa using this
          have HL := Lib.hid (And.intro hL1 (And.intro htail (And.intro hxr hNr)))
          have hNc : N ≤ cv := by
            rcases HV.out.2.2.2 with ⟨e, _⟩ | ⟨g', cap', cur', e, _, _, hnc, _⟩
            · cases e
            · simp only [Value.slice.injEq] at e
              obtain ⟨_, e1, e2⟩ := e
              have := HN.out; omega
          clear hcut hL1 htail hxr hsum hr1 hcl hx0 hNr
          go_wp2_with fail
          refine HC.out.mono ?_
          rintro e w2 ⟨v2, rfl, hv2, hs2⟩
          rw [HL.out.2.1] at hv2
          obtain ⟨av2, cv2, rfl, hlen2, hcv2⟩ := ownsRow_cellsAt hv2
          have hsame := sameNumbers_calls av2 (some ⟨g, off + 1, none⟩) cv2 (cv - 1) (r.map fun n : Nat => (n : Int)) (r.map fun n : Nat => (n : Int)) w2
            (by rw [nat64_map]; exact hcv2) (by rw [nat64_map]; exact HL.out.1.keep hs2 (fun _ _ _ => id)) (by rw [List.length_map]; have := HL.out.2.2.2; omega) (by rw [List.length_map]; have := HL.out.2.2.2; omega)
          simp only [List.length_map, decide_true] at hsame
          rw [show r.length = N - 1 from by have := HL.out.2.2.2; omega] at hsame ⊢
          have HS := Lib.hid (And.intro hsame hs2)
          clear hsame hs2 hv2 hcv2 hlen2
          go_wp2_with fail
          refine HS.out.1.mono ?_
          rintro e w3 ⟨rfl, hd3⟩
          have HE := Lib.hid (HS.out.2.trans' hd3.same (fun _ h => h.elim))
          clear hd3
          go_wp2
          go_meet
          exact HE.out
        · go_wp2
          go_meet
          exact Mods.refl _ _
      case rest =>
        obtain ⟨i0, hi0, hz1, hz2, hz3⟩ := info_parts infoByte
        have hsb : Same w wc := HV.out.2.1.trans' hcut (fun _ h => h.elim)
        have HB := Lib.hid hsb
        clear hsb
        go_wp2_with (at_builtin; refine wpList_append_src _ rfl (.tmp 80) (.tmp 81) 25 rfl 5 i0 (.int .u8 0) 1 Try.underlying25 hi0 hz1 hz2 hz3 rfl _ 0 [] rfl (World.ownsRow_nil _ _ _ _) a1 l.length c1 (l.map enc8) rfl (by simp) (H.out.1.keep HB.out (fun _ _ _ => id)) (fun u hu => by obtain ⟨x, _, rfl⟩ := List.mem_map.1 hu; rfl) (by unfold maxLen; omega) (by omega) ?_)
        intro v1 w3 ho1 hg1 hb1
        try simp only [Nat.zero_add, List.nil_append] at ho1
        have hs3 : Same w w3 := HB.out.grown hg1 (fun k hk => by simp [Value.ownBlock] at hk)
        have hb1' : ∀ g, v1.ownBlock = some g → wc.heap.size ≤ g := fun g hg => by
          rcases hb1 g hg with h' | h'
          · simp [Value.ownBlock] at h'
          · exact h'
        have H3 := Lib.hid (And.intro ho1 (And.intro hs3 (And.intro hb1' hg1)))
        clear ho1 hs3 hb1 hb1' hg1
        go_wp2_with (at_builtin; refine wpList_append_src _ rfl (.tmp 83) (.tmp 84) 25 rfl 5 i0 (.int .u8 0) 1 Try.underlying25 hi0 hz1 hz2 hz3 rfl _ _ _ rfl H3.out.1 a2 m.length c2 (m.map enc8) rfl (by simp) (H.out.2.keep H3.out.2.1 (fun _ _ _ => id)) (fun u hu => by obtain ⟨x, _, rfl⟩ := List.mem_map.1 hu; rfl) (by unfold maxLen; omega) (by omega) ?_)
        intro v2 w4 ho2 hg2 hb2
        rw [← List.map_append] at ho2
        obtain ⟨a4, c4, rfl, hl4, hc4⟩ := ownsRow_cellsAt ho2
        have hz4 := HB.out.size
        have hs4 : Same w w4 := H3.out.2.1.grown hg2 (fun k hk => .inr (by have := H3.out.2.2.1 k hk; omega))
        have hv4 : CellsAt w4 av ((lensOf l).map nat64) := by
          have hN0 := ownsRow_framed (ownsRow_framed HV.out.2.2 hcut.out (fun _ _ => id)) (Mods.of_grown H3.out.2.2.2) (fun g _ h => by simp [Value.ownBlock] at h)
          have := ownsRow_framed hN0 (Mods.of_grown hg2) (fun g hg h => by
            have h1' := H3.out.2.2.1 g h
            have h2' := ((ownsRow_framed HV.out.2.2 hcut.out (fun _ _ => id)).lt g hg).2
            omega)
          obtain ⟨a', cap', e, _, hcc⟩ := ownsRow_cellsAt this
          simp only [Value.slice.injEq] at e
          rw [e.1]; exact hcc
        have hcap4 : (l ++ m).length ≤ c4 := by
          rcases ho2.2 with ⟨e, h0⟩ | ⟨g', cap', cur', e, _, _, hnc, _⟩
          · rw [List.length_append]; omega
          · simp only [Value.slice.injEq] at e
            obtain ⟨_, e1, e2⟩ := e
            rw [List.length_append]; omega
        have hcut4 := Cuts_at c4 a4 (l ++ m) w4 hc4 hcap4 (by rw [List.length_append]; omega)
        rw [List.length_append] at hcut4
        have H4 := Lib.hid (And.intro hcut4 (And.intro hs4 hv4))
        clear hcut4 hs4 hv4 hc4 hl4 ho2 hg2 hb2 hcap4 hz4
        go_wp2_with fail
        refine H4.out.1.mono ?_
        rintro e w5 ⟨v5, rfl, hv5, hs5⟩
        obtain ⟨a5, c5, rfl, hl5, hc5⟩ := ownsRow_cellsAt hv5
        have hmore := lensOf_more l m
        obtain ⟨M, hM⟩ : ∃ M, M = (lensOf (l ++ m)).length := ⟨_, rfl⟩
        rw [← hM] at hmore hl5 ⊢
        rw [← HN.out] at hmore
        have hMle : M ≤ 60000 := by
          have := lensOf_length_le (l ++ m)
          rw [List.length_append] at this; omega
        have hMc : M ≤ c5 := by
          rcases hv5.2 with ⟨e, h0⟩ | ⟨g', cap', cur', e, _, _, hnc, _⟩
          · omega
          · simp only [Value.slice.injEq] at e
            obtain ⟨_, e1, e2⟩ := e
            omega
        have hNM := hmore.1
        have H5 := Lib.hid (And.intro hc5 (And.intro hs5 (And.intro hM hmore.2)))
        clear hc5 hs5 hM hmore hl5 hv5
        by_cases hN0 : N = 0
        · have hz : ((N : Int) == 0) = true := by simp; omega
          have HS := Lib.hid (H4.out.2.1.trans' H5.out.2.1 (fun _ h => h.elim))
          clear hN0
          go_wp2
          go_ret
          exact ⟨rfl, HS.out⟩
        · have hz : ((N : Int) == 0) = false := by simp; omega
          have hNp : 1 ≤ N := by omega
          clear hN0
          have hsame : ∀ W : World, W.heap = w5.heap → Calls Try.prog 12 #[.slice a5 (N - 1) c5, .slice av (N - 1) cv] W (SamePost true W) := fun W hW => by
            have e1 : (List.take (N - 1) (lensOf (l ++ m))).length = N - 1 := by rw [List.length_take, ← H5.out.2.2.1]; omega
            have := sameNumbers_calls a5 av c5 cv (((lensOf (l ++ m)).take (N - 1)).map fun n : Nat => (n : Int)) (((lensOf (l ++ m)).take (N - 1)).map fun n : Nat => (n : Int)) W
              (by rw [nat64_map, List.map_take]; exact (H5.out.1.take _).of_heap hW)
              (by rw [nat64_map, H5.out.2.2.2, List.map_take]; exact ((H4.out.2.2.keep H5.out.2.1 (fun _ _ _ => id)).take _).of_heap hW)
              (by rw [List.length_map, e1]; omega) (by rw [List.length_map, e1]; omega)
            simp only [List.length_map, e1, decide_true] at this
            exact this
          have HS := Lib.hid (And.intro hsame (H4.out.2.1.trans' H5.out.2.1 (fun _ h => h.elim)))
          have hNcv : N ≤ cv := by
            rcases HV.out.2.2.2 with ⟨e, h0⟩ | ⟨g', cap', cur', e, _, _, hnc, _⟩
            · have := HN.out; omega
            · simp only [Value.slice.injEq] at e
              obtain ⟨_, e1, e2⟩ := e
              have := HN.out; omega
          clear hsame
          have i2 : 0 ≤ (N : Int) - 1 := by omega
          have i4 : (N : Int) - 1 ≤ (c5 : Int) := by omega
          have i5 : (N : Int) - 1 ≤ (cv : Int) := by omega
          have i6 : N - 1 ≤ c5 := by omega
          have i7 : N - 1 ≤ cv := by omega
          have i3 : ((N : Int) - 1).toNat = N - 1 := by omega
          have i1 : IntKind.i64.wrap ((N : Int) - 1) = (N : Int) - 1 := IntWalk.i64_in _ (by omega)
          go_wp2
          go_region_with (go_at_call 12; refine (HS.out.1 _ (by rfl)).mono ?_; rintro e w6 ⟨rfl, hd6⟩)
          all_goals
            have HF := Lib.hid ((HS.out.2.drew).trans' hd6.same (fun _ h => h.elim))
            clear hd6 i1 i2 i3 i4 i5 i6 i7
            go_wp2
            go_ret
            exact ⟨rfl, HF.out⟩
end Go.Proofs.Ytdhobpbngkainaa
