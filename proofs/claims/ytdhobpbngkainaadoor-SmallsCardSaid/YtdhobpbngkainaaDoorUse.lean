/-
  Ours. The first sectors' record: use.sector.
-/
import Derived.Test.YtdhobpbngkainaaDoorArrEq
import Derived.Deep.RegionLaw
namespace Go.Proofs.YtdhobpbngkainaaDoor
open Go.RowKit

/-- What a first sector has. -/
def useBytes (e wh : Nat) : Bs := be e 4 ++ be wh 4
def useSec (e wh : Nat) : Bs := frame 77 (useBytes e wh) ++ zeros 111
theorem useBytes_length (e wh : Nat) : (useBytes e wh).length = 8 := by simp [useBytes, be_length]
theorem useSec_length (e wh : Nat) : (useSec e wh).length = 128 := by rw [useSec, List.length_append, frame_length, useBytes_length, zeros_length]
theorem be4_vals (n : Nat) (hn : n < 4294967296) : (be n 4).map enc8 = [.int .u8 ((n : Int) / 16777216), .int .u8 ((n : Int) / 65536 % 256), .int .u8 ((n : Int) / 256 % 256), .int .u8 ((n : Int) % 256)] := by
  simp only [be, List.map_cons, List.map_nil, enc8, UInt8.toNat_ofNat']
  have e1 : ((n / 256 ^ 3 % 2 ^ 8 : Nat) : Int) = (n : Int) / 16777216 := by omega
  have e2 : ((n / 256 ^ 2 % 2 ^ 8 : Nat) : Int) = (n : Int) / 65536 % 256 := by omega
  have e3 : ((n / 256 ^ 1 % 2 ^ 8 : Nat) : Int) = (n : Int) / 256 % 256 := by omega
  have e4 : ((n / 256 ^ 0 % 2 ^ 8 : Nat) : Int) = (n : Int) % 256 := by omega
  rw [e1, e2, e3, e4]
theorem cells_new (w : World) (xs : List Value) (t : TypeId) : ∀ j u, xs[j]? = some u → (w.alloc (.cells xs.toArray t)).cell? ((⟨w.heap.size, 0, none⟩ : Addr).add j) = some u := fun j u hu => by
  rw [Addr.add_mid, Nat.zero_add]; exact cell_at (alloc_new w _) j (by simpa using hu)
theorem own_cells {w : World} {b e n : Nat} {v : Value} {xs : List Value} (h : w.ownsRow b e 1 v n xs) : ∃ a cap, v = .slice a n cap ∧ xs.length = n ∧ n ≤ cap ∧ CellsAt w a xs ∧ ∀ x, a = some x → v.ownBlock = some x.block := by
  have hl : xs.length = n := by simpa using h.1
  rcases h.2 with ⟨rfl, rfl⟩ | ⟨g, cap, cur, rfl, hb, hg, hnc, hcm, hcs, htk⟩
  · exact ⟨none, 0, rfl, hl, Nat.le_refl _, fun hp => by omega, fun x hx => by cases hx⟩
  · refine ⟨_, cap, rfl, hl, hnc, fun _ => ⟨g, 0, rfl, fun j hj => ?_⟩, fun x hx => by simp at hx; subst hx; rfl⟩
    rw [Nat.zero_add]
    refine cell_at hg j ?_
    have : (cur.toList.take (n * 1))[j]? = some xs[j] := by rw [htk]; simp [hj]
    rw [List.getElem?_take] at this
    split at this
    · simpa using this
    · cases this
/-- copy, at the operation. -/
theorem wp_copy_fp {P : Program} {w : World} {o : Oper} {a : Act} {K : Act → World → Prop} {Q : Exit → Act → World → Prop} (d s : Operand) (dT sT : TypeId)
    (ho : o.op = .call { callee := .builtin .copy, args := #[d, s], argTypes := #[dT, sT] }) (elem : TypeId) (hu : P.underlying dT = some (.slice elem)) (hsz : (P.info? elem).map (·.size) = some 1)
    (dp sp : Option Addr) (dLen dCap sLen sCap : Nat) (hd : a.eval d = .slice dp dLen dCap) (hs : a.eval s = .slice sp sLen sCap)
    (g off : Nat) (cur : List Value) (t : TypeId) (hg : w.heap[g]? = some (.cells cur.toArray t (0, 0))) (cs : List Value) (hn : cs.length = Nat.min sLen dLen)
    (hpos : 0 < cs.length → dp = some ⟨g, off, none⟩ ∧ ∃ ad, sp = some ad ∧ ∀ j v, cs[j]? = some v → w.cell? (ad.add j) = some v)
    (hfit : off + cs.length ≤ cur.length) (h1 : ∀ v ∈ cs, v.oneCell' = true)
    (h : ∀ w', w'.heap[g]? = some (.cells (splice cur off cs).toArray t (0, 0)) → Mods (fun k => k = g) w w' → K (a.put o.dst (goInt cs.length)) w') : Oper.wp P o a w K Q := by
  by_cases h0 : cs.length = 0
  · obtain rfl : cs = [] := List.eq_nil_of_length_eq_zero h0
    have hrun := run_copy_none (P := P) w dT sT o.type elem dp sp dLen dCap sLen sCap hu hsz (by simpa using hn.symm)
    unfold Oper.wp
    simp [execOp, ho, resolve, invoke, builtin, hd, hs, hrun, Result.andThen]
    exact h w (by simpa [splice] using hg) (Mods.refl _ _)
  · obtain ⟨rfl, ad, rfl, hsrc⟩ := hpos (by omega)
    have hrun := run_copy_row (P := P) w dT sT o.type elem g off dLen dCap ad sLen sCap cur.toArray t cs hu hsz hg hn hsrc (by simpa using hfit) h1
    unfold Oper.wp
    simp [execOp, ho, resolve, invoke, builtin, hd, hs, hrun, Result.andThen]
    refine h _ ?_ ?_
    · simpa [splice] using setRow_heap w g _ _ t _ hg
    · exact Mods.setRow (S := fun k => k = g) (Mods.refl _ _) (.inl rfl) _
def SecRel (e wh : Nat) (w : World) (v i : Value) (wr : World) : Prop :=
  ∃ k : Nat, k ≤ 2 ∧ i = .int .i64 k ∧ bOk v ((useBytes e wh).take (4 * k)) ∧
    Turns [] (bRow v ((useBytes e wh).take (4 * k)) ++ [(w.heap.size + 2, Is (.cells zsec 64 (0, 0))), (w.heap.size + 1, Is (.cells zsec 64 (0, 0)))]) w wr
theorem secRel_next {e wh : Nat} {w wr w3 : World} {v v' : Value} {k x : Nat} {o : Obj} {ys : List Value} (hx : x < 4294967296) (hk : k < 2) (hs : (useBytes e wh).take (4 * (k + 1)) = (useBytes e wh).take (4 * k) ++ be x 4)
    (hT : Turns [] (bRow v ((useBytes e wh).take (4 * k)) ++ [(w.heap.size + 2, Is (.cells zsec 64 (0, 0))), (w.heap.size + 1, Is (.cells zsec 64 (0, 0)))]) w wr)
    (hy : ys = (be x 4).map enc8) (hown : w3.ownsRow 0 5 1 v' (((useBytes e wh).take (4 * k)).length + 4) (((useBytes e wh).take (4 * k)).map enc8 ++ ys)) (hgrow : (wr.alloc o).grownBy w3 v.ownBlock)
    (hg : ∀ g, v'.ownBlock = some g → v.ownBlock = some g ∨ (wr.alloc o).heap.size ≤ g) (i : Value) (hi : i = .int .i64 ((k + 1 : Nat) : Int)) : SecRel e wh w v' i w3 := by
  subst hy
  obtain ⟨h1, h2⟩ := bRow_appends (hT.alloc o) (n := 4) (by simp [be_length]) hown hgrow hg
  exact ⟨k + 1, by omega, hi, by rw [hs]; exact h1, by rw [hs]; exact h2⟩
theorem useSec_splice {e wh : Nat} (h : (frame 77 (useBytes e wh)).length = 17) : (splice ((zeros 128).map enc8) 0 ((frame 77 (useBytes e wh)).map enc8)).toArray = row8 (useSec e wh) := by
  unfold splice useSec row8
  rw [List.take_zero, List.nil_append, List.length_map, h, ← List.map_drop, ← List.map_append, Nat.zero_add]
  congr 2
def SectorPost (e wh : Nat) (w : World) (ev : Ending) (w' : World) : Prop := ev = .returned (.agg (row8 (useSec e wh))) ∧ Same w w'
set_option maxHeartbeats 4000000 in
set_option maxRecDepth 100000 in
theorem sector_calls (e wh : Nat) (he : e < 4294967296) (hw : wh < 4294967296) (w : World) : Calls Tryd.prog 18 #[.agg #[.int .u32 e, .int .u32 wh]] w (SectorPost e wh w) := by
  have hz := zeroSec
  have x0 : ∀ W, (Instr.index 108 (.agg #[.int .u32 e, .int .u32 wh]) (.int .i64 0)).run Tryd.prog W = .ok (.int .u32 e) W := fun W => by kernel_rfl
  have x1 : ∀ W, (Instr.index 108 (.agg #[.int .u32 e, .int .u32 wh]) (.int .i64 1)).run Tryd.prog W = .ok (.int .u32 wh) W := fun W => by kernel_rfl
  have hst : Turns [] (bRow (.slice none 0 0) ((useBytes e wh).take 0) ++ [(w.heap.size + 2, Is (.cells zsec 64 (0, 0))), (w.heap.size + 1, Is (.cells zsec 64 (0, 0)))]) w (((w.alloc (.cells #[.int .u32 e, .int .u32 wh] 39)).alloc (.cells zsec 64)).alloc (.cells zsec 64)) := by
    have h := ((((Turns.refl (Sat.nil w)).alloc (.cells #[.int .u32 e, .int .u32 wh] 39)).allocIs (.cells zsec 64)).allocIs (.cells zsec 64))
    simp only [World.size_alloc] at h
    exact h
  have HST := Lib.hid hst
  clear hst
  go_enter Tryd.func18, Tryd.ntmps18
  go_wp2_with fail
  go_loopw [4, 12] (fun v i wr => SecRel e wh w v i wr) (fun _ i _ => 2 - (intOf i).toNat)
  case atStart => exact ⟨0, by omega, rfl, by simpa using bOk_nil, HST.out⟩
  case round =>
    obtain ⟨k, hk, rfl, hok, hT⟩ := hrel
    by_cases hlt : k < 2
    · obtain ⟨i0, hi0, hz1, hz2, hz3⟩ := info_parts infoByte
      have hown := bOwns hT.sat.left hok
      have hcase : k = 0 ∨ k = 1 := by omega
      have H := Lib.hid (And.intro hok (And.intro hT (And.intro hown (And.intro hi0 (And.intro hz1 (And.intro hz2 hz3))))))
      have hll : ((useBytes e wh).take (4 * k)).length ≤ 8 := by simp; omega
      clear hok hT hown hi0 hz1 hz2 hz3 HST hz
      rcases hcase with rfl | rfl
      all_goals
        go_wp2_with (refine wpList_append_fp _ rfl (.tmp 15) (.tmp 27) 52 rfl 5 i0 (.int .u8 0) 1 1 Tryd.underlying52 H.out.2.2.2.1 H.out.2.2.2.2.1 H.out.2.2.2.2.2.1 H.out.2.2.2.2.2.2 rfl (by decide) _ _ _ rfl (H.out.2.2.1.alloc _) ⟨wr.heap.size, 0, none⟩ 4 4 [_, _, _, _] rfl rfl (cells_new _ _ _) (by simp [Value.oneCell']) (by unfold maxLen; omega) (by omega) ?_; intro v' w3 hown' hgrow _ hgb)
      · refine ⟨secRel_next (k := 0) he hlt (by simp [useBytes, be_length]) H.out.2.1 (be4_vals e he).symm hown' hgrow hgb _ rfl, by simp [intOf]⟩
      · refine ⟨secRel_next (k := 1) hw hlt (by rw [List.take_of_length_le (by rw [useBytes_length]; omega)]; unfold useBytes; rw [List.take_left' (by rw [be_length])]) H.out.2.1 (be4_vals wh hw).symm hown' hgrow hgb _ rfl, by simp [intOf]⟩
    · obtain rfl : k = 2 := by omega
      rw [show (useBytes e wh).take (4 * 2) = useBytes e wh from List.take_of_length_le (by rw [useBytes_length]; omega)] at hok hT
      have hown := bOwns hT.sat.left hok
      obtain ⟨av, cv, rfl, _, hcv, hca, _⟩ := own_cells hown
      rw [useBytes_length] at *
      have H := Lib.hid (And.intro hok (And.intro hT hca))
      clear hok hT hown hca HST x0 x1 hz
      go_wp2_with fail
      have HFr : Hid (∀ W, CellsAt W av ((useBytes e wh).map enc8) → Calls Tryd.prog 33 #[.int .u8 77, .slice av 8 cv] W (NewPost (frame 77 (useBytes e wh)) W)) := Lib.hid (fun W hW => by
        have := Frame_calls 77 av cv (useBytes e wh) W hW (by rw [useBytes_length]; omega)
        rw [useBytes_length] at this
        exact this)
      have HS8 := Lib.hid (show (Tryd.prog.info? 5).map (·.size) = some 1 by kernel_rfl)
      have HM := Lib.hid (show Tryd.prog.follows .mixedOrders = true by kernel_rfl)
      refine wp_region_any HM.out ?_
      change wpAny _ _ _ _ _ _ _ (World.drew _)
      refine wpAny_take (i := 0) (v := ?_) rfl (by kernel_rfl) (by kernel_rfl) (by kernel_rfl) (fun _ _ _ h => h) (Or.inl ⟨by rfl, ?_⟩) ?_
      rotate_left
      · intro w; go_simp; try (with_reducible rfl)
      refine wpAny_take (i := 1) (v := ?_) rfl (by kernel_rfl) (by kernel_rfl) (by kernel_rfl) (fun _ _ _ h => h) (Or.inl ⟨by rfl, ?_⟩) ?_
      rotate_left
      · intro w; go_simp; try (with_reducible rfl)
      refine wpAny_ready (rs := [2]) (by kernel_rfl) (by simp) ?_
      refine AllReady.cons rfl (fun K hK => ?_) ?_
      · go_simp
        refine (HFr.out _ (by exact H.out.2.2)).mono ?_
        rintro ev w2 ⟨v2, rfl, hok2, hT2⟩
        obtain ⟨a2, c2, rfl, hl2, hc2, hca2, _⟩ := own_cells (bOwns hT2.sat hok2)
        have hfl : (frame 77 (useBytes e wh)).length = 17 := by rw [frame_length, useBytes_length]
        have hb3 : w2.heap[w.heap.size + 1 + 1]? = some (.cells ((zeros 128).map enc8).toArray 64 (0, 0)) := hT2.news.at (H.out.2.1.drew.sat.right.headIs) id
        have hb2 : w2.heap[w.heap.size + 1]? = some (.cells (row8 (zeros 128)) 64 (0, 0)) := hT2.news.at (H.out.2.1.drew.sat.right.tail.headIs) id
        have hsw : Same w w2 := (H.out.2.1.news.drew).trans hT2.news
        rw [hfl]
        have HX := Lib.hid (And.intro hb3 (And.intro hb2 (And.intro hsw (And.intro hca2 hfl))))
        clear hb3 hb2 hsw hca2 hfl hok2 hT2 hl2
        refine hK _ _ ?_
        clear hK K
        refine wpAny_ready (rs := [3]) (by kernel_rfl) (by simp) ?_
        refine AllReady.cons rfl (fun K hK => ?_) ?_
        · simp only [List.getElem_toArray, List.getElem_cons_succ, List.getElem_cons_zero]
          rw [if_pos (by rfl)]
          refine wp_copy_fp (.tmp 30) (.tmp 32) 52 52 rfl 5 Tryd.underlying52 HS8.out _ _ _ _ _ _ rfl rfl (w.heap.size + 1 + 1) 0 ((zeros 128).map enc8) 64 HX.out.1 ((frame 77 (useBytes e wh)).map enc8) (by rw [List.length_map, HX.out.2.2.2.2]; rfl) (fun hp => ⟨rfl, by obtain ⟨g, off, hg, hcc⟩ := HX.out.2.2.2.1 (by simpa using hp); exact ⟨⟨g, off, none⟩, hg, fun j v hv => by obtain ⟨hj, rfl⟩ := List.getElem?_eq_some_iff.1 hv; rw [Addr.add_mid]; exact hcc j hj⟩⟩) (by rw [List.length_map, List.length_map, HX.out.2.2.2.2, zeros_length]; omega) (enc8_one _) ?_
          intro w3 hh hm
          have hc3 : w3.heap[w.heap.size + 1 + 1]? = some (.cells (row8 (useSec e wh)) 64 (0, 0)) := by rw [hh, useSec_splice HX.out.2.2.2.2]
          have hb2 : w3.heap[w.heap.size + 1]? = some (.cells (row8 (zeros 128)) 64 (0, 0)) := hm.at HX.out.2.1 (by omega)
          have hsw : Same w w3 := HX.out.2.2.1.trans' hm (fun i hi => .inr (by omega))
          have HY := Lib.hid (And.intro hc3 (And.intro hb2 hsw))
          clear hc3 hb2 hsw hh hm
          simp only [Act.put, List.setIfInBounds_toArray, List.set_cons_zero, List.set_cons_succ]
          refine hK _ _ ?_
          clear hK K
          refine wpAny_done (by kernel_rfl) ?_ _
          go_wp2_with (first | (refine wpList_load_mid rfl 64 (.tmp 3) rfl (w.heap.size + 1 + 1) 0 rfl ((useSec e wh).map enc8) _ (by have := rangeAt_row HY.out.1 0 128; rwa [List.drop_zero, List.take_of_length_le (by rw [useSec_length]; omega)] at this) Tryd.underlying64 rfl (secHi (useSec_length e wh)) ?_) | (refine wpList_store_mid rfl 64 (.tmp 2) (.tmp 34) rfl (w.heap.size + 1) 0 ((useSec e wh).map enc8).toArray rfl rfl ?c5 (secHr (useSec_length e wh)) (row8_one _) ?_))
          case c5 => rw [show ((useSec e wh).map enc8).toArray.size = 128 by simp [useSec_length]]; exact there_row HY.out.2.1 0 128 (by rw [zeros_length]; omega)
          obtain ⟨q1, q2⟩ := setCells_sec HY.out.2.1 (s := useSec e wh) (by rw [useSec_length, zeros_length])
          refine bodyPost_ret (results_cell_row rfl _ _ (w.heap.size + 1) 64 (row8 (useSec e wh)) (0, 0) _ rfl q1 Tryd.underlying64 rfl (secHr (useSec_length e wh))) rfl ⟨rfl, ?_⟩
          exact HY.out.2.2.trans' q2 (fun i hi => .inr (by omega))
        exact AllReady.nil
      exact AllReady.nil
end Go.Proofs.YtdhobpbngkainaaDoor
