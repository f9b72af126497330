/-
  Ours. The first sectors' record: use.sector.
-/
import Derived.Test.YtdhobpbngkainaaGreatDoorMo05
import Derived.Deep.RegionLaw
import Derived.Test.YtdhobpbngkainaaGreatDoorMo06
import Derived.Test.YtdhobpbngkainaaGreatDoorMo03
import Derived.Deep.QuietTactic
import Derived.BigQuiet
import Derived.Test.YtdhobpbngkainaaGreatDoorMo02
namespace Go.Proofs.YtdhobpbngkainaaGreatDoor
open Go.RowKit

/-- What a first sector has. -/
def useBytes (e wh : Nat) : Bs := be e 4 ++ be wh 4
def useSec (e wh : Nat) : Bs := frame 77 (useBytes e wh) ++ zeros 111
theorem useBytes_length (e wh : Nat) : (useBytes e wh).length = 8 := by simp [useBytes, be_length]
theorem useSec_length (e wh : Nat) : (useSec e wh).length = 128 := by rw [useSec, List.length_append, frame_length, useBytes_length, zeros_length]
theorem be4_vals (n : Nat) (hn : n < 4294967296) : (be n 4).map enc8 = [.int .u8 ((n : Int) / 16777216), .int .u8 ((n : Int) / 65536 % 256), .int .u8 ((n : Int) / 256 % 256), .int .u8 ((n : Int) % 256)] := by
  simp only [be, List.map_cons, List.map_nil, enc8, UInt8.toNat_ofNat']
  have e1 : ((n / 256 ^ 3 % 2 ^ 8 : Nat) : Int) = (n : Int) / 16777216 := by omega
  have e2 : ((n / 256 ^ 2 % 2 ^ 8 : Nat) : Int) = (n : Int) / 65536 % 256 := by omega
  have e3 : ((n / 256 ^ 1 % 2 ^ 8 : Nat) : Int) = (n : Int) / 256 % 256 := by omega
  have e4 : ((n / 256 ^ 0 % 2 ^ 8 : Nat) : Int) = (n : Int) % 256 := by omega
  rw [e1, e2, e3, e4]
theorem cells_new (w : World) (xs : List Value) (t : TypeId) : ∀ j u, xs[j]? = some u → (w.alloc (.cells xs.toArray t)).cell? ((⟨w.heap.size, 0, none⟩ : Addr).add j) = some u := fun j u hu => by
  rw [Addr.add_mid, Nat.zero_add]; exact cell_at (alloc_new w _) j (by simpa using hu)
theorem own_cells {w : World} {b e n : Nat} {v : Value} {xs : List Value} (h : w.ownsRow b e 1 v n xs) : ∃ a cap, v = .slice a n cap ∧ xs.length = n ∧ n ≤ cap ∧ CellsAt w a xs ∧ ∀ x, a = some x → v.ownBlock = some x.block := by
  have hl : xs.length = n := by simpa using h.1
  rcases h.2 with ⟨rfl, rfl⟩ | ⟨g, cap, cur, rfl, hb, hg, hnc, hcm, hcs, htk⟩
  · exact ⟨none, 0, rfl, hl, Nat.le_refl _, fun hp => by omega, fun x hx => by cases hx⟩
  · refine ⟨_, cap, rfl, hl, hnc, fun _ => ⟨g, 0, rfl, fun j hj => ?_⟩, fun x hx => by simp at hx; subst hx; rfl⟩
    rw [Nat.zero_add]
    refine cell_at hg j ?_
    have : (cur.toList.take (n * 1))[j]? = some xs[j] := by rw [htk]; simp [hj]
    rw [List.getElem?_take] at this
    split at this
    · simpa using this
    · cases this
/-- copy, at the operation. -/
theorem wp_copy_fp {P : Program} {w : World} {o : Oper} {a : Act} {K : Act → World → Prop} {Q : Exit → Act → World → Prop} (d s : Operand) (dT sT : TypeId)
    (ho : o.op = .call { callee := .builtin .copy, args := #[d, s], argTypes := #[dT, sT] }) (elem : TypeId) (hu : P.underlying dT = some (.slice elem)) (hsz : (P.info? elem).map (·.size) = some 1)
    (dp sp : Option Addr) (dLen dCap sLen sCap : Nat) (hd : a.eval d = .slice dp dLen dCap) (hs : a.eval s = .slice sp sLen sCap)
    (g off : Nat) (cur : List Value) (t : TypeId) (hg : w.heap[g]? = some (.cells cur.toArray t (0, 0))) (cs : List Value) (hn : cs.length = Nat.min sLen dLen)
    (hpos : 0 < cs.length → dp = some ⟨g, off, none⟩ ∧ ∃ ad, sp = some ad ∧ ∀ j v, cs[j]? = some v → w.cell? (ad.add j) = some v)
    (hfit : off + cs.length ≤ cur.length) (h1 : ∀ v ∈ cs, v.oneCell' = true)
    (h : ∀ w', w'.heap[g]? = some (.cells (splice cur off cs).toArray t (0, 0)) → Mods (fun k => k = g) w w' → K (a.put o.dst (goInt cs.length)) w') : Oper.wp P o a w K Q := by
  by_cases h0 : cs.length = 0
  · obtain rfl : cs = [] := List.eq_nil_of_length_eq_zero h0
    have hrun := run_copy_none (P := P) w dT sT o.type elem dp sp dLen dCap sLen sCap hu hsz (by simpa using hn.symm)
    unfold Oper.wp
    simp [execOp, ho, resolve, invoke, builtin, hd, hs, hrun, Result.andThen]
    exact h w (by simpa [splice] using hg) (Mods.refl _ _)
  · obtain ⟨rfl, ad, rfl, hsrc⟩ := hpos (by omega)
    have hrun := run_copy_row (P := P) w dT sT o.type elem g off dLen dCap ad sLen sCap cur.toArray t cs hu hsz hg hn hsrc (by simpa using hfit) h1
    unfold Oper.wp
    simp [execOp, ho, resolve, invoke, builtin, hd, hs, hrun, Result.andThen]
    refine h _ ?_ ?_
    · simpa [splice] using setRow_heap w g _ _ t _ hg
    · exact Mods.setRow (S := fun k => k = g) (Mods.refl _ _) (.inl rfl) _
def SecRel (e wh : Nat) (w : World) (v i : Value) (wr : World) : Prop :=
  ∃ k : Nat, k ≤ 2 ∧ i = .int .i64 k ∧ bOk v ((useBytes e wh).take (4 * k)) ∧
    Turns [] (bRow v ((useBytes e wh).take (4 * k)) ++ [(w.heap.size + 2, Is (.cells zsec 43 (0, 0))), (w.heap.size + 1, Is (.cells zsec 43 (0, 0)))]) w wr
theorem secRel_next {e wh : Nat} {w wr w3 : World} {v v' : Value} {k x : Nat} {o : Obj} {ys : List Value} (hx : x < 4294967296) (hk : k < 2) (hs : (useBytes e wh).take (4 * (k + 1)) = (useBytes e wh).take (4 * k) ++ be x 4)
    (hT : Turns [] (bRow v ((useBytes e wh).take (4 * k)) ++ [(w.heap.size + 2, Is (.cells zsec 43 (0, 0))), (w.heap.size + 1, Is (.cells zsec 43 (0, 0)))]) w wr)
    (hy : ys = (be x 4).map enc8) (hown : w3.ownsRow 0 5 1 v' (((useBytes e wh).take (4 * k)).length + 4) (((useBytes e wh).take (4 * k)).map enc8 ++ ys)) (hgrow : (wr.alloc o).grownBy w3 v.ownBlock)
    (hg : ∀ g, v'.ownBlock = some g → v.ownBlock = some g ∨ (wr.alloc o).heap.size ≤ g) (i : Value) (hi : i = .int .i64 ((k + 1 : Nat) : Int)) : SecRel e wh w v' i w3 := by
  subst hy
  obtain ⟨h1, h2⟩ := bRow_appends (hT.alloc o) (n := 4) (by simp [be_length]) hown hgrow hg
  exact ⟨k + 1, by omega, hi, by rw [hs]; exact h1, by rw [hs]; exact h2⟩
theorem useSec_splice {e wh : Nat} (h : (frame 77 (useBytes e wh)).length = 17) : (splice ((zeros 128).map enc8) 0 ((frame 77 (useBytes e wh)).map enc8)).toArray = row8 (useSec e wh) := by
  unfold splice useSec row8
  rw [List.take_zero, List.nil_append, List.length_map, h, ← List.map_drop, ← List.map_append, Nat.zero_add]
  congr 2
def SectorPost (e wh : Nat) (w : World) (ev : Ending) (w' : World) : Prop := ev = .returned (.agg (row8 (useSec e wh))) ∧ Same w w'
set_option maxHeartbeats 4000000 in
set_option maxRecDepth 100000 in
theorem sector_calls (e wh : Nat) (he : e < 4294967296) (hw : wh < 4294967296) (w : World) : Calls Tryz.prog 98 #[.agg #[.int .u32 e, .int .u32 wh]] w (SectorPost e wh w) := by
  have hz := zeroSec
  have x0 : ∀ W, (Instr.index 283 (.agg #[.int .u32 e, .int .u32 wh]) (.int .i64 0)).run Tryz.prog W = .ok (.int .u32 e) W := fun W => by kernel_rfl
  have x1 : ∀ W, (Instr.index 283 (.agg #[.int .u32 e, .int .u32 wh]) (.int .i64 1)).run Tryz.prog W = .ok (.int .u32 wh) W := fun W => by kernel_rfl
  have hst : Turns [] (bRow (.slice none 0 0) ((useBytes e wh).take 0) ++ [(w.heap.size + 2, Is (.cells zsec 43 (0, 0))), (w.heap.size + 1, Is (.cells zsec 43 (0, 0)))]) w (((w.alloc (.cells #[.int .u32 e, .int .u32 wh] 118)).alloc (.cells zsec 43)).alloc (.cells zsec 43)) := by
    have h := ((((Turns.refl (Sat.nil w)).alloc (.cells #[.int .u32 e, .int .u32 wh] 118)).allocIs (.cells zsec 43)).allocIs (.cells zsec 43))
    simp only [World.size_alloc] at h
    exact h
  have HST := Lib.hid hst
  clear hst
  go_enter Tryz.func98, Tryz.ntmps98
  go_wp2_with fail
  go_loopw [4, 12] (fun v i wr => SecRel e wh w v i wr) (fun _ i _ => 2 - (intOf i).toNat)
  case atStart => exact ⟨0, by omega, rfl, by simpa using bOk_nil, HST.out⟩
  case round =>
    obtain ⟨k, hk, rfl, hok, hT⟩ := hrel
    by_cases hlt : k < 2
    · obtain ⟨i0, hi0, hz1, hz2, hz3⟩ := info_parts infoByte
      have hown := bOwns hT.sat.left hok
      have hcase : k = 0 ∨ k = 1 := by omega
      have H := Lib.hid (And.intro hok (And.intro hT (And.intro hown (And.intro hi0 (And.intro hz1 (And.intro hz2 hz3))))))
      have hll : ((useBytes e wh).take (4 * k)).length ≤ 8 := by simp; omega
      clear hok hT hown hi0 hz1 hz2 hz3 HST hz
      rcases hcase with rfl | rfl
      all_goals
        go_wp2_with (refine wpList_append_fp _ rfl (.tmp 15) (.tmp 27) 38 rfl 5 i0 (.int .u8 0) 1 1 Tryz.underlying38 H.out.2.2.2.1 H.out.2.2.2.2.1 H.out.2.2.2.2.2.1 H.out.2.2.2.2.2.2 rfl (by decide) _ _ _ rfl (H.out.2.2.1.alloc _) ⟨wr.heap.size, 0, none⟩ 4 4 [_, _, _, _] rfl rfl (cells_new _ _ _) (by simp [Value.oneCell']) (by unfold maxLen; omega) (by omega) ?_; intro v' w3 hown' hgrow _ hgb)
      · refine ⟨secRel_next (k := 0) he hlt (by simp [useBytes, be_length]) H.out.2.1 (be4_vals e he).symm hown' hgrow hgb _ rfl, by simp [intOf]⟩
      · refine ⟨secRel_next (k := 1) hw hlt (by rw [List.take_of_length_le (by rw [useBytes_length]; omega)]; unfold useBytes; rw [List.take_left' (by rw [be_length])]) H.out.2.1 (be4_vals wh hw).symm hown' hgrow hgb _ rfl, by simp [intOf]⟩
    · obtain rfl : k = 2 := by omega
      rw [show (useBytes e wh).take (4 * 2) = useBytes e wh from List.take_of_length_le (by rw [useBytes_length]; omega)] at hok hT
      have hown := bOwns hT.sat.left hok
      obtain ⟨av, cv, rfl, _, hcv, hca, _⟩ := own_cells hown
      rw [useBytes_length] at *
      have H := Lib.hid (And.intro hok (And.intro hT hca))
      clear hok hT hown hca HST x0 x1 hz
      go_wp2_with fail
      have HFr : Hid (∀ W, CellsAt W av ((useBytes e wh).map enc8) → Calls Tryz.prog 78 #[.int .u8 77, .slice av 8 cv] W (NewPost (frame 77 (useBytes e wh)) W)) := Lib.hid (fun W hW => by
        have := Frame_calls 77 av cv (useBytes e wh) W hW (by rw [useBytes_length]; omega)
        rw [useBytes_length] at this
        exact this)
      have HS8 := Lib.hid (show (Tryz.prog.info? 5).map (·.size) = some 1 by kernel_rfl)
      have HM := Lib.hid (show Tryz.prog.follows .mixedOrders = true by kernel_rfl)
      refine wp_region_any HM.out ?_
      change wpAny _ _ _ _ _ _ _ (World.drew _)
      refine wpAny_take (i := 0) (v := ?_) rfl (by kernel_rfl) (by kernel_rfl) (by kernel_rfl) (fun _ _ _ h => h) (Or.inl ⟨by rfl, ?_⟩) ?_
      rotate_left
      · intro w; go_simp; try (with_reducible rfl)
      refine wpAny_take (i := 1) (v := ?_) rfl (by kernel_rfl) (by kernel_rfl) (by kernel_rfl) (fun _ _ _ h => h) (Or.inl ⟨by rfl, ?_⟩) ?_
      rotate_left
      · intro w; go_simp; try (with_reducible rfl)
      refine wpAny_ready (rs := [2]) (by kernel_rfl) (by simp) ?_
      refine AllReady.cons rfl (fun K hK => ?_) ?_
      · go_simp
        refine (HFr.out _ (by exact H.out.2.2)).mono ?_
        rintro ev w2 ⟨v2, rfl, hok2, hT2⟩
        obtain ⟨a2, c2, rfl, hl2, hc2, hca2, _⟩ := own_cells (bOwns hT2.sat hok2)
        have hfl : (frame 77 (useBytes e wh)).length = 17 := by rw [frame_length, useBytes_length]
        have hb3 : w2.heap[w.heap.size + 1 + 1]? = some (.cells ((zeros 128).map enc8).toArray 43 (0, 0)) := hT2.news.at (H.out.2.1.drew.sat.right.headIs) id
        have hb2 : w2.heap[w.heap.size + 1]? = some (.cells (row8 (zeros 128)) 43 (0, 0)) := hT2.news.at (H.out.2.1.drew.sat.right.tail.headIs) id
        have hsw : Same w w2 := (H.out.2.1.news.drew).trans hT2.news
        rw [hfl]
        have HX := Lib.hid (And.intro hb3 (And.intro hb2 (And.intro hsw (And.intro hca2 hfl))))
        clear hb3 hb2 hsw hca2 hfl hok2 hT2 hl2
        refine hK _ _ ?_
        clear hK K
        refine wpAny_ready (rs := [3]) (by kernel_rfl) (by simp) ?_
        refine AllReady.cons rfl (fun K hK => ?_) ?_
        · simp only [List.getElem_toArray, List.getElem_cons_succ, List.getElem_cons_zero]
          rw [if_pos (by rfl)]
          refine wp_copy_fp (.tmp 30) (.tmp 32) 38 38 rfl 5 Tryz.underlying38 HS8.out _ _ _ _ _ _ rfl rfl (w.heap.size + 1 + 1) 0 ((zeros 128).map enc8) 43 HX.out.1 ((frame 77 (useBytes e wh)).map enc8) (by rw [List.length_map, HX.out.2.2.2.2]; rfl) (fun hp => ⟨rfl, by obtain ⟨g, off, hg, hcc⟩ := HX.out.2.2.2.1 (by simpa using hp); exact ⟨⟨g, off, none⟩, hg, fun j v hv => by obtain ⟨hj, rfl⟩ := List.getElem?_eq_some_iff.1 hv; rw [Addr.add_mid]; exact hcc j hj⟩⟩) (by rw [List.length_map, List.length_map, HX.out.2.2.2.2, zeros_length]; omega) (enc8_one _) ?_
          intro w3 hh hm
          have hc3 : w3.heap[w.heap.size + 1 + 1]? = some (.cells (row8 (useSec e wh)) 43 (0, 0)) := by rw [hh, useSec_splice HX.out.2.2.2.2]
          have hb2 : w3.heap[w.heap.size + 1]? = some (.cells (row8 (zeros 128)) 43 (0, 0)) := hm.at HX.out.2.1 (by omega)
          have hsw : Same w w3 := HX.out.2.2.1.trans' hm (fun i hi => .inr (by omega))
          have HY := Lib.hid (And.intro hc3 (And.intro hb2 hsw))
          clear hc3 hb2 hsw hh hm
          simp only [Act.put, List.setIfInBounds_toArray, List.set_cons_zero, List.set_cons_succ]
          refine hK _ _ ?_
          clear hK K
          refine wpAny_done (by kernel_rfl) ?_ _
          go_wp2_with (first | (refine wpList_load_mid rfl 43 (.tmp 3) rfl (w.heap.size + 1 + 1) 0 rfl ((useSec e wh).map enc8) _ (by have := rangeAt_row HY.out.1 0 128; rwa [List.drop_zero, List.take_of_length_le (by rw [useSec_length]; omega)] at this) Tryz.underlying43 rfl (secHi (useSec_length e wh)) ?_) | (refine wpList_store_mid rfl 43 (.tmp 2) (.tmp 34) rfl (w.heap.size + 1) 0 ((useSec e wh).map enc8).toArray rfl rfl ?c5 (secHr (useSec_length e wh)) (row8_one _) ?_))
          case c5 => rw [show ((useSec e wh).map enc8).toArray.size = 128 by simp [useSec_length]]; exact there_row HY.out.2.1 0 128 (by rw [zeros_length]; omega)
          obtain ⟨q1, q2⟩ := setCells_sec HY.out.2.1 (s := useSec e wh) (by rw [useSec_length, zeros_length])
          refine bodyPost_ret (results_cell_row rfl _ _ (w.heap.size + 1) 43 (row8 (useSec e wh)) (0, 0) _ rfl q1 Tryz.underlying43 rfl (secHr (useSec_length e wh))) rfl ⟨rfl, ?_⟩
          exact HY.out.2.2.trans' q2 (fun i hi => .inr (by omega))
        exact AllReady.nil
      exact AllReady.nil
end Go.Proofs.YtdhobpbngkainaaGreatDoor
/-
  Ours. half, newContent.
-/
namespace Go.Proofs.YtdhobpbngkainaaGreatDoor
open Go.RowKit

def halfN (n : Nat) : Nat := (n - 2) / 2
set_option maxHeartbeats 1000000 in
set_option maxRecDepth 100000 in
theorem half_calls (d : Nat) (L : DevL) (ep : Nat) (w : World) (h : Sat w (devF d L)) (hn : 2 ≤ L.n) (hn2 : L.n ≤ 1073741824) (hep : ep < 4294967296) :
    Calls Tryz.prog 53 #[.pointer (some ⟨d, 0, none⟩), .int .u32 ep] w (NewAreaPost d (2 + ep % 2 * halfN L.n) (halfN L.n) w) := by
  have HS := Lib.hid (Sectors_calls d L w h)
  obtain ⟨m, hm⟩ : ∃ m, m = halfN L.n := ⟨_, rfl⟩
  have e1 : ((L.n : Int) - 2) / 2 = (m : Int) := by rw [hm]; unfold halfN; omega
  have hml : m ≤ 1073741824 := by rw [hm]; unfold halfN; omega
  obtain ⟨b, hb⟩ : ∃ b, b = ep % 2 := ⟨_, rfl⟩
  have e2 : ((ep : Int)) % 2 = (b : Int) := by omega
  have hb2 : b = 0 ∨ b = 1 := by omega
  have e3 : wrap64 (2 + wrap64 ((b : Int) * (m : Int))) = ((2 + b * m : Nat) : Int) := by
    have hbm : (b : Int) * (m : Int) = ((b * m : Nat) : Int) := by simp
    have hle : b * m ≤ 1 * m := Nat.mul_le_mul_right _ (by omega)
    have i1 : wrap64 ((b * m : Nat) : Int) = ((b * m : Nat) : Int) := IntWalk.wrap64_in _ ⟨by omega, by omega⟩
    rw [hbm, i1, IntWalk.wrap64_in _ ⟨by omega, by omega⟩]
    omega
  rw [← hm, ← hb]
  have HM := Lib.hid (And.intro hm hb)
  clear h hm hb
  go_enter Tryz.func53, Tryz.ntmps53
  go_wp2_with fail
  refine HS.out.mono ?_
  rintro e w1 ⟨rfl, rfl⟩
  have E3 := Lib.hid e3
  clear e3
  go_wp2_with fail
  rw [E3.out]
  refine (NewArea_calls d (2 + b * m) m w).mono ?_
  rintro e w1 ⟨ab, ch, rfl, hT⟩
  have HT := Lib.hid hT
  clear hT
  go_wp2_with fail
  go_ret
  exact ⟨ab, ch, rfl, HT.out⟩

/-! ### newContent -/
def contCells (pm tm cm : Nat) (sc sb used : Int) : Array Value := #[.map (some pm), .map (some tm), .map (some cm), .int .i64 sc, .int .i64 sb, .int .i64 used]
def NewContentPost (w : World) (e : Ending) (w' : World) : Prop :=
  ∃ pm tm cm : Nat, e = .returned (.agg (contCells pm tm cm 0 0 0)) ∧ Turns [] [(cm, Is (.map #[] 0)), (tm, Is (.map #[] 0)), (pm, Is (.map #[] 0))] w w'
set_option maxHeartbeats 1000000 in
set_option maxRecDepth 100000 in
theorem newContent_calls (w : World) : Calls Tryz.prog 52 #[] w (NewContentPost w) := by
  have hmm := @run_makeMap Tryz.prog
  go_enter Tryz.func52, Tryz.ntmps52
  go_wp2_with fail
  have h := ((((Turns.refl (Sat.nil w)).alloc (.cells (contCells (w.heap.size + 1) (w.heap.size + 1 + 1) (w.heap.size + 1 + 1 + 1) 0 0 0) 123)).allocIs (.map #[] 0)).allocIs (.map #[] 0)).allocIs (.map #[] 0)
  simp only [World.size_alloc] at h
  have hc : ((((w.alloc (.cells (contCells (w.heap.size + 1) (w.heap.size + 1 + 1) (w.heap.size + 1 + 1 + 1) 0 0 0) 123)).alloc (.map #[] 0)).alloc (.map #[] 0)).alloc (.map #[] 0)).heap[w.heap.size]? = some (.cells (contCells (w.heap.size + 1) (w.heap.size + 1 + 1) (w.heap.size + 1 + 1 + 1) 0 0 0) 123 (0, 0)) := by
    rw [alloc_old (by simp; omega), alloc_old (by simp; omega), alloc_old (by simp)]; exact alloc_new w _
  exact bodyPost_ret (results_cell_row rfl _ _ w.heap.size 123 _ (0, 0) _ rfl hc Tryz.underlying123 rfl (by kernel_rfl)) rfl ⟨_, _, _, rfl, h⟩

end Go.Proofs.YtdhobpbngkainaaGreatDoor
/-
  Ours. uses, where no first sector has a record.
-/
namespace Go.Proofs.YtdhobpbngkainaaGreatDoor
open Go.RowKit

/-! ### uses, where no first sector has a record -/
theorem openR_zeros : openR (zeros 128) = none := by
  unfold openR; rw [if_neg (by rw [zeros_length]; omega), if_pos (by simp [zeros])]
def UsesNone (z : Bool) (w : World) (e : Ending) (w' : World) : Prop := e = .returned (.tuple #[.slice none 0 0, .bool z, .nilIface]) ∧ Same w w'
/-- Are the first k sectors all zeros? -/
def zerosTo (l : Bs) (k : Nat) : Bool := decide (∀ j, j < k → secOf l j = zeros 128)
theorem zerosTo_zero (l : Bs) : zerosTo l 0 = true := by simp [zerosTo]
theorem zerosTo_yes {l : Bs} {k : Nat} (h : secOf l k = zeros 128) : zerosTo l (k + 1) = zerosTo l k := by
  unfold zerosTo
  refine decide_eq_decide.2 ⟨fun H j hj => H j (by omega), fun H j hj => ?_⟩
  rcases Nat.lt_or_ge j k with h' | h'
  · exact H j h'
  · obtain rfl : j = k := by omega
    exact h
theorem zerosTo_no {l : Bs} {k : Nat} (h : secOf l k ≠ zeros 128) : zerosTo l (k + 1) = false := by
  unfold zerosTo
  exact decide_eq_false (fun H => h (H k (by omega)))
set_option maxHeartbeats 4000000 in
set_option maxRecDepth 100000 in
theorem uses_none (d : Nat) (L : DevL) (w : World) (h : Sat w (devF d L)) (hL : DevOk L) (hn : 16 ≤ L.n) (h01 : ∀ k, k < 2 → openR (secOf L.now k) = none) :
    Calls Tryz.prog 50 #[.pointer (some ⟨d, 0, none⟩)] w (UsesNone (zerosTo L.now 2) w) := by
  have HZ := Lib.hid zeroBuilt
  have HC : Hid (∀ (k : Nat) (W : World), k < 2 → Same w W → Calls Tryz.prog 17 #[.pointer (some ⟨d, 0, none⟩), .int .i64 k] W (ReadPost L k W)) := Lib.hid (fun k W hk hW => Read_calls d L k W (h.same hW) hL (by omega))
  have HL : Hid (∀ k, k < 2 → (secOf L.now k).length = 128) := Lib.hid (fun k hk => secOf_length hL.nowL (by omega))
  have HO := Lib.hid h01
  clear h hL h01
  go_enter Tryz.func50, Tryz.ntmps50
  go_wp2_with fail
  go_loopw [2, 3, 16] (fun l em i wr => ∃ k : Nat, k ≤ 2 ∧ i = .int .i64 k ∧ l = .slice none 0 0 ∧ em = .bool (zerosTo L.now k) ∧ Same w wr) (fun _ _ i _ => 2 - (intOf i).toNat)
  case atStart => exact ⟨0, by omega, rfl, rfl, by rw [zerosTo_zero], Mods.refl _ _⟩
  case round =>
    obtain ⟨k, hk, rfl, rfl, rfl, hs⟩ := hrel
    by_cases hlt : k < 2
    · have HR := Lib.hid (HC.out k wr hlt hs)
      have HS := Lib.hid hs
      have HO' := Lib.hid (HO.out k hlt)
      have HL' := Lib.hid (HL.out k hlt)
      have HZ0 := Lib.hid (zerosTo_yes (l := L.now) (k := k))
      have HZ1 := Lib.hid (zerosTo_no (l := L.now) (k := k))
      unfold ReadPost at HR
      obtain ⟨s, hse⟩ : ∃ s, s = secOf L.now k := ⟨_, rfl⟩
      obtain ⟨z, hz⟩ : ∃ z, z = zerosTo L.now k := ⟨_, rfl⟩
      obtain ⟨z1, hz1⟩ : ∃ z, z = zerosTo L.now (k + 1) := ⟨_, rfl⟩
      rw [← hse] at HR HO' HL' HZ0 HZ1
      rw [← hz, ← hz1] at HZ0
      rw [← hz1] at HZ1
      rw [← hz]
      have H1 := Lib.hid hz1
      clear hs HC HO HL hse hz hz1
      go_wp2_with fail
      refine HR.out.mono ?_
      rintro e w2 ⟨rfl, hs2⟩
      have hb := alloc_new w2 (.cells (row8 (zeros 128)) 43)
      obtain ⟨q1, q2⟩ := setCells_sec hb (s := s) (by rw [HL'.out, zeros_length])
      have hs3 : Same w ((w2.alloc (.cells (row8 (zeros 128)) 43)).setCells w2.heap.size 0 (s.map enc8)) := (((HS.out.trans' hs2 (fun _ h => h.elim)).alloc _).trans' q2 (fun i hi => .inr (by have := (HS.out.trans' hs2 (fun _ h => h.elim)).size; omega)))
      have hth : (w2.alloc (.cells (row8 (zeros 128)) 43)).there w2.heap.size 0 (row8 s).size := by rw [row8_size, HL'.out]; exact there_row hb 0 128 (by rw [zeros_length]; omega)
      have hrg : ((w2.alloc (.cells (row8 (zeros 128)) 43)).setCells w2.heap.size 0 (s.map enc8)).rangeAt w2.heap.size 0 (s.map enc8) := by
        have := rangeAt_row q1 0 128
        rwa [List.drop_zero, List.take_of_length_le (by rw [HL'.out]; omega)] at this
      have HN := Lib.hid (fun W => neq_sec s (zeros 128) HL'.out (zeros_length _) W)
      obtain ⟨W4, hW4⟩ : ∃ W, (w2.alloc (.cells (row8 (zeros 128)) 43)).setCells w2.heap.size 0 (s.map enc8) = W := ⟨_, rfl⟩
      rw [hW4] at q1 hs3 hrg
      have H3 := Lib.hid (And.intro q1 (And.intro hs3 hrg))
      have HT := Lib.hid hth
      have HW := Lib.hid hW4
      clear q1 q2 hb hs3 hs2 hth hrg hW4
      have hz := zeroSec
      go_wp2_with (first | (refine wpList_store_mid rfl 43 (.tmp 6) (.tmp 23) rfl w2.heap.size 0 (row8 s) rfl rfl HT.out (secHr HL'.out) (row8_one _) ?_; change wpList _ _ _ _ _ (World.setCells (w2.alloc (.cells (row8 (zeros 128)) 43)) w2.heap.size 0 (s.map enc8)); rw [HW.out]) | (refine wpList_load_mid rfl 43 (.tmp 6) rfl w2.heap.size 0 rfl (s.map enc8) _ H3.out.2.2 Tryz.underlying43 rfl (secHi HL'.out) ?_) | (refine wpList_build_is rfl 43 #[] rfl (row8 (zeros 128)) HZ.out ?_) | (refine wpList_cmp rfl .neq 43 (.tmp 28) (.tmp 29) _ rfl guardSec _ _ (.bool (!decide (s = zeros 128))) (HN.out _) rfl rfl ?_))
      all_goals
        have hb := H3.out.1
        have hop : Calls Tryz.prog 97 #[.slice (some ⟨w2.heap.size, 0, none⟩) 128 128] W4 (OpenPost (some ⟨w2.heap.size, 0, none⟩) s W4) := by
          have := recOpen_calls (some ⟨w2.heap.size, 0, none⟩) 128 s W4 (fun hp => ⟨w2.heap.size, 0, rfl, fun j hj => by rw [Nat.zero_add]; exact cell_at hb j (by rw [row8_get s j (by simpa using hj)]; simp)⟩) (by rw [HL'.out]; omega) (by rw [HL'.out]; omega)
          rwa [HL'.out] at this
        unfold OpenPost at hop
        rw [HO'.out] at hop
        have HP := Lib.hid hop
        clear hb hop
        first
        | (have hne : s ≠ zeros 128 := by
             have : (!decide (s = zeros 128)) = true := by assumption
             simpa using this
           have HE := Lib.hid (HZ1.out hne))
        | (have hne : s = zeros 128 := by
             have : (!decide (s = zeros 128)) = false := by assumption
             simpa using this
           have HE := Lib.hid (HZ0.out hne))
        clear hne
        refine HP.out.mono ?_
        rintro e w5 ⟨rfl, hs5⟩
        have H5 := Lib.hid (H3.out.2.1.trans hs5)
        clear hs5
        go_wp2_with fail
        go_roundw
        case rel => exact ⟨k + 1, by omega, by go_num, rfl, by rw [← H1.out, HE.out], H5.out⟩
        case measure => simp [intOf]; omega
    · obtain rfl : k = 2 := by omega
      have HS := Lib.hid hs
      clear hs HC HO HL
      go_wp2_with fail
      go_quiet (fail)
      go_wp2_with fail
      go_ret3
      exact ⟨rfl, HS.out.drewN _⟩
end Go.Proofs.YtdhobpbngkainaaGreatDoor
/-
  Ours. first: an archive over an empty device.
-/
namespace Go.Proofs.YtdhobpbngkainaaGreatDoor
open Go.RowKit

/-! ### the archive's own block -/
structure ArchL where
  pm : Nat
  tm : Nat
  cm : Nat
  sc : Int
  sb : Int
  used : Int
  d : Nat
  ab : Nat
  ep : Nat
  quota : Int
  closed : Bool
  broken : Value
def archCells (X : ArchL) : Array Value := #[.map (some X.pm), .map (some X.tm), .map (some X.cm), .int .i64 X.sc, .int .i64 X.sb, .int .i64 X.used, .pointer (some ⟨X.d, 0, none⟩), .pointer (some ⟨X.ab, 0, none⟩), .int .u32 X.ep, .int .i64 X.quota, .bool X.closed, X.broken]
def archO (X : ArchL) : Obj := .cells (archCells X) 128 (0, 0)

theorem secOf_halfOf {l : Bs} {first count k : Nat} (h : k < count) : secOf (halfOf l first count) k = secOf l (first + k) := by
  unfold secOf halfOf
  rw [List.drop_take, List.drop_drop, List.take_take]
  congr 1
  · omega
  · congr 1; omega
theorem own_cells2 {w : World} {b e n : Nat} {v : Value} {xs : List Value} (h : w.ownsRow b e 1 v n xs) : ∃ a cap, v = .slice a n cap ∧ xs.length = n ∧ n ≤ cap ∧ cap ≤ 9223372036854775807 ∧ CellsAt w a xs ∧ ∀ x, a = some x → v.ownBlock = some x.block := by
  obtain ⟨a, cap, rfl, h1, h2, h3, h4⟩ := own_cells h
  refine ⟨a, cap, rfl, h1, h2, ?_, h3, h4⟩
  rcases h.2 with ⟨hv, _⟩ | ⟨g, c, cur, hv, _, _, _, hc, _⟩
  · simp only [Value.slice.injEq] at hv; omega
  · simp only [Value.slice.injEq] at hv; unfold maxLen at hc; omega
def clip0 (q : Int) : Int := if (0 : Int) > q then 0 else q
def FirstMid (d u : Nat) (L : DevL) (q : Int) (v : Value) (w W : World) : Prop :=
  ∃ g pm tm cm ab ch, v = .pointer (some ⟨g, 0, none⟩) ∧ Turns (devF d L) ((g, Is (archO ⟨pm, tm, cm, 0, 0, 0, d, ab, 1, clip0 q, false, .nilIface⟩)) :: (areaF ab d ⟨2 + halfN L.n, halfN L.n, 0, zeros 128, ch, []⟩ ++ ([(cm, Is (.map #[] 0)), (tm, Is (.map #[] 0)), (pm, Is (.map #[] 0))] ++ ((u, Is (.cells #[.int .u32 1, .int .u32 0] 118 (0, 0))) :: devF d L)))) w W
def FirstPost (d : Nat) (L : DevL) (q : Int) (w : World) (e : Ending) (w' : World) : Prop :=
  ∃ a ab pm tm cm ch L', e = .returned (.tuple #[.pointer (some ⟨a, 0, none⟩), .nilIface]) ∧
    Turns (devF d L) ((a, Is (archO ⟨pm, tm, cm, 0, 0, 0, d, ab, 1, clip0 q, false, .nilIface⟩)) :: (pm, Is (.map #[] 0)) :: (tm, Is (.map #[] 0)) :: (cm, Is (.map #[] 0)) :: (areaF ab d ⟨2 + halfN L.n, halfN L.n, 0, zeros 128, ch, []⟩ ++ devF d L')) w w' ∧
    DevOk L' ∧ L'.n = L.n ∧ L'.now = putAt (cutTo L.now (2 + halfN L.n) 0 (zeros 128) (halfN L.n)) 128 (useSec 1 0) ∧ L'.safe = L'.now ∧ L'.chs = []
set_option maxHeartbeats 4000000 in
set_option maxRecDepth 100000 in
theorem first_calls (d : Nat) (L : DevL) (q : Int) (w : World) (h : Sat w (devF d L)) (hL : DevOk L) (hn : 16 ≤ L.n) (hn2 : L.n ≤ 1073741824) (hch : L.chs.length ≤ 137438953472) :
    Calls Tryz.prog 51 #[.pointer (some ⟨d, 0, none⟩), .int .i64 q] w (FirstPost d L q w) := by
  have HNC := Lib.hid newContent_calls
  have HH : Hid (∀ W, Sat W (devF d L) → Calls Tryz.prog 53 #[.pointer (some ⟨d, 0, none⟩), .int .u32 1] W (NewAreaPost d (2 + halfN L.n) (halfN L.n) W)) := Lib.hid (fun W hW => by
    have := half_calls d L 1 W hW (by omega) hn2 (by omega)
    simpa using this)
  have HS := Lib.hid (And.intro h (And.intro hL (And.intro hn (And.intro hn2 hch))))
  clear h hL hn hn2 hch
  go_enter Tryz.func51, Tryz.ntmps51
  go_wp2_with fail
  obtain ⟨w1, hw1⟩ : ∃ w1, w1 = w.alloc (.cells #[.int .u32 1, .int .u32 0] 118) := ⟨_, rfl⟩
  have hT1 : Turns (devF d L) ((w.heap.size, Is (.cells #[.int .u32 1, .int .u32 0] 118 (0, 0))) :: devF d L) w w1 := by rw [hw1]; exact (Turns.refl HS.out.1).allocIs _
  rw [← hw1]
  have a0 := cell_at hT1.sat.headIs 0 rfl
  obtain ⟨u, hu⟩ : ∃ u, u = w.heap.size := ⟨_, rfl⟩
  rw [← hu] at hT1 a0 ⊢
  have HT := Lib.hid hT1
  have hs1 : Same w w1 := by rw [hw1]; exact (Mods.refl _ w).alloc _
  have HS1 := Lib.hid hs1
  clear hw1 hu hT1 hs1
  have HM := Lib.hid (show Tryz.prog.follows .mixedOrders = true by kernel_rfl)
  refine wp_region_chain (A := ?A) (hA := ?hA) HM.out (phiL [fun _ => True, fun v => v = .pointer (some ⟨d, 0, none⟩), fun v => v = .pointer (some ⟨d, 0, none⟩), fun v => v = .pointer (some ⟨u, 0, none⟩), fun v => v = .int .u32 1, fun _ => True,
    fun v => v = .pointer (some ⟨u, 0, none⟩), fun v => v = .int .u32 1, fun v => v = .int .i64 q, fun v => v = .int .i64 (clip0 q)]) (fun vs W => match vs with
      | [] => Turns (devF d L) ((u, Is (.cells #[.int .u32 1, .int .u32 0] 118 (0, 0))) :: devF d L) w W
      | [v0] => ∃ pm tm cm, v0 = .agg (contCells pm tm cm 0 0 0) ∧ Turns (devF d L) ([(cm, Is (.map #[] 0)), (tm, Is (.map #[] 0)), (pm, Is (.map #[] 0))] ++ ((u, Is (.cells #[.int .u32 1, .int .u32 0] 118 (0, 0))) :: devF d L)) w W
      | [v0, v5] => ∃ pm tm cm ab ch, v0 = .agg (contCells pm tm cm 0 0 0) ∧ v5 = .pointer (some ⟨ab, 0, none⟩) ∧ Turns (devF d L) (areaF ab d ⟨2 + halfN L.n, halfN L.n, 0, zeros 128, ch, []⟩ ++ ([(cm, Is (.map #[] 0)), (tm, Is (.map #[] 0)), (pm, Is (.map #[] 0))] ++ ((u, Is (.cells #[.int .u32 1, .int .u32 0] 118 (0, 0))) :: devF d L))) w W
      | [_, _, v] => ∃ pm tm cm ab ch, v = .agg (archCells ⟨pm, tm, cm, 0, 0, 0, d, ab, 1, clip0 q, false, .nilIface⟩) ∧ Turns (devF d L) (areaF ab d ⟨2 + halfN L.n, halfN L.n, 0, zeros 128, ch, []⟩ ++ ([(cm, Is (.map #[] 0)), (tm, Is (.map #[] 0)), (pm, Is (.map #[] 0))] ++ ((u, Is (.cells #[.int .u32 1, .int .u32 0] 118 (0, 0))) :: devF d L))) w W
      | [_, _, _, v] => FirstMid d u L q v w W
      | [_, _, _, _, v] => FirstMid d u L q v w W
      | _ => False) (fun W => W.cell? ⟨u, 0, none⟩ = some (.int .u32 1)) [0, 5, 10, 11, 12] ?hC (by kernel_rfl) (by kernel_rfl) (by decide) (by decide) ?h0 ?hs ?he
  case hA => intro x; simp only [fillFrom, Act.put, List.setIfInBounds_toArray, List.set_cons_zero, List.set_cons_succ, Nat.reduceAdd]; rfl
  case hC =>
    intro vs W hS
    have key : ∀ {F : HF}, Sat W F → (u, Is (.cells #[.int .u32 1, .int .u32 0] 118 (0, 0))) ∈ F → W.cell? ⟨u, 0, none⟩ = some (.int .u32 1) := fun hs hm => cell_at (hs.memIs hm) 0 rfl
    match vs, hS with
    | [], hT => exact key hT.sat (by simp)
    | [_], ⟨pm, tm, cm, _, hT⟩ => exact key hT.sat (by simp)
    | [_, _], ⟨pm, tm, cm, ab, ch, _, _, hT⟩ => exact key hT.sat (by simp)
    | [_, _, _], ⟨pm, tm, cm, ab, ch, _, hT⟩ => exact key hT.sat (by simp)
    | [_, _, _, _], ⟨g, pm, tm, cm, ab, ch, _, hT⟩ => exact key hT.sat (by simp)
    | [_, _, _, _, _], ⟨g, pm, tm, cm, ab, ch, _, hT⟩ => exact key hT.sat (by simp)
  case h0 => exact HT.out.drew
  case he =>
    intro x w2 hφ hS
    obtain ⟨g, pm, tm, cm, ab, ch, e12, hT⟩ := hS
    have e12 : x 12 = .pointer (some ⟨g, 0, none⟩) := e12
    have g7 := cell_at hT.sat.headIs 7 (show (archCells ⟨pm, tm, cm, 0, 0, 0, d, ab, 1, clip0 q, false, .nilIface⟩)[7]? = some (.pointer (some ⟨ab, 0, none⟩)) from rfl)
    have HAll := Lib.hid (All_calls ab d ⟨2 + halfN L.n, halfN L.n, 0, zeros 128, ch, []⟩ L w2 (hT.sat.sub (fun _ => by simp only [cnt_cons, cnt_append, cnt_nil] <;> omega)) HS.out.2.1 (by simp only; unfold halfN; have := HS.out.2.2.1; omega) HS.out.2.2.2.1)
    have HT2 := Lib.hid hT
    clear hφ hT
    simp only [e12]
    clear e12
    go_wp2_with fail
    refine HAll.out.mono ?_
    rintro e w3 ⟨v, rfl, hok, hT3⟩
    have hwl := halfOf_length HS.out.2.1.nowL (first := 2 + halfN L.n) (k := halfN L.n) (by unfold halfN; have := HS.out.2.2.1; omega)
    obtain ⟨ws, hws⟩ : ∃ ws, ws = halfOf L.now (2 + halfN L.n) (halfN L.n) := ⟨_, rfl⟩
    try simp only at hok hT3
    rw [← hws] at hok hT3 hwl
    obtain ⟨av, cv, rfl, hlv, hcv, hcv2, hca, hav⟩ := own_cells2 (bOwns hT3.sat hok)
    have hT4 := Turns.newIn HT2.out hT3
    have hcut := Cut_calls ab d ⟨2 + halfN L.n, halfN L.n, 0, zeros 128, ch, []⟩ L 0 av cv ws w3 (hT4.sat.sub (fun _ => by simp only [cnt_cons, cnt_append, cnt_nil] <;> omega)) HS.out.2.1 (by simp only; unfold halfN; have := HS.out.2.2.1; omega) HS.out.2.2.2.1 ⟨zeros_length _, by simp, fun _ h => by simp at h⟩ hca
      (fun x hx hin => hT4.sat.disj (b := x.block) ((dom_row _ _ _ _ _ _).2 (hav x hx)) (by simp only [dom_append, dom_cons, List.mem_append, List.mem_cons] at hin ⊢; rcases hin with h | h <;> simp [h])) hwl hcv hcv2 (by simp only; unfold halfN; have := HS.out.2.2.1; omega) (Nat.zero_le _) HS.out.2.2.2.2
      (fun m hm he => by simp only at hm ⊢; rw [hws, secOf_halfOf (by omega)] at he; exact he)
    have g7 := cell_at (hT4.sat.right.headIs) 7 (show (archCells ⟨pm, tm, cm, 0, 0, 0, d, ab, 1, clip0 q, false, .nilIface⟩)[7]? = some (.pointer (some ⟨ab, 0, none⟩)) from rfl)
    have HC := Lib.hid hcut
    have H4 := Lib.hid (And.intro hT4 hwl)
    clear hcut hT4 hca hav hT3 hok hws hlv hwl hcv hcv2
    go_wp2_with fail
    refine HC.out.mono ?_
    rintro e w4 ⟨rfl, L', hT5, hL', hn', hnow', hsafe', hch'⟩
    have eA : (List.drop (128 * (0 / 128)) (List.take 0 ws) ++ zeros (128 - 0 % 128)) = zeros 128 := by simp
    simp only [eA] at hT5 hnow'
    clear eA
    have hT6 := H4.out.1.step (F := areaF ab d ⟨2 + halfN L.n, halfN L.n, 0, zeros 128, ch, []⟩ ++ devF d L) (R := bRow (.slice av ws.length cv) ws ++ ((g, Is (archO ⟨pm, tm, cm, 0, 0, 0, d, ab, 1, clip0 q, false, .nilIface⟩)) :: ([(cm, Is (.map #[] 0)), (tm, Is (.map #[] 0)), (pm, Is (.map #[] 0))] ++ [(u, Is (.cells #[.int .u32 1, .int .u32 0] 118 (0, 0)))]))) (perm_of_cnt fun _ => by simp only [cnt_cons, cnt_append, cnt_nil] <;> omega) hT5
    have hu := (hT6.sat.sub (G := [(u, Is (.cells #[.int .u32 1, .int .u32 0] 118 (0, 0)))]) (fun _ => by simp only [cnt_cons, cnt_append, cnt_nil] <;> omega)).headIs
    have u0 := cell_at hu 0 rfl
    have u1 := cell_at hu 1 rfl
    have HSec := Lib.hid (sector_calls 1 0 (by omega) (by omega) w4)
    have HWr : Hid (∀ W, Sat W (devF d L') → Calls Tryz.prog 18 #[.pointer (some ⟨d, 0, none⟩), .int .i64 1, .agg (row8 (useSec 1 0))] W (WritePost d L' 1 (useSec 1 0) W)) := Lib.hid (fun W hW => by
      have := Write_calls d L' 1 (useSec 1 0) W hW hL' (by rw [hn']; have := HS.out.2.2.1; omega) (useSec_length 1 0) (by rw [hch']; simp)
      exact this)
    have H6 := Lib.hid (And.intro hT6 (And.intro hL' (And.intro hn' (And.intro hnow' (And.intro hsafe' hch')))))
    clear hT5 hT6 hL' hn' hnow' hsafe' hch' hu g7
    go_wp2_with fail
    refine HSec.out.mono ?_
    rintro e w5 ⟨rfl, hs5⟩
    have hT7 := H6.out.1.thenSame hs5
    have H7 := Lib.hid hT7
    clear hs5 hT7 u0 u1
    go_wp2_with fail
    refine (HWr.out _ (H7.out.sat.sub (fun _ => by simp only [cnt_cons, cnt_append, cnt_nil] <;> omega))).mono ?_
    rintro e w6 ⟨rfl, L2, hT8, hL2, hn2, hnow2, hch2⟩
    have hT9 := H7.out.step (F := devF d L') (R := (areaF ab d ⟨2 + halfN L.n, halfN L.n, 0, zeros 128, ch, []⟩) ++ ((g, Is (archO ⟨pm, tm, cm, 0, 0, 0, d, ab, 1, clip0 q, false, .nilIface⟩)) :: ([(cm, Is (.map #[] 0)), (tm, Is (.map #[] 0)), (pm, Is (.map #[] 0))] ++ ([(u, Is (.cells #[.int .u32 1, .int .u32 0] 118 (0, 0)))] ++ bRow (.slice av ws.length cv) ws)))) (perm_of_cnt fun _ => by simp only [cnt_cons, cnt_append, cnt_nil] <;> omega) hT8
    have HFl : Hid (∀ W, Sat W (devF d L2) → Calls Tryz.prog 20 #[.pointer (some ⟨d, 0, none⟩)] W (FlushPost d L2 W)) := Lib.hid (fun W hW => Flush_calls d L2 W hW hL2 (by rw [hch2, H6.out.2.2.2.2.2]; simp))
    have H9 := Lib.hid (And.intro hT9 (And.intro hL2 (And.intro hn2 hnow2)))
    clear hT8 hT9 hL2 hn2 hnow2 hch2
    go_wp2_with fail
    refine (HFl.out _ (H9.out.1.sat.sub (fun _ => by simp only [cnt_cons, cnt_append, cnt_nil] <;> omega))).mono ?_
    rintro e w7 ⟨rfl, L3, hT10, hL3, hn3, hnow3, hsafe3, hch3⟩
    have hT11 := H9.out.1.step (F := devF d L2) (R := (areaF ab d ⟨2 + halfN L.n, halfN L.n, 0, zeros 128, ch, []⟩) ++ ((g, Is (archO ⟨pm, tm, cm, 0, 0, 0, d, ab, 1, clip0 q, false, .nilIface⟩)) :: ([(cm, Is (.map #[] 0)), (tm, Is (.map #[] 0)), (pm, Is (.map #[] 0))] ++ ([(u, Is (.cells #[.int .u32 1, .int .u32 0] 118 (0, 0)))] ++ bRow (.slice av ws.length cv) ws)))) (perm_of_cnt fun _ => by simp only [cnt_cons, cnt_append, cnt_nil] <;> omega) hT10
    have hT12 := hT11.drop (H := (g, Is (archO ⟨pm, tm, cm, 0, 0, 0, d, ab, 1, clip0 q, false, .nilIface⟩)) :: (pm, Is (.map #[] 0)) :: (tm, Is (.map #[] 0)) :: (cm, Is (.map #[] 0)) :: (areaF ab d ⟨2 + halfN L.n, halfN L.n, 0, zeros 128, ch, []⟩ ++ devF d L3)) (fun _ => by simp only [cnt_cons, cnt_append, cnt_nil] <;> omega)
    have H12 := Lib.hid (And.intro hT12 (And.intro hL3 (And.intro hn3 (And.intro hnow3 (And.intro hsafe3 hch3)))))
    clear hT10 hT11 hT12 hL3 hn3 hnow3 hsafe3 hch3
    go_wp2_with fail
    go_ret2
    refine ⟨g, ab, pm, tm, cm, ch, L3, rfl, H12.out.1, H12.out.2.1, by rw [H12.out.2.2.1, H9.out.2.2.1, H6.out.2.2.1], ?_, by rw [H12.out.2.2.2.2.1, H12.out.2.2.2.1], H12.out.2.2.2.2.2⟩
    rw [H12.out.2.2.2.1, H9.out.2.2.2, H6.out.2.2.2.1]
    simp only [Nat.zero_div, Nat.sub_zero, Nat.mul_one]
  case hs =>
    refine ⟨chain_noisy 0 rfl rfl (fun x w2 hd hS K hK => ?_), chain_quiet rfl rfl (fun x w2 hd hC K hK _ => ?_), chain_quiet rfl rfl (fun x w2 hd hC K hK _ => ?_), chain_quiet rfl rfl (fun x w2 hd hC K hK _ => ?_), chain_quiet rfl rfl (fun x w2 hd hC K hK _ => ?_), chain_noisy 1 rfl rfl (fun x w2 hd hS K hK => ?_),
      chain_quiet rfl rfl (fun x w2 hd hC K hK _ => ?_), chain_quiet rfl rfl (fun x w2 hd hC K hK _ => ?_), chain_quiet rfl rfl (fun x w2 hd hC K hK _ => ?_), chain_quiet rfl rfl (fun x w2 hd hC K hK _ => ?_), chain_noisy 2 rfl rfl (fun x w2 hd hS K hK => ?_), chain_noisy 3 rfl rfl (fun x w2 hd hS K hK => ?_), chain_noisy 4 rfl rfl (fun x w2 hd hS K hK => ?_), trivial⟩
    · refine wp_calls (by kernel_rfl) (HNC.out _) ?_
      rintro e w3 ⟨pm, tm, cm, rfl, hT3⟩
      exact ⟨_, rfl, hK _ _ trivial ⟨pm, tm, cm, rfl, Turns.newIn hS hT3⟩⟩
    · exact wp_run (by kernel_rfl) (hK _ rfl)
    · exact wp_run (by kernel_rfl) (hK _ rfl)
    · exact wp_run (by kernel_rfl) (hK _ rfl)
    · obtain ⟨h3, -⟩ := hd
      have h3 : x 3 = .pointer (some ⟨u, 0, none⟩) := h3
      exact w_load Tryz.underlying116 rfl rfl (by rw [h3]; rfl) hC (hK _ rfl)
    · obtain ⟨h2, h4, -⟩ := hd
      have h2 : x 2 = .pointer (some ⟨d, 0, none⟩) := h2
      have h4 : x 4 = .int .u32 1 := h4
      obtain ⟨pm, tm, cm, e0, hT⟩ := hS
      refine wp_calls (by rw [h2, h4]; kernel_rfl) (HH.out _ hT.sat.right.tail) ?_
      rintro e w3 ⟨ab, ch, rfl, hT3⟩
      exact ⟨_, rfl, hK _ _ trivial ⟨pm, tm, cm, ab, ch, e0, rfl, Turns.newIn hT hT3⟩⟩
    · exact wp_run (by kernel_rfl) (hK _ rfl)
    · obtain ⟨h6, -⟩ := hd
      have h6 : x 6 = .pointer (some ⟨u, 0, none⟩) := h6
      exact w_load Tryz.underlying116 rfl rfl (by rw [h6]; rfl) hC (hK _ rfl)
    · exact wp_run (by kernel_rfl) (hK _ rfl)
    · obtain ⟨h8, -⟩ := hd
      have h8 : x 8 = .int .i64 q := h8
      exact wp_run (by rw [h8]; kernel_rfl) (hK _ rfl)
    · obtain ⟨-, h1, -, h7, h9, -⟩ := hd
      have h1 : x 1 = .pointer (some ⟨d, 0, none⟩) := h1
      have h7 : x 7 = .int .u32 1 := h7
      have h9 : x 9 = .int .i64 (clip0 q) := h9
      obtain ⟨pm, tm, cm, ab, ch, e0, e5, hT⟩ := hS
      exact wp_run (by rw [e0, h1, e5, h7, h9]; kernel_rfl) (hK _ _ trivial ⟨pm, tm, cm, ab, ch, rfl, hT⟩)
    · obtain ⟨pm, tm, cm, ab, ch, e10, hT⟩ := hS
      exact wp_run (by rw [e10]; kernel_rfl) (hK _ _ trivial ⟨_, pm, tm, cm, ab, ch, rfl, hT.allocIs _⟩)
    · obtain ⟨g, pm, tm, cm, ab, ch, e11, hT⟩ := hS
      exact wp_run (by rw [e11]; kernel_rfl) (hK _ _ trivial ⟨g, pm, tm, cm, ab, ch, rfl, hT⟩)
end Go.Proofs.YtdhobpbngkainaaGreatDoor
/-
  Ours. load: a chunk's bytes.
-/
namespace Go.Proofs.YtdhobpbngkainaaGreatDoor
open Go.RowKit

/-- A chunk's record stands in the area's bytes. -/
def ChunkAt (H : Bs) (at_ : Nat) (body : Bs) : Prop := at_ + (body.length + 9) ≤ H.length ∧ openR ((H.drop at_).take (body.length + 9)) = some (1, body, body.length + 9)
def LoadMid (ab d : Nat) (A : AreaL) (R0 R2 : HF) (ob : Nat) (body : Bs) (w w' : World) : Prop :=
  ∃ v sp, bOk v body ∧ AreaOk { A with spare := sp } ∧ Turns (areaF ab d A ++ R0) (bRow v body ++ ((ob, Is (oCell v)) :: (areaF ab d { A with spare := sp } ++ R2))) w w'
def LoadPost (ab d : Nat) (A : AreaL) (R0 : HF) (body : Bs) (w : World) (e : Ending) (w' : World) : Prop :=
  ∃ av cv sp, e = .returned (.tuple #[.slice av body.length cv, .nilIface]) ∧ bOk (.slice av body.length cv) body ∧ AreaOk { A with spare := sp } ∧ Turns (areaF ab d A ++ R0) (bRow (.slice av body.length cv) body ++ (areaF ab d { A with spare := sp } ++ R0)) w w'
set_option maxHeartbeats 4000000 in
set_option maxRecDepth 100000 in
theorem load_calls (a : Nat) (X : ArchL) (ab d : Nat) (hab : ab = X.ab) (A : AreaL) (L : DevL) (at_ : Nat) (body : Bs) (R0 : HF) (w : World) (h : Sat w (areaF ab d A ++ R0)) (hsub : ∀ x, cnt x ((a, Is (archO X)) :: devF d L) ≤ cnt x R0) (hL : DevOk L) (hA : AreaOk A) (hAn : A.first + A.count ≤ L.n) (hn : L.n ≤ 1073741824)
    (hc : ChunkAt (halfOf L.now A.first A.count) at_ body) :
    Calls Tryz.prog 86 #[.pointer (some ⟨a, 0, none⟩), .agg #[.int .i64 at_, .int .i64 body.length]] w (LoadPost ab d A R0 body w) := by
  have hmf : ∀ (fn : Fn) (first cap : Array Value) (w : World), (Instr.makeFunc fn first cap).run Tryz.prog w = .ok (.func fn first cap) w := fun _ _ _ _ => rfl
  have hbl : body.length < 65536 := (openR_some hc.2).2.2.2.2
  have HSz := Lib.hid (fun W => Size_calls (body.length : Int) (by omega) (by omega) W)
  have HH := Lib.hid (And.intro h (And.intro hsub (And.intro hL (And.intro hA (And.intro hAn (And.intro hn (And.intro hc hab)))))))
  clear h hsub hL hA hAn hn hc hab
  go_enter Tryz.func86, Tryz.ntmps86
  go_wp2_with fail
  obtain ⟨B2, hB2⟩ : ∃ B, w.heap.size = B := ⟨_, rfl⟩
  have hT1 := (((Turns.refl HH.out.1).allocIs (.cells #[.pointer (some ⟨a, 0, none⟩)] 32)).allocIs (.cells #[.int .i64 at_, .int .i64 body.length] 161)).allocIs (oCell (.slice none 0 0))
  simp only [World.size_alloc] at hT1
  obtain ⟨B3, hB3⟩ : ∃ B, w.heap.size + 1 = B := ⟨_, rfl⟩
  obtain ⟨B6, hB6⟩ : ∃ B, w.heap.size + 1 + 1 = B := ⟨_, rfl⟩
  rw [hB6] at hT1 ⊢
  rw [hB3] at hT1 ⊢
  rw [hB2] at hT1 ⊢
  obtain ⟨R2, hR2⟩ : ∃ R2, R2 = ((B3, Is (.cells #[.int .i64 at_, .int .i64 body.length] 161 (0, 0))) :: (B2, Is (.cells #[.pointer (some ⟨a, 0, none⟩)] 32 (0, 0))) :: R0) := ⟨_, rfl⟩
  obtain ⟨R1, hR1⟩ : ∃ R1, R1 = ((B6, Is (oCell (.slice none 0 0))) :: R2) := ⟨_, rfl⟩
  have hT2 : Turns (areaF ab d A ++ R0) (areaF ab d A ++ R1) w _ := hT1.to (H := areaF ab d A ++ R1) (by rw [hR1, hR2]; exact (perm_of_cnt fun _ => by simp only [cnt_cons, cnt_append, cnt_nil] <;> omega))
  have HT := Lib.hid (And.intro hT2 (And.intro hR1 hR2))
  clear hT1 hT2 hR1 hR2 hB2 hB3 hB6
  have HM := Lib.hid (show Tryz.prog.follows .mixedOrders = true by kernel_rfl)
  have HW : Hid (∀ W, Turns (areaF ab d A ++ R0) (areaF ab d A ++ R1) w W → Calls Tryz.prog 130 #[.pointer (some ⟨ab, 0, none⟩), .int .i64 at_, .int .i64 ((body.length : Int) + 9), .func (.func 131) #[] #[.pointer (some ⟨B3, 0, none⟩), .pointer (some ⟨B2, 0, none⟩), .pointer (some ⟨B6, 0, none⟩)]] W (fun e w' => e = .returned .nilIface ∧ LoadMid ab d A R0 R2 B6 body w w')) := Lib.hid (fun W hTW => by
    have hTW' := hTW
    rw [HT.out.2.1, HT.out.2.2] at hTW'
    have hw := With_calls ab d A L at_ (body.length + 9) (.pointer (some ⟨B3, 0, none⟩)) (.pointer (some ⟨B2, 0, none⟩)) (.pointer (some ⟨B6, 0, none⟩)) (halfOf L.now A.first A.count) rfl R1 (fun R' => ∃ v, bOk v body ∧ R' = bRow v body ++ ((B6, Is (oCell v)) :: R2)) W hTW.sat
      (fun x => by have h1 := HH.out.2.1 x; rw [HT.out.2.1, HT.out.2.2]; rw [cnt_cons] at h1; simp only [cnt_cons]; omega) HH.out.2.2.1 HH.out.2.2.2.1 HH.out.2.2.2.2.1 HH.out.2.2.2.2.2.1 (by have := HH.out.2.2.2.2.2.2.1.1; rwa [halfOf_length HH.out.2.2.1.nowL HH.out.2.2.2.2.1] at this)
      (fun W' B0 B1 g cv sp hok hTW2 => by
        have hTW3 := hTW2
        rw [HT.out.2.1, HT.out.2.2] at hTW3
        obtain ⟨a2, cap2, hv2, hl2, hc2, hca2, -⟩ := own_cells' (bOwns hTW2.sat.left hok)
        simp only [Value.slice.injEq] at hv2
        obtain ⟨rfl, -, rfl⟩ := hv2
        have hb6 := hTW3.sat.memIs (b := B6) (o := oCell (.slice none 0 0)) (by simp)
        have hb3 := hTW3.sat.memIs (b := B3) (o := .cells #[.int .i64 at_, .int .i64 body.length] 161 (0, 0)) (by simp)
        have hne : B3 ≠ B6 := fun e => by
          subst e
          rw [hb3] at hb6
          unfold oCell at hb6
          simp at hb6
        have hf := loadF_calls (some ⟨g, 0, none⟩) cv (((halfOf L.now A.first A.count).drop at_).take (body.length + 9)) body at_ B3 B2 B6 W' hca2 (by rw [List.length_take]; omega) hc2 HH.out.2.2.2.2.2.2.1.2 hb3 hb6 hne (fun x hx => by
          simp only [Option.some.injEq] at hx
          subst hx
          intro e
          have := hTW3.sat.disj (b := g) (by simp [bRow, rowF, Value.ownBlock])
          have e : g = B6 := e
          exact this (by simp [e]))
        refine hf.mono ?_
        rintro e w' ⟨rfl, v, hv, hTf⟩
        refine ⟨rfl, bRow v body ++ ((B6, Is (oCell v)) :: R2), ⟨v, hv, rfl⟩, ?_⟩
        rw [HT.out.2.1] at hTW2
        have h2 := hTW2.step (F := [(B6, Is (oCell (.slice none 0 0)))]) (R := bRow (.slice (some ⟨g, 0, none⟩) (((halfOf L.now A.first A.count).drop at_).take (body.length + 9)).length cv) (((halfOf L.now A.first A.count).drop at_).take (body.length + 9)) ++ ((B1, Is (oCell (.slice (some ⟨g, 0, none⟩) (((halfOf L.now A.first A.count).drop at_).take (body.length + 9)).length cv))) :: (B0, Is (.cells #[.pointer (some ⟨ab, 0, none⟩)] 125 (0, 0))) :: (areaF ab d { A with spare := sp } ++ R2))) (perm_of_cnt fun _ => by simp only [cnt_cons, cnt_append, cnt_nil] <;> omega) hTf
        rw [HT.out.2.1]
        exact h2.to (by show List.Perm (((B6, Is (oCell v)) :: bRow v body) ++ _) _; exact (perm_of_cnt fun _ => by simp only [cnt_cons, cnt_append, cnt_nil] <;> omega)))
    rw [show ((body.length + 9 : Nat) : Int) = (body.length : Int) + 9 by omega] at hw
    refine hw.mono ?_
    rintro e w' ⟨rfl, R', sp, ⟨v, hv, rfl⟩, hA', hT'⟩
    exact ⟨rfl, v, sp, hv, hA', (hTW.trans hT').to (perm_of_cnt fun _ => by simp only [cnt_cons, cnt_append, cnt_nil] <;> omega)⟩)
  refine wp_region_chain (A := ?A) (hA := ?hA) HM.out (phiL [fun v => v = .pointer (some ⟨a, 0, none⟩), fun v => v = .pointer (some ⟨a, 0, none⟩), fun v => v = .pointer (some ⟨a, 7, none⟩), fun v => v = .pointer (some ⟨ab, 0, none⟩), fun v => v = .pointer (some ⟨B3, 0, none⟩), fun v => v = .int .i64 (at_ : Nat), fun v => v = .pointer (some ⟨B3, 1, none⟩), fun v => v = .int .i64 (body.length : Nat), fun v => v = .int .i64 ((body.length : Int) + 9), fun v => v = .func (.func 131) #[] #[.pointer (some ⟨B3, 0, none⟩), .pointer (some ⟨B2, 0, none⟩), .pointer (some ⟨B6, 0, none⟩)], fun v => v = .nilIface, fun v => v = .nilIface])
    (fun vs W => match vs with
    | [] => Turns (areaF ab d A ++ R0) (areaF ab d A ++ R1) w W
    | [_] => LoadMid ab d A R0 R2 B6 body w W
    | _ => False)
    (fun W => W.cell? ⟨B2, 0, none⟩ = some (.pointer (some ⟨a, 0, none⟩)) ∧ W.cell? ⟨a, 7, none⟩ = some (.pointer (some ⟨ab, 0, none⟩)) ∧ W.cell? ⟨B3, 0, none⟩ = some (.int .i64 (at_ : Nat)) ∧ W.cell? ⟨B3, 1, none⟩ = some (.int .i64 (body.length : Nat))) [10] ?hC (by kernel_rfl) (by kernel_rfl) (by decide) (by decide) ?h0 ?hs ?he
  case hA => intro x; simp only [fillFrom, Act.put, List.setIfInBounds_toArray, List.set_cons_zero, List.set_cons_succ, Nat.reduceAdd]; rfl
  case hs =>
    refine ⟨chain_quiet rfl rfl (fun x wq hd hC K hK hKw => ?_), chain_quiet rfl rfl (fun x wq hd hC K hK hKw => ?_), chain_quiet rfl rfl (fun x wq hd hC K hK hKw => ?_), chain_quiet rfl rfl (fun x wq hd hC K hK hKw => ?_), chain_quiet rfl rfl (fun x wq hd hC K hK hKw => ?_), chain_quiet rfl rfl (fun x wq hd hC K hK hKw => ?_), chain_quiet rfl rfl (fun x wq hd hC K hK hKw => ?_), chain_quiet rfl rfl (fun x wq hd hC K hK hKw => ?_), chain_quiet rfl rfl (fun x wq hd hC K hK hKw => ?_), chain_quiet rfl rfl (fun x wq hd hC K hK hKw => ?_), chain_noisy 0 rfl rfl (fun x wq hd hS K hK => ?_), chain_quiet rfl rfl (fun x wq hd hC K hK hKw => ?_), trivial⟩
    · exact w_load Tryz.underlying32 rfl rfl (by rfl) (hC.1) (hK _ rfl)
    · have h0 : x 0 = .pointer (some ⟨a, 0, none⟩) := depsC_get hd 0 (by kernel_rfl)
      exact wp_run (by rw [h0]; kernel_rfl) (hK _ rfl)
    · have h1 : x 1 = .pointer (some ⟨a, 0, none⟩) := depsC_get hd 1 (by kernel_rfl)
      exact wp_run (by rw [h1]; kernel_rfl) (hK _ rfl)
    · have h2 : x 2 = .pointer (some ⟨a, 7, none⟩) := depsC_get hd 2 (by kernel_rfl)
      exact w_load Tryz.underlying125 rfl rfl (by rw [h2]; rfl) (hC.2.1) (hK _ rfl)
    · exact wp_run (by kernel_rfl) (hK _ rfl)
    · have h4 : x 4 = .pointer (some ⟨B3, 0, none⟩) := depsC_get hd 4 (by kernel_rfl)
      exact w_load Tryz.underlying3 rfl rfl (by rw [h4]; rfl) (hC.2.2.1) (hK _ rfl)
    · exact wp_run (by kernel_rfl) (hK _ rfl)
    · have h6 : x 6 = .pointer (some ⟨B3, 1, none⟩) := depsC_get hd 6 (by kernel_rfl)
      exact w_load Tryz.underlying3 rfl rfl (by rw [h6]; rfl) (hC.2.2.2) (hK _ rfl)
    · have h7 : x 7 = .int .i64 (body.length : Nat) := depsC_get hd 7 (by kernel_rfl)
      refine wp_calls (by rw [h7]; kernel_rfl) (HSz.out wq) ?_
      rintro e w3 ⟨rfl, rfl⟩
      exact ⟨_, rfl, hK _ rfl⟩
    · exact wp_run (by kernel_rfl) (hK _ rfl)
    · have h3 : x 3 = .pointer (some ⟨ab, 0, none⟩) := depsC_get hd 3 (by kernel_rfl)
      have h5 : x 5 = .int .i64 (at_ : Nat) := depsC_get hd 5 (by kernel_rfl)
      have h8 : x 8 = .int .i64 ((body.length : Int) + 9) := depsC_get hd 8 (by kernel_rfl)
      have h9 : x 9 = .func (.func 131) #[] #[.pointer (some ⟨B3, 0, none⟩), .pointer (some ⟨B2, 0, none⟩), .pointer (some ⟨B6, 0, none⟩)] := depsC_get hd 9 (by kernel_rfl)
      refine wp_calls (by rw [h3, h5, h8, h9]; kernel_rfl) (HW.out wq hS) ?_
      rintro e w3 ⟨rfl, hp⟩
      exact ⟨_, rfl, hK _ _ rfl hp⟩
    · have h10 : x 10 = .nilIface := depsC_get hd 10 (by kernel_rfl)
      exact wp_run (by rw [h10]; kernel_rfl) (hK _ rfl)
  case hC =>
    intro vs W hS
    have key : ∀ {F : HF}, Sat W F → (∀ x, cnt x R2 ≤ cnt x F) → W.cell? ⟨B2, 0, none⟩ = some (.pointer (some ⟨a, 0, none⟩)) ∧ W.cell? ⟨a, 7, none⟩ = some (.pointer (some ⟨ab, 0, none⟩)) ∧ W.cell? ⟨B3, 0, none⟩ = some (.int .i64 (at_ : Nat)) ∧ W.cell? ⟨B3, 1, none⟩ = some (.int .i64 (body.length : Nat)) := fun hs hm => by
      have h1 := hs.sub hm
      rw [HT.out.2.2] at h1
      have h2 := h1.sub (G := (a, Is (archO X)) :: devF d L) (fun x => by have h1 := HH.out.2.1 x; rw [cnt_cons] at h1; simp only [cnt_cons]; omega)
      refine ⟨cell_at h1.tail.headIs 0 rfl, ?_, cell_at h1.headIs 0 rfl, cell_at h1.headIs 1 rfl⟩
      rw [HH.out.2.2.2.2.2.2.2]
      exact cell_at h2.headIs 7 rfl
    match vs, hS with
    | [], hT => exact key hT.sat (fun x => by rw [HT.out.2.1]; simp only [cnt_cons, cnt_append]; omega)
    | [_], ⟨v, sp, _, _, hT⟩ => exact key hT.sat (fun _ => by simp only [cnt_cons, cnt_append, cnt_nil] <;> omega)
  case h0 => exact HT.out.1.drew
  case he =>
    intro x w3 hφ hS
    obtain ⟨v, sp, hok, hAo, hT⟩ := hS
    have e11 : x 11 = .nilIface := allPhi_get hφ 11 (by decide) (by decide)
    simp only [e11]
    obtain ⟨av, cv, rfl, -, -, -, -⟩ := own_cells' (bOwns hT.sat.left hok)
    have c6 := cell_at (hT.sat.memIs (b := B6) (o := oCell (.slice av body.length cv)) (by simp)) 0 rfl
    have H3 := Lib.hid (And.intro hok (And.intro hAo hT))
    clear hφ hok hAo hT e11
    go_wp2_with fail
    go_ret2
    refine ⟨av, cv, sp, rfl, H3.out.1, H3.out.2.1, H3.out.2.2.drop ?_⟩
    rw [HT.out.2.2]
    exact (fun _ => by simp only [cnt_cons, cnt_append, cnt_nil] <;> omega)
end Go.Proofs.YtdhobpbngkainaaGreatDoor
