/-
  Ours. first: an archive over an empty device.
-/
import Derived.Test.YtdhobpbngkainaaDoorHalf
import Derived.Test.YtdhobpbngkainaaDoorUsesNone
import Derived.Test.YtdhobpbngkainaaDoorRegion
namespace Go.Proofs.YtdhobpbngkainaaDoor
open Go.RowKit

/-! ### the archive's own block -/
structure ArchL where
  pm : Nat
  tm : Nat
  cm : Nat
  sc : Int
  sb : Int
  used : Int
  d : Nat
  ab : Nat
  ep : Nat
  quota : Int
  closed : Bool
  broken : Value
def archCells (X : ArchL) : Array Value := #[.map (some X.pm), .map (some X.tm), .map (some X.cm), .int .i64 X.sc, .int .i64 X.sb, .int .i64 X.used, .pointer (some ⟨X.d, 0, none⟩), .pointer (some ⟨X.ab, 0, none⟩), .int .u32 X.ep, .int .i64 X.quota, .bool X.closed, X.broken]
def archO (X : ArchL) : Obj := .cells (archCells X) 51 (0, 0)

theorem secOf_halfOf {l : Bs} {first count k : Nat} (h : k < count) : secOf (halfOf l first count) k = secOf l (first + k) := by
  unfold secOf halfOf
  rw [List.drop_take, List.drop_drop, List.take_take]
  congr 1
  · omega
  · congr 1; omega
theorem own_cells2 {w : World} {b e n : Nat} {v : Value} {xs : List Value} (h : w.ownsRow b e 1 v n xs) : ∃ a cap, v = .slice a n cap ∧ xs.length = n ∧ n ≤ cap ∧ cap ≤ 9223372036854775807 ∧ CellsAt w a xs ∧ ∀ x, a = some x → v.ownBlock = some x.block := by
  obtain ⟨a, cap, rfl, h1, h2, h3, h4⟩ := own_cells h
  refine ⟨a, cap, rfl, h1, h2, ?_, h3, h4⟩
  rcases h.2 with ⟨hv, _⟩ | ⟨g, c, cur, hv, _, _, _, hc, _⟩
  · simp only [Value.slice.injEq] at hv; omega
  · simp only [Value.slice.injEq] at hv; unfold maxLen at hc; omega
def clip0 (q : Int) : Int := if (0 : Int) > q then 0 else q
def FirstMid (d u : Nat) (L : DevL) (q : Int) (v : Value) (w W : World) : Prop :=
  ∃ g pm tm cm ab ch, v = .pointer (some ⟨g, 0, none⟩) ∧ Turns (devF d L) ((g, Is (archO ⟨pm, tm, cm, 0, 0, 0, d, ab, 1, clip0 q, false, .nilIface⟩)) :: (areaF ab d ⟨2 + halfN L.n, halfN L.n, 0, zeros 128, ch, []⟩ ++ ([(cm, Is (.map #[] 0)), (tm, Is (.map #[] 0)), (pm, Is (.map #[] 0))] ++ ((u, Is (.cells #[.int .u32 1, .int .u32 0] 39 (0, 0))) :: devF d L)))) w W
def FirstPost (d : Nat) (L : DevL) (q : Int) (w : World) (e : Ending) (w' : World) : Prop :=
  ∃ a ab pm tm cm ch L', e = .returned (.tuple #[.pointer (some ⟨a, 0, none⟩), .nilIface]) ∧
    Turns (devF d L) ((a, Is (archO ⟨pm, tm, cm, 0, 0, 0, d, ab, 1, clip0 q, false, .nilIface⟩)) :: (pm, Is (.map #[] 0)) :: (tm, Is (.map #[] 0)) :: (cm, Is (.map #[] 0)) :: (areaF ab d ⟨2 + halfN L.n, halfN L.n, 0, zeros 128, ch, []⟩ ++ devF d L')) w w' ∧
    DevOk L' ∧ L'.n = L.n ∧ L'.now = putAt (cutTo L.now (2 + halfN L.n) 0 (zeros 128) (halfN L.n)) 128 (useSec 1 0) ∧ L'.safe = L'.now ∧ L'.chs = []
set_option maxHeartbeats 4000000 in
set_option maxRecDepth 100000 in
theorem first_calls (d : Nat) (L : DevL) (q : Int) (w : World) (h : Sat w (devF d L)) (hL : DevOk L) (hn : 16 ≤ L.n) (hn2 : L.n ≤ 1073741824) (hch : L.chs.length ≤ 137438953472) :
    Calls Tryd.prog 9 #[.pointer (some ⟨d, 0, none⟩), .int .i64 q] w (FirstPost d L q w) := by
  have HNC := Lib.hid newContent_calls
  have HH : Hid (∀ W, Sat W (devF d L) → Calls Tryd.prog 11 #[.pointer (some ⟨d, 0, none⟩), .int .u32 1] W (NewAreaPost d (2 + halfN L.n) (halfN L.n) W)) := Lib.hid (fun W hW => by
    have := half_calls d L 1 W hW (by omega) hn2 (by omega)
    simpa using this)
  have HS := Lib.hid (And.intro h (And.intro hL (And.intro hn (And.intro hn2 hch))))
  clear h hL hn hn2 hch
  go_enter Tryd.func9, Tryd.ntmps9
  go_wp2_with fail
  obtain ⟨w1, hw1⟩ : ∃ w1, w1 = w.alloc (.cells #[.int .u32 1, .int .u32 0] 39) := ⟨_, rfl⟩
  have hT1 : Turns (devF d L) ((w.heap.size, Is (.cells #[.int .u32 1, .int .u32 0] 39 (0, 0))) :: devF d L) w w1 := by rw [hw1]; exact (Turns.refl HS.out.1).allocIs _
  rw [← hw1]
  have a0 := cell_at hT1.sat.headIs 0 rfl
  obtain ⟨u, hu⟩ : ∃ u, u = w.heap.size := ⟨_, rfl⟩
  rw [← hu] at hT1 a0 ⊢
  have HT := Lib.hid hT1
  have hs1 : Same w w1 := by rw [hw1]; exact (Mods.refl _ w).alloc _
  have HS1 := Lib.hid hs1
  clear hw1 hu hT1 hs1
  have HM := Lib.hid (show Tryd.prog.follows .mixedOrders = true by kernel_rfl)
  refine wp_region_chain (A := ?A) (hA := ?hA) HM.out (phiL [fun _ => True, fun v => v = .pointer (some ⟨d, 0, none⟩), fun v => v = .pointer (some ⟨d, 0, none⟩), fun v => v = .pointer (some ⟨u, 0, none⟩), fun v => v = .int .u32 1, fun _ => True,
    fun v => v = .pointer (some ⟨u, 0, none⟩), fun v => v = .int .u32 1, fun v => v = .int .i64 q, fun v => v = .int .i64 (clip0 q)]) (fun vs W => match vs with
      | [] => Turns (devF d L) ((u, Is (.cells #[.int .u32 1, .int .u32 0] 39 (0, 0))) :: devF d L) w W
      | [v0] => ∃ pm tm cm, v0 = .agg (contCells pm tm cm 0 0 0) ∧ Turns (devF d L) ([(cm, Is (.map #[] 0)), (tm, Is (.map #[] 0)), (pm, Is (.map #[] 0))] ++ ((u, Is (.cells #[.int .u32 1, .int .u32 0] 39 (0, 0))) :: devF d L)) w W
      | [v0, v5] => ∃ pm tm cm ab ch, v0 = .agg (contCells pm tm cm 0 0 0) ∧ v5 = .pointer (some ⟨ab, 0, none⟩) ∧ Turns (devF d L) (areaF ab d ⟨2 + halfN L.n, halfN L.n, 0, zeros 128, ch, []⟩ ++ ([(cm, Is (.map #[] 0)), (tm, Is (.map #[] 0)), (pm, Is (.map #[] 0))] ++ ((u, Is (.cells #[.int .u32 1, .int .u32 0] 39 (0, 0))) :: devF d L))) w W
      | [_, _, v] => ∃ pm tm cm ab ch, v = .agg (archCells ⟨pm, tm, cm, 0, 0, 0, d, ab, 1, clip0 q, false, .nilIface⟩) ∧ Turns (devF d L) (areaF ab d ⟨2 + halfN L.n, halfN L.n, 0, zeros 128, ch, []⟩ ++ ([(cm, Is (.map #[] 0)), (tm, Is (.map #[] 0)), (pm, Is (.map #[] 0))] ++ ((u, Is (.cells #[.int .u32 1, .int .u32 0] 39 (0, 0))) :: devF d L))) w W
      | [_, _, _, v] => FirstMid d u L q v w W
      | [_, _, _, _, v] => FirstMid d u L q v w W
      | _ => False) (fun W => W.cell? ⟨u, 0, none⟩ = some (.int .u32 1)) [0, 5, 10, 11, 12] ?hC (by kernel_rfl) (by kernel_rfl) (by decide) (by decide) ?h0 ?hs ?he
  case hA => intro x; simp only [fillFrom, Act.put, List.setIfInBounds_toArray, List.set_cons_zero, List.set_cons_succ, Nat.reduceAdd]; rfl
  case hC =>
    intro vs W hS
    have key : ∀ {F : HF}, Sat W F → (u, Is (.cells #[.int .u32 1, .int .u32 0] 39 (0, 0))) ∈ F → W.cell? ⟨u, 0, none⟩ = some (.int .u32 1) := fun hs hm => cell_at (hs.memIs hm) 0 rfl
    match vs, hS with
    | [], hT => exact key hT.sat (by simp)
    | [_], ⟨pm, tm, cm, _, hT⟩ => exact key hT.sat (by simp)
    | [_, _], ⟨pm, tm, cm, ab, ch, _, _, hT⟩ => exact key hT.sat (by simp)
    | [_, _, _], ⟨pm, tm, cm, ab, ch, _, hT⟩ => exact key hT.sat (by simp)
    | [_, _, _, _], ⟨g, pm, tm, cm, ab, ch, _, hT⟩ => exact key hT.sat (by simp)
    | [_, _, _, _, _], ⟨g, pm, tm, cm, ab, ch, _, hT⟩ => exact key hT.sat (by simp)
  case h0 => exact HT.out.drew
  case he =>
    intro x w2 hφ hS
    obtain ⟨g, pm, tm, cm, ab, ch, e12, hT⟩ := hS
    have e12 : x 12 = .pointer (some ⟨g, 0, none⟩) := e12
    have g7 := cell_at hT.sat.headIs 7 (show (archCells ⟨pm, tm, cm, 0, 0, 0, d, ab, 1, clip0 q, false, .nilIface⟩)[7]? = some (.pointer (some ⟨ab, 0, none⟩)) from rfl)
    have HAll := Lib.hid (All_calls ab d ⟨2 + halfN L.n, halfN L.n, 0, zeros 128, ch, []⟩ L w2 (hT.sat.sub (fun _ => by simp only [cnt_cons, cnt_append, cnt_nil] <;> omega)) HS.out.2.1 (by simp only; unfold halfN; have := HS.out.2.2.1; omega) HS.out.2.2.2.1)
    have HT2 := Lib.hid hT
    clear hφ hT
    simp only [e12]
    clear e12
    go_wp2_with fail
    refine HAll.out.mono ?_
    rintro e w3 ⟨v, rfl, hok, hT3⟩
    have hwl := halfOf_length HS.out.2.1.nowL (first := 2 + halfN L.n) (k := halfN L.n) (by unfold halfN; have := HS.out.2.2.1; omega)
    obtain ⟨ws, hws⟩ : ∃ ws, ws = halfOf L.now (2 + halfN L.n) (halfN L.n) := ⟨_, rfl⟩
    try simp only at hok hT3
    rw [← hws] at hok hT3 hwl
    obtain ⟨av, cv, rfl, hlv, hcv, hcv2, hca, hav⟩ := own_cells2 (bOwns hT3.sat hok)
    have hT4 := Turns.newIn HT2.out hT3
    have hcut := Cut_calls ab d ⟨2 + halfN L.n, halfN L.n, 0, zeros 128, ch, []⟩ L 0 av cv ws w3 (hT4.sat.sub (fun _ => by simp only [cnt_cons, cnt_append, cnt_nil] <;> omega)) HS.out.2.1 (by simp only; unfold halfN; have := HS.out.2.2.1; omega) HS.out.2.2.2.1 ⟨zeros_length _, by simp, fun _ h => by simp at h⟩ hca
      (fun x hx hin => hT4.sat.disj (b := x.block) ((dom_row _ _ _ _ _ _).2 (hav x hx)) (by simp only [dom_append, dom_cons, List.mem_append, List.mem_cons] at hin ⊢; rcases hin with h | h <;> simp [h])) hwl hcv hcv2 (by simp only; unfold halfN; have := HS.out.2.2.1; omega) (Nat.zero_le _) HS.out.2.2.2.2
      (fun m hm he => by simp only at hm ⊢; rw [hws, secOf_halfOf (by omega)] at he; exact he)
    have g7 := cell_at (hT4.sat.right.headIs) 7 (show (archCells ⟨pm, tm, cm, 0, 0, 0, d, ab, 1, clip0 q, false, .nilIface⟩)[7]? = some (.pointer (some ⟨ab, 0, none⟩)) from rfl)
    have HC := Lib.hid hcut
    have H4 := Lib.hid (And.intro hT4 hwl)
    clear hcut hT4 hca hav hT3 hok hws hlv hwl hcv hcv2
    go_wp2_with fail
    refine HC.out.mono ?_
    rintro e w4 ⟨rfl, L', hT5, hL', hn', hnow', hsafe', hch'⟩
    have eA : (List.drop (128 * (0 / 128)) (List.take 0 ws) ++ zeros (128 - 0 % 128)) = zeros 128 := by simp
    simp only [eA] at hT5 hnow'
    clear eA
    have hT6 := H4.out.1.step (F := areaF ab d ⟨2 + halfN L.n, halfN L.n, 0, zeros 128, ch, []⟩ ++ devF d L) (R := bRow (.slice av ws.length cv) ws ++ ((g, Is (archO ⟨pm, tm, cm, 0, 0, 0, d, ab, 1, clip0 q, false, .nilIface⟩)) :: ([(cm, Is (.map #[] 0)), (tm, Is (.map #[] 0)), (pm, Is (.map #[] 0))] ++ [(u, Is (.cells #[.int .u32 1, .int .u32 0] 39 (0, 0)))]))) (perm_of_cnt fun _ => by simp only [cnt_cons, cnt_append, cnt_nil] <;> omega) hT5
    have hu := (hT6.sat.sub (G := [(u, Is (.cells #[.int .u32 1, .int .u32 0] 39 (0, 0)))]) (fun _ => by simp only [cnt_cons, cnt_append, cnt_nil] <;> omega)).headIs
    have u0 := cell_at hu 0 rfl
    have u1 := cell_at hu 1 rfl
    have HSec := Lib.hid (sector_calls 1 0 (by omega) (by omega) w4)
    have HWr : Hid (∀ W, Sat W (devF d L') → Calls Tryd.prog 19 #[.pointer (some ⟨d, 0, none⟩), .int .i64 1, .agg (row8 (useSec 1 0))] W (WritePost d L' 1 (useSec 1 0) W)) := Lib.hid (fun W hW => by
      have := Write_calls d L' 1 (useSec 1 0) W hW hL' (by rw [hn']; have := HS.out.2.2.1; omega) (useSec_length 1 0) (by rw [hch']; simp)
      exact this)
    have H6 := Lib.hid (And.intro hT6 (And.intro hL' (And.intro hn' (And.intro hnow' (And.intro hsafe' hch')))))
    clear hT5 hT6 hL' hn' hnow' hsafe' hch' hu g7
    go_wp2_with fail
    refine HSec.out.mono ?_
    rintro e w5 ⟨rfl, hs5⟩
    have hT7 := H6.out.1.thenSame hs5
    have H7 := Lib.hid hT7
    clear hs5 hT7 u0 u1
    go_wp2_with fail
    refine (HWr.out _ (H7.out.sat.sub (fun _ => by simp only [cnt_cons, cnt_append, cnt_nil] <;> omega))).mono ?_
    rintro e w6 ⟨rfl, L2, hT8, hL2, hn2, hnow2, hch2⟩
    have hT9 := H7.out.step (F := devF d L') (R := (areaF ab d ⟨2 + halfN L.n, halfN L.n, 0, zeros 128, ch, []⟩) ++ ((g, Is (archO ⟨pm, tm, cm, 0, 0, 0, d, ab, 1, clip0 q, false, .nilIface⟩)) :: ([(cm, Is (.map #[] 0)), (tm, Is (.map #[] 0)), (pm, Is (.map #[] 0))] ++ ([(u, Is (.cells #[.int .u32 1, .int .u32 0] 39 (0, 0)))] ++ bRow (.slice av ws.length cv) ws)))) (perm_of_cnt fun _ => by simp only [cnt_cons, cnt_append, cnt_nil] <;> omega) hT8
    have HFl : Hid (∀ W, Sat W (devF d L2) → Calls Tryd.prog 20 #[.pointer (some ⟨d, 0, none⟩)] W (FlushPost d L2 W)) := Lib.hid (fun W hW => Flush_calls d L2 W hW hL2 (by rw [hch2, H6.out.2.2.2.2.2]; simp))
    have H9 := Lib.hid (And.intro hT9 (And.intro hL2 (And.intro hn2 hnow2)))
    clear hT8 hT9 hL2 hn2 hnow2 hch2
    go_wp2_with fail
    refine (HFl.out _ (H9.out.1.sat.sub (fun _ => by simp only [cnt_cons, cnt_append, cnt_nil] <;> omega))).mono ?_
    rintro e w7 ⟨rfl, L3, hT10, hL3, hn3, hnow3, hsafe3, hch3⟩
    have hT11 := H9.out.1.step (F := devF d L2) (R := (areaF ab d ⟨2 + halfN L.n, halfN L.n, 0, zeros 128, ch, []⟩) ++ ((g, Is (archO ⟨pm, tm, cm, 0, 0, 0, d, ab, 1, clip0 q, false, .nilIface⟩)) :: ([(cm, Is (.map #[] 0)), (tm, Is (.map #[] 0)), (pm, Is (.map #[] 0))] ++ ([(u, Is (.cells #[.int .u32 1, .int .u32 0] 39 (0, 0)))] ++ bRow (.slice av ws.length cv) ws)))) (perm_of_cnt fun _ => by simp only [cnt_cons, cnt_append, cnt_nil] <;> omega) hT10
    have hT12 := hT11.drop (H := (g, Is (archO ⟨pm, tm, cm, 0, 0, 0, d, ab, 1, clip0 q, false, .nilIface⟩)) :: (pm, Is (.map #[] 0)) :: (tm, Is (.map #[] 0)) :: (cm, Is (.map #[] 0)) :: (areaF ab d ⟨2 + halfN L.n, halfN L.n, 0, zeros 128, ch, []⟩ ++ devF d L3)) (fun _ => by simp only [cnt_cons, cnt_append, cnt_nil] <;> omega)
    have H12 := Lib.hid (And.intro hT12 (And.intro hL3 (And.intro hn3 (And.intro hnow3 (And.intro hsafe3 hch3)))))
    clear hT10 hT11 hT12 hL3 hn3 hnow3 hsafe3 hch3
    go_wp2_with fail
    go_ret2
    refine ⟨g, ab, pm, tm, cm, ch, L3, rfl, H12.out.1, H12.out.2.1, by rw [H12.out.2.2.1, H9.out.2.2.1, H6.out.2.2.1], ?_, by rw [H12.out.2.2.2.2.1, H12.out.2.2.2.1], H12.out.2.2.2.2.2⟩
    rw [H12.out.2.2.2.1, H9.out.2.2.2, H6.out.2.2.2.1]
    simp only [Nat.zero_div, Nat.sub_zero, Nat.mul_one]
  case hs =>
    refine ⟨chain_noisy 0 rfl rfl (fun x w2 hd hS K hK => ?_), chain_quiet rfl rfl (fun x w2 hd hC K hK _ => ?_), chain_quiet rfl rfl (fun x w2 hd hC K hK _ => ?_), chain_quiet rfl rfl (fun x w2 hd hC K hK _ => ?_), chain_quiet rfl rfl (fun x w2 hd hC K hK _ => ?_), chain_noisy 1 rfl rfl (fun x w2 hd hS K hK => ?_),
      chain_quiet rfl rfl (fun x w2 hd hC K hK _ => ?_), chain_quiet rfl rfl (fun x w2 hd hC K hK _ => ?_), chain_quiet rfl rfl (fun x w2 hd hC K hK _ => ?_), chain_quiet rfl rfl (fun x w2 hd hC K hK _ => ?_), chain_noisy 2 rfl rfl (fun x w2 hd hS K hK => ?_), chain_noisy 3 rfl rfl (fun x w2 hd hS K hK => ?_), chain_noisy 4 rfl rfl (fun x w2 hd hS K hK => ?_), trivial⟩
    · refine wp_calls (by kernel_rfl) (HNC.out _) ?_
      rintro e w3 ⟨pm, tm, cm, rfl, hT3⟩
      exact ⟨_, rfl, hK _ _ trivial ⟨pm, tm, cm, rfl, Turns.newIn hS hT3⟩⟩
    · exact wp_run (by kernel_rfl) (hK _ rfl)
    · exact wp_run (by kernel_rfl) (hK _ rfl)
    · exact wp_run (by kernel_rfl) (hK _ rfl)
    · obtain ⟨h3, -⟩ := hd
      have h3 : x 3 = .pointer (some ⟨u, 0, none⟩) := h3
      exact w_load Tryd.underlying37 rfl rfl (by rw [h3]; rfl) hC (hK _ rfl)
    · obtain ⟨h2, h4, -⟩ := hd
      have h2 : x 2 = .pointer (some ⟨d, 0, none⟩) := h2
      have h4 : x 4 = .int .u32 1 := h4
      obtain ⟨pm, tm, cm, e0, hT⟩ := hS
      refine wp_calls (by rw [h2, h4]; kernel_rfl) (HH.out _ hT.sat.right.tail) ?_
      rintro e w3 ⟨ab, ch, rfl, hT3⟩
      exact ⟨_, rfl, hK _ _ trivial ⟨pm, tm, cm, ab, ch, e0, rfl, Turns.newIn hT hT3⟩⟩
    · exact wp_run (by kernel_rfl) (hK _ rfl)
    · obtain ⟨h6, -⟩ := hd
      have h6 : x 6 = .pointer (some ⟨u, 0, none⟩) := h6
      exact w_load Tryd.underlying37 rfl rfl (by rw [h6]; rfl) hC (hK _ rfl)
    · exact wp_run (by kernel_rfl) (hK _ rfl)
    · obtain ⟨h8, -⟩ := hd
      have h8 : x 8 = .int .i64 q := h8
      exact wp_run (by rw [h8]; kernel_rfl) (hK _ rfl)
    · obtain ⟨-, h1, -, h7, h9, -⟩ := hd
      have h1 : x 1 = .pointer (some ⟨d, 0, none⟩) := h1
      have h7 : x 7 = .int .u32 1 := h7
      have h9 : x 9 = .int .i64 (clip0 q) := h9
      obtain ⟨pm, tm, cm, ab, ch, e0, e5, hT⟩ := hS
      exact wp_run (by rw [e0, h1, e5, h7, h9]; kernel_rfl) (hK _ _ trivial ⟨pm, tm, cm, ab, ch, rfl, hT⟩)
    · obtain ⟨pm, tm, cm, ab, ch, e10, hT⟩ := hS
      exact wp_run (by rw [e10]; kernel_rfl) (hK _ _ trivial ⟨_, pm, tm, cm, ab, ch, rfl, hT.allocIs _⟩)
    · obtain ⟨g, pm, tm, cm, ab, ch, e11, hT⟩ := hS
      exact wp_run (by rw [e11]; kernel_rfl) (hK _ _ trivial ⟨g, pm, tm, cm, ab, ch, rfl, hT⟩)
end Go.Proofs.YtdhobpbngkainaaDoor
