/-
  Ours. The bodies of records (the text is printed by wip/genbodies.py).
-/
import Derived.Test.YtdhobpbngkainaaGreatDoorMo08
namespace Go.Proofs.YtdhobpbngkainaaGreatDoor
open Go.RowKit

def RowSt (bx : Nat) (O : Obj) (l : Bs) (w : World) (v : Value) (W : World) : Prop := bOk v l ∧ Turns [] (bRow v l ++ [(bx, Is O)]) w W
theorem rowSt_app {bx : Nat} {O : Obj} {l l' : Bs} {w W W' : World} {v : Value} {e : Ending} (h : RowSt bx O l w v W) (k : AppPost v l l' W e W') : ∃ v', e = .returned v' ∧ RowSt bx O l' w v' W' := by
  obtain ⟨v', he, hok, hT⟩ := k
  exact ⟨v', he, hok, h.2.step (List.Perm.refl _) hT⟩
theorem rowSt_new {bx : Nat} {O : Obj} {l' : Bs} {w W W' : World} {e : Ending} (h : Turns [] [(bx, Is O)] w W) (k : AppPost (.slice none 0 0) [] l' W e W') : ∃ v', e = .returned v' ∧ RowSt bx O l' w v' W' := by
  obtain ⟨v', he, hok, hT⟩ := k
  exact ⟨v', he, hok, h.step (List.Perm.refl _) hT⟩
theorem rowSt_box {bx : Nat} {O : Obj} {l : Bs} {w W : World} {v : Value} (h : RowSt bx O l w v W) : W.heap[bx]? = some O := h.2.sat.memIs (by simp)
theorem rowSt_row {bx : Nat} {O : Obj} {l : Bs} {w W : World} {v : Value} (h : RowSt bx O l w v W) : Sat W (bRow v l) := h.2.sat.left
def headV (k : UInt8) (p : Bs) : List Value := [.int .u8 k.toNat, str p]
def numsB (l : List Int) : Bs := l.flatMap (beI · 4)
theorem numsB_snoc (l : List Int) (n : Int) : numsB (l ++ [n]) = numsB l ++ beI n 4 := by simp [numsB]
theorem numsB_length (l : List Int) : (numsB l).length = 4 * l.length := by
  induction l with
  | nil => rfl
  | cons a r ih => simp only [numsB, List.flatMap_cons, List.length_append, beI_length, List.length_cons] at ih ⊢; omega
theorem textB_length (p : Bs) : (textB p).length = p.length + 1 := by simp [textB]
def verB (p : Bs) (num size : Int) (ats : List Int) : Bs := textB p ++ beI num 4 ++ beI size 2 ++ numsB ats
def goneB (p : Bs) (nums : List Int) : Bs := textB p ++ numsB nums
def pinB (p name : Bs) (num : Int) : Bs := textB p ++ textB name ++ beI num 4
def I64 (n : Int) : Prop := -9223372036854775808 ≤ n ∧ n ≤ 9223372036854775807
def NumsRel (bx : Nat) (O : Obj) (b : Bs) (ats : List Int) (w : World) (v i : Value) (wr : World) : Prop := ∃ k : Nat, k ≤ ats.length ∧ i = .int .i64 k ∧ RowSt bx O (b ++ numsB (ats.take k)) w v wr
set_option maxHeartbeats 4000000 in
set_option maxRecDepth 100000 in
theorem verBody_calls (k : UInt8) (p : Bs) (num size : Int) (sl : Option Addr) (cap : Nat) (ats : List Int) (w : World) (hc : CellsAt w sl (ats.map encI)) (hp : p.length ≤ 255) (hnum : I64 num) (hsize : I64 size) (hat : ∀ n ∈ ats, I64 n) (hl : ats.length ≤ 100000) :
    Calls Tryz.prog 217 #[.agg #[.int .u8 k.toNat, str p, .int .i64 num, .int .i64 size, .slice sl ats.length cap]] w (NewPost (verB p num size ats) w) := by
  obtain ⟨bx, hbx⟩ : ∃ bx, bx = w.heap.size := ⟨_, rfl⟩
  obtain ⟨O, hO⟩ : ∃ O : Obj, O = .cells #[.int .u8 k.toNat, str p, .int .i64 num, .int .i64 size, .slice sl ats.length cap] 173 (0, 0) := ⟨_, rfl⟩
  have hT0 : Turns [] [(bx, Is O)] w (w.alloc (.cells #[.int .u8 k.toNat, str p, .int .i64 num, .int .i64 size, .slice sl ats.length cap] 173)) := by rw [← hO, hbx]; exact (Turns.refl (Sat.nil w)).allocIs O
  have HM := Lib.hid (show Tryz.prog.follows .mixedOrders = true by kernel_rfl)
  have HP := Lib.hid (And.intro hp (And.intro hnum (And.intro hsize (And.intro hat hc))))
  have HT := Lib.hid (And.intro hT0 hO)
  clear hp hnum hsize hat hc hT0
  go_enter Tryz.func217, Tryz.ntmps217
  go_wp2_with fail
  rw [← hbx]
  clear hbx
  refine wp_region_chain (A := ?A) (hA := ?hA) HM.out (phiL [fun v => v = .pointer (some ⟨bx, 0, none⟩), fun v => v = .pointer (some ⟨bx, 1, none⟩), fun v => v = str p, fun _ => True, fun v => v = .pointer (some ⟨bx, 2, none⟩), fun v => v = .int .i64 num, fun _ => True, fun v => v = .pointer (some ⟨bx, 3, none⟩), fun v => v = .int .i64 size, fun _ => True, fun _ => True])
    (fun vs W => match vs with
    | [] => Turns [] [(bx, Is O)] w W
    | [v] => RowSt bx O (textB p) w v W
    | [_, v] => RowSt bx O (textB p ++ beI num 4) w v W
    | [_, _, v] => RowSt bx O (textB p ++ beI num 4 ++ beI size 2) w v W
    | [_, _, u, v] => v = u ∧ RowSt bx O (textB p ++ beI num 4 ++ beI size 2) w v W
    | _ => False)
    (fun W => W.heap[bx]? = some (.cells #[.int .u8 k.toNat, str p, .int .i64 num, .int .i64 size, .slice sl ats.length cap] 173 (0, 0))) [3, 6, 9, 10] ?hC (by kernel_rfl) (by kernel_rfl) (by decide) (by decide) ?h0 ?hs ?he
  case hA => intro x; simp only [fillFrom, Act.put, List.setIfInBounds_toArray, List.set_cons_zero, List.set_cons_succ, Nat.reduceAdd]; rfl
  case hs =>
    refine ⟨chain_quiet rfl rfl (fun x wq hd hC K hK hKw => ?_), chain_quiet rfl rfl (fun x wq hd hC K hK hKw => ?_), chain_quiet rfl rfl (fun x wq hd hC K hK hKw => ?_), chain_noisy 0 rfl rfl (fun x wq hd hS K hK => ?_), chain_quiet rfl rfl (fun x wq hd hC K hK hKw => ?_), chain_quiet rfl rfl (fun x wq hd hC K hK hKw => ?_), chain_noisy 1 rfl rfl (fun x wq hd hS K hK => ?_), chain_quiet rfl rfl (fun x wq hd hC K hK hKw => ?_), chain_quiet rfl rfl (fun x wq hd hC K hK hKw => ?_), chain_noisy 2 rfl rfl (fun x wq hd hS K hK => ?_), chain_noisy 3 rfl rfl (fun x wq hd hS K hK => ?_), trivial⟩
    · exact wp_run (by kernel_rfl) (hK _ rfl)
    · have h0 : x 0 = .pointer (some ⟨bx, 0, none⟩) := depsC_get hd 0 (by kernel_rfl)
      exact wp_run (by rw [h0]; kernel_rfl) (hK _ rfl)
    · have h1 : x 1 = .pointer (some ⟨bx, 1, none⟩) := depsC_get hd 1 (by kernel_rfl)
      exact w_load Tryz.underlying9 rfl rfl (by rw [h1]; rfl) (cell_at hC 1 rfl) (hK _ rfl)
    · have h2 : x 2 = str p := depsC_get hd 2 (by kernel_rfl)
      refine wp_calls (by rw [h2]; kernel_rfl) (text_calls (.slice none 0 0) [] p wq (Sat.nil _) bOk_nil (by simp) HP.out.1) ?_
      intro e w3 hp
      obtain ⟨v3, rfl, hr⟩ := rowSt_new hS hp
      exact ⟨_, rfl, hK _ _ trivial hr⟩
    · exact wp_run (by kernel_rfl) (hK _ rfl)
    · have h4 : x 4 = .pointer (some ⟨bx, 2, none⟩) := depsC_get hd 4 (by kernel_rfl)
      exact w_load Tryz.underlying3 rfl rfl (by rw [h4]; rfl) (cell_at hC 2 rfl) (hK _ rfl)
    · have h5 : x 5 = .int .i64 num := depsC_get hd 5 (by kernel_rfl)
      refine wp_calls (by rw [h5]; kernel_rfl) (number_calls (x 3) (textB p) num 4 wq (by omega) (by rw [textB_length]; have := HP.out.1; omega) HP.out.2.1.1 HP.out.2.1.2 (rowSt_row hS) hS.1) ?_
      intro e w3 hp
      obtain ⟨v3, rfl, hr⟩ := rowSt_app hS hp
      exact ⟨_, rfl, hK _ _ trivial hr⟩
    · exact wp_run (by kernel_rfl) (hK _ rfl)
    · have h7 : x 7 = .pointer (some ⟨bx, 3, none⟩) := depsC_get hd 7 (by kernel_rfl)
      exact w_load Tryz.underlying3 rfl rfl (by rw [h7]; rfl) (cell_at hC 3 rfl) (hK _ rfl)
    · have h8 : x 8 = .int .i64 size := depsC_get hd 8 (by kernel_rfl)
      refine wp_calls (by rw [h8]; kernel_rfl) (number_calls (x 6) (textB p ++ beI num 4) size 2 wq (by omega) (by rw [List.length_append, textB_length, beI_length]; have := HP.out.1; omega) HP.out.2.2.1.1 HP.out.2.2.1.2 (rowSt_row hS) hS.1) ?_
      intro e w3 hp
      obtain ⟨v3, rfl, hr⟩ := rowSt_app hS hp
      exact ⟨_, rfl, hK _ _ trivial hr⟩
    · exact wp_run (by kernel_rfl) (hK _ _ trivial ⟨rfl, hS⟩)
  case hC =>
    intro vs W hS
    match vs, hS with
    | [], hT => exact (HT.out.2 ▸ hT.sat.headIs)
    | [_], hT => exact (HT.out.2 ▸ rowSt_box hT)
    | [_, _], hT => exact (HT.out.2 ▸ rowSt_box hT)
    | [_, _, _], hT => exact (HT.out.2 ▸ rowSt_box hT)
    | [_, _, _, _], hT => exact (HT.out.2 ▸ rowSt_box hT.2)
  case h0 => exact HT.out.1.drew
  case he =>
    intro x w3 hφ hS
    obtain ⟨he, hS⟩ := hS
    simp only [he]
    obtain ⟨v3, hv3⟩ : ∃ v3, v3 = x 9 := ⟨_, rfl⟩
    rw [he, ← hv3] at hS
    rw [← hv3]
    have HS := Lib.hid hS
    have hbo := rowSt_box hS
    rw [hO] at hbo
    have b4 : w3.cell? ⟨bx, 4, none⟩ = some (.slice sl ats.length cap) := cell_at hbo 4 rfl
    have hbl := lt_of_heap hbo
    clear hS he hφ hbo hv3 hO
    go_wp2_with fail
    go_loopw [3, 19] (fun v i wr => NumsRel bx O (textB p ++ beI num 4 ++ beI size 2) ats w v i wr) (fun _ i _ => ats.length - (intOf i).toNat)
    case atStart => exact ⟨0, Nat.zero_le _, rfl, by simpa [numsB] using HS.out⟩
    case round =>
      obtain ⟨j, hj, rfl, hR⟩ := hrel
      have HR := Lib.hid hR
      clear hR
      by_cases hlt : j < ats.length
      · obtain ⟨g, off, hg, hcell⟩ := HP.out.2.2.2.2.keep HR.out.2.mods (fun g off e hh => by simp at hh) (by simpa using (by omega : 0 < ats.length))
        subst hg
        obtain ⟨n, hn⟩ : ∃ n, n = ats[j] := ⟨_, rfl⟩
        have hck : wr.cell? ⟨g, off + j, none⟩ = some (.int .i64 n) := by rw [hcell j (by simpa using hlt)]; simp [hn, encI]
        have htk : numsB (ats.take (j + 1)) = numsB (ats.take j) ++ beI n 4 := by rw [List.take_succ_eq_append_getElem hlt, numsB_snoc, hn]
        have hnI := HP.out.2.2.2.1 n (hn ▸ List.getElem_mem hlt)
        have HN := Lib.hid (number_calls _ (textB p ++ beI num 4 ++ beI size 2 ++ numsB (ats.take j)) n 4 wr (by omega) (by simp only [List.length_append, textB_length, beI_length, numsB_length, List.length_take]; have := HP.out.1; omega) hnI.1 hnI.2 (rowSt_row HR.out) HR.out.1)
        have HK := Lib.hid htk
        clear hcell hn htk hnI
        go_wp2_with fail
        refine HN.out.mono ?_
        rintro e w4 hp4
        obtain ⟨v4, rfl, hr4⟩ := rowSt_app HR.out hp4
        rw [List.append_assoc, ← HK.out] at hr4
        have HR4 := Lib.hid hr4
        clear hr4 hp4
        go_wp2_with fail
        go_roundw
        case rel => exact ⟨j + 1, by omega, by go_num, HR4.out⟩
        case measure => simp [intOf]; omega
      · obtain rfl : j = ats.length := by omega
        have hR := HR.out
        rw [List.take_length] at hR
        go_wp2_with fail
        refine bodyPost_ret (results_tmp rfl _ _ _) rfl ?_
        exact ⟨_, rfl, hR.1, hR.2.left⟩
set_option maxHeartbeats 4000000 in
set_option maxRecDepth 100000 in
theorem pinBody_calls (k : UInt8) (p name : Bs) (num : Int) (w : World) (hp : p.length ≤ 255) (hn : name.length ≤ 255) (hnum : I64 num) :
    Calls Tryz.prog 222 #[.agg #[.int .u8 k.toNat, str p, str name, .int .i64 num]] w (NewPost (pinB p name num) w) := by
  obtain ⟨bx, hbx⟩ : ∃ bx, bx = w.heap.size := ⟨_, rfl⟩
  obtain ⟨O, hO⟩ : ∃ O : Obj, O = .cells #[.int .u8 k.toNat, str p, str name, .int .i64 num] 233 (0, 0) := ⟨_, rfl⟩
  have hT0 : Turns [] [(bx, Is O)] w (w.alloc (.cells #[.int .u8 k.toNat, str p, str name, .int .i64 num] 233)) := by rw [← hO, hbx]; exact (Turns.refl (Sat.nil w)).allocIs O
  have HM := Lib.hid (show Tryz.prog.follows .mixedOrders = true by kernel_rfl)
  have HP := Lib.hid (And.intro hp (And.intro hn hnum))
  have HT := Lib.hid (And.intro hT0 hO)
  clear hp hnum hn hT0 hO
  go_enter Tryz.func222, Tryz.ntmps222
  go_wp2_with fail
  rw [← hbx]
  clear hbx
  refine wp_region_chain (A := ?A) (hA := ?hA) HM.out (phiL [fun v => v = .pointer (some ⟨bx, 0, none⟩), fun v => v = .pointer (some ⟨bx, 1, none⟩), fun v => v = str p, fun _ => True, fun v => v = .pointer (some ⟨bx, 2, none⟩), fun v => v = str name, fun _ => True, fun v => v = .pointer (some ⟨bx, 3, none⟩), fun v => v = .int .i64 num, fun _ => True, fun _ => True])
    (fun vs W => match vs with
    | [] => Turns [] [(bx, Is O)] w W
    | [v] => RowSt bx O (textB p) w v W
    | [_, v] => RowSt bx O (textB p ++ textB name) w v W
    | [_, _, v] => RowSt bx O (textB p ++ textB name ++ beI num 4) w v W
    | [_, _, u, v] => v = u ∧ RowSt bx O (textB p ++ textB name ++ beI num 4) w v W
    | _ => False)
    (fun W => W.heap[bx]? = some (.cells #[.int .u8 k.toNat, str p, str name, .int .i64 num] 233 (0, 0))) [3, 6, 9, 10] ?hC (by kernel_rfl) (by kernel_rfl) (by decide) (by decide) ?h0 ?hs ?he
  case hA => intro x; simp only [fillFrom, Act.put, List.setIfInBounds_toArray, List.set_cons_zero, List.set_cons_succ, Nat.reduceAdd]; rfl
  case hs =>
    refine ⟨chain_quiet rfl rfl (fun x wq hd hC K hK hKw => ?_), chain_quiet rfl rfl (fun x wq hd hC K hK hKw => ?_), chain_quiet rfl rfl (fun x wq hd hC K hK hKw => ?_), chain_noisy 0 rfl rfl (fun x wq hd hS K hK => ?_), chain_quiet rfl rfl (fun x wq hd hC K hK hKw => ?_), chain_quiet rfl rfl (fun x wq hd hC K hK hKw => ?_), chain_noisy 1 rfl rfl (fun x wq hd hS K hK => ?_), chain_quiet rfl rfl (fun x wq hd hC K hK hKw => ?_), chain_quiet rfl rfl (fun x wq hd hC K hK hKw => ?_), chain_noisy 2 rfl rfl (fun x wq hd hS K hK => ?_), chain_noisy 3 rfl rfl (fun x wq hd hS K hK => ?_), trivial⟩
    · exact wp_run (by kernel_rfl) (hK _ rfl)
    · have h0 : x 0 = .pointer (some ⟨bx, 0, none⟩) := depsC_get hd 0 (by kernel_rfl)
      exact wp_run (by rw [h0]; kernel_rfl) (hK _ rfl)
    · have h1 : x 1 = .pointer (some ⟨bx, 1, none⟩) := depsC_get hd 1 (by kernel_rfl)
      exact w_load Tryz.underlying9 rfl rfl (by rw [h1]; rfl) (cell_at hC 1 rfl) (hK _ rfl)
    · have h2 : x 2 = str p := depsC_get hd 2 (by kernel_rfl)
      refine wp_calls (by rw [h2]; kernel_rfl) (text_calls (.slice none 0 0) [] p wq (Sat.nil _) bOk_nil (by simp) HP.out.1) ?_
      intro e w3 hp
      obtain ⟨v3, rfl, hr⟩ := rowSt_new hS hp
      exact ⟨_, rfl, hK _ _ trivial hr⟩
    · exact wp_run (by kernel_rfl) (hK _ rfl)
    · have h4 : x 4 = .pointer (some ⟨bx, 2, none⟩) := depsC_get hd 4 (by kernel_rfl)
      exact w_load Tryz.underlying9 rfl rfl (by rw [h4]; rfl) (cell_at hC 2 rfl) (hK _ rfl)
    · have h5 : x 5 = str name := depsC_get hd 5 (by kernel_rfl)
      refine wp_calls (by rw [h5]; kernel_rfl) (text_calls (x 3) (textB p) name wq (rowSt_row hS) hS.1 (by rw [textB_length]; have := HP.out.1; omega) HP.out.2.1) ?_
      intro e w3 hp
      obtain ⟨v3, rfl, hr⟩ := rowSt_app hS hp
      exact ⟨_, rfl, hK _ _ trivial hr⟩
    · exact wp_run (by kernel_rfl) (hK _ rfl)
    · have h7 : x 7 = .pointer (some ⟨bx, 3, none⟩) := depsC_get hd 7 (by kernel_rfl)
      exact w_load Tryz.underlying3 rfl rfl (by rw [h7]; rfl) (cell_at hC 3 rfl) (hK _ rfl)
    · have h8 : x 8 = .int .i64 num := depsC_get hd 8 (by kernel_rfl)
      refine wp_calls (by rw [h8]; kernel_rfl) (number_calls (x 6) (textB p ++ textB name) num 4 wq (by omega) (by rw [List.length_append, textB_length, textB_length]; have := HP.out.1; have := HP.out.2.1; omega) HP.out.2.2.1 HP.out.2.2.2 (rowSt_row hS) hS.1) ?_
      intro e w3 hp
      obtain ⟨v3, rfl, hr⟩ := rowSt_app hS hp
      exact ⟨_, rfl, hK _ _ trivial hr⟩
    · exact wp_run (by kernel_rfl) (hK _ _ trivial ⟨rfl, hS⟩)
  case hC =>
    intro vs W hS
    match vs, hS with
    | [], hT => exact (HT.out.2 ▸ hT.sat.headIs)
    | [_], hT => exact (HT.out.2 ▸ rowSt_box hT)
    | [_, _], hT => exact (HT.out.2 ▸ rowSt_box hT)
    | [_, _, _], hT => exact (HT.out.2 ▸ rowSt_box hT)
    | [_, _, _, _], hT => exact (HT.out.2 ▸ rowSt_box hT.2)
  case h0 => exact HT.out.1.drew
  case he =>
    intro x w3 hφ hS
    obtain ⟨he, hS⟩ := hS
    simp only [he]
    rw [he] at hS
    clear he hφ
    go_wp2_with fail
    refine bodyPost_ret (results_tmp rfl _ _ _) rfl ?_
    exact ⟨_, rfl, hS.1, hS.2.left⟩
set_option maxHeartbeats 4000000 in
set_option maxRecDepth 100000 in
theorem goneBody_calls (k : UInt8) (p : Bs) (sl : Option Addr) (cap : Nat) (ats : List Int) (w : World) (hc : CellsAt w sl (ats.map encI)) (hp : p.length ≤ 255) (hat : ∀ n ∈ ats, I64 n) (hl : ats.length ≤ 100000) :
    Calls Tryz.prog 234 #[.agg #[.int .u8 k.toNat, str p, .slice sl ats.length cap]] w (NewPost (goneB p ats) w) := by
  obtain ⟨bx, hbx⟩ : ∃ bx, bx = w.heap.size := ⟨_, rfl⟩
  obtain ⟨O, hO⟩ : ∃ O : Obj, O = .cells #[.int .u8 k.toNat, str p, .slice sl ats.length cap] 286 (0, 0) := ⟨_, rfl⟩
  have hT0 : Turns [] [(bx, Is O)] w (w.alloc (.cells #[.int .u8 k.toNat, str p, .slice sl ats.length cap] 286)) := by rw [← hO, hbx]; exact (Turns.refl (Sat.nil w)).allocIs O
  have hb0 : w.heap.size = bx := hbx.symm
  have HP := Lib.hid (And.intro hp (And.intro hat hc))
  have HT := Lib.hid (And.intro hT0 hO)
  clear hp hat hc hT0 hO hb0
  go_enter Tryz.func234, Tryz.ntmps234
  go_wp2_with fail
  refine (text_calls (.slice none 0 0) [] p _ (Sat.nil _) bOk_nil (by simp) HP.out.1).mono ?_
  rintro e w3 hp3
  obtain ⟨v3, rfl, hS⟩ := rowSt_new HT.out.1 hp3
  have HS := Lib.hid hS
  have hbo := rowSt_box hS
  rw [HT.out.2] at hbo
  have b2 : w3.cell? ⟨bx, 2, none⟩ = some (.slice sl ats.length cap) := cell_at hbo 2 rfl
  have hbl := lt_of_heap hbo
  rw [← hbx]
  clear hS hbo hp3 hbx
  go_wp2_with fail
  go_loopw [3, 13] (fun v i wr => NumsRel bx O (textB p) ats w v i wr) (fun _ i _ => ats.length - (intOf i).toNat)
  case atStart => exact ⟨0, Nat.zero_le _, rfl, by simpa [numsB] using HS.out⟩
  case round =>
    obtain ⟨j, hj, rfl, hR⟩ := hrel
    have HR := Lib.hid hR
    clear hR
    by_cases hlt : j < ats.length
    · obtain ⟨g, off, hg, hcell⟩ := HP.out.2.2.keep HR.out.2.mods (fun g off e hh => by simp at hh) (by simpa using (by omega : 0 < ats.length))
      subst hg
      obtain ⟨n, hn⟩ : ∃ n, n = ats[j] := ⟨_, rfl⟩
      have hck : wr.cell? ⟨g, off + j, none⟩ = some (.int .i64 n) := by rw [hcell j (by simpa using hlt)]; simp [hn, encI]
      have htk : numsB (ats.take (j + 1)) = numsB (ats.take j) ++ beI n 4 := by rw [List.take_succ_eq_append_getElem hlt, numsB_snoc, hn]
      have hnI := HP.out.2.1 n (hn ▸ List.getElem_mem hlt)
      have HN := Lib.hid (number_calls _ (textB p ++ numsB (ats.take j)) n 4 wr (by omega) (by simp only [List.length_append, textB_length, numsB_length, List.length_take]; have := HP.out.1; omega) hnI.1 hnI.2 (rowSt_row HR.out) HR.out.1)
      have HK := Lib.hid htk
      clear hcell hn htk hnI
      go_wp2_with fail
      refine HN.out.mono ?_
      rintro e w4 hp4
      obtain ⟨v4, rfl, hr4⟩ := rowSt_app HR.out hp4
      rw [List.append_assoc, ← HK.out] at hr4
      have HR4 := Lib.hid hr4
      clear hr4 hp4
      go_wp2_with fail
      go_roundw
      case rel => exact ⟨j + 1, by omega, by go_num, HR4.out⟩
      case measure => simp [intOf]; omega
    · obtain rfl : j = ats.length := by omega
      have hR := HR.out
      rw [List.take_length] at hR
      go_wp2_with fail
      refine bodyPost_ret (results_tmp rfl _ _ _) rfl ?_
      exact ⟨_, rfl, hR.1, hR.2.left⟩
end Go.Proofs.YtdhobpbngkainaaGreatDoor
/-
  Ours. record.Write.
-/
namespace Go.Proofs.YtdhobpbngkainaaGreatDoor
open Go.RowKit

def OfPost (k : UInt8) (w : World) (e : Ending) (w' : World) : Prop := e = .returned (.int .u8 k.toNat) ∧ Same w w'
set_option maxHeartbeats 1000000 in
set_option maxRecDepth 100000 in
theorem headOf_calls (k : UInt8) (p : Bs) (w : World) : Calls Tryz.prog 141 #[.agg #[.int .u8 k.toNat, str p]] w (OfPost k w) := by
  go_enter Tryz.func141, Tryz.ntmps141
  go_wp2_with fail
  refine bodyPost_ret (results_tmp rfl _ _ _) rfl ⟨rfl, (Mods.refl _ w).alloc _⟩
theorem verOf (a b c d e : Value) (w : World) : (Go.method 462 173 (.agg #[a, b, c, d, e]) "Of").run Tryz.prog w = .ok (141, .agg #[a, b]) w := by kernel_rfl
theorem verBody (a b c d e : Value) (w : World) : (Go.method 462 173 (.agg #[a, b, c, d, e]) "versions/record.body").run Tryz.prog w = .ok (217, .agg #[a, b, c, d, e]) w := by kernel_rfl
theorem goneOf (a b c : Value) (w : World) : (Go.method 462 286 (.agg #[a, b, c]) "Of").run Tryz.prog w = .ok (141, .agg #[a, b]) w := by kernel_rfl
theorem goneBody (a b c : Value) (w : World) : (Go.method 462 286 (.agg #[a, b, c]) "versions/record.body").run Tryz.prog w = .ok (234, .agg #[a, b, c]) w := by kernel_rfl
theorem pinOf (a b c d : Value) (w : World) : (Go.method 462 233 (.agg #[a, b, c, d]) "Of").run Tryz.prog w = .ok (141, .agg #[a, b]) w := by kernel_rfl
theorem pinBody (a b c d : Value) (w : World) : (Go.method 462 233 (.agg #[a, b, c, d]) "versions/record.body").run Tryz.prog w = .ok (222, .agg #[a, b, c, d]) w := by kernel_rfl
theorem NewPost.frame {k : UInt8} {body : Bs} {w w1 w2 : World} {v : Value} (hs : Same w w1) (hT : Turns [] (bRow v body) w1 w2) {e : Ending} {w3 : World} (h : NewPost (frame k body) w2 e w3) : NewPost (frame k body) w e w3 := by
  obtain ⟨v', he, hok, hT'⟩ := h
  have h1 : Turns [] [] w w2 := (Turns.same (Sat.nil w) hs).trans (hT.drop (by intro x; simp [cnt]))
  exact ⟨v', he, hok, h1.trans hT'⟩
/-- The body's slice, as it is read. -/
theorem newPost_slice {l : Bs} {w w' : World} {e : Ending} (h : NewPost l w e w') : ∃ av cv, e = .returned (.slice av l.length cv) ∧ CellsAt w' av (l.map enc8) ∧ Turns [] (bRow (.slice av l.length cv) l) w w' := by
  obtain ⟨v', he, hok, hT⟩ := h
  obtain ⟨av, cv, rfl, -, -, hc, -⟩ := own_cells' (bOwns hT.sat hok)
  exact ⟨av, cv, he, hc, hT⟩
set_option maxHeartbeats 1000000 in
set_option maxRecDepth 100000 in
theorem writeVer_calls (k : UInt8) (p : Bs) (num size : Int) (sl : Option Addr) (cap : Nat) (ats : List Int) (w : World) (hc : CellsAt w sl (ats.map encI)) (hp : p.length ≤ 255) (hnum : I64 num) (hsize : I64 size) (hat : ∀ n ∈ ats, I64 n) (hl : ats.length ≤ 100000) :
    Calls Tryz.prog 80 #[.iface 173 (.agg #[.int .u8 k.toNat, str p, .int .i64 num, .int .i64 size, .slice sl ats.length cap])] w (NewPost (frame k (verB p num size ats)) w) := by
  have HB := Lib.hid (fun W (hW : Same w W) => verBody_calls k p num size sl cap ats W (hc.keep hW (fun _ _ _ => id)) hp hnum hsize hat hl)
  have hl0 : (verB p num size ats).length ≤ 1000000 := by simp only [verB, List.length_append, textB_length, beI_length, numsB_length]; omega
  have HL := Lib.hid hl0
  have h1 := fun W => verOf (.int .u8 k.toNat) (str p) (.int .i64 num) (.int .i64 size) (.slice sl ats.length cap) W
  have h2 := fun W => verBody (.int .u8 k.toNat) (str p) (.int .i64 num) (.int .i64 size) (.slice sl ats.length cap) W
  clear hc hp hnum hsize hat hl0
  go_enter Tryz.func80, Tryz.ntmps80
  go_wp2_with fail
  refine (headOf_calls k p _).mono ?_
  rintro e w1 ⟨rfl, hs1⟩
  have HS1 := Lib.hid hs1
  clear hs1
  go_wp2_with fail
  refine (HB.out _ HS1.out).mono ?_
  rintro e w2 hb2
  obtain ⟨av, cv, rfl, hc2, hT2⟩ := newPost_slice hb2
  have H2 := Lib.hid (And.intro hc2 hT2)
  obtain ⟨n2, hn2⟩ : ∃ n2, n2 = (verB p num size ats).length := ⟨_, rfl⟩
  rw [← hn2]
  have HN := Lib.hid hn2
  clear hb2 hc2 hT2 hn2
  go_wp2_with fail
  rw [HN.out]
  refine (Frame_calls k av cv (verB p num size ats) _ H2.out.1 (by have := HL.out; omega)).mono ?_
  rintro e w3 hp3
  have h3 := NewPost.frame HS1.out H2.out.2 hp3
  obtain ⟨v3, rfl, hok3, hT3⟩ := h3
  have H3 := Lib.hid (And.intro hok3 hT3)
  clear hp3 hok3 hT3
  go_wp2_with fail
  refine bodyPost_ret (results_tmp rfl _ _ _) rfl ?_
  exact ⟨_, rfl, H3.out.1, H3.out.2⟩
set_option maxHeartbeats 1000000 in
set_option maxRecDepth 100000 in
theorem writeGone_calls (k : UInt8) (p : Bs) (sl : Option Addr) (cap : Nat) (ats : List Int) (w : World) (hc : CellsAt w sl (ats.map encI)) (hp : p.length ≤ 255) (hat : ∀ n ∈ ats, I64 n) (hl : ats.length ≤ 100000) :
    Calls Tryz.prog 80 #[.iface 286 (.agg #[.int .u8 k.toNat, str p, .slice sl ats.length cap])] w (NewPost (frame k (goneB p ats)) w) := by
  have HB := Lib.hid (fun W (hW : Same w W) => goneBody_calls k p sl cap ats W (hc.keep hW (fun _ _ _ => id)) hp hat hl)
  have hl0 : (goneB p ats).length ≤ 1000000 := by simp only [goneB, List.length_append, textB_length, beI_length, numsB_length]; omega
  have HL := Lib.hid hl0
  have h1 := fun W => goneOf (.int .u8 k.toNat) (str p) (.slice sl ats.length cap) W
  have h2 := fun W => goneBody (.int .u8 k.toNat) (str p) (.slice sl ats.length cap) W
  clear hc hp hat hl0
  go_enter Tryz.func80, Tryz.ntmps80
  go_wp2_with fail
  refine (headOf_calls k p _).mono ?_
  rintro e w1 ⟨rfl, hs1⟩
  have HS1 := Lib.hid hs1
  clear hs1
  go_wp2_with fail
  refine (HB.out _ HS1.out).mono ?_
  rintro e w2 hb2
  obtain ⟨av, cv, rfl, hc2, hT2⟩ := newPost_slice hb2
  have H2 := Lib.hid (And.intro hc2 hT2)
  obtain ⟨n2, hn2⟩ : ∃ n2, n2 = (goneB p ats).length := ⟨_, rfl⟩
  rw [← hn2]
  have HN := Lib.hid hn2
  clear hb2 hc2 hT2 hn2
  go_wp2_with fail
  rw [HN.out]
  refine (Frame_calls k av cv (goneB p ats) _ H2.out.1 (by have := HL.out; omega)).mono ?_
  rintro e w3 hp3
  have h3 := NewPost.frame HS1.out H2.out.2 hp3
  obtain ⟨v3, rfl, hok3, hT3⟩ := h3
  have H3 := Lib.hid (And.intro hok3 hT3)
  clear hp3 hok3 hT3
  go_wp2_with fail
  refine bodyPost_ret (results_tmp rfl _ _ _) rfl ?_
  exact ⟨_, rfl, H3.out.1, H3.out.2⟩
set_option maxHeartbeats 1000000 in
set_option maxRecDepth 100000 in
theorem writePin_calls (k : UInt8) (p name : Bs) (num : Int) (w : World) (hp : p.length ≤ 255) (hn : name.length ≤ 255) (hnum : I64 num) :
    Calls Tryz.prog 80 #[.iface 233 (.agg #[.int .u8 k.toNat, str p, str name, .int .i64 num])] w (NewPost (frame k (pinB p name num)) w) := by
  have HB := Lib.hid (fun W (hW : Same w W) => pinBody_calls k p name num W hp hn hnum)
  have hl0 : (pinB p name num).length ≤ 1000000 := by simp only [pinB, List.length_append, textB_length, beI_length]; omega
  have HL := Lib.hid hl0
  have h1 := fun W => pinOf (.int .u8 k.toNat) (str p) (str name) (.int .i64 num) W
  have h2 := fun W => pinBody (.int .u8 k.toNat) (str p) (str name) (.int .i64 num) W
  clear hp hn hnum hl0
  go_enter Tryz.func80, Tryz.ntmps80
  go_wp2_with fail
  refine (headOf_calls k p _).mono ?_
  rintro e w1 ⟨rfl, hs1⟩
  have HS1 := Lib.hid hs1
  clear hs1
  go_wp2_with fail
  refine (HB.out _ HS1.out).mono ?_
  rintro e w2 hb2
  obtain ⟨av, cv, rfl, hc2, hT2⟩ := newPost_slice hb2
  have H2 := Lib.hid (And.intro hc2 hT2)
  obtain ⟨n2, hn2⟩ : ∃ n2, n2 = (pinB p name num).length := ⟨_, rfl⟩
  rw [← hn2]
  have HN := Lib.hid hn2
  clear hb2 hc2 hT2 hn2
  go_wp2_with fail
  rw [HN.out]
  refine (Frame_calls k av cv (pinB p name num) _ H2.out.1 (by have := HL.out; omega)).mono ?_
  rintro e w3 hp3
  have h3 := NewPost.frame HS1.out H2.out.2 hp3
  obtain ⟨v3, rfl, hok3, hT3⟩ := h3
  have H3 := Lib.hid (And.intro hok3 hT3)
  clear hp3 hok3 hT3
  go_wp2_with fail
  refine bodyPost_ret (results_tmp rfl _ _ _) rfl ?_
  exact ⟨_, rfl, H3.out.1, H3.out.2⟩
end Go.Proofs.YtdhobpbngkainaaGreatDoor
/-
  Ours. versionRecord (the text is printed by wip/genverrec.py).
-/
namespace Go.Proofs.YtdhobpbngkainaaGreatDoor
open Go.RowKit

theorem infoI : (Tryz.prog.info? 3).map (fun i => (i.zero, i.size, i.bytes)) = some (some (.int .i64 0), 1, 8) := by kernel_rfl
def iRow (v : Value) (l : List Int) : HF := rowF 3 1 v l.length (l.map encI)
def iOk (v : Value) (l : List Int) : Prop := RowOk 1 v l.length (l.map encI)
theorem iRow_nil : iRow (.slice none 0 0) [] = [] := rfl
theorem iOk_nil : iOk (.slice none 0 0) [] := ⟨rfl, fun _ => ⟨rfl, rfl⟩⟩
theorem w_append_i {o : Oper} {a : Act} {w a0 : World} {K : Act → World → Prop} {Q : Exit → Act → World → Prop} {F G : HF} (s x : Operand) (hop : o.op = .call { callee := .builtin .append, args := #[s, x], argTypes := #[171, 171] })
    (v : Value) (l : List Int) (hs : a.eval s = v) (hT : Turns F (iRow v l ++ G) a0 w) (hok : iOk v l) (sa : Option Addr) (m c : Nat) (hx : a.eval x = .slice sa m c) (r : List Int) (hm : m = r.length)
    (hc : 0 < m → ∃ ad, sa = some ad ∧ ∀ j u, (r.map encI)[j]? = some u → w.cell? (ad.add j) = some u) (hb : l.length + r.length ≤ 1000000)
    (hk : ∀ av cv w', iOk (.slice av (l ++ r).length cv) (l ++ r) → Turns F (iRow (.slice av (l ++ r).length cv) (l ++ r) ++ G) a0 w' → K (a.put o.dst (.slice av (l ++ r).length cv)) w') : o.wp Tryz.prog a w K Q := by
  obtain ⟨i0, hi0, hz1, hz2, hz3⟩ := info_parts infoI
  refine w_append_row s x 171 3 i0 (.int .i64 0) 1 8 hop Tryz.underlying171 hi0 hz1 hz2 hz3 rfl (by decide) v l.length (l.map encI) hs hT hok sa m c hx (r.map encI) (by simp [hm]) hc (fun u hu => by obtain ⟨y, _, rfl⟩ := List.mem_map.1 hu; rfl) (by unfold maxLen; omega) (by omega) (fun v' w' h1 h2 h3 => ?_)
  have k1 : iOk v' (l ++ r) := by unfold iOk; rw [List.length_append, List.map_append, ← hm]; exact h1
  have k2 : Turns F (iRow v' (l ++ r) ++ G) a0 w' := by unfold iRow; rw [List.length_append, List.map_append, ← hm]; exact h2
  obtain ⟨av, cv, rfl, -, -, -, -⟩ := own_cells' (owns_of_row k2.sat.left k1)
  exact hk av cv w' k1 k2
def recO (k : UInt8) (p : Bs) (num size : Int) (v : Value) : Obj := .cells #[.int .u8 k.toNat, str p, .int .i64 num, .int .i64 size, v] 173 (0, 0)
def atsOf (l : List (Nat × Nat)) : List Int := l.map (fun q => (q.1 : Int))
def VerRecPost (p : Bs) (V : VerL) (w : World) (e : Ending) (w' : World) : Prop :=
  ∃ av cv, e = .returned (.agg #[.int .u8 2, str p, .int .i64 V.num, .int .i64 V.size, .slice av (atsOf V.chs).length cv]) ∧ CellsAt w' av ((atsOf V.chs).map encI) ∧ Same w w'
def VRel (c r : Nat) (p : Bs) (V : VerL) (w : World) (i : Value) (W : World) : Prop :=
  ∃ (k : Nat) (v : Value), k ≤ V.chs.length ∧ i = .int .i64 k ∧ iOk v ((atsOf V.chs).take k) ∧ Turns [] (((c, Is (recO 2 p V.num V.size v)) :: iRow v ((atsOf V.chs).take k)) ++ [(r, Is (recO 0 [] 0 0 (.slice none 0 0)))]) w W
theorem place_cells {w : World} {v : Value} {l : List (Nat × Nat)} (h : Sat w (placeRow v l)) (hok : placeOk v l) : ∃ sl cap, v = .slice sl l.length cap ∧ l.length ≤ cap ∧ cap ≤ 9223372036854775807 ∧ CellsAt w sl (placesV l) := by
  have hown := owns_of_row h hok
  rcases hown.2 with ⟨rfl, h0⟩ | ⟨g, cap, cur, rfl, hbg, hg, hnc, hcm, hcs, htake⟩
  · have hl : l = [] := List.eq_nil_of_length_eq_zero h0
    subst hl
    exact ⟨none, 0, rfl, Nat.le_refl _, by omega, fun h => by simp [placesV] at h⟩
  · refine ⟨some ⟨g, 0, none⟩, cap, rfl, hnc, by unfold maxLen at hcm; omega, fun hp => ⟨g, 0, rfl, fun j hj => ?_⟩⟩
    have := hown.cells (g := g) rfl j _ (List.getElem?_eq_getElem hj)
    rwa [Addr.add_lit] at this
theorem cells_new2 (w : World) (o : Obj) (xs : List Value) (t : TypeId) : ∀ j u, xs[j]? = some u → ((w.alloc o).alloc (.cells xs.toArray t)).cell? ((⟨w.heap.size + 1, 0, none⟩ : Addr).add j) = some u := fun j u hu => by
  have := cells_new (w.alloc o) xs t j u hu
  simpa using this
theorem placesV_length (l : List (Nat × Nat)) : (placesV l).length = 2 * l.length := by
  induction l with
  | nil => rfl
  | cons a r ih => simp only [placesV, List.flatMap_cons, List.length_append, placeV, List.length_cons, List.length_nil] at ih ⊢; omega
theorem placesV_at : ∀ (l : List (Nat × Nat)) (k : Nat) (hk : k < l.length), (placesV l)[2 * k]? = some (.int .i64 l[k].1) ∧ (placesV l)[2 * k + 1]? = some (.int .i64 l[k].2) := by
  intro l
  induction l with
  | nil => intro k hk; simp at hk
  | cons a r ih =>
    intro k hk
    cases k with
    | zero => simp [placesV, placeV]
    | succ k =>
      have := ih k (by simpa using hk)
      simp only [placesV, List.flatMap_cons, placeV] at this ⊢
      rw [show 2 * (k + 1) = 2 * k + 2 by omega, show 2 * k + 2 + 1 = (2 * k + 1) + 2 by omega, List.getElem?_append_right (by simp), List.getElem?_append_right (by simp)]
      simpa using this
theorem place_at {w : World} {g off : Nat} {l : List (Nat × Nat)} (h : ∀ j (h : j < (placesV l).length), w.cell? ⟨g, off + j, none⟩ = some ((placesV l)[j]'h)) {k : Nat} (hk : k < l.length) :
    w.cell? ⟨g, off + k * 2, none⟩ = some (.int .i64 l[k].1) ∧ w.cell? ⟨g, off + k * 2 + 1, none⟩ = some (.int .i64 l[k].2) := by
  obtain ⟨h1, h2⟩ := placesV_at l k hk
  obtain ⟨p1, e1⟩ := List.getElem?_eq_some_iff.1 h1
  obtain ⟨p2, e2⟩ := List.getElem?_eq_some_iff.1 h2
  rw [Nat.add_assoc, Nat.mul_comm k 2]
  exact ⟨by rw [h _ p1, e1], by rw [h _ p2, e2]⟩
set_option maxHeartbeats 4000000 in
set_option maxRecDepth 100000 in
theorem versionRecord_calls (p : Bs) (V : VerL) (w : World) (hV : Sat w (verF V)) (hok : placeOk V.cv V.chs) (hl : V.chs.length ≤ 100000) :
    Calls Tryz.prog 81 #[str p, ptrV V] w (VerRecPost p V w) := by
  obtain ⟨r, hr⟩ : ∃ r, r = w.heap.size := ⟨_, rfl⟩
  obtain ⟨Z, hZ⟩ : ∃ Z : Obj, Z = recO 0 [] 0 0 (.slice none 0 0) := ⟨_, rfl⟩
  have hT0 : Turns [] [(r, Is Z)] w (w.alloc Z) := by rw [hr]; exact (Turns.refl (Sat.nil w)).allocIs Z
  obtain ⟨sl, cap, hcv, hcl, hcm, hcells⟩ := place_cells hV.tail hok
  have HM := Lib.hid (show Tryz.prog.follows .mixedOrders = true by kernel_rfl)
  have HV := Lib.hid (And.intro hV.headIs (And.intro hcells (And.intro hcv hl)))
  have HT := Lib.hid (And.intro hT0 hZ)
  clear hV hok hT0 hZ hcells hcv
  unfold ptrV
  go_enter Tryz.func81, Tryz.ntmps81
  go_wp2_with fail
  rw [← hr]
  have hwe : w.alloc (.cells #[.int .u8 0, .string { data := #[] }, .int .i64 0, .int .i64 0, .slice none 0 0] 173) = w.alloc Z := by rw [HT.out.2]; rfl
  rw [hwe]
  clear hwe hr
  refine wp_region_chain (A := ?A) (hA := ?hA) HM.out (phiL [fun v => v = str p, fun v => v = .agg #[.int .u8 2, str p], fun v => v = .pointer (some ⟨V.blk, 0, none⟩), fun v => v = .pointer (some ⟨V.blk, 0, none⟩), fun v => v = .pointer (some ⟨V.blk, 0, none⟩), fun v => v = .int .i64 V.num, fun v => v = .pointer (some ⟨V.blk, 0, none⟩), fun v => v = .pointer (some ⟨V.blk, 0, none⟩), fun v => v = .pointer (some ⟨V.blk, 1, none⟩), fun v => v = .int .i64 V.size, fun v => v = .agg #[.int .u8 2, str p, .int .i64 V.num, .int .i64 V.size, .slice none 0 0], fun _ => True, fun _ => True])
    (fun vs W => match vs with
    | [] => Turns [] [(r, Is Z)] w W
    | [v] => ∃ c : Nat, v = .pointer (some ⟨c, 0, none⟩) ∧ Turns [] [(c, Is (recO 0 [] 0 0 (.slice none 0 0))), (r, Is Z)] w W
    | [v, _] => ∃ c : Nat, v = .pointer (some ⟨c, 0, none⟩) ∧ Turns [] [(c, Is (recO 2 p V.num V.size (.slice none 0 0))), (r, Is Z)] w W
    | _ => False)
    (fun W => W.heap[V.blk]? = some (verO V)) [11, 12] ?hC (by kernel_rfl) (by kernel_rfl) (by decide) (by decide) ?h0 ?hs ?he
  case hA => intro x; simp only [fillFrom, Act.put, List.setIfInBounds_toArray, List.set_cons_zero, List.set_cons_succ, Nat.reduceAdd]; rfl
  case hs =>
    refine ⟨chain_quiet rfl rfl (fun x wq hd hC K hK hKw => ?_), chain_quiet rfl rfl (fun x wq hd hC K hK hKw => ?_), chain_quiet rfl rfl (fun x wq hd hC K hK hKw => ?_), chain_quiet rfl rfl (fun x wq hd hC K hK hKw => ?_), chain_quiet rfl rfl (fun x wq hd hC K hK hKw => ?_), chain_quiet rfl rfl (fun x wq hd hC K hK hKw => ?_), chain_quiet rfl rfl (fun x wq hd hC K hK hKw => ?_), chain_quiet rfl rfl (fun x wq hd hC K hK hKw => ?_), chain_quiet rfl rfl (fun x wq hd hC K hK hKw => ?_), chain_quiet rfl rfl (fun x wq hd hC K hK hKw => ?_), chain_quiet rfl rfl (fun x wq hd hC K hK hKw => ?_), chain_noisy 0 rfl rfl (fun x wq hd hS K hK => ?_), chain_noisy 1 rfl rfl (fun x wq hd hS K hK => ?_), trivial⟩
    · exact wp_run (by kernel_rfl) (hK _ rfl)
    · have h0 : x 0 = str p := depsC_get hd 0 (by kernel_rfl)
      exact wp_run (by rw [h0]; kernel_rfl) (hK _ rfl)
    · exact wp_run (by kernel_rfl) (hK _ rfl)
    · have h2 : x 2 = .pointer (some ⟨V.blk, 0, none⟩) := depsC_get hd 2 (by kernel_rfl)
      exact wp_run (by rw [h2]; kernel_rfl) (hK _ rfl)
    · have h3 : x 3 = .pointer (some ⟨V.blk, 0, none⟩) := depsC_get hd 3 (by kernel_rfl)
      exact wp_run (by rw [h3]; kernel_rfl) (hK _ rfl)
    · have h4 : x 4 = .pointer (some ⟨V.blk, 0, none⟩) := depsC_get hd 4 (by kernel_rfl)
      exact w_load Tryz.underlying3 rfl rfl (by rw [h4]; rfl) (cell_at hC 0 rfl) (hK _ rfl)
    · exact wp_run (by kernel_rfl) (hK _ rfl)
    · have h6 : x 6 = .pointer (some ⟨V.blk, 0, none⟩) := depsC_get hd 6 (by kernel_rfl)
      exact wp_run (by rw [h6]; kernel_rfl) (hK _ rfl)
    · have h7 : x 7 = .pointer (some ⟨V.blk, 0, none⟩) := depsC_get hd 7 (by kernel_rfl)
      exact wp_run (by rw [h7]; kernel_rfl) (hK _ rfl)
    · have h8 : x 8 = .pointer (some ⟨V.blk, 1, none⟩) := depsC_get hd 8 (by kernel_rfl)
      exact w_load Tryz.underlying3 rfl rfl (by rw [h8]; rfl) (cell_at hC 1 rfl) (hK _ rfl)
    · have h1 : x 1 = .agg #[.int .u8 2, str p] := depsC_get hd 1 (by kernel_rfl)
      have h5 : x 5 = .int .i64 V.num := depsC_get hd 5 (by kernel_rfl)
      have h9 : x 9 = .int .i64 V.size := depsC_get hd 9 (by kernel_rfl)
      exact wp_run (by rw [h1, h5, h9]; kernel_rfl) (hK _ rfl)
    · exact wp_run (by kernel_rfl) (hK _ _ trivial ⟨_, rfl, Turns.allocIs hS (recO 0 [] 0 0 (.slice none 0 0))⟩)
    · have h10 : x 10 = .agg #[.int .u8 2, str p, .int .i64 V.num, .int .i64 V.size, .slice none 0 0] := depsC_get hd 10 (by kernel_rfl)
      obtain ⟨c, ec, hT⟩ := hS
      refine wp_store_mid 173 (.tmp 5) (.tmp 18) rfl c 0 #[.int .u8 2, str p, .int .i64 V.num, .int .i64 V.size, .slice none 0 0] (by rw [ec]; rfl) (by rw [h10]; rfl) (there_of (C := #[.int .u8 0, str [], .int .i64 0, .int .i64 0, .slice none 0 0]) hT.sat.headIs 0 5 (by simp)) (by kernel_rfl) (by simp [Value.oneCell']) ?_
      obtain ⟨q1, q2⟩ := setCells_new hT.sat.headIs [.int .u8 2, str p, .int .i64 V.num, .int .i64 V.size, .slice none 0 0] (by simp)
      exact hK _ _ trivial ⟨c, ec, hT.putIs q2 q1⟩
  case hC =>
    intro vs W hS
    match vs, hS with
    | [], hT => exact hT.news.at HV.out.1 id
    | [_], ⟨c, _, hT⟩ => exact hT.news.at HV.out.1 id
    | [_, _], ⟨c, _, hT⟩ => exact hT.news.at HV.out.1 id
  case h0 => exact HT.out.1.drew
  case he =>
    intro x w3 hφ hS
    obtain ⟨c, ec, hT⟩ := hS
    simp only [ec]
    have HT3 := Lib.hid hT
    have hvo := hT.news.at HV.out.1 id
    have b2 : w3.cell? ⟨V.blk, 2, none⟩ = some (.slice sl V.chs.length cap) := by rw [← HV.out.2.2.1]; exact cell_at hvo 2 rfl
    have hbl := lt_of_heap hvo
    clear hφ hT hvo ec
    go_wp2_with fail
    go_loopw [24] (fun i wr => VRel c r p V w i wr) (fun i _ => V.chs.length - (intOf i).toNat)
    case atStart => exact ⟨0, .slice none 0 0, Nat.zero_le _, rfl, by simpa using iOk_nil, by
      have := HT3.out
      rw [HT.out.2] at this
      simpa [iRow_nil] using this⟩
    case round =>
      obtain ⟨k, v, hk, rfl, hok, hT⟩ := hrel
      have HR := Lib.hid (And.intro hok hT)
      have hrec := hT.sat.headIs
      clear hok hT
      by_cases hlt : k < V.chs.length
      · obtain ⟨g, off, hg, hcell⟩ := HV.out.2.1.keep HR.out.2.mods (fun g off e hh => by simp at hh) (by rw [placesV_length]; omega)
        subst hg
        obtain ⟨hc1, hc2⟩ := place_at hcell hlt
        obtain ⟨q, hq⟩ : ∃ q, q = V.chs[k] := ⟨_, rfl⟩
        rw [← hq] at hc1 hc2
        have c3 : wr.cell? ⟨c, 4, none⟩ = some v := cell_at hrec 4 rfl
        have hcl2 := lt_of_heap hrec
        have HQ := Lib.hid hq
        clear hcell hq
        have hat : (atsOf V.chs).take (k + 1) = (atsOf V.chs).take k ++ [(q.1 : Int)] := by
          rw [List.take_succ_eq_append_getElem (by simp [atsOf]; omega)]
          simp [atsOf, HQ.out]
        have htl : ((atsOf V.chs).take k).length = k := by simp [atsOf]; omega
        have hfr := free_at hrec 4
        have HA := Lib.hid (And.intro hat htl)
        have HTp : Turns [] (iRow v ((atsOf V.chs).take k) ++ [(c, Is (recO 2 p V.num V.size v)), (r, Is (recO 0 [] 0 0 (.slice none 0 0)))]) w wr := HR.out.2.to (perm_of_cnt fun _ => by simp only [cnt_cons, cnt_append, cnt_nil] <;> omega)
        have HT5 := Lib.hid HTp
        clear hat htl hrec HTp
        go_wp2_with ((at_builtin; refine wpList_of_wp rfl ?_; refine w_append_i (.tmp 29) (.tmp 32) rfl v _ rfl ((HT5.out.alloc _).alloc _) HR.out.1 _ 1 1 rfl [(q.1 : Int)] rfl (fun _ => ⟨_, rfl, fun j u hu => cells_new2 _ _ _ _ j u hu⟩) (by rw [HA.out.2]; simp; omega) ?_; intro av cv w5 hok5 hT5; simp only [List.length_append, HA.out.2, List.length_singleton] at hok5 hT5; have hb5 : w5.heap[c]? = some (recO 2 p V.num V.size v) := hT5.sat.memIs (by simp); have c5 := cell_at (v := v) hb5 4 rfl; have f5 := free_at hb5 4; have H5 := Lib.hid (And.intro hok5 (And.intro hT5 hb5)); clear hok5 hT5 hb5 hfr c3 hc1 hc2))
        have hmin : min k (atsOf V.chs).length + 1 = k + 1 := by have := HA.out.2; rw [List.length_take] at this; omega
        rw [hmin]
        refine ⟨⟨k + 1, .slice av (k + 1) cv, by omega, by go_num, by rw [HA.out.1]; exact H5.out.1, ?_⟩, by simp [intOf]; omega⟩
        have hq := (H5.out.2.1.to (H := (c, Is (recO 2 p V.num V.size v)) :: (iRow (.slice av (k + 1) cv) ((atsOf V.chs).take k ++ [(q.1 : Int)]) ++ [(r, Is (recO 0 [] 0 0 (.slice none 0 0)))])) (perm_of_cnt fun _ => by simp only [cnt_cons, cnt_append, cnt_nil] <;> omega)).putIs (o := recO 2 p V.num V.size (.slice av (k + 1) cv)) ((Mods.refl (fun k => k = c) w5).set1 (i := 4) (.slice av (k + 1) cv)) (set_same H5.out.2.2 4 _)
        rw [HA.out.1]
        exact hq.to (perm_of_cnt fun _ => by simp only [cnt_cons, cnt_append, cnt_nil] <;> omega)
      · obtain rfl : k = V.chs.length := by omega
        have c0 : wr.cell? ⟨c, 0, none⟩ = some (.int .u8 2) := cell_at hrec 0 rfl
        have c1 : wr.cell? ⟨c, 1, none⟩ = some (str p) := cell_at hrec 1 rfl
        have c2 : wr.cell? ⟨c, 2, none⟩ = some (.int .i64 V.num) := cell_at hrec 2 rfl
        have c3 : wr.cell? ⟨c, 3, none⟩ = some (.int .i64 V.size) := cell_at hrec 3 rfl
        have c4 : wr.cell? ⟨c, 4, none⟩ = some v := cell_at hrec 4 rfl
        have hrr : wr.heap[r]? = some (recO 0 [] 0 0 (.slice none 0 0)) := HR.out.2.sat.memIs (by simp)
        have hth := there_of (C := #[.int .u8 0, str [], .int .i64 0, .int .i64 0, .slice none 0 0]) hrr 0 5 (by simp)
        have ho1 := HR.out.1
        have hT1 := HR.out.2
        have hle : (atsOf V.chs).take V.chs.length = atsOf V.chs := List.take_of_length_le (by simp [atsOf])
        rw [hle] at ho1 hT1
        have hTi : Turns [] (iRow v (atsOf V.chs) ++ [(c, Is (recO 2 p V.num V.size v)), (r, Is (recO 0 [] 0 0 (.slice none 0 0)))]) w wr := hT1.to (perm_of_cnt fun _ => by simp only [cnt_cons, cnt_append, cnt_nil] <;> omega)
        obtain ⟨av, cv, rfl, -, -, hca, hbl2⟩ := own_cells' (owns_of_row hTi.sat.left ho1)
        obtain ⟨q1, q2⟩ := setCells_new hrr [.int .u8 2, str p, .int .i64 V.num, .int .i64 V.size, .slice av (atsOf V.chs).length cv] (by simp)
        have hse : Same w (wr.setCells r 0 [.int .u8 2, str p, .int .i64 V.num, .int .i64 V.size, .slice av (atsOf V.chs).length cv]) := hTi.news.trans' q2 (fun i hi => .inr (hi ▸ hTi.newLe (by simp)))
        have hck : CellsAt (wr.setCells r 0 [.int .u8 2, str p, .int .i64 V.num, .int .i64 V.size, .slice av (atsOf V.chs).length cv]) av ((atsOf V.chs).map encI) := hca.keep q2 (fun g off e hh => by
          have h1 := hbl2 _ e
          have h2 := hTi.sat.disj (b := g) (by unfold iRow; rw [dom_row]; exact h1)
          exact h2 (by simp [hh]))
        have HF1 := Lib.hid (And.intro q1 (And.intro hse (And.intro hck hth)))
        clear q1 q2 hse hck hth hTi hT1 ho1 hca hbl2 hle hrr hrec
        go_wp2_with ((refine wpList_store_mid rfl 173 (.tmp 4) (.tmp 36) rfl r 0 #[.int .u8 2, str p, .int .i64 V.num, .int .i64 V.size, .slice av (atsOf V.chs).length cv] rfl rfl HF1.out.2.2.2 (by kernel_rfl) (by simp [Value.oneCell']) ?_; simp only [Act.put]))
        refine bodyPost_ret (results_cell_row rfl _ _ r 173 _ (0, 0) _ rfl HF1.out.1 Tryz.underlying173 rfl (by kernel_rfl)) rfl ?_
        exact ⟨av, cv, rfl, HF1.out.2.2.1, HF1.out.2.1⟩
end Go.Proofs.YtdhobpbngkainaaGreatDoor
/-
  Ours. A region that draws its order, whose last noisy operation waits for all others: the facts for the quiet ones need not outlive it. (After XRegion, step by step; printed out of it by a program.)
-/
namespace Go.Proofs.YtdhobpbngkainaaGreatDoor
open Go.RowKit

/-- A set of operations that are done: what they wait for is done, and this one is not. -/
def Unheard (ops : Array Oper) (s : Nat → Option Value) (i : Nat) : Prop :=
  ∃ L : Nat → Prop, (∀ k, s k ≠ none → L k) ∧ (∀ k o', L k → ops[k]? = some o' → ∀ e ∈ o'.after.toList, Region.binds .any e = true → L e.on) ∧ ¬ L i
def stepGoalL (P : Program) (Q : Exit → Act → World → Prop) (ops : Array Oper) (a0 : Act) (φ : Nat → Value → Prop) (J : (Nat → Option Value) → World → Prop) (noisy : List Nat) (i : Nat) (o : Oper) : Prop :=
  ∀ (x : Nat → Value) (s : Nat → Option Value) (w : World), depsOk φ x s noisy o.after.toList → (∀ k v, s k = some v → x k = v) → s i = none → Unheard ops s i → J s w →
    if Region.wanted o (yielded ops (fillFrom x 0 ops.toList a0).tmps) then
      ∀ K : Act → World → Prop, (∀ v w', φ i v → J (if noisy.contains i then updO s i v else s) w' → K ((fillFrom x 0 ops.toList a0).put o.dst v) w') → o.wp P (fillFrom x 0 ops.toList a0) w K Q
    else φ i undef ∧ J (if noisy.contains i then updO s i undef else s) w
def stepsGoalL (P : Program) (Q : Exit → Act → World → Prop) (ops : Array Oper) (a0 : Act) (φ : Nat → Value → Prop) (J : (Nat → Option Value) → World → Prop) (noisy : List Nat) : Nat → List Oper → Prop
  | _, [] => True
  | i, o :: r => stepGoalL P Q ops a0 φ J noisy i o ∧ stepsGoalL P Q ops a0 φ J noisy (i + 1) r
theorem stepsGoalL_at {P : Program} {Q : Exit → Act → World → Prop} {ops : Array Oper} {a0 : Act} {φ : Nat → Value → Prop} {J : (Nat → Option Value) → World → Prop} {noisy : List Nat} :
    ∀ (l : List Oper) (i : Nat), stepsGoalL P Q ops a0 φ J noisy i l → ∀ (j : Nat) (o : Oper), l[j]? = some o → stepGoalL P Q ops a0 φ J noisy (i + j) o := by
  intro l
  induction l with
  | nil => intro i _ j o h; simp at h
  | cons o' r ih =>
    intro i h j o hj
    cases j with
    | zero => simp only [List.getElem?_cons_zero, Option.some.injEq] at hj; subst hj; exact h.1
    | succ j => have := ih _ h.2 j o (by simpa using hj); rwa [Nat.add_right_comm, Nat.add_assoc] at this
theorem stepsGoalL_of {P : Program} {Q : Exit → Act → World → Prop} {ops : Array Oper} {a0 : Act} {φ : Nat → Value → Prop} {J : (Nat → Option Value) → World → Prop} {noisy : List Nat} :
    ∀ (l : List Oper) (i : Nat), (∀ (j : Nat) (o : Oper), l[j]? = some o → stepGoalL P Q ops a0 φ J noisy (i + j) o) → stepsGoalL P Q ops a0 φ J noisy i l := by
  intro l
  induction l with
  | nil => intro i _; trivial
  | cons o r ih =>
    intro i h
    exact ⟨h 0 o rfl, ih (i + 1) (fun j o' hj => by have := h (j + 1) o' (by simpa using hj); rwa [show i + (j + 1) = i + 1 + j by omega] at this)⟩
theorem wpAny_eachL {P : Program} {Q : Exit → Act → World → Prop} {ops : Array Oper} {a0 : Act} (φ : Nat → Value → Prop) (J : (Nat → Option Value) → World → Prop) (noisy : List Nat)
    (hok : eachOk a0.tmps.size 0 ops.toList [] = true) (hsteps : stepsGoalL P Q ops a0 φ J noisy 0 ops.toList)
    (hend : ∀ x w, allPhi φ x 0 ops.size → J (fun k => if k < ops.size ∧ noisy.contains k = true then some (x k) else none) w → Q .normal (fillFrom x 0 ops.toList a0) w) :
    ∀ (fuel : Nat) (listed : Array Bool) (x : Nat → Value) (w : World), listed.size = ops.size → unlisted listed = fuel → (∀ k, listed.getD k false = true → φ k (x k)) → (∀ k o', listed.getD k false = true → ops[k]? = some o' → ∀ e ∈ o'.after.toList, Region.binds .any e = true → listed.getD e.on false = true) → J (listedS noisy listed x) w →
      wpAny P .any ops Q fuel listed (fillFrom x 0 ops.toList a0) w := by
  have hn := (eachOk_nodup ops.toList 0 [] hok).1
  have fin : ∀ (listed : Array Bool) (x : Nat → Value) (w : World), listed.size = ops.size → unlisted listed = 0 → (∀ k, listed.getD k false = true → φ k (x k)) → J (listedS noisy listed x) w → Q .normal (fillFrom x 0 ops.toList a0) w := by
    intro listed x w hs hu hφ hJ
    have hall : ∀ k, listed.getD k false = true ↔ k < ops.size := fun k => by
      rcases Nat.lt_or_ge k listed.size with h' | h'
      · have := unlisted_zero hu h'
        simp only [Array.getD_eq_getD_getElem?, Array.getElem?_eq_getElem h', Option.getD_some] at this ⊢
        exact ⟨fun _ => by omega, fun _ => this⟩
      · simp only [Array.getD_eq_getD_getElem?, Array.getElem?_eq_none h', Option.getD_none]
        exact ⟨fun h => Bool.noConfusion h, fun h => by omega⟩
    refine hend x w (allPhi_of _ _ (fun k _ h2 => hφ k ((hall k).2 (by omega)))) ?_
    have e : listedS noisy listed x = fun k => if k < ops.size ∧ noisy.contains k = true then some (x k) else none := by
      funext k
      unfold listedS
      simp only [hall k]
    rw [← e]; exact hJ
  intro fuel
  induction fuel with
  | zero =>
    intro listed x w hs hu hφ hcl hJ
    refine ⟨?_, fin listed x w hs hu hφ hJ⟩
    apply Classical.byContradiction
    intro hne
    obtain ⟨i, hi⟩ := List.exists_mem_of_ne_nil _ hne
    obtain ⟨h1, h2, _⟩ := ready_mem hi
    have := unlisted_zero hu (i := i) (by omega)
    rw [this] at h2; cases h2
  | succ fuel ih =>
    intro listed x w hs hu hφ hcl hJ
    refine ⟨fun hnil => ?_, fun i hi => ?_⟩
    · obtain ⟨i, hi, hl⟩ := unlisted_pos (listed := listed) (by omega)
      exact absurd hnil (ready_ne hok hs (by omega) hl)
    · obtain ⟨h1, h2, o, ho, hdeps⟩ := ready_mem hi
      have hlt : i < listed.size := by omega
      have hf : listed.getD i false = false := by
        simp only [Array.getD_eq_getD_getElem?, Array.getElem?_eq_getElem hlt, Option.getD_some] at h2 ⊢; exact h2
      have hol : ops.toList[i]? = some o := by simpa using ho
      have hst := stepsGoalL_at ops.toList 0 hsteps i o hol
      rw [Nat.zero_add] at hst
      have hst := hst x (listedS noisy listed x) w (depsOk_of _ (fun e he hb => ⟨hφ _ (hdeps e he hb), fun hc => by unfold listedS; rw [if_pos ⟨hdeps e he hb, hc⟩]⟩)) (fun k v hk => by unfold listedS at hk; split at hk <;> simp_all) (by unfold listedS; rw [if_neg (by simp [hf])]) ⟨fun k => listed.getD k false = true, fun k hk => by
          unfold listedS at hk
          split at hk
          · rename_i h; exact h.1
          · exact absurd rfl hk, hcl, fun h => Bool.false_ne_true (hf.symm.trans h)⟩ hJ
      have hsz' : (listed.setIfInBounds i true).size = ops.size := by simpa using hs
      have hu' : unlisted (listed.setIfInBounds i true) = fuel := by have := unlisted_set h2; omega
      have next : ∀ v w', φ i v → J (if noisy.contains i then updO (listedS noisy listed x) i v else listedS noisy listed x) w' → wpAny P .any ops Q fuel (listed.setIfInBounds i true) ((fillFrom x 0 ops.toList a0).put o.dst v) w' := by
        intro v w' hv hJ'
        rw [fill_upd i v ops.toList 0 a0 o hn (Nat.zero_le _) (by simpa using hol)]
        have hgd : ∀ k, (listed.setIfInBounds i true).getD k false = if k = i then true else listed.getD k false := fun k => by
          simp only [Array.getD_eq_getD_getElem?, Array.getElem?_setIfInBounds]
          by_cases hk : k = i
          · subst hk; simp [hlt]
          · rw [if_neg (Ne.symm hk), if_neg hk]
        refine ih _ _ w' hsz' hu' (fun k hk => ?_) (fun k o' hk ho' e he hb => ?_) ?_
        · rw [hgd k] at hk
          by_cases hki : k = i
          · subst hki; rw [if_pos rfl]; exact hv
          · rw [if_neg hki] at hk ⊢; exact hφ k hk
        · rw [hgd] at hk ⊢
          by_cases hei : e.on = i
          · rw [if_pos hei]
          · rw [if_neg hei]
            by_cases hki : k = i
            · subst hki
              have : o' = o := by rw [ho] at ho'; exact (Option.some.inj ho').symm
              subst this
              exact hdeps e he hb
            · rw [if_neg hki] at hk
              exact hcl k o' hk ho' e he hb
        · have e : listedS noisy (listed.setIfInBounds i true) (fun j => if j = i then v else x j) = (if noisy.contains i then updO (listedS noisy listed x) i v else listedS noisy listed x) := by
            funext k
            unfold listedS
            rw [hgd k]
            by_cases hki : k = i
            · subst hki
              cases hc : noisy.contains k with
              | true => simp only [if_true, and_self, updO, ↓reduceIte]
              | false => simp only [if_true, Bool.false_eq_true, and_false, if_false, ↓reduceIte, hc]
            · simp only [if_neg hki]
              cases hc : noisy.contains i with
              | true => simp only [if_true, updO, if_neg hki, ↓reduceIte]
              | false => simp only [Bool.false_eq_true, if_false, ↓reduceIte]
          rw [e]; exact hJ'
      unfold wpOp
      rw [ho]
      simp only
      split
      · rename_i hw
        rw [if_pos hw] at hst
        exact .inl (hst _ next)
      · rename_i hw
        rw [if_neg hw] at hst
        exact next undef w hst.1 hst.2
theorem any_region_eachL {P : Program} {Q : Exit → Act → World → Prop} {ops : Array Oper} {a0 : Act} {w : World} (φ : Nat → Value → Prop) (J : (Nat → Option Value) → World → Prop) (noisy : List Nat)
    (hok : eachOk a0.tmps.size 0 ops.toList [] = true) (h0 : J (fun _ => none) w.drew) (hsteps : stepsGoalL P Q ops a0 φ J noisy 0 ops.toList)
    (hend : ∀ x w, allPhi φ x 0 ops.size → J (fun k => if k < ops.size ∧ noisy.contains k = true then some (x k) else none) w → Q .normal (fillFrom x 0 ops.toList a0) w) :
    wpAny P .any ops Q ops.size (Array.replicate ops.size false) a0 w.drew := by
  have hx : ∃ x : Nat → Value, fillFrom x 0 ops.toList a0 = a0 := by
    -- the slots as they are
    have key : ∀ (l : List Oper) (k : Nat) (x : Nat → Value), (∀ j o d, l[j]? = some o → o.dst = some d → d < a0.tmps.size → x (k + j) = a0.tmps.getD d undef) → fillFrom x k l a0 = a0 := by
      intro l
      induction l with
      | nil => intro k x _; rfl
      | cons o r ih =>
        intro k x h
        simp only [fillFrom]
        have e : a0.put o.dst (x k) = a0 := by
          cases hd : o.dst with
          | none => rfl
          | some d =>
            simp only [Act.put]
            by_cases hlt : d < a0.tmps.size
            · have := h 0 o d (by simp) hd hlt
              rw [Nat.add_zero] at this
              rw [this]
              obtain ⟨t, df⟩ := a0
              simp only [Act.mk.injEq, and_true]
              have hlt' : d < t.size := hlt
              apply Array.ext_getElem?
              intro j
              rw [Array.getElem?_setIfInBounds]
              by_cases hj : d = j
              · subst hj; simp [hlt']
              · rw [if_neg hj]
            · obtain ⟨t, df⟩ := a0
              simp only [Act.mk.injEq, and_true]
              have hle : t.size ≤ d := Nat.le_of_not_lt hlt
              exact Array.setIfInBounds_eq_of_size_le hle
        rw [e]
        exact ih (k + 1) x (fun j o' d hj hd hl => by have := h (j + 1) o' d (by simpa using hj) hd hl; rwa [show k + (j + 1) = k + 1 + j by omega] at this)
    refine ⟨fun j => ((ops.toList[j]?).bind (·.dst)).elim undef (fun d => a0.tmps.getD d undef), key ops.toList 0 _ (fun j o d hj hd _ => ?_)⟩
    simp [hj, hd] <;> simp_all
  obtain ⟨x, hx⟩ := hx
  have h := wpAny_eachL (P := P) (Q := Q) φ J noisy hok hsteps hend ops.size (Array.replicate ops.size false) x w.drew (by simp) (unlisted_fresh _) (fun k hk => by
      simp only [Array.getD_eq_getD_getElem?, Array.getElem?_replicate] at hk
      split at hk <;> simp at hk) (fun k o' hk => by
      simp only [Array.getD_eq_getD_getElem?, Array.getElem?_replicate] at hk
      split at hk <;> simp at hk) (by
      have e : listedS noisy (Array.replicate ops.size false) x = fun _ => none := by
        funext k
        unfold listedS
        rw [if_neg]
        simp only [Array.getD_eq_getD_getElem?, Array.getElem?_replicate]
        split <;> simp
      rw [e]; exact h0)
  rw [hx] at h
  exact h

theorem wp_region_eachL {P : Program} {Q : Exit → Act → World → Prop} {id : Nat} {ops : Array Oper} {a0 : Act} {w : World} (hm : P.follows .mixedOrders = true) (φ : Nat → Value → Prop) (J : (Nat → Option Value) → World → Prop) (noisy : List Nat)
    (hok : eachOk a0.tmps.size 0 ops.toList [] = true) (h0 : J (fun _ => none) w.drew) (hsteps : stepsGoalL P Q ops a0 φ J noisy 0 ops.toList)
    (hend : ∀ x w, allPhi φ x 0 ops.size → J (fun k => if k < ops.size ∧ noisy.contains k = true then some (x k) else none) w → Q .normal (fillFrom x 0 ops.toList a0) w) :
    (Code.region id ops true).wp P Q a0 w :=
  wp_region_any hm (any_region_eachL φ J noisy hok h0 hsteps hend)

def depsOf (ops : Array Oper) (S : List Nat) : List Nat := S.flatMap fun k => match ops[k]? with | some o => (o.after.toList.filter (Region.binds .any)).map (·.on) | none => []
def reach (ops : Array Oper) : Nat → List Nat → List Nat
  | 0, S => S
  | n + 1, S => S ++ reach ops n (depsOf ops S)
theorem reach_in {ops : Array Oper} {L : Nat → Prop} (hL : ∀ k o', L k → ops[k]? = some o' → ∀ e ∈ o'.after.toList, Region.binds .any e = true → L e.on) : ∀ (n : Nat) (S : List Nat), (∀ k ∈ S, L k) → ∀ k ∈ reach ops n S, L k := by
  intro n
  induction n with
  | zero => intro S h; exact h
  | succ n ih =>
    intro S h k hk
    simp only [reach, List.mem_append] at hk
    rcases hk with hk | hk
    · exact h k hk
    · refine ih _ (fun j hj => ?_) k hk
      unfold depsOf at hj
      obtain ⟨q, hq, hj⟩ := List.mem_flatMap.1 hj
      cases ho : ops[q]? with
      | none => rw [ho] at hj; simp at hj
      | some o =>
        rw [ho] at hj
        obtain ⟨e, he, rfl⟩ := List.mem_map.1 hj
        obtain ⟨he1, he2⟩ := List.mem_filter.1 he
        exact hL q o (h q hq) ho e he1 he2
/-- The last of them waits for all that are not noisy (through others, too). -/
def lastOk (ops : Array Oper) (ns : List Nat) : Bool :=
  match ns.getLast? with
  | none => false
  | some l => (List.range ops.size).all fun i => ns.contains i || (reach ops 3 [l]).contains i
theorem lastOk_lt {ops : Array Oper} {ns : List Nat} {s : Nat → Option Value} {vs : List Value} {i : Nat} {o : Oper} (h : lastOk ops ns = true) (hvl : vs.length ≤ ns.length) (hvs : ∀ (j i : Nat), ns[j]? = some i → s i = vs[j]?) (hni : ¬ i ∈ ns) (ho : ops.toList[i]? = some o)
    (hcl : Unheard ops s i) : vs.length < ns.length := by
  rcases Nat.lt_or_ge vs.length ns.length with h' | h'
  · exact h'
  exfalso
  unfold lastOk at h
  obtain ⟨L, hs0, hL, hi0⟩ := hcl
  cases hl : ns.getLast? with
  | none => rw [hl] at h; cases h
  | some l =>
    rw [hl] at h
    simp only [List.all_eq_true, List.mem_range] at h
    have hil : i < ops.size := by
      have := (List.getElem?_eq_some_iff.1 ho).1
      simpa using this
    have h2 := h i hil
    have hnc : ns.contains i = false := by
      cases hc : ns.contains i with
      | false => rfl
      | true => exact absurd (List.contains_iff_mem.1 hc) hni
    rw [hnc, Bool.false_or] at h2
    have hne : ns ≠ [] := by rintro rfl; cases hl
    have hlast : ns[ns.length - 1]? = some l := by rw [← List.getLast?_eq_getElem?]; exact hl
    have hs := hvs _ _ hlast
    have hpos : 0 < ns.length := List.length_pos_iff.2 hne
    have hsome : s l ≠ none := by
      rw [hs, List.getElem?_eq_getElem (by omega)]
      simp
    exact hi0 (reach_in hL 3 [l] (fun k hk => by simp only [List.mem_singleton] at hk; subst hk; exact hs0 _ hsome) i (List.contains_iff_mem.1 h2))
theorem any_region_chainL {P : Program} {Q : Exit → Act → World → Prop} {ops : Array Oper} {a0 : Act} {w : World} (A : (Nat → Value) → Act) (hA : ∀ x, fillFrom x 0 ops.toList a0 = A x) 
    (φ : Nat → Value → Prop) (St : List Value → World → Prop) (C : World → Prop) (ns : List Nat) (hC : ∀ vs w, vs.length < ns.length → St vs w → C w)
    (hok : eachOk a0.tmps.size 0 ops.toList [] = true) (hch : chainOk ops ns = true) (hlo : lastOk ops ns = true) (hnd : ns.Nodup) (hlt : ∀ i ∈ ns, i < ops.size) (h0 : St [] w.drew) (hsteps : chainGoals P Q ops A φ St C ns 0 ops.toList)
    (hend : ∀ x w, allPhi φ x 0 ops.size → St (ns.map x) w → Q .normal (A x) w) :
    wpAny P .any ops Q ops.size (Array.replicate ops.size false) a0 w.drew := by
  let J : (Nat → Option Value) → World → Prop := fun s w => ∃ vs : List Value, vs.length ≤ ns.length ∧ (∀ (j i : Nat), ns[j]? = some i → s i = vs[j]?) ∧ St vs w
  refine any_region_eachL φ J ns hok ⟨[], by simp, fun j i _ => by simp, h0⟩ (stepsGoalL_of _ _ (fun i o ho => ?_)) (fun x w hφ hJ => ?_)
  · rw [Nat.zero_add]
    have hg := chainGoals_at ops.toList 0 hsteps i o ho
    rw [Nat.zero_add] at hg
    intro x s w hd hsx hs hclo hJ
    obtain ⟨hd', hdn⟩ := depsC_of _ hd
    obtain ⟨vs, hvl, hvs, hSt⟩ := hJ
    rw [hA]
    unfold chainGoal at hg
    cases hi : ns.idxOf? i with
    | none =>
      rw [hi] at hg
      have hni := idxOf_none hi
      have hvlt : vs.length < ns.length := lastOk_lt hlo hvl hvs (by rw [← List.contains_iff_mem]; simpa using hni) ho hclo
      have hg := hg x w hd' (hC _ _ hvlt hSt)
      split
      · rename_i hw
        rw [if_pos hw] at hg
        intro K hK
        refine hg K (fun v hv => hK v w hv ?_) (fun v w' hv hst => hK v w' hv ?_)
        · rw [hni]; exact ⟨vs, hvl, hvs, hSt⟩
        · rw [hni]; exact ⟨vs, hvl, hvs, hst _ hSt⟩
      · rename_i hw
        rw [if_neg hw] at hg
        refine ⟨hg, ?_⟩
        rw [hni]; exact ⟨vs, hvl, hvs, hSt⟩
    | some j =>
      rw [hi] at hg
      have hji := idxOf_some hi
      have hjl : j < ns.length := (List.getElem?_eq_some_iff.1 hji).1
      have hci : ns.contains i = true := by rw [List.contains_iff_mem]; exact List.mem_of_getElem? hji
      -- so many values are there
      have hle : vs.length ≤ j := by
        rcases Nat.lt_or_ge j vs.length with h' | h'
        · have := hvs j i hji
          rw [hs, List.getElem?_eq_getElem h'] at this; cases this
        · exact h'
      have hge : j ≤ vs.length := by
        cases j with
        | zero => exact Nat.zero_le _
        | succ j =>
          have hj' : j < ns.length := by omega
          have ha : ns[j]? = some ns[j] := List.getElem?_eq_getElem hj'
          obtain ⟨o', e, ho', he, hb, hon⟩ := chainOk_at ns hch j _ i ha hji
          have : o' = o := by
            have h1 : ops[i]? = some o := by simpa using ho
            rw [h1] at ho'; exact (Option.some.inj ho').symm
          subst this
          have hsn := hdn e he hb (by rw [hon, List.contains_iff_mem]; exact List.getElem_mem hj')
          have := hvs j _ ha
          rw [← hon, hsn] at this
          have := (List.getElem?_eq_some_iff.1 this.symm).1
          omega
      have hlen : vs.length = j := by omega
      have hx' : vs = valsAt ns x j := by
        apply List.ext_getElem?
        intro k
        unfold valsAt
        rw [List.getElem?_map, List.getElem?_take]
        rcases Nat.lt_or_ge k j with hk | hk
        · rw [if_pos hk]
          have hkn : k < ns.length := by omega
          rw [List.getElem?_eq_getElem hkn]
          have := hvs k _ (List.getElem?_eq_getElem hkn)
          have hkv : k < vs.length := by omega
          rw [List.getElem?_eq_getElem hkv] at this ⊢
          simp [hsx _ _ this]
        · rw [if_neg (by omega), List.getElem?_eq_none (by omega)]; rfl
      rw [hx'] at hSt
      have hg := hg x w hd' hSt
      have next : ∀ v, (∀ (j' i' : Nat), ns[j']? = some i' → updO s i v i' = (valsAt ns x j ++ [v])[j']?) := by
        intro v j' i' hj'
        rw [← hx']
        have hj'l : j' < ns.length := (List.getElem?_eq_some_iff.1 hj').1
        unfold updO
        rcases Nat.lt_trichotomy j' j with h1 | h1 | h1
        · rw [if_neg (fun e => by
            subst e
            have := nodup_at hnd hj' hji
            omega), hvs j' i' hj', List.getElem?_append_left (by omega)]
        · subst h1
          rw [hji] at hj'
          simp only [Option.some.injEq] at hj'
          rw [if_pos hj'.symm, List.getElem?_append_right (by omega), hlen, Nat.sub_self]; rfl
        · rw [if_neg (fun e => by
            subst e
            have := nodup_at hnd hj' hji
            omega), hvs j' i' hj', List.getElem?_eq_none (by omega), List.getElem?_eq_none (by simp; omega)]
      have hl' : ∀ v : Value, (valsAt ns x j ++ [v]).length ≤ ns.length := fun v => by rw [← hx']; simp; omega
      split
      · rename_i hw
        rw [if_pos hw] at hg
        intro K hK
        exact hg K (fun v w' hv hst => hK v w' hv ⟨_, hl' v, next v, hst⟩)
      · rename_i hw
        rw [if_neg hw] at hg
        refine ⟨hg.1, ?_⟩
        exact ⟨_, hl' _, next _, hg.2⟩
  · rw [hA]
    refine hend x w hφ ?_
    obtain ⟨vs, hvl, hvs, hSt⟩ := hJ
    have e : vs = ns.map x := by
      apply List.ext_getElem?
      intro k
      rw [List.getElem?_map]
      rcases Nat.lt_or_ge k ns.length with hk | hk
      · have := hvs k _ (List.getElem?_eq_getElem hk)
        simp only at this
        rw [if_pos ⟨hlt _ (List.getElem_mem hk), by rw [List.contains_iff_mem]; exact List.getElem_mem hk⟩] at this
        rw [← this, List.getElem?_eq_getElem hk]; rfl
      · rw [List.getElem?_eq_none (by omega), List.getElem?_eq_none hk]; rfl
    rw [← e]; exact hSt

theorem wp_region_chainL {P : Program} {Q : Exit → Act → World → Prop} {id : Nat} {ops : Array Oper} {a0 : Act} {w : World} (A : (Nat → Value) → Act) (hA : ∀ x, fillFrom x 0 ops.toList a0 = A x) (hm : P.follows .mixedOrders = true)
    (φ : Nat → Value → Prop) (St : List Value → World → Prop) (C : World → Prop) (ns : List Nat) (hC : ∀ vs w, vs.length < ns.length → St vs w → C w)
    (hok : eachOk a0.tmps.size 0 ops.toList [] = true) (hch : chainOk ops ns = true) (hlo : lastOk ops ns = true) (hnd : ns.Nodup) (hlt : ∀ i ∈ ns, i < ops.size) (h0 : St [] w.drew) (hsteps : chainGoals P Q ops A φ St C ns 0 ops.toList)
    (hend : ∀ x w, allPhi φ x 0 ops.size → St (ns.map x) w → Q .normal (A x) w) :
    (Code.region id ops true).wp P Q a0 w :=
  wp_region_any hm (any_region_chainL A hA φ St C ns hC hok hch hlo hnd hlt h0 hsteps hend)

end Go.Proofs.YtdhobpbngkainaaGreatDoor
