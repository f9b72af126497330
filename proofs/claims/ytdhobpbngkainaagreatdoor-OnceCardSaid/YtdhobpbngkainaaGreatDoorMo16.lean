/-
  Ours. Put: it adds a version, or answers why not, and nothing is turned (the text is printed by wip/genput.py).
-/
import Derived.Test.YtdhobpbngkainaaGreatDoorMo15
import Derived.Test.YtdhobpbngkainaaGreatDoorMo11
import Derived.Test.YtdhobpbngkainaaGreatDoorMo12
import Derived.Test.YtdhobpbngkainaaGreatDoorMo07
namespace Go.Proofs.YtdhobpbngkainaaGreatDoor
open Go.RowKit Go.Maps Go.Shelf

theorem put_err (S : AS) (l D : Bs) (b : Nat) (w W : World) (B6 B7 B3 a : Nat) (n : Int) (tmps : Array Value) (h6 : tmps.getD 6 undef = .pointer (some ⟨B6, 0, none⟩)) (h7 : tmps.getD 7 undef = .pointer (some ⟨B7, 0, none⟩)) (ev : Value) (hev : ev = errV n)
    (hT : Turns (arF S) ((B7, Is (errO .nilIface)) :: (B6, Is (intO 0)) :: (B3, Is (boxA a)) :: arF S) w W)
    (hp : ((S.X.closed = true ∧ n = 9) ∨ (S.X.closed = false ∧ isPathB l = false ∧ n = 1) ∨ (S.X.closed = false ∧ isPathB l = true ∧ 4000 < D.length ∧ n = 2) ∨
     (S.X.closed = false ∧ isPathB l = true ∧ D.length ≤ 4000 ∧ S.X.quota < S.X.used + D.length ∧ n = 7))) :
    bodyPostM Fence.wide 3 Tryz.prog Tryz.f25 (PutPost S l D b w) .ret { tmps := tmps, defers := [] } ((W.setCell ⟨B6, 0, none⟩ (.int .i64 0)).setCell ⟨B7, 0, none⟩ ev) := by
  subst hev
  have q1 := hT.to (H := (B6, Is (intO 0)) :: (B7, Is (errO .nilIface)) :: (B3, Is (boxA a)) :: arF S) (List.Perm.swap _ _ _)
  have q2 := q1.putIs (o := intO 0) ((Mods.refl (fun k => k = B6) W).set1 (i := 0) (.int .i64 0)) (set_same q1.sat.headIs 0 (.int .i64 0))
  have q3 := q2.to (H := (B7, Is (errO .nilIface)) :: (B6, Is (intO 0)) :: (B3, Is (boxA a)) :: arF S) (List.Perm.swap _ _ _)
  have q4 := q3.putIs (o := errO (errV n)) ((Mods.refl (fun k => k = B7) _).set1 (i := 0) (errV n)) (set_same q3.sat.headIs 0 (errV n))
  have c6 := q4.sat.memIs (b := B6) (o := intO 0) (by simp)
  refine ⟨_, results_cells2 rfl tmps _ B6 B7 (.int .i64 0) (errV n) Tryz.underlying3 rfl Tryz.underlying45 rfl h6 h7 (cell_at c6 0 rfl) (cell_at q4.sat.headIs 0 rfl), .inl ⟨n, rfl, q4.drop (fun _ => by simp only [cnt_cons, cnt_append, cnt_nil] <;> omega), hp⟩⟩
set_option maxHeartbeats 4000000 in
set_option maxRecDepth 100000 in
theorem Put_calls (S : AS) (l D : Bs) (sl : Option Addr) (cap b : Nat) (w : World) (h : Sat w (arF S)) (hok : ArOk S) (hB : ArB S b) (hb : b ≤ 90000)
    (hD : CellsAt w sl (D.map enc8)) (hcap : D.length ≤ cap) (hdl : D.length ≤ 1099511627776) (hsl : ∀ x, sl = some x → x.block ∉ dom (arF S)) (hl : l.length ≤ 9223372036854775807) (hq : -4611686018427387904 ≤ S.X.quota) :
    Calls Tryz.prog 25 #[.pointer (some ⟨S.a, 0, none⟩), str l, .slice sl D.length cap] w (PutPost S l D b w) := by
  obtain ⟨a, ha⟩ : ∃ a, a = S.a := ⟨_, rfl⟩
  obtain ⟨X, hX⟩ : ∃ X, X = S.X := ⟨_, rfl⟩
  have hao : w.heap[a]? = some (archO X) := by rw [ha, hX]; exact h.headIs
  have hal := lt_of_heap hao
  obtain ⟨B3, hB3⟩ : ∃ B3, B3 = w.heap.size := ⟨_, rfl⟩
  obtain ⟨B6, hB6⟩ : ∃ B6, B6 = w.heap.size + 1 := ⟨_, rfl⟩
  obtain ⟨B7, hB7⟩ : ∃ B7, B7 = w.heap.size + 2 := ⟨_, rfl⟩
  have HB := Lib.hid (fun W (hW : Same w W) (hc : W.cell? ⟨w.heap.size + 3, 0, none⟩ = some (str l)) => begin_calls a X (some ⟨w.heap.size + 3, 0, none⟩) 1 [l] W (hW.at hao id) (fun _ => ⟨_, _, rfl, fun j hj => by
    obtain rfl : j = 0 := by simp at hj; omega
    exact hc⟩) (by simp))
  have HM := Lib.hid (show Tryz.prog.follows .mixedOrders = true by kernel_rfl)
  obtain ⟨w0, hw0⟩ : ∃ w0, w0 = ((w.alloc (boxA a)).alloc (intO 0)).alloc (errO .nilIface) := ⟨_, rfl⟩
  have hT0 : Turns (arF S) ((B7, Is (errO .nilIface)) :: (B6, Is (intO 0)) :: (B3, Is (boxA a)) :: arF S) w w0 := by
    have := (((Turns.refl h).allocIs (boxA a)).allocIs (intO 0)).allocIs (errO .nilIface)
    simp only [World.size_alloc] at this
    rw [hB3, hB6, hB7, hw0]
    exact this
  rw [← ha]
  have HH := Lib.hid (And.intro h (And.intro hok (And.intro hB (And.intro hb (And.intro hD (And.intro hcap (And.intro hdl (And.intro hsl (And.intro hl (And.intro hT0 (And.intro ha (And.intro hX (And.intro hao (And.intro hq hw0))))))))))))))
  clear h hok hB hb hD hcap hsl hl hT0 ha hX hao hq
  refine (callsIn_wide (n := 3)).1 ?_
  refine callsIn_of_wp_marks Tryz.func25 rfl trivial ?_ rfl
  simp only [Tryz.ntmps25, List.size_toArray, List.length_cons, List.length_nil, Nat.reduceAdd, Nat.reduceSub, Array.replicate_succ, Array.replicate_zero, List.push_toArray, List.append_toArray, List.nil_append, List.cons_append]
  refine wpIn_wide.2 ?_
  go_wp2_with fail
  refine (HB.out _ ((((Mods.refl _ w).alloc _).alloc _).alloc _ |>.alloc _) (by
    have := cell_at (alloc_new (((w.alloc (boxA a)).alloc (intO 0)).alloc (errO .nilIface)) (.cells #[str l] 9)) 0 (v := str l) rfl
    simp only [World.size_alloc] at this
    exact this)).mono ?_
  rintro e w1 ⟨rfl, hs1⟩
  obtain ⟨cl, hcl⟩ : ∃ cl, cl = X.closed := ⟨_, rfl⟩
  obtain ⟨pb, hpb⟩ : ∃ pb, pb = isPathB l := ⟨_, rfl⟩
  have e1 : ([l].all isPathB) = pb := by simp [hpb]
  rw [e1, ← hcl]
  have hT1 : Turns (arF S) ((B7, Is (errO .nilIface)) :: (B6, Is (intO 0)) :: (B3, Is (boxA a)) :: arF S) w w1 := by
    have := (HH.out.2.2.2.2.2.2.2.2.2.1.alloc (.cells #[str l] 9))
    rw [HH.out.2.2.2.2.2.2.2.2.2.2.2.2.2.2] at this
    exact this.thenSame hs1
  have hb6 := hT1.sat.memIs (b := B6) (o := intO 0) (by simp)
  have hb7 := hT1.sat.memIs (b := B7) (o := errO .nilIface) (by simp)
  have c6 : w1.cell? ⟨B6, 0, none⟩ = some (.int .i64 0) := cell_at hb6 0 rfl
  have c7 : w1.cell? ⟨B7, 0, none⟩ = some .nilIface := cell_at hb7 0 rfl
  have f6 := free_at hb6 0
  have f7 := free_at hb7 0
  rw [show w.heap.size + 1 + 1 = w.heap.size + 2 from rfl, ← hB7, ← hB6, ← hB3]
  have h67 : ¬ B6 = B7 := by omega
  have h76 : ¬ B7 = B6 := by omega
  have HE := Lib.hid (fun (W : World) (n : Int) (tmps : Array Value) (h6 : tmps.getD 6 undef = .pointer (some ⟨B6, 0, none⟩)) (h7 : tmps.getD 7 undef = .pointer (some ⟨B7, 0, none⟩)) (ev : Value) (hev : ev = errV n) (hT : Turns (arF S) ((B7, Is (errO .nilIface)) :: (B6, Is (intO 0)) :: (B3, Is (boxA a)) :: arF S) w W)
      (hp : ((S.X.closed = true ∧ n = 9) ∨ (S.X.closed = false ∧ isPathB l = false ∧ n = 1) ∨ (S.X.closed = false ∧ isPathB l = true ∧ 4000 < D.length ∧ n = 2) ∨
     (S.X.closed = false ∧ isPathB l = true ∧ D.length ≤ 4000 ∧ S.X.quota < S.X.used + D.length ∧ n = 7))) => put_err S l D b w W B6 B7 B3 a n tmps h6 h7 ev hev hT hp)
  have HD := Lib.hid (And.intro hcl (And.intro hpb hT1))
  clear hcl hpb hT1 hb6 hb7 hs1 e1 hw0 hB3 hB6 hB7 hal
  cases cl with
  | true =>
    simp only [if_true]
    unfold errV
    go_wp2_with fail
    refine HE.out _ 9 _ rfl rfl _ rfl HD.out.2.2 (.inl ⟨?_, rfl⟩)
    rw [← HH.out.2.2.2.2.2.2.2.2.2.2.2.1]; exact HD.out.1.symm
  | false =>
    cases pb with
    | false =>
      simp only [Bool.false_eq_true, if_false]
      unfold errV
      go_wp2_with fail
      refine HE.out _ 1 _ rfl rfl _ rfl HD.out.2.2 (.inr (.inl ⟨?_, HD.out.2.1.symm, rfl⟩))
      rw [← HH.out.2.2.2.2.2.2.2.2.2.2.2.1]; exact HD.out.1.symm
    | true =>
      simp only [Bool.false_eq_true, if_false, if_true]
      have hcl2 : S.X.closed = false := by rw [← HH.out.2.2.2.2.2.2.2.2.2.2.2.1]; exact HD.out.1.symm
      have hll : l.length ≤ 20 := by
        have h2 := HD.out.2.1.symm
        unfold isPathB at h2
        simp only [Bool.and_eq_true, decide_eq_true_eq] at h2
        exact h2.1.2
      by_cases hbig : 4000 < D.length
      · have HG := Lib.hid hcl2
        clear hcl2
        go_wp2_with fail
        refine HE.out _ 2 _ rfl rfl _ rfl HD.out.2.2 (.inr (.inr (.inl ⟨HG.out, HD.out.2.1.symm, hbig, rfl⟩)))
      · have HG := Lib.hid hcl2
        clear hcl2
        go_wp2_with fail
        refine put6 (arF S) ((B7, Is (errO .nilIface)) :: (B6, Is (intO 0)) :: (areaF S.X.ab S.X.d S.A ++ (devF S.X.d S.L ++ (pathsF S.X.pm S.ps S.pc ++ (tagsF S.X.tm S.ts S.tc ++ chunksF S.X.cm S.cs S.cc))))) w B3 a D.length X sl cap ?_ ?_ hdl ?_
        · have h := HD.out.2.2
          rw [HH.out.2.2.2.2.2.2.2.2.2.2.1, HH.out.2.2.2.2.2.2.2.2.2.2.2.1]
          unfold arF at h ⊢
          rw [HH.out.2.2.2.2.2.2.2.2.2.2.1] at h
          exact h.to (perm_of_cnt fun _ => by simp only [cnt_cons, cnt_append, cnt_nil] <;> omega)
        · have h1 := HH.out.2.2.1.used
          have h2 := HH.out.2.2.2.1
          rw [HH.out.2.2.2.2.2.2.2.2.2.2.2.1]
          omega
        intro _ _ _ _ _ _ _ _ _ _ _ _ y46 w2 hy46 hT2
        subst hy46
        have hT2' : Turns (arF S) ((B7, Is (errO .nilIface)) :: (B6, Is (intO 0)) :: (B3, Is (boxA a)) :: arF S) w w2 := by
          rw [HH.out.2.2.2.2.2.2.2.2.2.2.1, HH.out.2.2.2.2.2.2.2.2.2.2.2.1] at hT2
          rw [HH.out.2.2.2.2.2.2.2.2.2.2.1]
          refine hT2.to ?_
          unfold arF
          exact (perm_of_cnt fun _ => by simp only [cnt_cons, cnt_append, cnt_nil] <;> omega)
        have hb6 := hT2'.sat.memIs (b := B6) (o := intO 0) (by simp)
        have hb7 := hT2'.sat.memIs (b := B7) (o := errO .nilIface) (by simp)
        have c62 : w2.cell? ⟨B6, 0, none⟩ = some (.int .i64 0) := cell_at hb6 0 rfl
        have c72 : w2.cell? ⟨B7, 0, none⟩ = some .nilIface := cell_at hb7 0 rfl
        have f62 := free_at hb6 0
        have f72 := free_at hb7 0
        have HT2 := Lib.hid hT2'
        clear hT2 hT2' hb6 hb7 c6 c7 f6 f7
        by_cases hqu : X.quota < X.used + D.length
        · rw [decide_eq_true hqu]
          have HQ := Lib.hid hqu
          clear hqu
          go_wp2_with fail
          refine HE.out _ 7 _ rfl rfl _ rfl HT2.out (.inr (.inr (.inr ⟨HG.out, HD.out.2.1.symm, by omega, ?_, rfl⟩)))
          rw [← HH.out.2.2.2.2.2.2.2.2.2.2.2.1]; exact HQ.out
        · rw [decide_eq_false hqu]
          have HQ := Lib.hid hqu
          obtain ⟨psl, pcap, e1, e2, e3, e4, e5, e6⟩ := path_cells (w := w2) (pm := S.X.pm) (c := S.pc) (ps := S.ps) (HT2.out.sat.tail.tail.tail.tail.right.right.left) HH.out.2.1.paths l
          obtain ⟨vs, hvs⟩ : ∃ vs, vs = versOf S.ps l := ⟨_, rfl⟩
          rw [← hvs] at e1 e2 e4 e5 e6
          have hOl : OkS l := by unfold OkS; omega
          have ha0 := HT2.out.sat.memIs (b := S.a) (o := archO S.X) (by simp [arF])
          rw [← HH.out.2.2.2.2.2.2.2.2.2.2.1] at ha0
          have a0c : w2.cell? ⟨a, 0, none⟩ = some (.map (some S.X.pm)) := cell_at ha0 0 rfl
          have b3c : w2.cell? ⟨B3, 0, none⟩ = some (.pointer (some ⟨a, 0, none⟩)) := cell_at (HT2.out.sat.memIs (b := B3) (o := boxA a) (by simp)) 0 rfl
          have hal2 := lt_of_heap ha0
          have hb3l : B3 < w2.heap.size := HT2.out.sat.lt (by simp)
          have hpm := HT2.out.sat.memIs (b := S.X.pm) (o := mapO str (S.ps.map entG) S.pc) (by simp [arF, pathsF])
          have HV := Lib.hid (And.intro hvs (And.intro e1 (And.intro e2 (And.intro e3 (And.intro e4 (And.intro e5 (And.intro hOl (And.intro ha0 hpm))))))))
          clear hqu e1 e2 e3 e4 e5 e6 hvs hOl ha0 hpm
          obtain ⟨Bv, hBv⟩ : ∃ Bv, Bv = w2.heap.size := ⟨_, rfl⟩
          obtain ⟨B9, hB9⟩ : ∃ B9, B9 = w2.heap.size + 1 := ⟨_, rfl⟩
          have hpm4 := (((Mods.refl (fun _ => False) w2).alloc (.cells #[.int .i64 1, .int .i64 D.length, .slice none 0 0, .int .i64 0] 152)).alloc (.cells #[.pointer (some ⟨w2.heap.size, 0, none⟩)] 149)).at HV.out.2.2.2.2.2.2.2.2 id
          have hT4 : Turns (arF S) ((Bv, Is (verO ⟨Bv, 1, D.length, .slice none 0 0, [], 0⟩)) :: (B9, Is (vboxO Bv)) :: (B7, Is (errO .nilIface)) :: (B6, Is (intO 0)) :: (B3, Is (boxA S.a)) :: arF S) w ((w2.alloc (.cells #[.int .i64 1, .int .i64 D.length, .slice none 0 0, .int .i64 0] 152)).alloc (.cells #[.pointer (some ⟨w2.heap.size, 0, none⟩)] 149)) := by
            have h := (HT2.out.allocIs (verO ⟨Bv, 1, D.length, .slice none 0 0, [], 0⟩)).allocIs (vboxO Bv)
            rw [World.size_alloc, ← hB9, HH.out.2.2.2.2.2.2.2.2.2.2.1] at h
            have h2 := h.to (List.Perm.swap _ _ _)
            rw [← hBv] at h2 ⊢
            exact h2
          have hP4 := HV.out.2.1
          have HW := Lib.hid (And.intro hpm4 (And.intro hT4 (And.intro hBv hB9)))
          clear hpm4 hT4 hP4
          by_cases hvn : vs = []
          · subst hvn
            have hvs0 : versOf S.ps l = [] := HV.out.1.symm
            have HN0 := Lib.hid hvs0
            clear hvs0 hBv hB9
            go_upto_region 13 with (first | (refine wpList_look strEnc rfl _ _ rfl Tryz.underlying119 HW.out.1 HH.out.2.1.paths.map (zeroSlice _) l rfl rfl HV.out.2.2.2.2.2.2.1 ?_; rw [getE_valOf, HV.out.2.1]) | fail)
            have HNUM : Hid (1 = lastNum (versOf S.ps l) + 1) := Lib.hid (by rw [HN0.out]; rfl)
            have hT5 := HW.out.2.1.allocIs (recsO (.slice none 0 0))
            simp only [World.size_alloc] at hT5
            rw [← HW.out.2.2.2, ← HW.out.2.2.1] at hT5 ⊢
            rw [HH.out.2.2.2.2.2.2.2.2.2.2.1]
            refine put13_wp S l D sl cap b HH.out.2.1 HH.out.2.2.1 HH.out.2.2.2.1 HD.out.2.1.symm hll (by omega) HH.out.2.2.2.2.2.1 B3 B6 B7 B9 (B9 + 1) Bv 1 HNUM.out w _ hT5 HH.out.2.2.2.2.1 HH.out.2.2.2.2.2.2.2.1 _ (fun e w' hp => ?_) (by assumption)
            refine .inr ⟨HG.out, HD.out.2.1.symm, by omega, ?_, ?_⟩
            · have := HQ.out; rw [HH.out.2.2.2.2.2.2.2.2.2.2.2.1] at this; omega
            · have hnum := HNUM.out
              have hnum2 : ((1 : Nat) : Int) = (lastNum (versOf S.ps l) : Int) + 1 := by omega
              rcases hp with ⟨sp, chs, h1, h2, h3, h4, h5⟩ | ⟨S', V, h1, h2, h3, h4, h5⟩
              · exact .inl ⟨sp, chs, h1, h2, h3, by rw [← hnum2]; exact h4, h5⟩
              · exact .inr ⟨S', V, by rw [← hnum2]; exact h1, h2, h3, h4, h5⟩
          · obtain ⟨g, off, hg, hcell⟩ := HV.out.2.2.2.2.1 (by rw [List.length_map]; exact List.length_pos_iff.2 hvn)
            subst hg
            obtain ⟨U, hU⟩ : ∃ U, vs.getLast? = some U := ⟨_, List.getLast?_eq_some_getLast hvn⟩
            have hvl : 0 < vs.length := List.length_pos_iff.2 hvn
            have hUe : U = vs[vs.length - 1] := by
              rw [List.getLast?_eq_getElem?, List.getElem?_eq_getElem (by omega)] at hU
              exact (Option.some.inj hU).symm
            have hUm : U ∈ vs := by rw [hUe]; exact List.getElem_mem _
            have hc1 : w2.cell? ⟨g, off + (vs.length - 1), none⟩ = some (ptrV U) := by rw [hcell (vs.length - 1) (by rw [List.length_map]; omega), List.getElem_map, hUe]
            have hc2 := HV.out.2.2.2.2.2.1 U hUm
            have hvb : vs.length ≤ 90000 ∧ U.num ≤ 4294967296 + 90000 := by
              obtain ⟨p', hp', _, h2⟩ := versOf_mem (ps := S.ps) (l := l) (by rw [← HV.out.1]; exact hvn)
              rw [← HV.out.1] at h2
              have h3 := HH.out.2.2.1.vers p' hp'
              have h4 := HH.out.2.2.2.1
              rw [h2] at h3
              have h5 := (h3.2.2 U hUm).1
              omega
            have hs4 := ((Mods.refl (fun _ => False) w2).alloc (.cells #[.int .i64 1, .int .i64 D.length, .slice none 0 0, .int .i64 0] 152)).alloc (.cells #[.pointer (some ⟨w2.heap.size, 0, none⟩)] 149)
            have hc1' := cell_same hs4 hc1
            have hc2' := hs4.at hc2 id
            have HNUM : Hid (U.num + 1 = lastNum (versOf S.ps l) + 1) := Lib.hid (by rw [← HV.out.1]; unfold lastNum; rw [hU]; rfl)
            obtain ⟨m, hm⟩ : ∃ m, m = vs.length := ⟨_, rfl⟩
            rw [← hm] at hc1 hc1' hvl hvb
            have hvl2 : (0 : Int) < (m : Int) := by omega
            have HU := Lib.hid (And.intro hc1' (And.intro hc2' (And.intro hvb hm)))
            clear hcell hU hUe hUm hc2 hs4 hc1 hc1' hc2' hvb hBv hB9
            have HV2 := HV.out.2.1
            rw [← hm] at HV2
            have HVV := Lib.hid HV2
            clear HV2 hm
            go_upto_region 11 with (first | (refine wpList_look strEnc rfl _ _ rfl Tryz.underlying119 HW.out.1 HH.out.2.1.paths.map (zeroSlice _) l rfl rfl HV.out.2.2.2.2.2.2.1 ?_; rw [getE_valOf, HVV.out]) | fail)
            rw [← HW.out.2.2.2, ← HW.out.2.2.1]
            refine put11 (arF S) ((B7, Is (errO .nilIface)) :: (B6, Is (intO 0)) :: (B3, Is (boxA S.a)) :: arF S) w B9 Bv g off m pcap D.length U ?_ ?_ ?_ ⟨hvl, by have := HU.out.2.2.1; omega⟩ (by have := HU.out.2.2.1; omega) ?_
            · have h := HW.out.2.1
              rw [← HW.out.2.2.1] at h
              exact h
            · have h := HU.out.1
              rw [← HW.out.2.2.1] at h
              exact h
            · have h := HU.out.2.1
              rw [← HW.out.2.2.1] at h
              exact h
            intro _ _ _ _ _ _ _ _ _ _ _ _ _ w5 hT5
            have HT5 := Lib.hid hT5
            clear hT5
            go_upto_region 13 with (fail)
            have hT6 := HT5.out.allocIs (recsO (.slice none 0 0))
            rw [HH.out.2.2.2.2.2.2.2.2.2.2.1]
            refine put13_wp S l D sl cap b HH.out.2.1 HH.out.2.2.1 HH.out.2.2.2.1 HD.out.2.1.symm hll (by omega) HH.out.2.2.2.2.2.1 B3 B6 B7 B9 w5.heap.size Bv (U.num + 1) HNUM.out w _ hT6 HH.out.2.2.2.2.1 HH.out.2.2.2.2.2.2.2.1 _ (fun e w' hp => ?_) (by assumption)
            refine .inr ⟨HG.out, HD.out.2.1.symm, by omega, ?_, ?_⟩
            · have := HQ.out; rw [HH.out.2.2.2.2.2.2.2.2.2.2.2.1] at this; omega
            · have hnum := HNUM.out
              have hnum2 : (((U.num + 1) : Nat) : Int) = (lastNum (versOf S.ps l) : Int) + 1 := by omega
              rcases hp with ⟨sp, chs, h1, h2, h3, h4, h5⟩ | ⟨S', V, h1, h2, h3, h4, h5⟩
              · exact .inl ⟨sp, chs, h1, h2, h3, by rw [← hnum2]; exact h4, h5⟩
              · exact .inr ⟨S', V, by rw [← hnum2]; exact h1, h2, h3, h4, h5⟩
end Go.Proofs.YtdhobpbngkainaaGreatDoor
/-
  Ours. Get: a version's content, chunk by chunk.
-/
namespace Go.Proofs.YtdhobpbngkainaaGreatDoor
open Go.RowKit Go.Maps

def bodyAt (K : List (Bs × Nat × Nat)) (q : Nat × Nat) : Bs := ((K.find? (fun e => decide (e.2 = q))).map (·.1)).getD []
def contV (S : AS) (V : VerL) : Bs := V.chs.flatMap (bodyAt S.K)
theorem K_inj {S : AS} (h : ArOk S) {c c' : Bs} {q : Nat × Nat} (h1 : (c, q) ∈ S.K) (h2 : (c', q) ∈ S.K) : c = c' :=
  chunkAt_inj ((h.kat _ h1).2.chunkAt h.dat) ((h.kat _ h2).2.chunkAt h.dat) ((h.kat _ h1).1.symm.trans (h.kat _ h2).1)
theorem body_at {S : AS} (h : ArOk S) {c : Bs} {q : Nat × Nat} (hq : (c, q) ∈ S.K) : bodyAt S.K q = c := by
  unfold bodyAt
  cases hf : S.K.find? (fun e => decide (e.2 = q)) with
  | none => rw [List.find?_eq_none] at hf; exact absurd (by simp) (hf _ hq)
  | some e =>
    have h1 := List.mem_of_find?_eq_some hf
    have h2 : e.2 = q := by simpa using List.find?_some hf
    have h3 : (e.1, q) ∈ S.K := by rw [← h2]; exact h1
    simpa using K_inj h h3 hq
theorem ver_mem {S : AS} {l : Bs} {n : Int} {V : VerL} (hf : findV (versOf S.ps l) n = some V) : ∃ p ∈ S.ps, p.key = l ∧ V ∈ p.g := by
  have key : ∀ (l : List VerL), findV l n = some V → V ∈ l := by
    intro l
    induction l with
    | nil => intro h; simp [findV] at h
    | cons v r ih =>
      intro h
      unfold findV at h
      split at h
      · simp only [Option.some.injEq] at h; subst h; simp
      · exact List.mem_cons_of_mem _ (ih h)
  have hm := key _ hf
  unfold versOf gOf at hm
  cases hg : S.ps.find? (fun p => decide (p.key = l)) with
  | none => rw [hg] at hm; simp at hm
  | some p => rw [hg] at hm; exact ⟨p, List.mem_of_find?_eq_some hg, by simpa using List.find?_some hg, hm⟩
theorem chs_K {S : AS} (h : ArOk S) {p : PathL} (hp : p ∈ S.ps) {V : VerL} (hV : V ∈ p.g) {q : Nat × Nat} (hq : q ∈ V.chs) : (bodyAt S.K q, q) ∈ S.K := by
  obtain ⟨e, he, rfl⟩ := (h.vers p hp V hV).1 q hq
  have := body_at h (c := e.1) (q := e.2) he
  rw [this]; exact he
theorem contV_len {S : AS} (h : ArOk S) {p : PathL} (hp : p ∈ S.ps) {V : VerL} (hV : V ∈ p.g) : (contV S V).length = V.size := by
  rw [(h.vers p hp V hV).2]
  have key : ∀ l : List (Nat × Nat), (∀ q ∈ l, (bodyAt S.K q, q) ∈ S.K) → (l.flatMap (bodyAt S.K)).length = (l.map (·.2)).sum := by
    intro l
    induction l with
    | nil => intro _; rfl
    | cons q r ih =>
      intro hq
      rw [List.flatMap_cons, List.length_append, ih (fun x hx => hq x (by simp [hx])), List.map_cons, List.sum_cons, (h.kat _ (hq q (by simp))).1]
  exact key _ (fun q hq => chs_K h hp hV hq)
/-- The errors that a call on a path answers ahead of all else. -/
def FindErr (S : AS) (l : Bs) (n : Int) (k : Int) : Prop :=
  (S.X.closed = true ∧ k = 9) ∨ (S.X.closed = false ∧ isPathB l = false ∧ k = 1) ∨ (S.X.closed = false ∧ isPathB l = true ∧ findV (versOf S.ps l) n = none ∧ k = 3)
def Found (S : AS) (l : Bs) (n : Int) (V : VerL) : Prop := S.X.closed = false ∧ isPathB l = true ∧ findV (versOf S.ps l) n = some V
theorem find_split {S : AS} {l : Bs} {n : Int} {w w' : World} {e : Ending} (h : FindPost S.X S.ps l n w e w') :
    Same w w' ∧ ((∃ k, FindErr S l n k ∧ e = .returned (.tuple #[.pointer none, errV k])) ∨ (∃ V, Found S l n V ∧ e = .returned (.tuple #[ptrV V, .nilIface]))) := by
  obtain ⟨he, hs⟩ := h
  refine ⟨hs, ?_⟩
  cases hc : S.X.closed with
  | true => rw [hc, if_pos rfl] at he; exact .inl ⟨9, .inl ⟨hc, rfl⟩, he⟩
  | false =>
    rw [hc, if_neg (by simp)] at he
    cases hp : isPathB l with
    | false => rw [hp, if_neg (by simp)] at he; exact .inl ⟨1, .inr (.inl ⟨hc, hp, rfl⟩), he⟩
    | true =>
      rw [hp, if_pos rfl] at he
      cases hf : findV (versOf S.ps l) n with
      | none => rw [hf] at he; exact .inl ⟨3, .inr (.inr ⟨hc, hp, hf, rfl⟩), he⟩
      | some V => rw [hf] at he; exact .inr ⟨V, ⟨hc, hp, hf⟩, he⟩
def GetPost (S : AS) (l : Bs) (n : Int) (w : World) (e : Ending) (w' : World) : Prop :=
  (∃ k, FindErr S l n k ∧ e = .returned (.tuple #[.slice none 0 0, errV k]) ∧ Turns (arF S) (arF S) w w') ∨
  (∃ V v sp, Found S l n V ∧ e = .returned (.tuple #[v, .nilIface]) ∧ bOk v (contV S V) ∧ AreaOk { S.A with spare := sp } ∧ Turns (arF S) (bRow v (contV S V) ++ arF { S with A := { S.A with spare := sp } }) w w')
theorem ver_cells {S : AS} (hok : ArOk S) {p : PathL} (hp : p ∈ S.ps) {V : VerL} (hV : V ∈ p.g) {sl : Option Addr} {n cap : Nat} (hcv : V.cv = .slice sl n cap) {W : World} (hs : Sat W (pathsF S.X.pm S.ps S.pc)) : W.heap[V.blk]? = some (verO V) ∧ CellsAt W sl (placesV V.chs) := by
  have hps : Sat W (pathR p.val p.g) := Sat.flat (f := fun p : PathL => pathR p.val p.g) hs.tail hp
  have hvf : Sat W (verF V) := Sat.flat (f := verF) hps.right hV
  obtain ⟨sl2, cap2, h1, _, _, h4⟩ := place_cells hvf.tail ((hok.paths.rows p hp).2 V hV)
  rw [hcv] at h1
  simp only [Value.slice.injEq] at h1
  obtain ⟨rfl, _, _⟩ := h1
  exact ⟨hvf.headIs, h4⟩
def GetRel (S : AS) (V : VerL) (w : World) (out i : Value) (W : World) : Prop :=
  ∃ (j : Nat) (sp : List (Nat × Nat × Nat)) (J : HF), j ≤ V.chs.length ∧ i = .int .i64 j ∧ bOk out ((V.chs.take j).flatMap (bodyAt S.K)) ∧ AreaOk { S.A with spare := sp } ∧ Turns (arF S) (bRow out ((V.chs.take j).flatMap (bodyAt S.K)) ++ (arF { S with A := { S.A with spare := sp } } ++ J)) w W
set_option maxHeartbeats 4000000 in
set_option maxRecDepth 100000 in
theorem Get_calls (S : AS) (l : Bs) (n : Int) (b : Nat) (w : World) (h : Sat w (arF S)) (hok : ArOk S) (hB : ArB S b) (hb : b ≤ 90000) (hl : l.length ≤ 9223372036854775807) :
    Calls Tryz.prog 27 #[.pointer (some ⟨S.a, 0, none⟩), str l, .int .i64 n] w (GetPost S l n w) := by
  have HF := Lib.hid (find_calls S.a S.X S.ps S.pc l n w h.headIs (h.tail.right.right.left) hok.paths)
  have HH := Lib.hid (And.intro h (And.intro hok (And.intro hB hb)))
  clear h hok hB hb
  go_enter Tryz.func27, Tryz.ntmps27
  go_wp2_with fail
  refine HF.out.mono ?_
  intro e w1 hp
  obtain ⟨hs, ⟨k, hk, rfl⟩ | ⟨V, hV, rfl⟩⟩ := find_split hp
  · have HK := Lib.hid (And.intro hk hs)
    clear hp hs hk
    unfold errV
    go_wp2_with fail
    refine bodyPost_ret (results_tmp2 rfl _ _ _) rfl (.inl ⟨k, HK.out.1, rfl, (Turns.same HH.out.1 HK.out.2)⟩)
  · obtain ⟨p, hpm, hpk, hVp⟩ := ver_mem hV.2.2
    have hT1 : Turns (arF S) (arF S) w w1 := Turns.same HH.out.1 hs
    have hps : Sat w1 (pathR p.val p.g) := Sat.flat (f := fun p : PathL => pathR p.val p.g) (hT1.sat.tail.right.right.left).tail hpm
    have hvf : Sat w1 (verF V) := Sat.flat (f := verF) hps.right hVp
    have hpo : placeOk V.cv V.chs := (HH.out.2.1.paths.rows p hpm).2 V hVp
    obtain ⟨sl, cap, hcv, e2, e3, hcell⟩ := place_cells hvf.tail hpo
    have v2 : w1.cell? ⟨V.blk, 2, none⟩ = some (.slice sl V.chs.length cap) := by rw [← hcv]; exact cell_at hvf.headIs 2 rfl
    have hvl := lt_of_heap hvf.headIs
    have hcl : V.chs.length ≤ 90000 := by
      have h1 := ((HH.out.2.2.1.vers p hpm).2.2 V hVp).2.1
      have := HH.out.2.2.2
      omega
    have HV := Lib.hid (And.intro hV (And.intro hpm (And.intro hVp (And.intro hT1 (And.intro hcell (And.intro hpo hcv))))))
    clear hp hs hV hpm hpk hVp hT1 hps hvf hpo hcv hcell
    unfold ptrV
    go_wp2_with fail
    go_loopw [10, 30] (fun out i wr => GetRel S V w out i wr) (fun _ i _ => V.chs.length - (intOf i).toNat)
    case atStart => exact ⟨0, S.A.spare, [], Nat.zero_le _, rfl, bOk_nil, HH.out.2.1.area, by rw [List.append_nil]; exact HV.out.2.2.2.1⟩
    case round =>
      obtain ⟨j, sp, J, hj, rfl, hbo, hAo, hT⟩ := hrel
      have HR := Lib.hid (And.intro hbo (And.intro hAo hT))
      clear hbo hAo hT
      by_cases hlt : j < V.chs.length
      · obtain ⟨hver, hcells⟩ := ver_cells HH.out.2.1 HV.out.2.1 HV.out.2.2.1 HV.out.2.2.2.2.2.2 (W := wr) (HR.out.2.2.sat.sub (fun x => by simp only [arF, cnt_cons, cnt_append] <;> omega))
        obtain ⟨g, off, hg, hcell⟩ := hcells (by rw [placesV_length]; omega)
        subst hg
        obtain ⟨hc1, hc2⟩ := place_at hcell hlt
        obtain ⟨q, hq⟩ : ∃ q, q = V.chs[j] := ⟨_, rfl⟩
        rw [← hq] at hc1 hc2
        have hbK := chs_K HH.out.2.1 HV.out.2.1 HV.out.2.2.1 (q := q) (by rw [hq]; exact List.getElem_mem hlt)
        obtain ⟨bo, hbo⟩ : ∃ bo, bo = bodyAt S.K q := ⟨_, rfl⟩
        rw [← hbo] at hbK
        have hq2 : q.2 = bo.length := (HH.out.2.1.kat _ hbK).1
        have hbody := (HH.out.2.1.kat _ hbK).2.chunkAt HH.out.2.1.dat
        have htk : (V.chs.take (j + 1)).flatMap (bodyAt S.K) = (V.chs.take j).flatMap (bodyAt S.K) ++ bo := by
          rw [List.take_succ_eq_append_getElem hlt, List.flatMap_append, hbo, hq]; simp
        have hlen : ((V.chs.take j).flatMap (bodyAt S.K)).length + bo.length ≤ 137438953472 := by
          have h1 : ((V.chs.take (j + 1)).flatMap (bodyAt S.K)).length ≤ (contV S V).length := by
            unfold contV
            conv => rhs; rw [← List.take_append_drop (j + 1) V.chs, List.flatMap_append, List.length_append]
            omega
          rw [contV_len HH.out.2.1 HV.out.2.1 HV.out.2.2.1, htk, List.length_append] at h1
          have h2 := ((HH.out.2.2.1.vers p HV.out.2.1).2.2 V HV.out.2.2.1).2.2.1
          have := HH.out.2.2.2
          omega
        obtain ⟨B8, hB8⟩ : ∃ B8, B8 = wr.heap.size := ⟨_, rfl⟩
        obtain ⟨bs, hbs⟩ : ∃ bs, bs = (V.chs.take j).flatMap (bodyAt S.K) := ⟨_, rfl⟩
        rw [← hbs] at htk hlen HR
        have hT8 : Turns (arF S) (areaF S.X.ab S.X.d { S.A with spare := sp } ++ ((B8, Is (placeO q)) :: (bRow u10 bs ++ ((S.a, Is (archO S.X)) :: (devF S.X.d S.L ++ (pathsF S.X.pm S.ps S.pc ++ (tagsF S.X.tm S.ts S.tc ++ (chunksF S.X.cm S.cs S.cc ++ J)))))))) w (wr.alloc (placeO q)) := by
          rw [hB8]
          exact (HR.out.2.2.allocIs (placeO q)).to (by unfold arF; exact (perm_of_cnt fun _ => by simp only [cnt_cons, cnt_append, cnt_nil] <;> omega))
        have HLd := Lib.hid (load_calls S.a S.X S.X.ab S.X.d rfl { S.A with spare := sp } S.L q.1 bo _ (wr.alloc (placeO q)) hT8.sat (fun x => by simp only [cnt_cons, cnt_append]; omega) HH.out.2.1.dev HR.out.2.1 HH.out.2.1.fits HH.out.2.1.nmax hbody)
        rw [← hq2] at HLd
        have HQ := Lib.hid (And.intro hbK (And.intro hq2 (And.intro htk (And.intro hlen (And.intro hT8 hB8)))))
        clear hver hcells hcell hq hbK hbo hq2 hbody htk hlen hT8 hB8 hbs
        go_wp2_with fail
        refine HLd.out.mono ?_
        rintro e w4 ⟨av, cv, sp2, rfl, hok4, hAo4, hT4⟩
        have hT5 := HQ.out.2.2.2.2.1.trans hT4
        obtain ⟨av', cv', hev, -, -, hav, -⟩ := own_cells' (bOwns hT4.sat.left hok4)
        simp only [Value.slice.injEq, true_and] at hev
        obtain ⟨rfl, rfl⟩ := hev
        rw [← HQ.out.2.2.2.2.2]
        have hT6 : Turns (arF S) (bRow u10 bs ++ (arF { S with A := { S.A with spare := sp2 } } ++ ((B8, Is (placeO q)) :: (bRow (.slice av bo.length cv) bo ++ J)))) w w4 := hT5.to (by unfold arF; exact (perm_of_cnt fun _ => by simp only [cnt_cons, cnt_append, cnt_nil] <;> omega))
        have H4 := Lib.hid (And.intro hAo4 (And.intro hT6 hav))
        clear hok4 hAo4 hT4 hT5 hav hT6
        go_wp2_with ((refine wpList_of_wp rfl (w_append_b (.tmp 43) (.tmp 44) rfl u10 bs rfl H4.out.2.1 HR.out.1 av bo.length cv rfl bo rfl H4.out.2.2 HQ.out.2.2.2.1 ?_); intro av2 cv2 w6 hok6 hT6 _))
        go_roundw
        case rel =>
          refine ⟨j + 1, sp2, (B8, Is (placeO q)) :: (bRow (.slice av bo.length cv) bo ++ J), by omega, by go_num, ?_, H4.out.1, ?_⟩
          · rw [HQ.out.2.2.1]; rw [List.length_append] at hok6; exact hok6
          · rw [HQ.out.2.2.1]; rw [List.length_append] at hT6; exact hT6
        case measure => simp [intOf]; omega
      · obtain rfl : j = V.chs.length := by omega
        rw [List.take_length] at HR
        go_wp2_with fail
        refine bodyPost_ret (results_tmp2 rfl _ _ _) rfl (.inr ⟨V, u10, sp, HV.out.1, rfl, HR.out.1, HR.out.2.1, ?_⟩)
        exact HR.out.2.2.drop (fun x => by unfold contV; simp only [cnt_append]; omega)
end Go.Proofs.YtdhobpbngkainaaGreatDoor
/-
  Ours. Plain facts on the lengths of chunks: neither too short nor too long; what follows a cut is cut as if nothing stood ahead of it; what stands behind does not turn the cuts ahead.
-/
namespace Go.Proofs.YtdhobpbngkainaaGreatDoor

theorem endsB_16 {h : Int} {n : Nat} (e : endsB h n = true) : 16 ≤ n := by
  rcases Nat.lt_or_ge n 16 with h' | h'
  · rw [ends_0 h'] at e; cases e
  · exact h'
/-- Neither too short nor too long. -/
theorem cutsN_bounds (l : List UInt8) : ∀ h n, n < 256 → ∀ i (hi : i < (cutsN h n l).length), 1 ≤ (cutsN h n l)[i] ∧ (cutsN h n l)[i] ≤ 256 ∧ (i + 1 < (cutsN h n l).length → 16 ≤ (cutsN h n l)[i]) := by
  induction l with
  | nil => intro h n _ i hi; simp [cutsN] at hi
  | cons c cs ih =>
    intro h n hn i
    cases he : endsB (hashI h c.toNat) (n + 1)
    · by_cases hc : cs = []
      · subst hc
        rw [cutsN_last]
        intro hi
        have hi0 : i = 0 := by simp at hi; omega
        subst hi0
        refine ⟨?_, ?_, ?_⟩
        · simp
        · simp; omega
        · simp
      · rw [cutsN_no _ _ _ _ he hc]
        have hn1 : n + 1 < 256 := by
          rcases Nat.lt_or_ge (n + 1) 256 with h' | h'
          · exact h'
          · rw [ends_256 h'] at he; cases he
        exact ih _ _ hn1 i
    · rw [cutsN_yes _ _ _ _ he]
      intro hi
      cases i with
      | zero => exact ⟨by simp, by simp; omega, fun _ => by have := endsB_16 he; simpa using this⟩
      | succ i =>
        have hi' : i < (cutsN 0 0 cs).length := by simpa using hi
        have := ih 0 0 (by omega) i hi'
        simpa using this
theorem lensOf_bounds (l : List UInt8) (i : Nat) (hi : i < (lensOf l).length) : 1 ≤ (lensOf l)[i] ∧ (lensOf l)[i] ≤ 256 ∧ (i + 1 < (lensOf l).length → 16 ≤ (lensOf l)[i]) :=
  cutsN_bounds l 0 0 (by omega) i hi

/-- Behind the first chunk all begins anew. -/
theorem cutsN_tail (l : List UInt8) : ∀ h n a r, cutsN h n l = a :: r → n < a ∧ a - n ≤ l.length ∧ cutsN 0 0 (l.drop (a - n)) = r := by
  induction l with
  | nil => intro h n a r e; simp [cutsN] at e
  | cons c cs ih =>
    intro h n a r
    cases he : endsB (hashI h c.toNat) (n + 1)
    · by_cases hc : cs = []
      · subst hc
        rw [cutsN_last]
        intro e
        simp only [List.cons.injEq] at e
        obtain ⟨rfl, rfl⟩ := e
        refine ⟨by omega, by simp, ?_⟩
        rw [show n + 1 - n = 1 from by omega]; rfl
      · rw [cutsN_no _ _ _ _ he hc]
        intro e
        obtain ⟨h1, h2, h3⟩ := ih _ _ _ _ e
        refine ⟨by omega, by simp; omega, ?_⟩
        rw [show a - n = (a - (n + 1)) + 1 from by omega]
        exact h3
    · rw [cutsN_yes _ _ _ _ he]
      intro e
      simp only [List.cons.injEq] at e
      obtain ⟨rfl, rfl⟩ := e
      refine ⟨by omega, by simp, ?_⟩
      rw [show n + 1 - n = 1 from by omega]; rfl
theorem lensOf_tail {l : List UInt8} {a : Nat} {r : List Nat} (h : lensOf l = a :: r) : a ≤ l.length ∧ lensOf (l.drop a) = r := by
  obtain ⟨_, h2, h3⟩ := cutsN_tail l 0 0 a r h
  exact ⟨by omega, h3⟩

theorem cutsN_ne {l : List UInt8} {h : Int} {n : Nat} (hl : l ≠ []) : cutsN h n l ≠ [] := by
  intro e
  have := cutsN_sum l h n hl
  rw [e] at this
  have : 0 < l.length := List.length_pos_iff.2 hl
  simp at *
  omega
/-- What stands behind does not turn the cuts ahead, but for the last one. -/
theorem cutsN_more (m : List UInt8) (l : List UInt8) : ∀ h n, ∃ r, cutsN h n (l ++ m) = (cutsN h n l).dropLast ++ r := by
  induction l with
  | nil => intro h n; exact ⟨_, by simp [cutsN]; rfl⟩
  | cons c cs ih =>
    intro h n
    by_cases hc : cs = []
    · subst hc; rw [cutsN_last]; exact ⟨_, rfl⟩
    · have hcm : cs ++ m ≠ [] := by simp [hc]
      cases he : endsB (hashI h c.toNat) (n + 1)
      · rw [List.cons_append, cutsN_no _ _ _ _ he hcm, cutsN_no _ _ _ _ he hc]
        exact ih _ _
      · rw [List.cons_append, cutsN_yes _ _ _ _ he, cutsN_yes _ _ _ _ he]
        obtain ⟨r, hr⟩ := ih 0 0
        refine ⟨r, ?_⟩
        rw [hr, List.dropLast_cons_of_ne_nil (cutsN_ne hc)]
        rfl
theorem lensOf_more (l m : List UInt8) : (lensOf l).length - 1 ≤ (lensOf (l ++ m)).length ∧ (lensOf (l ++ m)).take ((lensOf l).length - 1) = (lensOf l).take ((lensOf l).length - 1) := by
  obtain ⟨r, hr⟩ := cutsN_more m l 0 0
  have hr' : lensOf (l ++ m) = (lensOf l).dropLast ++ r := hr
  rw [hr']
  constructor
  · simp
  · rw [List.take_append_of_le_length (by simp), ← List.dropLast_eq_take, List.take_of_length_le (by simp)]
end Go.Proofs.YtdhobpbngkainaaGreatDoor
/-
  Ours. The document's archive as it lies; its Copy (the text is printed by wip/genrefcopy.py).
-/
namespace Go.Proofs.YtdhobpbngkainaaGreatDoor
open Go.RowKit Go.Maps

structure RVer where
  path : Bs
  num : Int
  cont : Bs
  cv : Value
  held : Int
structure RTag where
  name : Bs
  path : Bs
  num : Int
structure RefL where
  blk : Nat
  vv : Value
  vs : List RVer
  tv : Value
  ts : List RTag
  quota : Int
  closed : Bool
def rverV (v : RVer) : List Value := [str v.path, .int .i64 v.num, v.cv, .int .i64 v.held]
def rversV (l : List RVer) : List Value := l.flatMap rverV
def rtagV (t : RTag) : List Value := [str t.name, str t.path, .int .i64 t.num]
def rtagsV (l : List RTag) : List Value := l.flatMap rtagV
theorem rversV_length (l : List RVer) : (rversV l).length = l.length * 4 := by
  induction l with
  | nil => rfl
  | cons a r ih => simp only [rversV, List.flatMap_cons, List.length_append, List.length_cons] at ih ⊢; rw [ih]; simp [rverV]; omega
theorem rtagsV_length (l : List RTag) : (rtagsV l).length = l.length * 3 := by
  induction l with
  | nil => rfl
  | cons a r ih => simp only [rtagsV, List.flatMap_cons, List.length_append, List.length_cons] at ih ⊢; rw [ih]; simp [rtagV]; omega
theorem rversV_append (l m : List RVer) : rversV (l ++ m) = rversV l ++ rversV m := by simp [rversV]
theorem rtagsV_append (l m : List RTag) : rtagsV (l ++ m) = rtagsV l ++ rtagsV m := by simp [rtagsV]
def rvRow (v : Value) (l : List RVer) : HF := rowF 193 4 v l.length (rversV l)
def rvOk (v : Value) (l : List RVer) : Prop := RowOk 4 v l.length (rversV l)
def rtRow (v : Value) (l : List RTag) : HF := rowF 237 3 v l.length (rtagsV l)
def rtOk (v : Value) (l : List RTag) : Prop := RowOk 3 v l.length (rtagsV l)
def refCells (R : RefL) : Array Value := #[R.vv, R.tv, .int .i64 R.quota, .bool R.closed]
def refO (R : RefL) : Obj := .cells (refCells R) 60 (0, 0)
def refF (R : RefL) : HF := (R.blk, Is (refO R)) :: (rvRow R.vv R.vs ++ rtRow R.tv R.ts)
structure RefOk (R : RefL) : Prop where
  vs : rvOk R.vv R.vs
  ts : rtOk R.tv R.ts
abbrev Pool := List (Value × Bs)
def poolF (P : Pool) : HF := P.flatMap fun p => bRow p.1 p.2
def PoolOk (P : Pool) : Prop := ∀ p ∈ P, bOk p.1 p.2
/-- Each content is one of the pool's. -/
def RefIn (P : Pool) (R : RefL) : Prop := ∀ v ∈ R.vs, (v.cv, v.cont) ∈ P
theorem pool_cells {P : Pool} (h : PoolOk P) {w : World} (hs : Sat w (poolF P)) {v : Value} {l : Bs} (hm : (v, l) ∈ P) : ∃ sl cap, v = .slice sl l.length cap ∧ l.length ≤ cap ∧ CellsAt w sl (l.map enc8) ∧ (∀ x, sl = some x → x.block ∈ dom (poolF P)) := by
  have h1 : Sat w (bRow v l) := Sat.flat (f := fun p : Value × Bs => bRow p.1 p.2) hs hm
  obtain ⟨a, c, e, -, h3, h4, h5⟩ := own_cells' (bOwns h1 (h _ hm))
  refine ⟨a, c, e, h3, h4, fun x hx => ?_⟩
  have hb : x.block ∈ dom (bRow v l) := (dom_row _ _ _ _ _ _).2 (h5 x hx)
  obtain ⟨p, hp, hpe⟩ := List.mem_map.1 hb
  exact List.mem_map.2 ⟨p, List.mem_flatMap.2 ⟨_, hm, hp⟩, hpe⟩
theorem row_one' {w : World} {e size n : Nat} {v : Value} {xs : List Value} (hs : Sat w (rowF e size v n xs)) (h : RowOk size v n xs) : v.oneCell' = true ∧ v.cells = #[v] ∧ ∃ a cap, v = .slice a n cap ∧ n ≤ cap ∧ cap ≤ 9223372036854775807 := by
  rcases (owns_of_row hs h).2 with ⟨rfl, rfl⟩ | ⟨g, cap, cur, rfl, _, _, h1, h2, _, _⟩
  · exact ⟨rfl, rfl, none, 0, rfl, Nat.le_refl _, by omega⟩
  · exact ⟨rfl, rfl, _, cap, rfl, h1, by unfold maxLen at h2; omega⟩
/-- A row as cells. -/
theorem row_cells {w : World} {e size n : Nat} {v : Value} {xs : List Value} (hs : Sat w (rowF e size v n xs)) (h : RowOk size v n xs) (h0 : 0 < size) : ∃ a cap, v = .slice a n cap ∧ n ≤ cap ∧ cap ≤ 9223372036854775807 ∧ CellsAt w a xs ∧ (∀ x, a = some x → v.ownBlock = some x.block) := by
  obtain ⟨hl, hc⟩ := owns_of_row hs h
  rcases hc with ⟨rfl, rfl⟩ | ⟨g, cap, cur, rfl, _, hg, h1, h2, h3, h4⟩
  · refine ⟨none, 0, rfl, Nat.le_refl _, by omega, fun hp => ?_, fun x hx => by cases hx⟩
    rw [hl] at hp; simp at hp
  · refine ⟨_, cap, rfl, h1, by unfold maxLen at h2; omega, fun hp => ⟨g, 0, rfl, fun j hj => ?_⟩, fun x hx => by obtain rfl := Option.some.inj hx; rfl⟩
    rw [Nat.zero_add]
    refine cell_at hg j ?_
    rw [← Array.getElem?_toList]
    have e1 : (cur.toList.take (n * size))[j]? = cur.toList[j]? := by rw [List.getElem?_take]; rw [if_pos (by omega)]
    rw [← e1, h4]
    exact List.getElem?_eq_getElem hj
theorem infoRVer : (Tryz.prog.info? 193).map (fun i => (i.zero, i.size, i.bytes)) = some (some (.agg #[str [], .int .i64 0, .slice none 0 0, .int .i64 0]), 4, 56) := by kernel_rfl
theorem infoRTag : (Tryz.prog.info? 237).map (fun i => (i.zero, i.size, i.bytes)) = some (some (.agg #[str [], str [], .int .i64 0]), 3, 40) := by kernel_rfl
theorem rverV_one {l : List RVer} (h : ∀ v ∈ l, v.cv.oneCell' = true) : ∀ u ∈ rversV l, u.oneCell' = true := fun u hu => by
  obtain ⟨v, hv, hx⟩ := List.mem_flatMap.1 hu
  simp only [rverV, List.mem_cons, List.not_mem_nil, or_false] at hx
  rcases hx with rfl | rfl | rfl | rfl
  · rfl
  · rfl
  · exact h v hv
  · rfl
theorem rtagV_one (l : List RTag) : ∀ u ∈ rtagsV l, u.oneCell' = true := fun u hu => by
  obtain ⟨v, hv, hx⟩ := List.mem_flatMap.1 hu
  simp only [rtagV, List.mem_cons, List.not_mem_nil, or_false] at hx
  rcases hx with rfl | rfl | rfl <;> rfl
theorem w_append_rv {o : Oper} {a : Act} {w a0 : World} {K : Act → World → Prop} {Q : Exit → Act → World → Prop} {F G : HF} (s x : Operand) (hop : o.op = .call { callee := .builtin .append, args := #[s, x], argTypes := #[57, 57] })
    (v : Value) (l : List RVer) (hs : a.eval s = v) (hT : Turns F (rvRow v l ++ G) a0 w) (hok : rvOk v l) (sa : Option Addr) (m c : Nat) (hx : a.eval x = .slice sa m c) (r : List RVer) (hm : m = r.length)
    (hc : CellsAt w sa (rversV r)) (h1 : ∀ v ∈ r, v.cv.oneCell' = true) (hb : l.length + r.length ≤ 1000000)
    (hk : ∀ v' w', rvOk v' (l ++ r) → Turns F (rvRow v' (l ++ r) ++ G) a0 w' → K (a.put o.dst v') w') : o.wp Tryz.prog a w K Q := by
  obtain ⟨i0, hi0, hz1, hz2, hz3⟩ := info_parts infoRVer
  refine w_append_row s x 57 193 i0 (.agg #[str [], .int .i64 0, .slice none 0 0, .int .i64 0]) 4 56 hop Tryz.underlying57 hi0 hz1 hz2 hz3 rfl (by decide) v l.length (rversV l) hs hT hok sa m c hx (rversV r) (by rw [rversV_length, hm]) (fun hp => ?_) (rverV_one h1) (by unfold maxLen; omega) (by omega) (fun v' w' k1 k2 _ => hk v' w' (by unfold rvOk; rw [List.length_append, rversV_append, ← hm]; exact k1) (by unfold rvRow; rw [List.length_append, rversV_append, ← hm]; exact k2))
  obtain ⟨g, off, e, hcc⟩ := hc (by rw [rversV_length]; omega)
  exact ⟨_, e, fun j u hu => by obtain ⟨hj, rfl⟩ := List.getElem?_eq_some_iff.1 hu; rw [Addr.add_lit]; exact hcc j hj⟩
theorem w_append_rt {o : Oper} {a : Act} {w a0 : World} {K : Act → World → Prop} {Q : Exit → Act → World → Prop} {F G : HF} (s x : Operand) (hop : o.op = .call { callee := .builtin .append, args := #[s, x], argTypes := #[58, 58] })
    (v : Value) (l : List RTag) (hs : a.eval s = v) (hT : Turns F (rtRow v l ++ G) a0 w) (hok : rtOk v l) (sa : Option Addr) (m c : Nat) (hx : a.eval x = .slice sa m c) (r : List RTag) (hm : m = r.length)
    (hc : CellsAt w sa (rtagsV r)) (hb : l.length + r.length ≤ 1000000)
    (hk : ∀ v' w', rtOk v' (l ++ r) → Turns F (rtRow v' (l ++ r) ++ G) a0 w' → K (a.put o.dst v') w') : o.wp Tryz.prog a w K Q := by
  obtain ⟨i0, hi0, hz1, hz2, hz3⟩ := info_parts infoRTag
  refine w_append_row s x 58 237 i0 (.agg #[str [], str [], .int .i64 0]) 3 40 hop Tryz.underlying58 hi0 hz1 hz2 hz3 rfl (by decide) v l.length (rtagsV l) hs hT hok sa m c hx (rtagsV r) (by rw [rtagsV_length, hm]) (fun hp => ?_) (rtagV_one _) (by unfold maxLen; omega) (by omega) (fun v' w' k1 k2 _ => hk v' w' (by unfold rtOk; rw [List.length_append, rtagsV_append, ← hm]; exact k1) (by unfold rtRow; rw [List.length_append, rtagsV_append, ← hm]; exact k2))
  obtain ⟨g, off, e, hcc⟩ := hc (by rw [rtagsV_length]; omega)
  exact ⟨_, e, fun j u hu => by obtain ⟨hj, rfl⟩ := List.getElem?_eq_some_iff.1 hu; rw [Addr.add_lit]; exact hcc j hj⟩
set_option maxHeartbeats 4000000 in
set_option maxRecDepth 100000 in
theorem copy2 (F1 Z : HF) (A : World) (cb ab : Nat) (CC CA : Array Value) (sl : Option Addr) (cap : Nat) (l : List RVer) (xv : Value) {Q : Exit → Act → World → Prop} {w : World} {u1 u2 u4 u5 u6 u7 u8 u9 u10 u11 u12 u13 u14 u15 u16 u17 u18 u19 u20 u21 u22 u23 u24 u25 u26 u27 u28 u29 u30 u31 u32 u33 u34 : Value} {ds : List Deferred} (hT : Turns F1 ((cb, Is (.cells CC 60 (0, 0))) :: (ab, Is (.cells CA 60 (0, 0))) :: (rvRow xv l ++ Z)) A w) (hcc : CC[0]? = some (.slice none 0 0)) (hca : CA[0]? = some (.slice sl l.length cap)) (hsz : 0 < CC.size) (hok : rvOk xv l) (hxv : xv = .slice sl l.length cap) (h1 : ∀ v ∈ l, v.cv.oneCell' = true) (hl : l.length ≤ 1000000)
    (hk : ∀ (y10 y11 y12 y13 y14 y15 y16 y17 y18 y19 y20 y21 : Value) (w' : World), rvOk y19 l → Turns F1 ((cb, Is (.cells (CC.setIfInBounds 0 y19) 60 (0, 0))) :: (ab, Is (.cells CA 60 (0, 0))) :: (rvRow y19 l ++ (rvRow xv l ++ Z))) A w' → Q .normal { tmps := #[.pointer (some ⟨ab, 0, none⟩), u1, u2, .pointer (some ⟨cb, 0, none⟩), u4, u5, u6, u7, u8, u9, y10, y11, y12, y13, y14, y15, y16, y17, y18, y19, y20, y21, u22, u23, u24, u25, u26, u27, u28, u29, u30, u31, u32, u33, u34], defers := ds } w') :
    (regOf 2 Tryz.f37).wp Tryz.prog Q { tmps := #[.pointer (some ⟨ab, 0, none⟩), u1, u2, .pointer (some ⟨cb, 0, none⟩), u4, u5, u6, u7, u8, u9, u10, u11, u12, u13, u14, u15, u16, u17, u18, u19, u20, u21, u22, u23, u24, u25, u26, u27, u28, u29, u30, u31, u32, u33, u34], defers := ds } w := by
  have HM := Lib.hid (show Tryz.prog.follows .mixedOrders = true by kernel_rfl)
  conv => arg 2; whnf
  refine wp_region_chainL (A := ?A) (hA := ?hA) HM.out (phiL [fun v => v = .pointer (some ⟨cb, 0, none⟩), fun v => v = .pointer (some ⟨cb, 0, none⟩), fun v => v = .pointer (some ⟨cb, 0, none⟩), fun v => v = .pointer (some ⟨cb, 0, none⟩), fun v => v = .slice none 0 0, fun v => v = .pointer (some ⟨ab, 0, none⟩), fun v => v = .pointer (some ⟨ab, 0, none⟩), fun v => v = .pointer (some ⟨ab, 0, none⟩), fun v => v = .slice sl l.length cap, fun _ => True, fun v => v = .pointer (some ⟨cb, 0, none⟩), fun v => v = .pointer (some ⟨cb, 0, none⟩), fun _ => True])
    (fun vs1 W => match vs1 with
    | [] => Turns F1 (rvRow (.slice none 0 0) [] ++ ((cb, Is (.cells CC 60 (0, 0))) :: (ab, Is (.cells CA 60 (0, 0))) :: (rvRow xv l ++ Z))) A W
    | [u] => rvOk u l ∧ Turns F1 (rvRow u l ++ ((cb, Is (.cells CC 60 (0, 0))) :: (ab, Is (.cells CA 60 (0, 0))) :: (rvRow xv l ++ Z))) A W
    | [u, _] => rvOk u l ∧ Turns F1 ((cb, Is (.cells (CC.setIfInBounds 0 u) 60 (0, 0))) :: (ab, Is (.cells CA 60 (0, 0))) :: (rvRow u l ++ (rvRow xv l ++ Z))) A W
    | _ => False)
    (fun W => W.heap[cb]? = some (.cells CC 60 (0, 0)) ∧ W.heap[ab]? = some (.cells CA 60 (0, 0))) [9, 12] ?hC (by kernel_rfl) (by kernel_rfl) (by kernel_rfl) (by decide) (by decide) ?h0 ?hs ?he
  case hA => intro x; simp only [fillFrom, Act.put, List.setIfInBounds_toArray, List.set_cons_zero, List.set_cons_succ, Nat.reduceAdd]; rfl
  case hs =>
    refine ⟨chain_quiet rfl rfl (fun x wq hd hC K hK hKw => ?_), chain_quiet rfl rfl (fun x wq hd hC K hK hKw => ?_), chain_quiet rfl rfl (fun x wq hd hC K hK hKw => ?_), chain_quiet rfl rfl (fun x wq hd hC K hK hKw => ?_), chain_quiet rfl rfl (fun x wq hd hC K hK hKw => ?_), chain_quiet rfl rfl (fun x wq hd hC K hK hKw => ?_), chain_quiet rfl rfl (fun x wq hd hC K hK hKw => ?_), chain_quiet rfl rfl (fun x wq hd hC K hK hKw => ?_), chain_quiet rfl rfl (fun x wq hd hC K hK hKw => ?_), chain_noisy 0 rfl rfl (fun x wq hd hS K hK => ?_), chain_quiet rfl rfl (fun x wq hd hC K hK hKw => ?_), chain_quiet rfl rfl (fun x wq hd hC K hK hKw => ?_), chain_noisy 1 rfl rfl (fun x wq hd hS K hK => ?_), trivial⟩
    · exact wp_run (by kernel_rfl) (hK _ rfl)
    · exact wp_run (by kernel_rfl) (hK _ rfl)
    · have h1 : x 1 = .pointer (some ⟨cb, 0, none⟩) := depsC_get hd 1 (by kernel_rfl)
      exact wp_run (by rw [h1]; kernel_rfl) (hK _ rfl)
    · have h2 : x 2 = .pointer (some ⟨cb, 0, none⟩) := depsC_get hd 2 (by kernel_rfl)
      exact wp_run (by rw [h2]; kernel_rfl) (hK _ rfl)
    · have h3 : x 3 = .pointer (some ⟨cb, 0, none⟩) := depsC_get hd 3 (by kernel_rfl)
      exact w_load Tryz.underlying57 rfl rfl (by rw [h3]; rfl) (cell_at hC.1 0 hcc) (hK _ rfl)
    · exact wp_run (by kernel_rfl) (hK _ rfl)
    · have h5 : x 5 = .pointer (some ⟨ab, 0, none⟩) := depsC_get hd 5 (by kernel_rfl)
      exact wp_run (by rw [h5]; kernel_rfl) (hK _ rfl)
    · have h6 : x 6 = .pointer (some ⟨ab, 0, none⟩) := depsC_get hd 6 (by kernel_rfl)
      exact wp_run (by rw [h6]; kernel_rfl) (hK _ rfl)
    · have h7 : x 7 = .pointer (some ⟨ab, 0, none⟩) := depsC_get hd 7 (by kernel_rfl)
      exact w_load Tryz.underlying57 rfl rfl (by rw [h7]; rfl) (cell_at hC.2 0 hca) (hK _ rfl)
    · have h4 : x 4 = .slice none 0 0 := depsC_get hd 4 (by kernel_rfl)
      have h8 : x 8 = .slice sl l.length cap := depsC_get hd 8 (by kernel_rfl)
      have hrow := hS.sat.sub (G := rvRow xv l) (fun _ => by simp only [cnt_cons, cnt_append, cnt_nil] <;> omega)
      obtain ⟨a', c', e1, _, _, hcells, _⟩ := row_cells hrow hok (by decide)
      rw [hxv] at e1
      simp only [Value.slice.injEq] at e1
      obtain ⟨rfl, _, _⟩ := e1
      exact w_append_rv (.tmp 14) (.tmp 18) rfl (.slice none 0 0) [] (by rw [h4]; rfl) hS ⟨rfl, fun _ => ⟨rfl, rfl⟩⟩ sl l.length cap (by rw [h8]; rfl) l rfl hcells h1 (by simpa using hl) (fun v1 w1 k1 k2 => hK _ _ trivial ⟨by simpa using k1, by simpa using k2⟩)
    · have h0 : x 0 = .pointer (some ⟨cb, 0, none⟩) := depsC_get hd 0 (by kernel_rfl)
      exact wp_run (by rw [h0]; kernel_rfl) (hK _ rfl)
    · have h10 : x 10 = .pointer (some ⟨cb, 0, none⟩) := depsC_get hd 10 (by kernel_rfl)
      exact wp_run (by rw [h10]; kernel_rfl) (hK _ rfl)
    · have h11 : x 11 = .pointer (some ⟨cb, 0, none⟩) := depsC_get hd 11 (by kernel_rfl)
      obtain ⟨ho, hT⟩ := hS
      have h1 := row_one' hT.sat.left ho
      refine w_store1T 57 (.tmp 21) (.tmp 19) rfl cb 0 CC 60 (x 9) (hT.to (H := (cb, Is (.cells CC 60 (0, 0))) :: ((ab, Is (.cells CA 60 (0, 0))) :: (rvRow (x 9) l ++ (rvRow xv l ++ Z)))) (perm_of_cnt fun _ => by simp only [cnt_cons, cnt_append, cnt_nil] <;> omega)) (by rw [h11]; rfl) rfl hsz (by kernel_rfl) h1.1 h1.2.1 (fun w9 h9 => hK _ _ trivial ⟨ho, h9⟩)
  case hC =>
    intro vs1 W hlt hS
    match vs1, hS, hlt with
    | [], hT, _ => exact ⟨hT.sat.memIs (by simp), hT.sat.memIs (by simp)⟩
    | [_], ⟨_, hT⟩, _ => exact ⟨hT.sat.memIs (by simp), hT.sat.memIs (by simp)⟩
    | [_, _], _, hlt => exact absurd hlt (Nat.lt_irrefl _)
  case h0 =>
    exact (show Turns F1 (rvRow (.slice none 0 0) [] ++ ((cb, Is (.cells CC 60 (0, 0))) :: (ab, Is (.cells CA 60 (0, 0))) :: (rvRow xv l ++ Z))) A w from hT).drew
  case he =>
    intro x w3 hφ hS
    exact hk (x 0) (x 1) (x 2) (x 3) (x 4) (x 5) (x 6) (x 7) (x 8) (x 9) (x 10) (x 11) w3 hS.1 hS.2
set_option maxHeartbeats 4000000 in
set_option maxRecDepth 100000 in
theorem copy3 (F1 Z : HF) (A : World) (cb ab : Nat) (CC CA : Array Value) (sl : Option Addr) (cap : Nat) (l : List RTag) (xv : Value) {Q : Exit → Act → World → Prop} {w : World} {u1 u2 u4 u5 u6 u7 u8 u9 u10 u11 u12 u13 u14 u15 u16 u17 u18 u19 u20 u21 u22 u23 u24 u25 u26 u27 u28 u29 u30 u31 u32 u33 u34 : Value} {ds : List Deferred} (hT : Turns F1 ((cb, Is (.cells CC 60 (0, 0))) :: (ab, Is (.cells CA 60 (0, 0))) :: (rtRow xv l ++ Z)) A w) (hcc : CC[1]? = some (.slice none 0 0)) (hca : CA[1]? = some (.slice sl l.length cap)) (hsz : 1 < CC.size) (hok : rtOk xv l) (hxv : xv = .slice sl l.length cap) (hl : l.length ≤ 1000000)
    (hk : ∀ (y22 y23 y24 y25 y26 y27 y28 y29 y30 y31 y32 y33 : Value) (w' : World), rtOk y31 l → Turns F1 ((cb, Is (.cells (CC.setIfInBounds 1 y31) 60 (0, 0))) :: (ab, Is (.cells CA 60 (0, 0))) :: (rtRow y31 l ++ (rtRow xv l ++ Z))) A w' → Q .normal { tmps := #[.pointer (some ⟨ab, 0, none⟩), u1, u2, .pointer (some ⟨cb, 0, none⟩), u4, u5, u6, u7, u8, u9, u10, u11, u12, u13, u14, u15, u16, u17, u18, u19, u20, u21, y22, y23, y24, y25, y26, y27, y28, y29, y30, y31, y32, y33, u34], defers := ds } w') :
    (regOf 3 Tryz.f37).wp Tryz.prog Q { tmps := #[.pointer (some ⟨ab, 0, none⟩), u1, u2, .pointer (some ⟨cb, 0, none⟩), u4, u5, u6, u7, u8, u9, u10, u11, u12, u13, u14, u15, u16, u17, u18, u19, u20, u21, u22, u23, u24, u25, u26, u27, u28, u29, u30, u31, u32, u33, u34], defers := ds } w := by
  have HM := Lib.hid (show Tryz.prog.follows .mixedOrders = true by kernel_rfl)
  conv => arg 2; whnf
  refine wp_region_chainL (A := ?A) (hA := ?hA) HM.out (phiL [fun v => v = .pointer (some ⟨cb, 0, none⟩), fun v => v = .pointer (some ⟨cb, 0, none⟩), fun v => v = .pointer (some ⟨cb, 0, none⟩), fun v => v = .pointer (some ⟨cb, 1, none⟩), fun v => v = .slice none 0 0, fun v => v = .pointer (some ⟨ab, 0, none⟩), fun v => v = .pointer (some ⟨ab, 0, none⟩), fun v => v = .pointer (some ⟨ab, 1, none⟩), fun v => v = .slice sl l.length cap, fun _ => True, fun v => v = .pointer (some ⟨cb, 0, none⟩), fun v => v = .pointer (some ⟨cb, 1, none⟩), fun _ => True])
    (fun vs1 W => match vs1 with
    | [] => Turns F1 (rtRow (.slice none 0 0) [] ++ ((cb, Is (.cells CC 60 (0, 0))) :: (ab, Is (.cells CA 60 (0, 0))) :: (rtRow xv l ++ Z))) A W
    | [u] => rtOk u l ∧ Turns F1 (rtRow u l ++ ((cb, Is (.cells CC 60 (0, 0))) :: (ab, Is (.cells CA 60 (0, 0))) :: (rtRow xv l ++ Z))) A W
    | [u, _] => rtOk u l ∧ Turns F1 ((cb, Is (.cells (CC.setIfInBounds 1 u) 60 (0, 0))) :: (ab, Is (.cells CA 60 (0, 0))) :: (rtRow u l ++ (rtRow xv l ++ Z))) A W
    | _ => False)
    (fun W => W.heap[cb]? = some (.cells CC 60 (0, 0)) ∧ W.heap[ab]? = some (.cells CA 60 (0, 0))) [9, 12] ?hC (by kernel_rfl) (by kernel_rfl) (by kernel_rfl) (by decide) (by decide) ?h0 ?hs ?he
  case hA => intro x; simp only [fillFrom, Act.put, List.setIfInBounds_toArray, List.set_cons_zero, List.set_cons_succ, Nat.reduceAdd]; rfl
  case hs =>
    refine ⟨chain_quiet rfl rfl (fun x wq hd hC K hK hKw => ?_), chain_quiet rfl rfl (fun x wq hd hC K hK hKw => ?_), chain_quiet rfl rfl (fun x wq hd hC K hK hKw => ?_), chain_quiet rfl rfl (fun x wq hd hC K hK hKw => ?_), chain_quiet rfl rfl (fun x wq hd hC K hK hKw => ?_), chain_quiet rfl rfl (fun x wq hd hC K hK hKw => ?_), chain_quiet rfl rfl (fun x wq hd hC K hK hKw => ?_), chain_quiet rfl rfl (fun x wq hd hC K hK hKw => ?_), chain_quiet rfl rfl (fun x wq hd hC K hK hKw => ?_), chain_noisy 0 rfl rfl (fun x wq hd hS K hK => ?_), chain_quiet rfl rfl (fun x wq hd hC K hK hKw => ?_), chain_quiet rfl rfl (fun x wq hd hC K hK hKw => ?_), chain_noisy 1 rfl rfl (fun x wq hd hS K hK => ?_), trivial⟩
    · exact wp_run (by kernel_rfl) (hK _ rfl)
    · exact wp_run (by kernel_rfl) (hK _ rfl)
    · have h1 : x 1 = .pointer (some ⟨cb, 0, none⟩) := depsC_get hd 1 (by kernel_rfl)
      exact wp_run (by rw [h1]; kernel_rfl) (hK _ rfl)
    · have h2 : x 2 = .pointer (some ⟨cb, 0, none⟩) := depsC_get hd 2 (by kernel_rfl)
      exact wp_run (by rw [h2]; kernel_rfl) (hK _ rfl)
    · have h3 : x 3 = .pointer (some ⟨cb, 1, none⟩) := depsC_get hd 3 (by kernel_rfl)
      exact w_load Tryz.underlying58 rfl rfl (by rw [h3]; rfl) (cell_at hC.1 1 hcc) (hK _ rfl)
    · exact wp_run (by kernel_rfl) (hK _ rfl)
    · have h5 : x 5 = .pointer (some ⟨ab, 0, none⟩) := depsC_get hd 5 (by kernel_rfl)
      exact wp_run (by rw [h5]; kernel_rfl) (hK _ rfl)
    · have h6 : x 6 = .pointer (some ⟨ab, 0, none⟩) := depsC_get hd 6 (by kernel_rfl)
      exact wp_run (by rw [h6]; kernel_rfl) (hK _ rfl)
    · have h7 : x 7 = .pointer (some ⟨ab, 1, none⟩) := depsC_get hd 7 (by kernel_rfl)
      exact w_load Tryz.underlying58 rfl rfl (by rw [h7]; rfl) (cell_at hC.2 1 hca) (hK _ rfl)
    · have h4 : x 4 = .slice none 0 0 := depsC_get hd 4 (by kernel_rfl)
      have h8 : x 8 = .slice sl l.length cap := depsC_get hd 8 (by kernel_rfl)
      have hrow := hS.sat.sub (G := rtRow xv l) (fun _ => by simp only [cnt_cons, cnt_append, cnt_nil] <;> omega)
      obtain ⟨a', c', e1, _, _, hcells, _⟩ := row_cells hrow hok (by decide)
      rw [hxv] at e1
      simp only [Value.slice.injEq] at e1
      obtain ⟨rfl, _, _⟩ := e1
      exact w_append_rt (.tmp 26) (.tmp 30) rfl (.slice none 0 0) [] (by rw [h4]; rfl) hS ⟨rfl, fun _ => ⟨rfl, rfl⟩⟩ sl l.length cap (by rw [h8]; rfl) l rfl hcells  (by simpa using hl) (fun v1 w1 k1 k2 => hK _ _ trivial ⟨by simpa using k1, by simpa using k2⟩)
    · have h0 : x 0 = .pointer (some ⟨cb, 0, none⟩) := depsC_get hd 0 (by kernel_rfl)
      exact wp_run (by rw [h0]; kernel_rfl) (hK _ rfl)
    · have h10 : x 10 = .pointer (some ⟨cb, 0, none⟩) := depsC_get hd 10 (by kernel_rfl)
      exact wp_run (by rw [h10]; kernel_rfl) (hK _ rfl)
    · have h11 : x 11 = .pointer (some ⟨cb, 1, none⟩) := depsC_get hd 11 (by kernel_rfl)
      obtain ⟨ho, hT⟩ := hS
      have h1 := row_one' hT.sat.left ho
      refine w_store1T 58 (.tmp 33) (.tmp 31) rfl cb 1 CC 60 (x 9) (hT.to (H := (cb, Is (.cells CC 60 (0, 0))) :: ((ab, Is (.cells CA 60 (0, 0))) :: (rtRow (x 9) l ++ (rtRow xv l ++ Z)))) (perm_of_cnt fun _ => by simp only [cnt_cons, cnt_append, cnt_nil] <;> omega)) (by rw [h11]; rfl) rfl hsz (by kernel_rfl) h1.1 h1.2.1 (fun w9 h9 => hK _ _ trivial ⟨ho, h9⟩)
  case hC =>
    intro vs1 W hlt hS
    match vs1, hS, hlt with
    | [], hT, _ => exact ⟨hT.sat.memIs (by simp), hT.sat.memIs (by simp)⟩
    | [_], ⟨_, hT⟩, _ => exact ⟨hT.sat.memIs (by simp), hT.sat.memIs (by simp)⟩
    | [_, _], _, hlt => exact absurd hlt (Nat.lt_irrefl _)
  case h0 =>
    exact (show Turns F1 (rtRow (.slice none 0 0) [] ++ ((cb, Is (.cells CC 60 (0, 0))) :: (ab, Is (.cells CA 60 (0, 0))) :: (rtRow xv l ++ Z))) A w from hT).drew
  case he =>
    intro x w3 hφ hS
    exact hk (x 0) (x 1) (x 2) (x 3) (x 4) (x 5) (x 6) (x 7) (x 8) (x 9) (x 10) (x 11) w3 hS.1 hS.2
def RefCopyPost (R : RefL) (w : World) (e : Ending) (w' : World) : Prop :=
  ∃ b' vv' tv', e = .returned (.pointer (some ⟨b', 0, none⟩)) ∧ RefOk { R with blk := b', vv := vv', tv := tv', closed := false } ∧ Turns (refF R) (refF { R with blk := b', vv := vv', tv := tv', closed := false } ++ refF R) w w'
set_option maxHeartbeats 4000000 in
set_option maxRecDepth 100000 in
theorem RefCopy_calls (R : RefL) (w : World) (h : Sat w (refF R)) (hok : RefOk R) (h1 : ∀ v ∈ R.vs, v.cv.oneCell' = true) (hl : R.vs.length ≤ 1000000 ∧ R.ts.length ≤ 1000000) :
    Calls Tryz.prog 37 #[.pointer (some ⟨R.blk, 0, none⟩)] w (RefCopyPost R w) := by
  obtain ⟨-, -, sl, cap, e1, -, -⟩ := row_one' h.tail.left hok.vs
  obtain ⟨-, -, tl, tcap, e2, -, -⟩ := row_one' h.tail.right hok.ts
  have c2 : w.cell? ⟨R.blk, 2, none⟩ = some (.int .i64 R.quota) := cell_at h.headIs 2 rfl
  have hbl := lt_of_heap h.headIs
  have HH := Lib.hid (And.intro h (And.intro hok (And.intro h1 (And.intro hl (And.intro e1 e2)))))
  clear h hok h1 hl e1 e2
  go_enter Tryz.func37, Tryz.ntmps37
  go_wp2_with fail
  obtain ⟨cb, hcb⟩ : ∃ cb, cb = w.heap.size := ⟨_, rfl⟩
  rw [← hcb]
  refine copy2 (refF R) (rtRow R.tv R.ts) w cb R.blk #[.slice none 0 0, .slice none 0 0, .int .i64 R.quota, .bool false] (refCells R) sl cap R.vs R.vv ?_ rfl ?_ (by simp) HH.out.2.1.vs HH.out.2.2.2.2.1 HH.out.2.2.1 HH.out.2.2.2.1.1 ?_
  · rw [hcb]
    exact ((Turns.refl HH.out.1).allocIs _).to (by unfold refF refO; exact (perm_of_cnt fun _ => by simp only [cnt_cons, cnt_append, cnt_nil] <;> omega))
  · rw [← HH.out.2.2.2.2.1]; rfl
  intro _ _ _ _ _ _ _ _ _ vv2 _ _ w2 hv2 hT2
  have HT2 := Lib.hid (And.intro hv2 hT2)
  clear hv2 hT2
  go_wp2_with fail
  refine copy3 (refF R) (rvRow vv2 R.vs ++ rvRow R.vv R.vs) w cb R.blk (#[.slice none 0 0, .slice none 0 0, .int .i64 R.quota, .bool false].setIfInBounds 0 vv2) (refCells R) tl tcap R.ts R.tv ?_ rfl ?_ (by simp) HH.out.2.1.ts HH.out.2.2.2.2.2 HH.out.2.2.2.1.2 ?_
  · exact HT2.out.2.to (perm_of_cnt fun _ => by simp only [cnt_cons, cnt_append, cnt_nil] <;> omega)
  · rw [← HH.out.2.2.2.2.2]; rfl
  intro _ _ _ _ _ _ _ _ _ tv3 _ _ w3 hv3 hT3
  have HT3 := Lib.hid (And.intro hv3 hT3)
  clear hv3 hT3
  go_wp2_with fail
  refine bodyPost_ret (results_tmp rfl _ _ _) rfl ⟨cb, vv2, tv3, rfl, ⟨HT2.out.1, HT3.out.1⟩, ?_⟩
  have hT4 := HT3.out.2
  have e4 : ((#[.slice none 0 0, .slice none 0 0, .int .i64 R.quota, .bool false] : Array Value).setIfInBounds 0 vv2).setIfInBounds 1 tv3 = refCells { R with blk := cb, vv := vv2, tv := tv3, closed := false } := rfl
  rw [e4] at hT4
  exact hT4.to (by unfold refF refO; exact (perm_of_cnt fun _ => by simp only [cnt_cons, cnt_append, cnt_nil] <;> omega))
end Go.Proofs.YtdhobpbngkainaaGreatDoor
/-
  Ours. Open: over a device that is too small, and over one whose first sectors are empty.
-/
namespace Go.Proofs.YtdhobpbngkainaaGreatDoor
open Go.RowKit

def OpenSmallPost (w : World) (e : Ending) (w' : World) : Prop := e = .returned (.tuple #[.pointer none, .iface 49 (.int .i64 12)]) ∧ w = w'
set_option maxHeartbeats 1000000 in
set_option maxRecDepth 100000 in
theorem Open_small (d : Nat) (L : DevL) (q : Int) (w : World) (h : Sat w (devF d L)) (hn : L.n < 16) :
    Calls Tryz.prog 22 #[.pointer (some ⟨d, 0, none⟩), .int .i64 q] w (OpenSmallPost w) := by
  have HS := Lib.hid (Sectors_calls d L w h)
  clear h
  go_enter Tryz.func22, Tryz.ntmps22
  go_wp2_with fail
  refine HS.out.mono ?_
  rintro e w' ⟨rfl, rfl⟩
  go_wp2_with fail
  go_ret2
  exact ⟨rfl, rfl⟩
set_option maxHeartbeats 1000000 in
set_option maxRecDepth 100000 in
theorem Open_empty (d : Nat) (L : DevL) (q : Int) (w : World) (h : Sat w (devF d L)) (hL : DevOk L) (hn : 16 ≤ L.n) (hn2 : L.n ≤ 1073741824) (hch : L.chs.length ≤ 137438953472) (hz : ∀ k, k < 2 → secOf L.now k = zeros 128) :
    Calls Tryz.prog 22 #[.pointer (some ⟨d, 0, none⟩), .int .i64 q] w (FirstPost d L q w) := by
  have HS := Lib.hid (Sectors_calls d L w h)
  have hzt : zerosTo L.now 2 = true := by unfold zerosTo; exact decide_eq_true hz
  have hu := uses_none d L w h hL hn (fun k hk => by rw [hz k hk]; exact openR_zeros)
  rw [hzt] at hu
  have HU := Lib.hid hu
  have HF : Hid (∀ W, Sat W (devF d L) → Calls Tryz.prog 51 #[.pointer (some ⟨d, 0, none⟩), .int .i64 q] W (FirstPost d L q W)) := Lib.hid (fun W hW => first_calls d L q W hW hL hn hn2 hch)
  have HH := Lib.hid h
  clear h hL hn2 hch hz hzt hu
  have hn' : ¬ (L.n : Int) < 16 := by omega
  go_enter Tryz.func22, Tryz.ntmps22
  go_wp2_with fail
  refine HS.out.mono ?_
  rintro e w' ⟨rfl, rfl⟩
  go_wp2_with fail
  refine HU.out.mono ?_
  rintro e w1 ⟨rfl, hs1⟩
  have H1 := Lib.hid hs1
  clear hs1
  go_wp2_with fail
  refine (HF.out _ (HH.out.same H1.out)).mono ?_
  rintro e w2 ⟨a, ab, pm, tm, cm, ch, L', rfl, hT, hr⟩
  have H2 := Lib.hid (And.intro hT hr)
  clear hT hr
  go_wp2_with fail
  go_ret2
  exact ⟨a, ab, pm, tm, cm, ch, L', rfl, Turns.sameThen HH.out H1.out H2.out.1, H2.out.2⟩
end Go.Proofs.YtdhobpbngkainaaGreatDoor
