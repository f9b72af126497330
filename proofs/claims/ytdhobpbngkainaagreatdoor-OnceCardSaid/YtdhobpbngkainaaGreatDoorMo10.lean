/-
  Ours. content.add (the text is printed by wip/genadd.py).
-/
import Derived.Test.YtdhobpbngkainaaGreatDoorMo09
import Derived.Test.YtdhobpbngkainaaGreatDoorMo07
import Derived.Deep.QuietTactic
import Derived.BigQuiet
import Derived.DeepKeys4
import Derived.Test.YtdhobpbngkainaaGreatDoorMo04
namespace Go.Proofs.YtdhobpbngkainaaGreatDoor
open Go.RowKit Go.Maps
open Go.ChangeMaps (setBlock)

/-- A block of cells whose first six are a content. -/
structure ContIs (C : Array Value) (pm tm cm : Nat) (sc sb used : Int) : Prop where
  c0 : C[0]? = some (.map (some pm))
  c1 : C[1]? = some (.map (some tm))
  c2 : C[2]? = some (.map (some cm))
  c3 : C[3]? = some (.int .i64 sc)
  c4 : C[4]? = some (.int .i64 sb)
  c5 : C[5]? = some (.int .i64 used)
def addP (ps : List PathL) (c : Nat) (l : Bs) (v : Value) (V : VerL) : List PathL := setG ps c l v (versOf ps l ++ [V])
def othersP (ps : List PathL) (l : Bs) : HF := rowsG pathR (othersG ps l) ++ (versOf ps l).flatMap verF
theorem paths_split {ps : List PathL} (l : Bs) (h : (ps.map (·.key)).Nodup) : (rowsG pathR ps).Perm (ptrRow (valOf (.slice none 0 0) ps l) (versOf ps l) ++ othersP ps l) := by
  have := rows_split pathR (.slice none 0 0) [] rfl ps l h
  unfold pathR at this
  rw [List.append_assoc] at this
  exact this.trans (List.Perm.append_left _ List.perm_append_comm)
theorem paths_set {ps : List PathL} (c : Nat) (l : Bs) (v : Value) (V : VerL) (h : (ps.map (·.key)).Nodup) : (rowsG pathR (addP ps c l v V)).Perm (ptrRow v (versOf ps l ++ [V]) ++ (othersP ps l ++ verF V)) := by
  have := rows_set pathR ps c l v (versOf ps l ++ [V]) h
  unfold pathR at this
  rw [List.append_assoc] at this
  refine this.trans (List.Perm.append_left _ ?_)
  rw [List.flatMap_append]
  unfold othersP
  simp only [List.flatMap_cons, List.flatMap_nil, List.append_nil]
  rw [List.append_assoc (rowsG pathR (othersG ps l))]
  exact List.perm_append_comm
theorem ptrOk_of {ps : List PathL} {c : Nat} (hok : PathsOk ps c) (l : Bs) : ptrOk (valOf (.slice none 0 0) ps l) (versOf ps l) := by
  unfold valOf versOf gOf
  cases hf : ps.find? (fun p => decide (p.key = l)) with
  | none => exact ⟨rfl, fun _ => ⟨rfl, rfl⟩⟩
  | some p => exact (hok.rows p (List.mem_of_find?_eq_some hf)).1
theorem infoPtrV : (Tryz.prog.info? 149).map (fun i => (i.zero, i.size, i.bytes)) = some (some (.pointer none), 1, 8) := by kernel_rfl
theorem w_append_p {o : Oper} {a : Act} {w a0 : World} {K : Act → World → Prop} {Q : Exit → Act → World → Prop} {F G : HF} (s x : Operand) (hop : o.op = .call { callee := .builtin .append, args := #[s, x], argTypes := #[153, 153] })
    (v : Value) (l : List VerL) (hs : a.eval s = v) (hT : Turns F (ptrRow v l ++ G) a0 w) (hok : ptrOk v l) (sa : Option Addr) (m c : Nat) (hx : a.eval x = .slice sa m c) (r : List VerL) (hm : m = r.length)
    (hc : 0 < m → ∃ ad, sa = some ad ∧ ∀ j u, (r.map ptrV)[j]? = some u → w.cell? (ad.add j) = some u) (hb : l.length + r.length ≤ 1000000)
    (hk : ∀ v' w', ptrOk v' (l ++ r) → Turns F (ptrRow v' (l ++ r) ++ G) a0 w' → K (a.put o.dst v') w') : o.wp Tryz.prog a w K Q := by
  obtain ⟨i0, hi0, hz1, hz2, hz3⟩ := info_parts infoPtrV
  refine w_append_row s x 153 149 i0 (.pointer none) 1 8 hop Tryz.underlying153 hi0 hz1 hz2 hz3 rfl (by decide) v l.length (l.map ptrV) hs hT hok sa m c hx (r.map ptrV) (by simp [hm]) hc (fun u hu => by obtain ⟨y, _, rfl⟩ := List.mem_map.1 hu; rfl) (by unfold maxLen; omega) (by omega) (fun v' w' h1 h2 h3 => ?_)
  exact hk v' w' (by unfold ptrOk; rw [List.length_append, List.map_append, ← hm]; exact h1) (by unfold ptrRow; rw [List.length_append, List.map_append, ← hm]; exact h2)
theorem w_look {κ : Type} [DecidableEq κ] {P : Program} {k t ev : TypeId} {enc : κ → Value} {Ok : κ → Prop} (E : EncOk P k enc Ok) {w : World} {o : Oper} {a : Act} {K : Act → World → Prop} {Q : Exit → Act → World → Prop}
    (m x : Operand) (hop : o.op = .lookup t m x false) (ht : P.underlying t = some (.map k ev)) {b : Nat} {l : List (Ent κ)} {c : Nat} (hb : w.heap[b]? = some (mapO enc l c)) (hm : MapOk Ok l c) {z : Value} (hz : (zeroValue ev).run P w = .ok z w)
    (key : κ) (hmv : a.eval m = .map (some b)) (hx : a.eval x = enc key) (hk : Ok key) (hK : K (a.put o.dst ((getE l key).getD z)) w) : o.wp P a w K Q := by
  refine wp_run (v := (getE l key).getD z) (w' := w) ?_ hK
  simp [execOp, hop, hmv, hx, run_look E ht hb hm hz hk, Result.andThen]
theorem w_mapUp {κ : Type} [DecidableEq κ] {P : Program} {k t ev : TypeId} {enc : κ → Value} {Ok : κ → Prop} (E : EncOk P k enc Ok) {w : World} {o : Oper} {a : Act} {K : Act → World → Prop} {Q : Exit → Act → World → Prop}
    (m x y : Operand) (hop : o.op = .mapUpdate t m x y) (ht : P.underlying t = some (.map k ev)) {b : Nat} {l : List (Ent κ)} {c : Nat} (hb : w.heap[b]? = some (mapO enc l c)) (hm : MapOk Ok l c)
    (key : κ) (v : Value) (hmv : a.eval m = .map (some b)) (hx : a.eval x = enc key) (hy : a.eval y = v) (hk : Ok key) (hK : K (a.put o.dst undef) (setBlock w b (mapO enc (putE l c key v) (putC l c key)))) : o.wp P a w K Q := by
  unfold Oper.wp execOp
  simp only [hop, hmv, hx, hy, Sem.run_bind, run_mapUp E ht hb hm hk v, Result.andThen_ok, Sem.run_pure]
  exact hK
theorem w_store1 {P : Program} {o : Oper} {a : Act} {w : World} {K : Act → World → Prop} {Q : Exit → Act → World → Prop} {ty : TypeId} (x y : Operand) (hs : (P.info? ty).map (·.size) = some 1) (ho : o.op = .store ty x y)
    {b i : Nat} {C : Array Value} {t : TypeId} {v u : Value} (hb : w.heap[b]? = some (.cells C t (0, 0))) (hi : C[i]? = some u) (hx : a.eval x = .pointer (some ⟨b, i, none⟩)) (hy : a.eval y = v) (h1 : v.oneCell' = true) (hvc : v.cells = #[v])
    (hK : K (a.put o.dst undef) (w.setCell ⟨b, i, none⟩ v)) : o.wp P a w K Q := by
  have hc : w.cell? ⟨b, i, none⟩ = some u := cell_at hb i hi
  have hf := free_at hb i
  have hst := run_storeCells_cells (P := P) b i [v] 0 w (fun j hj => by obtain rfl : j = 0 := by simp at hj; omega
                                                                        simp [hc]) (fun j hj => by obtain rfl : j = 0 := by simp at hj; omega
                                                                                                   simpa using hf) (fun q hq => by simp at hq; subst hq; exact h1)
  have hsv : (storeVar ty ⟨b, i, none⟩ v).run P w = .ok () (w.setCell ⟨b, i, none⟩ v) := by
    cases hq : P.info? ty with
    | none => simp [hq] at hs
    | some j =>
      have hj : j.size = 1 := by simpa [hq] using hs
      simp only [Nat.add_zero] at hst
      simp [storeVar, sizeOf, typeInfo, hq, hvc, hj, hst, World.setCells]
  unfold Oper.wp execOp
  simp only [ho, hx, hy, Instr.storeAt, Instr.sureAddr, Sem.run_bind, Sem.run_pure, Result.andThen_ok, hsv]
  exact hK
def CAddPost (b pm c : Nat) (ps : List PathL) (l : Bs) (V : VerL) (C : Array Value) (ty : TypeId) (used : Int) (w : World) (e : Ending) (w' : World) : Prop :=
  ∃ v', e = .returned (.tuple #[]) ∧ ptrOk v' (versOf ps l ++ [V]) ∧
    Turns ((b, Is (.cells C ty (0, 0))) :: (pathsF pm ps c ++ verF V)) ((b, Is (.cells (C.setIfInBounds 5 (.int .i64 (used + V.size))) ty (0, 0))) :: pathsF pm (addP ps c l v' V) (putC (ps.map entG) c l)) w w'
set_option maxHeartbeats 4000000 in
set_option maxRecDepth 100000 in
theorem add_calls (b pm tm cm c : Nat) (sc sb used : Int) (ps : List PathL) (l : Bs) (V : VerL) (C : Array Value) (ty : TypeId) (w : World) (h : Sat w ((b, Is (.cells C ty (0, 0))) :: (pathsF pm ps c ++ verF V))) (hC : ContIs C pm tm cm sc sb used) (hok : PathsOk ps c)
    (hl : OkS l) (hlen : (versOf ps l).length ≤ 100000) (hus : -4611686018427387904 ≤ used ∧ used + V.size ≤ 4611686018427387904) (hvs : V.size ≤ 4611686018427387904) :
    Calls Tryz.prog 84 #[.pointer (some ⟨b, 0, none⟩), str l, ptrV V] w (CAddPost b pm c ps l V C ty used w) := by
  obtain ⟨O, hO⟩ : ∃ O : Obj, O = .cells C ty (0, 0) := ⟨_, rfl⟩
  rw [← hO] at h
  have hT0 : Turns ((b, Is O) :: (pathsF pm ps c ++ verF V)) (ptrRow (valOf (.slice none 0 0) ps l) (versOf ps l) ++ ((b, Is O) :: (pm, Is (mapO str (ps.map entG) c)) :: (othersP ps l ++ verF V))) w w := by
    refine (Turns.refl h).to ?_
    have hp := paths_split l (by rw [← ent_keys]; exact hok.map.nodup)
    unfold pathsF
    refine ((List.Perm.cons _ (List.Perm.cons _ (hp.append_right _)))).trans ?_
    refine (List.perm_append_comm (l₁ := [(b, Is O), (pm, Is (mapO str (ps.map entG) c))]) (l₂ := ptrRow (valOf (.slice none 0 0) ps l) (versOf ps l) ++ othersP ps l ++ verF V)).trans ?_
    simp only [List.append_assoc]
    refine List.Perm.append_left _ ?_
    rw [← List.append_assoc]
    exact List.perm_append_comm
  obtain ⟨v0, hv0⟩ : ∃ v0, v0 = valOf (.slice none 0 0) ps l := ⟨_, rfl⟩
  obtain ⟨vs, hvs0⟩ : ∃ vs, vs = versOf ps l := ⟨_, rfl⟩
  have hok0 : ptrOk v0 vs := by
    rw [hv0, hvs0]
    exact ptrOk_of hok l
  obtain ⟨R1, hR1⟩ : ∃ R1, R1 = othersP ps l ++ verF V := ⟨_, rfl⟩
  obtain ⟨F0, hF0⟩ : ∃ F0, F0 = (b, Is O) :: (pathsF pm ps c ++ verF V) := ⟨_, rfl⟩
  obtain ⟨M, hM⟩ : ∃ M, M = mapO str (ps.map entG) c := ⟨_, rfl⟩
  rw [← hv0, ← hvs0, ← hR1, ← hF0, ← hM] at hT0
  have HM := Lib.hid (show Tryz.prog.follows .mixedOrders = true by kernel_rfl)
  have HH := Lib.hid (And.intro hT0 (And.intro hO (And.intro hM (And.intro hv0 (And.intro hvs0 (And.intro hR1 (And.intro hF0 (And.intro hok0 (And.intro hok (And.intro hl hC))))))))))
  have HL := Lib.hid (And.intro (hvs0 ▸ hlen) hus)
  have HW := Lib.hid (show IntKind.i64.wrap (used + V.size) = used + V.size from IntWalk.i64_in _ (by omega))
  clear h hT0 hO hM hv0 hvs0 hR1 hF0 hok0 hok hl hC hus hlen hvs
  unfold ptrV
  go_enter Tryz.func84, Tryz.ntmps84
  go_wp2_with fail
  refine wp_region_chainL (A := ?A) (hA := ?hA) HM.out (phiL [fun v => v = .pointer (some ⟨b, 0, none⟩), fun v => v = .pointer (some ⟨b, 0, none⟩), fun v => v = .pointer (some ⟨b, 0, none⟩), fun v => v = .map (some pm), fun v => v = str l, fun v => v = .pointer (some ⟨b, 0, none⟩), fun v => v = .pointer (some ⟨b, 0, none⟩), fun v => v = .pointer (some ⟨b, 0, none⟩), fun v => v = .map (some pm), fun v => v = str l, fun v => v = v0, fun v => v = .pointer (some ⟨V.blk, 0, none⟩), fun _ => True, fun _ => True, fun _ => True])
    (fun vs1 W => match vs1 with
    | [] => Turns F0 (ptrRow v0 vs ++ ((b, Is O) :: (pm, Is M) :: R1)) w W
    | [v] => ∃ n : Nat, v = .slice (some ⟨n, 0, none⟩) 1 1 ∧ W.cell? ⟨n, 0, none⟩ = some (.pointer (some ⟨V.blk, 0, none⟩)) ∧ Turns F0 (ptrRow v0 vs ++ ((b, Is O) :: (pm, Is M) :: R1)) w W
    | [_, v] => ptrOk v (vs ++ [V]) ∧ Turns F0 (ptrRow v (vs ++ [V]) ++ ((b, Is O) :: (pm, Is M) :: R1)) w W
    | [_, v, _] => ptrOk v (vs ++ [V]) ∧ Turns F0 (ptrRow v (vs ++ [V]) ++ ((b, Is O) :: (pm, Is (mapO str (putE (ps.map entG) c l v) (putC (ps.map entG) c l))) :: R1)) w W
    | _ => False)
    (fun W => W.heap[b]? = some O ∧ W.heap[pm]? = some M) [12, 13, 14] ?hC (by kernel_rfl) (by kernel_rfl) (by kernel_rfl) (by decide) (by decide) ?h0 ?hs ?he
  case hA => intro x; simp only [fillFrom, Act.put, List.setIfInBounds_toArray, List.set_cons_zero, List.set_cons_succ, Nat.reduceAdd]; rfl
  case hs =>
    refine ⟨chain_quiet rfl rfl (fun x wq hd hC K hK hKw => ?_), chain_quiet rfl rfl (fun x wq hd hC K hK hKw => ?_), chain_quiet rfl rfl (fun x wq hd hC K hK hKw => ?_), chain_quiet rfl rfl (fun x wq hd hC K hK hKw => ?_), chain_quiet rfl rfl (fun x wq hd hC K hK hKw => ?_), chain_quiet rfl rfl (fun x wq hd hC K hK hKw => ?_), chain_quiet rfl rfl (fun x wq hd hC K hK hKw => ?_), chain_quiet rfl rfl (fun x wq hd hC K hK hKw => ?_), chain_quiet rfl rfl (fun x wq hd hC K hK hKw => ?_), chain_quiet rfl rfl (fun x wq hd hC K hK hKw => ?_), chain_quiet rfl rfl (fun x wq hd hC K hK hKw => ?_), chain_quiet rfl rfl (fun x wq hd hC K hK hKw => ?_), chain_noisy 0 rfl rfl (fun x wq hd hS K hK => ?_), chain_noisy 1 rfl rfl (fun x wq hd hS K hK => ?_), chain_noisy 2 rfl rfl (fun x wq hd hS K hK => ?_), trivial⟩
    · exact wp_run (by kernel_rfl) (hK _ rfl)
    · have h0 : x 0 = .pointer (some ⟨b, 0, none⟩) := depsC_get hd 0 (by kernel_rfl)
      exact wp_run (by rw [h0]; kernel_rfl) (hK _ rfl)
    · have h1 : x 1 = .pointer (some ⟨b, 0, none⟩) := depsC_get hd 1 (by kernel_rfl)
      exact wp_run (by rw [h1]; kernel_rfl) (hK _ rfl)
    · have h2 : x 2 = .pointer (some ⟨b, 0, none⟩) := depsC_get hd 2 (by kernel_rfl)
      exact w_load Tryz.underlying119 rfl rfl (by rw [h2]; rfl) (cell_at (HH.out.2.1 ▸ hC.1) 0 HH.out.2.2.2.2.2.2.2.2.2.2.c0) (hK _ rfl)
    · exact wp_run (by kernel_rfl) (hK _ rfl)
    · exact wp_run (by kernel_rfl) (hK _ rfl)
    · have h5 : x 5 = .pointer (some ⟨b, 0, none⟩) := depsC_get hd 5 (by kernel_rfl)
      exact wp_run (by rw [h5]; kernel_rfl) (hK _ rfl)
    · have h6 : x 6 = .pointer (some ⟨b, 0, none⟩) := depsC_get hd 6 (by kernel_rfl)
      exact wp_run (by rw [h6]; kernel_rfl) (hK _ rfl)
    · have h7 : x 7 = .pointer (some ⟨b, 0, none⟩) := depsC_get hd 7 (by kernel_rfl)
      exact w_load Tryz.underlying119 rfl rfl (by rw [h7]; rfl) (cell_at (HH.out.2.1 ▸ hC.1) 0 HH.out.2.2.2.2.2.2.2.2.2.2.c0) (hK _ rfl)
    · exact wp_run (by kernel_rfl) (hK _ rfl)
    · have h8 : x 8 = .map (some pm) := depsC_get hd 8 (by kernel_rfl)
      have h9 : x 9 = str l := depsC_get hd 9 (by kernel_rfl)
      refine w_look strEnc (.tmp 14) (.tmp 15) rfl Tryz.underlying119 (HH.out.2.2.1 ▸ hC.2) HH.out.2.2.2.2.2.2.2.2.1.map (zeroSlice _) l (by rw [h8]; rfl) (by rw [h9]; rfl) HH.out.2.2.2.2.2.2.2.2.2.1 ?_
      rw [getE_valOf, ← HH.out.2.2.2.1]
      exact hK _ rfl
    · exact wp_run (by kernel_rfl) (hK _ rfl)
    · have h11 : x 11 = .pointer (some ⟨V.blk, 0, none⟩) := depsC_get hd 11 (by kernel_rfl)
      exact wp_run (by rw [h11]; kernel_rfl) (hK _ _ trivial ⟨_, rfl, cell_at (alloc_new wq (.cells #[.pointer (some ⟨V.blk, 0, none⟩)] 149)) 0 rfl, Turns.alloc hS _⟩)
    · have h10 : x 10 = v0 := depsC_get hd 10 (by kernel_rfl)
      obtain ⟨n, en, hcn, hT⟩ := hS
      exact w_append_p (.tmp 16) (.tmp 18) rfl v0 vs (by rw [h10]; rfl) hT HH.out.2.2.2.2.2.2.2.1 (some ⟨n, 0, none⟩) 1 1 (by rw [en]; rfl) [V] rfl (fun _ => ⟨_, rfl, fun j u hu => by
          cases j with
          | zero => simp only [List.map_cons, List.getElem?_cons_zero, Option.some.injEq] at hu; rw [← hu, Addr.add_lit]; exact hcn
          | succ j => simp at hu⟩) (by have := HL.out.1; simp; omega) (fun v1 w1 h1 h2 => hK _ _ trivial ⟨h1, h2⟩)
    · have h3 : x 3 = .map (some pm) := depsC_get hd 3 (by kernel_rfl)
      have h4 : x 4 = str l := depsC_get hd 4 (by kernel_rfl)
      have hT := hS.2
      have hmp := hT.sat.memIs (b := pm) (o := M) (by simp)
      refine w_mapUp strEnc (.tmp 9) (.tmp 10) (.tmp 19) rfl Tryz.underlying119 (HH.out.2.2.1 ▸ hmp) HH.out.2.2.2.2.2.2.2.2.1.map l (x 13) (by rw [h3]; rfl) (by rw [h4]; rfl) rfl HH.out.2.2.2.2.2.2.2.2.2.1 ?_
      refine hK _ _ trivial ⟨hS.1, ?_⟩
      have hq := (hT.to (H := (pm, Is M) :: (ptrRow (x 13) (vs ++ [V]) ++ (b, Is O) :: R1)) (perm_of_cnt fun _ => by simp only [cnt_cons, cnt_append, cnt_nil] <;> omega)).putIs (o := mapO str (putE (ps.map entG) c l (x 13)) (putC (ps.map entG) c l)) (setBlock_mods wq pm _) (setBlock_at hmp)
      exact hq.to (perm_of_cnt fun _ => by simp only [cnt_cons, cnt_append, cnt_nil] <;> omega)
  case hC =>
    intro vs1 W hlt hS
    match vs1, hS, hlt with
    | [], hT, _ => exact ⟨hT.sat.memIs (by simp), hT.sat.memIs (by simp)⟩
    | [_], ⟨_, _, _, hT⟩, _ => exact ⟨hT.sat.memIs (by simp), hT.sat.memIs (by simp)⟩
    | [_, _], ⟨_, hT⟩, _ => exact ⟨hT.sat.memIs (by simp), hT.sat.memIs (by simp)⟩
    | [_, _, _], _, hlt => exact absurd hlt (Nat.lt_irrefl _)
  case h0 => exact HH.out.1.drew
  case he =>
    intro x w3 hφ hS
    obtain ⟨hok3, hT3⟩ := hS
    obtain ⟨v3, hv3⟩ : ∃ v3, v3 = x 13 := ⟨_, rfl⟩
    rw [← hv3] at hok3 hT3
    have HT3 := Lib.hid (And.intro hok3 hT3)
    clear hφ hok3 hT3 hv3
    go_wp2_with fail
    refine wp_region_chainL (A := ?A2) (hA := ?hA2) HM.out (phiL [fun v => v = .pointer (some ⟨b, 0, none⟩), fun v => v = .pointer (some ⟨b, 0, none⟩), fun v => v = .pointer (some ⟨b, 5, none⟩), fun v => v = .int .i64 used, fun v => v = .pointer (some ⟨V.blk, 0, none⟩), fun v => v = .pointer (some ⟨V.blk, 0, none⟩), fun v => v = .pointer (some ⟨V.blk, 1, none⟩), fun v => v = .int .i64 V.size, fun v => v = .int .i64 (used + V.size), fun v => v = .pointer (some ⟨b, 0, none⟩), fun v => v = .pointer (some ⟨b, 5, none⟩), fun _ => True])
      (fun vs1 W => match vs1 with
      | [] => Turns F0 (ptrRow v3 (vs ++ [V]) ++ ((b, Is O) :: (pm, Is (mapO str (putE (ps.map entG) c l v3) (putC (ps.map entG) c l))) :: R1)) w W
      | [_] => Turns F0 (ptrRow v3 (vs ++ [V]) ++ ((b, Is (.cells (C.setIfInBounds 5 (.int .i64 (used + V.size))) ty (0, 0))) :: (pm, Is (mapO str (putE (ps.map entG) c l v3) (putC (ps.map entG) c l))) :: R1)) w W
      | _ => False)
      (fun W => W.heap[b]? = some O ∧ W.heap[V.blk]? = some (verO V)) [11] ?hC2 (by kernel_rfl) (by kernel_rfl) (by kernel_rfl) (by decide) (by decide) ?h02 ?hs2 ?he2
    case hA2 => intro x; simp only [fillFrom, Act.put, List.setIfInBounds_toArray, List.set_cons_zero, List.set_cons_succ, Nat.reduceAdd]; rfl
    case hs2 =>
      refine ⟨chain_quiet rfl rfl (fun x wq hd hC K hK hKw => ?_), chain_quiet rfl rfl (fun x wq hd hC K hK hKw => ?_), chain_quiet rfl rfl (fun x wq hd hC K hK hKw => ?_), chain_quiet rfl rfl (fun x wq hd hC K hK hKw => ?_), chain_quiet rfl rfl (fun x wq hd hC K hK hKw => ?_), chain_quiet rfl rfl (fun x wq hd hC K hK hKw => ?_), chain_quiet rfl rfl (fun x wq hd hC K hK hKw => ?_), chain_quiet rfl rfl (fun x wq hd hC K hK hKw => ?_), chain_quiet rfl rfl (fun x wq hd hC K hK hKw => ?_), chain_quiet rfl rfl (fun x wq hd hC K hK hKw => ?_), chain_quiet rfl rfl (fun x wq hd hC K hK hKw => ?_), chain_noisy 0 rfl rfl (fun x wq hd hS K hK => ?_), trivial⟩
      · exact wp_run (by kernel_rfl) (hK _ rfl)
      · have h0 : x 0 = .pointer (some ⟨b, 0, none⟩) := depsC_get hd 0 (by kernel_rfl)
        exact wp_run (by rw [h0]; kernel_rfl) (hK _ rfl)
      · have h1 : x 1 = .pointer (some ⟨b, 0, none⟩) := depsC_get hd 1 (by kernel_rfl)
        exact wp_run (by rw [h1]; kernel_rfl) (hK _ rfl)
      · have h2 : x 2 = .pointer (some ⟨b, 5, none⟩) := depsC_get hd 2 (by kernel_rfl)
        exact w_load Tryz.underlying3 rfl rfl (by rw [h2]; rfl) (cell_at (HH.out.2.1 ▸ hC.1) 5 HH.out.2.2.2.2.2.2.2.2.2.2.c5) (hK _ rfl)
      · exact wp_run (by kernel_rfl) (hK _ rfl)
      · have h4 : x 4 = .pointer (some ⟨V.blk, 0, none⟩) := depsC_get hd 4 (by kernel_rfl)
        exact wp_run (by rw [h4]; kernel_rfl) (hK _ rfl)
      · have h5 : x 5 = .pointer (some ⟨V.blk, 0, none⟩) := depsC_get hd 5 (by kernel_rfl)
        exact wp_run (by rw [h5]; kernel_rfl) (hK _ rfl)
      · have h6 : x 6 = .pointer (some ⟨V.blk, 1, none⟩) := depsC_get hd 6 (by kernel_rfl)
        exact w_load Tryz.underlying3 rfl rfl (by rw [h6]; rfl) (cell_at hC.2 1 rfl) (hK _ rfl)
      · have h3 : x 3 = .int .i64 used := depsC_get hd 3 (by kernel_rfl)
        have h7 : x 7 = .int .i64 V.size := depsC_get hd 7 (by kernel_rfl)
        refine wp_run (v := .int .i64 (used + V.size)) ?_ (hK _ rfl)
        rw [← HW.out]
        rw [h3, h7]; kernel_rfl
      · have h0 : x 0 = .pointer (some ⟨b, 0, none⟩) := depsC_get hd 0 (by kernel_rfl)
        exact wp_run (by rw [h0]; kernel_rfl) (hK _ rfl)
      · have h9 : x 9 = .pointer (some ⟨b, 0, none⟩) := depsC_get hd 9 (by kernel_rfl)
        exact wp_run (by rw [h9]; kernel_rfl) (hK _ rfl)
      · have h10 : x 10 = .pointer (some ⟨b, 5, none⟩) := depsC_get hd 10 (by kernel_rfl)
        have h8 : x 8 = .int .i64 (used + V.size) := depsC_get hd 8 (by kernel_rfl)
        have hT := hS
        have hbo := hT.sat.memIs (b := b) (o := O) (by simp)
        rw [HH.out.2.1] at hbo
        refine w_store1 (v := .int .i64 (used + V.size)) (.tmp 30) (.tmp 28) (ty := 3) (by kernel_rfl) rfl hbo HH.out.2.2.2.2.2.2.2.2.2.2.c5 (by rw [h10]; rfl) (by rw [h8]; rfl) (by simp [Value.oneCell']) rfl ?_
        have hq := (hT.to (H := (b, Is O) :: (ptrRow v3 (vs ++ [V]) ++ (pm, Is (mapO str (putE (ps.map entG) c l v3) (putC (ps.map entG) c l))) :: R1)) (perm_of_cnt fun _ => by simp only [cnt_cons, cnt_append, cnt_nil] <;> omega)).putIs ((Mods.refl (fun k => k = b) wq).set1 (i := 5) (.int .i64 (used + V.size))) (set_same hbo 5 _)
        exact hK _ _ trivial (hq.to (perm_of_cnt fun _ => by simp only [cnt_cons, cnt_append, cnt_nil] <;> omega))
    case hC2 =>
      intro vs1 W hlt hS
      match vs1, hS, hlt with
      | [], hT, _ =>
        refine ⟨hT.sat.memIs (by simp), hT.sat.memIs ?_⟩
        rw [HH.out.2.2.2.2.2.1]
        simp [verF]
      | [_], _, hlt => exact absurd hlt (Nat.lt_irrefl _)
    case h02 => exact HT3.out.2.drew
    case he2 =>
      intro y w4 hφ hT4
      have hT5 := Lib.hid hT4
      clear hφ hT4
      go_wp2_with fail
      refine bodyPost_end (results_none rfl _ _ _) rfl ?_
      have hT6 : Turns F0 (ptrRow v3 (vs ++ [V]) ++ ((b, Is (.cells (C.setIfInBounds 5 (.int .i64 (used + V.size))) ty (0, 0))) :: (pm, Is (mapO str (putE (ps.map entG) c l v3) (putC (ps.map entG) c l))) :: R1)) w w4 := hT5.out
      refine ⟨v3, rfl, by rw [← HH.out.2.2.2.2.1]; exact HT3.out.1, ?_⟩
      rw [← HH.out.2.1, ← HH.out.2.2.2.2.2.2.1]
      refine hT6.to ?_
      have hp := paths_set c l v3 V (by rw [← ent_keys]; exact HH.out.2.2.2.2.2.2.2.2.1.map.nodup)
      rw [← HH.out.2.2.2.2.1, ← HH.out.2.2.2.2.2.1] at hp
      unfold pathsF addP
      rw [setG_ent, ← HH.out.2.2.2.2.1]
      have h1 := (List.Perm.cons (b, Is (.cells (C.setIfInBounds 5 (.int .i64 (used + V.size))) ty (0, 0))) (List.Perm.cons (pm, Is (mapO str (putE (ps.map entG) c l v3) (putC (ps.map entG) c l))) hp)).symm
      unfold addP at h1
      rw [← HH.out.2.2.2.2.1] at h1
      refine List.Perm.trans ?_ h1
      exact ((perm_of_cnt fun _ => by simp only [cnt_cons, cnt_append, cnt_nil] <;> omega))
end Go.Proofs.YtdhobpbngkainaaGreatDoor
/-
  Ours. Room, Stored, keyOf.
-/
namespace Go.Proofs.YtdhobpbngkainaaGreatDoor
open Go.RowKit

def RoomPost (A : AreaL) (w : World) (e : Ending) (w' : World) : Prop := e = .returned (.int .i64 ((A.count : Int) * 128 - A.end_)) ∧ Same w w'
set_option maxHeartbeats 1000000 in
set_option maxRecDepth 100000 in
theorem Room_calls (ab d : Nat) (A : AreaL) (w : World) (h : Sat w (areaF ab d A)) (h1 : A.count ≤ 1073741824) (h2 : A.end_ ≤ 128 * A.count) :
    Calls Tryz.prog 119 #[.pointer (some ⟨ab, 0, none⟩)] w (RoomPost A w) := by
  have hab := h.headIs
  have a2 := cell_at hab 2 (areaC_2 d A)
  have a3 := cell_at hab 3 (areaC_3 d A)
  have e1 : IntKind.i64.wrap ((A.count : Int) * 128) = (A.count : Int) * 128 := IntWalk.i64_in _ (by omega)
  have e2 : IntKind.i64.wrap ((A.count : Int) * 128 - (A.end_ : Int)) = (A.count : Int) * 128 - (A.end_ : Int) := IntWalk.i64_in _ (by omega)
  clear h hab
  go_enter Tryz.func119, Tryz.ntmps119
  go_wp2_with fail
  go_quiet (fail)
  go_wp2_with fail
  go_ret
  exact ⟨rfl, (Mods.refl _ w).drewN _⟩

def StoredPost (X : ArchL) (w : World) (e : Ending) (w' : World) : Prop := e = .returned (.tuple #[.agg #[.int .i64 X.sc, .int .i64 X.sb], .nilIface]) ∧ Same w w'
def StoredClosed (w : World) (e : Ending) (w' : World) : Prop := e = .returned (.tuple #[.agg #[.int .i64 0, .int .i64 0], .iface 49 (.int .i64 9)]) ∧ Same w w'
set_option maxHeartbeats 1000000 in
set_option maxRecDepth 100000 in
theorem Stored_open (a : Nat) (X : ArchL) (w : World) (h : w.heap[a]? = some (archO X)) (hc : X.closed = false) :
    Calls Tryz.prog 26 #[.pointer (some ⟨a, 0, none⟩)] w (StoredPost X w) := by
  have a3 : w.cell? ⟨a, 3, none⟩ = some (.int .i64 X.sc) := cell_at h 3 rfl
  have a4 : w.cell? ⟨a, 4, none⟩ = some (.int .i64 X.sb) := cell_at h 4 rfl
  have a10 : w.cell? ⟨a, 10, none⟩ = some (.bool false) := by rw [← hc]; exact cell_at h 10 rfl
  have hal := lt_of_heap h
  go_enter Tryz.func26, Tryz.ntmps26
  go_wp2_with fail
  go_wp2_with fail
  exact bodyPost_ret (results_row_tmp rfl _ _ w.heap.size 74 _ (0, 0) _ rfl (alloc_new w _) Tryz.underlying74 rfl (by kernel_rfl)) rfl ⟨rfl, (Mods.refl _ w).alloc _⟩
set_option maxHeartbeats 1000000 in
set_option maxRecDepth 100000 in
theorem Stored_closed (a : Nat) (X : ArchL) (w : World) (h : w.heap[a]? = some (archO X)) (hc : X.closed = true) :
    Calls Tryz.prog 26 #[.pointer (some ⟨a, 0, none⟩)] w (StoredClosed w) := by
  have a10 : w.cell? ⟨a, 10, none⟩ = some (.bool true) := by rw [← hc]; exact cell_at h 10 rfl
  have hal := lt_of_heap h
  go_enter Tryz.func26, Tryz.ntmps26
  go_wp2_with fail
  exact bodyPost_ret (results_row_tmp rfl _ _ w.heap.size 74 _ (0, 0) _ rfl (alloc_new w _) Tryz.underlying74 rfl (by kernel_rfl)) rfl ⟨rfl, (Mods.refl _ w).alloc _⟩
def KeyPost (b : Bs) (w : World) (e : Ending) (w' : World) : Prop := e = .returned (.agg (row8 (be (sumOf 1 b) 4))) ∧ Same w w'
set_option maxHeartbeats 1000000 in
set_option maxRecDepth 100000 in
theorem keyOf_calls (a : Option Addr) (cap : Nat) (b : Bs) (w : World) (h : CellsAt w a (b.map enc8)) (hl : b.length ≤ 1099511627776) :
    Calls Tryz.prog 126 #[.slice a b.length cap] w (KeyPost b w) := by
  have HS := Lib.hid (fun W (hW : Same w W) => Sum_calls a cap 1 b W (h.keep hW (fun _ _ _ => id)) hl)
  have hs := sumOf_lt 1 b
  obtain ⟨s, hse⟩ : ∃ s, s = sumOf 1 b := ⟨_, rfl⟩
  rw [← hse] at hs
  have HE := Lib.hid hse
  clear h hl hse
  go_enter Tryz.func126, Tryz.ntmps126
  go_wp2_with fail
  refine (HS.out _ ((Mods.refl _ w).alloc _)).mono ?_
  rintro e w1 ⟨rfl, hs1⟩
  rw [← HE.out]
  have hn := hs1.at (alloc_new w (.cells #[.int .u8 0, .int .u8 0, .int .u8 0, .int .u8 0] 251)) id
  have hth := there_of hn 0 4 (by simp)
  obtain ⟨q1, q2⟩ := setCells_new hn ((be s 4).map enc8) (by simp [be_length])
  have hq := be4_vals s hs
  rw [hq] at q1 q2
  have hsz : Same w (w1.setCells w.heap.size 0 [.int .u8 ((s : Int) / 16777216), .int .u8 ((s : Int) / 65536 % 256), .int .u8 ((s : Int) / 256 % 256), .int .u8 ((s : Int) % 256)]) := (((Mods.refl _ w).alloc _).trans hs1).trans' q2 (fun i hi => .inr (by omega))
  have H := Lib.hid (And.intro hth (And.intro q1 (And.intro hsz hq)))
  clear hn hth q1 q2 hs1 hq hsz
  go_wp2_with ((refine wpList_store_mid rfl 251 (.tmp 2) (.tmp 17) rfl w.heap.size 0 #[.int .u8 ((s : Int) / 16777216), .int .u8 ((s : Int) / 65536 % 256), .int .u8 ((s : Int) / 256 % 256), .int .u8 ((s : Int) % 256)] rfl rfl H.out.1 (by kernel_rfl) (by simp [Value.oneCell']) ?_; simp only [Act.put]))
  refine bodyPost_ret (results_cell_row rfl _ _ w.heap.size 251 _ (0, 0) _ rfl H.out.2.1 Tryz.underlying251 rfl (by kernel_rfl)) rfl ⟨?_, H.out.2.2.1⟩
  unfold row8
  rw [← HE.out, H.out.2.2.2]
end Go.Proofs.YtdhobpbngkainaaGreatDoor
/-
  Ours. content.keep (the text is printed by wip/genkeep.py).
-/
namespace Go.Proofs.YtdhobpbngkainaaGreatDoor
open Go.RowKit Go.Maps
open Go.ChangeMaps (setBlock)

def keyV (k : Bs) : Value := .agg (row8 k)
def Ok4 (k : Bs) : Prop := k.length = 4
theorem enc8_inj : ∀ {a b : Bs}, a.map enc8 = b.map enc8 → a = b := by
  intro a
  induction a with
  | nil => intro b h; cases b with
    | nil => rfl
    | cons y r => simp at h
  | cons x r ih =>
    intro b h
    cases b with
    | nil => simp at h
    | cons y q =>
      simp only [List.map_cons, List.cons.injEq, enc8, Value.int.injEq, true_and] at h
      obtain ⟨h1, h2⟩ := h
      rw [ih h2, UInt8.toNat_inj.1 (show x.toNat = y.toNat by omega)]
set_option maxRecDepth 100000 in
theorem keyEnc : EncOk Tryz.prog 251 keyV Ok4 where
  keyed := Keyed.of_law (deep_law_laid (m := 2) (by kernel_rfl) (by decide) (of_decide_eq_true (by kernel_rfl)) (by kernel_rfl) (by kernel_rfl))
  inj := fun a b h => by
    simp only [keyV, Value.agg.injEq, row8] at h
    have h2 : a.map enc8 = b.map enc8 := by simpa using h
    exact enc8_inj h2
  key := fun a ha => by
    refine ⟨.string (keyBytes (a.map fun x => Lit.int .u8 x.toNat)), ?_⟩
    have ht : Tryz.prog.underlying 251 = some (.array 4 5) := Tryz.underlying251
    have hc : Tryz.prog.cellsOf 251 = 4 := by kernel_rfl
    have hk2 : Tryz.prog.keyType 251 = true := by kernel_rfl
    have hsz : Tryz.prog.types.size + 1 = 362 + 1 := by kernel_rfl
    unfold keyOf keyV
    rw [ht]
    have ha : a.length = 4 := ha
    simp only [hk2, Value.formed, ht, hc, row8_size, ha, beq_self_eq_true, Bool.and_self, if_true]
    rw [hsz]
    show (Tryz.prog.keyLits (362 - 1 + 2) 251 (row8 a).toList).map _ = _
    rw [show (row8 a).toList = a.map enc8 from rfl, arr_lits ht hc _ a ha]
    rfl
abbrev ChkL := GE (List (Nat × Nat))
def chunksF (cm : Nat) (cs : List ChkL) (c : Nat) : HF := (cm, Is (mapO keyV (cs.map entG) c)) :: rowsG placeRow cs
structure ChunksOk (cs : List ChkL) (c : Nat) : Prop where
  map : MapOk Ok4 (cs.map entG) c
  rows : ∀ p ∈ cs, placeOk p.val p.g
def placesOf (cs : List ChkL) (k : Bs) : List (Nat × Nat) := gOf [] cs k
theorem zeroPlaces (w : World) : (zeroValue 150).run Tryz.prog w = .ok (.slice none 0 0) w := by kernel_rfl
theorem infoPlace : (Tryz.prog.info? 161).map (fun i => (i.zero, i.size, i.bytes)) = some (some (.agg #[.int .i64 0, .int .i64 0]), 2, 16) := by kernel_rfl
theorem w_append_pl {o : Oper} {a : Act} {w a0 : World} {K : Act → World → Prop} {Q : Exit → Act → World → Prop} {F G : HF} (s x : Operand) (hop : o.op = .call { callee := .builtin .append, args := #[s, x], argTypes := #[150, 150] })
    (v : Value) (l : List (Nat × Nat)) (hs : a.eval s = v) (hT : Turns F (placeRow v l ++ G) a0 w) (hok : placeOk v l) (sa : Option Addr) (m c : Nat) (hx : a.eval x = .slice sa m c) (r : List (Nat × Nat)) (hm : m = r.length)
    (hc : 0 < m → ∃ ad, sa = some ad ∧ ∀ j u, (placesV r)[j]? = some u → w.cell? (ad.add j) = some u) (hb : l.length + r.length ≤ 1000000)
    (hk : ∀ v' w', placeOk v' (l ++ r) → Turns F (placeRow v' (l ++ r) ++ G) a0 w' → K (a.put o.dst v') w') : o.wp Tryz.prog a w K Q := by
  obtain ⟨i0, hi0, hz1, hz2, hz3⟩ := info_parts infoPlace
  have hpv : placesV (l ++ r) = placesV l ++ placesV r := by simp [placesV]
  refine w_append_row s x 150 161 i0 (.agg #[.int .i64 0, .int .i64 0]) 2 16 hop Tryz.underlying150 hi0 hz1 hz2 hz3 rfl (by decide) v l.length (placesV l) hs hT hok sa m c hx (placesV r) (by rw [placesV_length, hm]; omega) hc (fun u hu => ?_) (by unfold maxLen; omega) (by omega) (fun v' w' h1 h2 h3 => ?_)
  · obtain ⟨p, _, hp⟩ := List.mem_flatMap.1 hu
    simp only [placeV, List.mem_cons, List.not_mem_nil, or_false] at hp
    rcases hp with rfl | rfl <;> rfl
  · exact hk v' w' (by unfold placeOk; rw [List.length_append, hpv, ← hm]; exact h1) (by unfold placeRow; rw [List.length_append, hpv, ← hm]; exact h2)
theorem w_mapEn {κ : Type} [DecidableEq κ] {P : Program} {k t ev : TypeId} {enc : κ → Value} {Ok : κ → Prop} (E : EncOk P k enc Ok) {w : World} {o : Oper} {a : Act} {K : Act → World → Prop} {Q : Exit → Act → World → Prop}
    (m x : Operand) (hop : o.op = .mapEntry t m x) (ht : P.underlying t = some (.map k ev)) {b : Nat} {l : List (Ent κ)} {c : Nat} (hb : w.heap[b]? = some (mapO enc l c)) (hm : MapOk Ok l c) {z : Value} (hz : (zeroValue ev).run P w = .ok z w)
    (key : κ) (hmv : a.eval m = .map (some b)) (hx : a.eval x = enc key) (hk : Ok key) (hK : K (a.put o.dst (.tuple #[(getE l key).getD z, .int .i64 (bornE l c key)])) (setBlock w b (mapO enc (midE l c key z) (putC l c key)))) : o.wp P a w K Q := by
  refine wp_run (v := .tuple #[(getE l key).getD z, .int .i64 (bornE l c key)]) (w' := setBlock w b (mapO enc (midE l c key z) (putC l c key))) ?_ hK
  simp [execOp, hop, hmv, hx, (run_mapEn E ht hb hm hz hk).1, Result.andThen]
theorem w_entryStore {κ : Type} [DecidableEq κ] {P : Program} {k t ev : TypeId} {enc : κ → Value} {Ok : κ → Prop} (E : EncOk P k enc Ok) {w w0 : World} {o : Oper} {a : Act} {K : Act → World → Prop} {Q : Exit → Act → World → Prop}
    (m s x : Operand) (hop : o.op = .entryStore t m s x) (ht : P.underlying t = some (.map k ev)) {b : Nat} {l : List (Ent κ)} {c : Nat} (hb0 : w0.heap[b]? = some (mapO enc l c)) (hm : MapOk Ok l c) {z : Value} (hz : (zeroValue ev).run P w0 = .ok z w0)
    (key : κ) (hk : Ok key) (hb : w.heap[b]? = some (mapO enc (midE l c key z) (putC l c key))) (v : Value) (hmv : a.eval m = .map (some b)) (hs : a.eval s = .int .i64 (bornE l c key)) (hx : a.eval x = v)
    (hK : K (a.put o.dst undef) (setBlock w b (mapO enc (putE l c key v) (putC l c key)))) : o.wp P a w K Q := by
  unfold Oper.wp execOp
  simp only [hop, hmv, hs, hx, Sem.run_bind, (run_mapEn E ht hb0 hm hz hk).2 w v hb, Result.andThen_ok, Sem.run_pure]
  exact hK
def KeepPost (b cm c : Nat) (cs : List ChkL) (body : Bs) (q : Nat × Nat) (C : Array Value) (ty : TypeId) (sc sb : Int) (w : World) (e : Ending) (w' : World) : Prop :=
  ∃ v', e = .returned (.tuple #[]) ∧ placeOk v' (placesOf cs (be (sumOf 1 body) 4) ++ [q]) ∧
    Turns ((b, Is (.cells C ty (0, 0))) :: chunksF cm cs c) ((b, Is (.cells ((C.setIfInBounds 3 (.int .i64 (sc + 1))).setIfInBounds 4 (.int .i64 (sb + body.length))) ty (0, 0))) :: chunksF cm (setG cs c (be (sumOf 1 body) 4) v' (placesOf cs (be (sumOf 1 body) 4) ++ [q])) (putC (cs.map entG) c (be (sumOf 1 body) 4))) w w'
theorem placeOk_of {cs : List ChkL} {c : Nat} (hok : ChunksOk cs c) (k : Bs) : placeOk (valOf (.slice none 0 0) cs k) (placesOf cs k) := by
  unfold valOf placesOf gOf
  cases hf : cs.find? (fun p => decide (p.key = k)) with
  | none => exact ⟨rfl, fun _ => ⟨rfl, rfl⟩⟩
  | some p => exact hok.rows p (List.mem_of_find?_eq_some hf)
set_option maxHeartbeats 4000000 in
set_option maxRecDepth 100000 in
theorem keep_calls (b pm tm cm c : Nat) (sc sb used : Int) (cs : List ChkL) (body : Bs) (a : Option Addr) (cap : Nat) (q : Nat × Nat) (C : Array Value) (ty : TypeId) (w : World) (h : Sat w ((b, Is (.cells C ty (0, 0))) :: chunksF cm cs c)) (hC : ContIs C pm tm cm sc sb used) (hok : ChunksOk cs c)
    (hb : CellsAt w a (body.map enc8)) (hlen : (placesOf cs (be (sumOf 1 body) 4)).length ≤ 100000) (hbl : body.length ≤ 1000000) (hsc : -4611686018427387904 ≤ sc ∧ sc ≤ 4611686018427387904) (hsb : -4611686018427387904 ≤ sb ∧ sb ≤ 4611686018427387904) :
    Calls Tryz.prog 83 #[.pointer (some ⟨b, 0, none⟩), .slice a body.length cap, .agg #[.int .i64 q.1, .int .i64 q.2]] w (KeepPost b cm c cs body q C ty sc sb w) := by
  obtain ⟨k, hk⟩ : ∃ k, k = be (sumOf 1 body) 4 := ⟨_, rfl⟩
  have hk4 : Ok4 k := by rw [hk]; exact be_length _ _
  obtain ⟨O, hO⟩ : ∃ O : Obj, O = .cells C ty (0, 0) := ⟨_, rfl⟩
  obtain ⟨M, hM⟩ : ∃ M, M = mapO keyV (cs.map entG) c := ⟨_, rfl⟩
  obtain ⟨v0, hv0⟩ : ∃ v0, v0 = valOf (.slice none 0 0) cs k := ⟨_, rfl⟩
  obtain ⟨pl, hpl⟩ : ∃ pl, pl = placesOf cs k := ⟨_, rfl⟩
  obtain ⟨R1, hR1⟩ : ∃ R1, R1 = rowsG placeRow (othersG cs k) := ⟨_, rfl⟩
  have hok0 : placeOk v0 pl := by rw [hv0, hpl]; exact placeOk_of hok k
  obtain ⟨F0, hF0⟩ : ∃ F0, F0 = (b, Is O) :: chunksF cm cs c := ⟨_, rfl⟩
  rw [← hO, ← hF0] at h
  have hT0 : Turns F0 (placeRow v0 pl ++ ((b, Is O) :: (cm, Is M) :: R1)) w w := by
    refine (Turns.refl h).to ?_
    have hp := rows_split placeRow (.slice none 0 0) [] rfl cs k (by rw [← ent_keys]; exact hok.map.nodup)
    rw [← hv0, ← hR1] at hp
    rw [hF0, hM, hpl]
    unfold chunksF placesOf
    exact (List.Perm.cons _ (List.Perm.cons _ hp)).trans (perm_of_cnt fun _ => by simp only [cnt_cons, cnt_append, cnt_nil] <;> omega)
  have HM := Lib.hid (show Tryz.prog.follows .mixedOrders = true by kernel_rfl)
  have HB := Lib.hid (fun W (hW : Same w W) => keyOf_calls a cap body W (hb.keep hW (fun _ _ _ => id)) (by omega))
  have HH := Lib.hid (And.intro hT0 (And.intro hO (And.intro hM (And.intro hv0 (And.intro hpl (And.intro hR1 (And.intro hF0 (And.intro hok0 (And.intro hok (And.intro hk4 (And.intro hC hk)))))))))))
  have HL := Lib.hid (hpl ▸ hk ▸ hlen)
  clear h hT0 hO hM hv0 hpl hR1 hF0 hok0 hok hk4 hC hb hlen hk
  go_enter Tryz.func83, Tryz.ntmps83
  go_wp2_with fail
  refine (HB.out _ ((Mods.refl _ w).alloc _)).mono ?_
  rintro e w1 ⟨rfl, hs1⟩
  rw [← HH.out.2.2.2.2.2.2.2.2.2.2.2]
  obtain ⟨B5, hB5⟩ : ∃ B5, B5 = w.heap.size := ⟨_, rfl⟩
  obtain ⟨B6, hB6⟩ : ∃ B6, B6 = w1.heap.size := ⟨_, rfl⟩
  obtain ⟨PO, hPO⟩ : ∃ PO : Obj, PO = .cells #[.int .i64 q.1, .int .i64 q.2] 161 (0, 0) := ⟨_, rfl⟩
  obtain ⟨KO, hKO⟩ : ∃ KO : Obj, KO = .cells (row8 k) 251 (0, 0) := ⟨_, rfl⟩
  have hT1 : Turns F0 ((B5, Is PO) :: (placeRow v0 pl ++ ((b, Is O) :: (cm, Is M) :: R1))) w w1 := by
    rw [hB5, hPO]
    exact (HH.out.1.allocIs _).thenSame hs1
  have hk4 : k.length = 4 := HH.out.2.2.2.2.2.2.2.2.2.1
  have hn := alloc_new w1 (.cells #[.int .u8 0, .int .u8 0, .int .u8 0, .int .u8 0] 251)
  have hth : (w1.alloc (.cells #[.int .u8 0, .int .u8 0, .int .u8 0, .int .u8 0] 251)).there B6 0 (row8 k).size := by rw [hB6, row8_size, hk4]; exact there_of hn 0 4 (by simp)
  obtain ⟨q1, q2⟩ := setCells_new hn (k.map enc8) (by simp [hk4])
  have hT2 : Turns F0 (placeRow v0 pl ++ ((b, Is O) :: (cm, Is M) :: (B6, Is KO) :: (B5, Is PO) :: R1)) w ((w1.alloc (.cells #[.int .u8 0, .int .u8 0, .int .u8 0, .int .u8 0] 251)).setCells B6 0 (k.map enc8)) := by
    have := (hT1.allocIs (.cells #[.int .u8 0, .int .u8 0, .int .u8 0, .int .u8 0] 251)).putIs (o := KO) q2 (by rw [hKO]; exact q1)
    rw [← hB6] at this
    exact this.to (perm_of_cnt fun _ => by simp only [cnt_cons, cnt_append, cnt_nil] <;> omega)
  have HT2 := Lib.hid (And.intro hT2 (And.intro hth (And.intro hPO (And.intro hKO (And.intro hk4 hB6)))))
  rw [← hB5]
  clear hT1 hT2 hth hn q1 q2 hs1 hB5 hPO hKO hk4
  go_wp2_with ((rw [← hB6]; refine wpList_store_mid rfl 251 (.tmp 6) (.tmp 8) rfl B6 0 (row8 k) rfl rfl HT2.out.2.1 (by rw [row8_size, HT2.out.2.2.2.2.1]; kernel_rfl) (row8_one k) ?_; simp only [Act.put]))

  refine wp_region_chainL (A := ?A) (hA := ?hA) HM.out (phiL [fun v => v = .pointer (some ⟨b, 0, none⟩), fun v => v = .pointer (some ⟨b, 0, none⟩), fun v => v = .pointer (some ⟨b, 2, none⟩), fun v => v = .map (some cm), fun v => v = .agg (row8 k), fun v => v = .agg #[.int .i64 q.1, .int .i64 q.2], fun _ => True, fun v => v = .tuple #[v0, .int .i64 (bornE (cs.map entG) c k)], fun v => v = v0, fun _ => True, fun v => v = .int .i64 (bornE (cs.map entG) c k), fun _ => True])
    (fun vs1 W => match vs1 with
    | [] => Turns F0 (placeRow v0 pl ++ ((b, Is O) :: (cm, Is M) :: (B6, Is KO) :: (B5, Is PO) :: R1)) w W
    | [v] => ∃ n : Nat, v = .slice (some ⟨n, 0, none⟩) 1 1 ∧ Turns F0 (placeRow v0 pl ++ ((n, Is PO) :: (b, Is O) :: (cm, Is M) :: (B6, Is KO) :: (B5, Is PO) :: R1)) w W
    | [v, _] => ∃ n : Nat, v = .slice (some ⟨n, 0, none⟩) 1 1 ∧ Turns F0 (placeRow v0 pl ++ ((n, Is PO) :: (b, Is O) :: (cm, Is (mapO keyV (midE (cs.map entG) c k (.slice none 0 0)) (putC (cs.map entG) c k))) :: (B6, Is KO) :: (B5, Is PO) :: R1)) w W
    | [_, _, u] => ∃ n : Nat, placeOk u (pl ++ [q]) ∧ Turns F0 (placeRow u (pl ++ [q]) ++ ((n, Is PO) :: (b, Is O) :: (cm, Is (mapO keyV (midE (cs.map entG) c k (.slice none 0 0)) (putC (cs.map entG) c k))) :: (B6, Is KO) :: (B5, Is PO) :: R1)) w W
    | [_, _, u, _] => ∃ n : Nat, placeOk u (pl ++ [q]) ∧ Turns F0 (placeRow u (pl ++ [q]) ++ ((n, Is PO) :: (b, Is O) :: (cm, Is (mapO keyV (putE (cs.map entG) c k u) (putC (cs.map entG) c k))) :: (B6, Is KO) :: (B5, Is PO) :: R1)) w W
    | _ => False)
    (fun W => W.heap[b]? = some O ∧ W.heap[B6]? = some KO ∧ W.heap[B5]? = some PO) [6, 7, 9, 11] ?hC (by kernel_rfl) (by kernel_rfl) (by kernel_rfl) (by decide) (by decide) ?h0 ?hs ?he
  case hA => intro x; simp only [fillFrom, Act.put, List.setIfInBounds_toArray, List.set_cons_zero, List.set_cons_succ, Nat.reduceAdd]; rfl
  case hs =>
    refine ⟨chain_quiet rfl rfl (fun x wq hd hC K hK hKw => ?_), chain_quiet rfl rfl (fun x wq hd hC K hK hKw => ?_), chain_quiet rfl rfl (fun x wq hd hC K hK hKw => ?_), chain_quiet rfl rfl (fun x wq hd hC K hK hKw => ?_), chain_quiet rfl rfl (fun x wq hd hC K hK hKw => ?_), chain_quiet rfl rfl (fun x wq hd hC K hK hKw => ?_), chain_noisy 0 rfl rfl (fun x wq hd hS K hK => ?_), chain_noisy 1 rfl rfl (fun x wq hd hS K hK => ?_), chain_quiet rfl rfl (fun x wq hd hC K hK hKw => ?_), chain_noisy 2 rfl rfl (fun x wq hd hS K hK => ?_), chain_quiet rfl rfl (fun x wq hd hC K hK hKw => ?_), chain_noisy 3 rfl rfl (fun x wq hd hS K hK => ?_), trivial⟩
    · exact wp_run (by kernel_rfl) (hK _ rfl)
    · have h0 : x 0 = .pointer (some ⟨b, 0, none⟩) := depsC_get hd 0 (by kernel_rfl)
      exact wp_run (by rw [h0]; kernel_rfl) (hK _ rfl)
    · have h1 : x 1 = .pointer (some ⟨b, 0, none⟩) := depsC_get hd 1 (by kernel_rfl)
      exact wp_run (by rw [h1]; kernel_rfl) (hK _ rfl)
    · have h2 : x 2 = .pointer (some ⟨b, 2, none⟩) := depsC_get hd 2 (by kernel_rfl)
      exact w_load Tryz.underlying121 rfl rfl (by rw [h2]; rfl) (cell_at (HH.out.2.1 ▸ hC.1) 2 HH.out.2.2.2.2.2.2.2.2.2.2.1.c2) (hK _ rfl)
    · have h6 := hC.2.1
      rw [HT2.out.2.2.2.1] at h6
      exact wp_load_mid 251 (.tmp 6) rfl B6 0 rfl (k.map enc8) _ (fun j v hv => cell_at h6 (0 + j) (by rw [Nat.zero_add]; simpa [row8] using hv)) Tryz.underlying251 rfl (by rw [List.length_map, HT2.out.2.2.2.2.1]; kernel_rfl) (hK _ rfl)
    · have h5 := hC.2.2
      rw [HT2.out.2.2.1] at h5
      exact wp_load_mid 161 (.tmp 5) rfl B5 0 rfl [.int .i64 q.1, .int .i64 q.2] _ (fun j v hv => cell_at h5 (0 + j) (by rw [Nat.zero_add, ← Array.getElem?_toList]; exact hv)) Tryz.underlying161 rfl (by kernel_rfl) (hK _ rfl)
    · have h5 : x 5 = .agg #[.int .i64 q.1, .int .i64 q.2] := depsC_get hd 5 (by kernel_rfl)
      refine wp_run (v := .slice (some ⟨wq.heap.size, 0, none⟩) 1 1) (w' := wq.alloc PO) (by rw [HT2.out.2.2.1]; rw [h5]; kernel_rfl) (hK _ _ trivial ⟨wq.heap.size, rfl, ?_⟩)
      have h := Turns.allocIs hS PO
      exact h.to (perm_of_cnt fun _ => by simp only [cnt_cons, cnt_append, cnt_nil] <;> omega)
    · have h3 : x 3 = .map (some cm) := depsC_get hd 3 (by kernel_rfl)
      have h4 : x 4 = .agg (row8 k) := depsC_get hd 4 (by kernel_rfl)
      obtain ⟨n, en, hT⟩ := hS
      have hmp := hT.sat.memIs (b := cm) (o := M) (by simp)
      refine w_mapEn keyEnc (.tmp 12) (.tmp 13) rfl Tryz.underlying121 (HH.out.2.2.1 ▸ hmp) HH.out.2.2.2.2.2.2.2.2.1.map (zeroPlaces _) k (by rw [h3]; rfl) (by rw [h4]; rfl) HH.out.2.2.2.2.2.2.2.2.2.1 ?_
      rw [getE_valOf, ← HH.out.2.2.2.1]
      refine hK _ _ rfl ⟨n, en, ?_⟩
      have hq := (hT.to (H := (cm, Is M) :: (placeRow v0 pl ++ ((n, Is PO) :: (b, Is O) :: (B6, Is KO) :: (B5, Is PO) :: R1))) (perm_of_cnt fun _ => by simp only [cnt_cons, cnt_append, cnt_nil] <;> omega)).putIs (o := mapO keyV (midE (cs.map entG) c k (.slice none 0 0)) (putC (cs.map entG) c k)) (setBlock_mods wq cm _) (setBlock_at hmp)
      exact hq.to (perm_of_cnt fun _ => by simp only [cnt_cons, cnt_append, cnt_nil] <;> omega)
    · have h7 : x 7 = .tuple #[v0, .int .i64 (bornE (cs.map entG) c k)] := depsC_get hd 7 (by kernel_rfl)
      exact wp_run (by rw [h7]; kernel_rfl) (hK _ rfl)
    · have h8 : x 8 = v0 := depsC_get hd 8 (by kernel_rfl)
      obtain ⟨n, en, hT⟩ := hS
      have hno := hT.sat.memIs (b := n) (o := PO) (by simp)
      rw [HT2.out.2.2.1] at hno
      exact w_append_pl (.tmp 14) (.tmp 16) rfl v0 pl (by rw [h8]; rfl) hT HH.out.2.2.2.2.2.2.2.1 (some ⟨n, 0, none⟩) 1 1 (by rw [en]; rfl) [q] rfl (fun _ => ⟨_, rfl, fun j u hu => by
          rw [Addr.add_lit, Nat.zero_add]
          exact cell_at hno j (by rw [← Array.getElem?_toList]; exact hu)⟩) (by have := HL.out; simp; omega) (fun v1 w1 h1 h2 => hK _ _ trivial ⟨n, h1, h2⟩)
    · have h7 : x 7 = .tuple #[v0, .int .i64 (bornE (cs.map entG) c k)] := depsC_get hd 7 (by kernel_rfl)
      exact wp_run (by rw [h7]; kernel_rfl) (hK _ rfl)
    · have h3 : x 3 = .map (some cm) := depsC_get hd 3 (by kernel_rfl)
      have h10 : x 10 = .int .i64 (bornE (cs.map entG) c k) := depsC_get hd 10 (by kernel_rfl)
      obtain ⟨n, ho, hT⟩ := hS
      have hmp := hT.sat.memIs (b := cm) (o := mapO keyV (midE (cs.map entG) c k (.slice none 0 0)) (putC (cs.map entG) c k)) (by simp)
      have hm0 := HH.out.1.sat.memIs (b := cm) (o := M) (by simp)
      refine w_entryStore keyEnc (w0 := w) (.tmp 12) (.tmp 19) (.tmp 18) rfl Tryz.underlying121 (HH.out.2.2.1 ▸ hm0) HH.out.2.2.2.2.2.2.2.2.1.map (zeroPlaces _) k HH.out.2.2.2.2.2.2.2.2.2.1 hmp (x 9) (by rw [h3]; rfl) (by rw [h10]; rfl) rfl ?_
      refine hK _ _ trivial ⟨n, ho, ?_⟩
      have hq := (hT.to (H := (cm, Is (mapO keyV (midE (cs.map entG) c k (.slice none 0 0)) (putC (cs.map entG) c k))) :: (placeRow (x 9) (pl ++ [q]) ++ ((n, Is PO) :: (b, Is O) :: (B6, Is KO) :: (B5, Is PO) :: R1))) (perm_of_cnt fun _ => by simp only [cnt_cons, cnt_append, cnt_nil] <;> omega)).putIs (o := mapO keyV (putE (cs.map entG) c k (x 9)) (putC (cs.map entG) c k)) (setBlock_mods wq cm _) (setBlock_at hmp)
      exact hq.to (perm_of_cnt fun _ => by simp only [cnt_cons, cnt_append, cnt_nil] <;> omega)
  case hC =>
    intro vs1 W hlt hS
    match vs1, hS, hlt with
    | [], hT, _ => exact ⟨hT.sat.memIs (by simp), hT.sat.memIs (by simp), hT.sat.memIs (by simp)⟩
    | [_], ⟨_, _, hT⟩, _ => exact ⟨hT.sat.memIs (by simp), hT.sat.memIs (by simp), hT.sat.memIs (by simp)⟩
    | [_, _], ⟨_, _, hT⟩, _ => exact ⟨hT.sat.memIs (by simp), hT.sat.memIs (by simp), hT.sat.memIs (by simp)⟩
    | [_, _, _], ⟨_, _, hT⟩, _ => exact ⟨hT.sat.memIs (by simp), hT.sat.memIs (by simp), hT.sat.memIs (by simp)⟩
    | [_, _, _, _], _, hlt => exact absurd hlt (Nat.lt_irrefl _)
  case h0 => exact HT2.out.1.drew
  case he =>
    intro x w3 hφ hS
    obtain ⟨n, hok3, hT3⟩ := hS
    obtain ⟨v3, hv3⟩ : ∃ v3, v3 = x 9 := ⟨_, rfl⟩
    rw [← hv3] at hok3 hT3
    have hbo := hT3.sat.memIs (b := b) (o := O) (by simp)
    rw [HH.out.2.1] at hbo
    have b3 : w3.cell? ⟨b, 3, none⟩ = some (.int .i64 sc) := cell_at hbo 3 HH.out.2.2.2.2.2.2.2.2.2.2.1.c3
    have b4 : w3.cell? ⟨b, 4, none⟩ = some (.int .i64 sb) := cell_at hbo 4 HH.out.2.2.2.2.2.2.2.2.2.2.1.c4
    have f3 := free_at hbo 3
    have f4 := free_at hbo 4
    have HT3 := Lib.hid (And.intro hok3 (And.intro hT3 hbo))
    clear hφ hok3 hT3 hv3 hbo
    go_wp2_with fail
    refine bodyPost_end (results_none rfl _ _ _) rfl ?_
    have s1 := set_same HT3.out.2.2 3 (.int .i64 (sc + 1))
    have s2 := set_same s1 4 (.int .i64 (sb + body.length))
    have m1 := ((Mods.refl (fun k => k = b) w3).set1 (i := 3) (.int .i64 (sc + 1))).set1 (i := 4) (.int .i64 (sb + body.length))
    have hq := (HT3.out.2.1.to (H := (b, Is O) :: (placeRow v3 (pl ++ [q]) ++ ((n, Is PO) :: (cm, Is (mapO keyV (putE (cs.map entG) c k v3) (putC (cs.map entG) c k))) :: (B6, Is KO) :: (B5, Is PO) :: R1))) (perm_of_cnt fun _ => by simp only [cnt_cons, cnt_append, cnt_nil] <;> omega)).putIs m1 s2
    refine ⟨v3, rfl, ?_, ?_⟩
    · rw [← HH.out.2.2.2.2.2.2.2.2.2.2.2, ← HH.out.2.2.2.2.1]; exact HT3.out.1
    · rw [← HH.out.2.2.2.2.2.2.2.2.2.2.2, ← HH.out.2.2.2.2.1, ← HH.out.2.1, ← HH.out.2.2.2.2.2.2.1]
      have hp := rows_set placeRow cs c k v3 (pl ++ [q]) (by rw [← ent_keys]; exact HH.out.2.2.2.2.2.2.2.2.1.map.nodup)
      rw [← HH.out.2.2.2.2.2.1] at hp
      unfold chunksF
      rw [setG_ent]
      have hd := hq.drop (H := (b, Is (.cells ((C.setIfInBounds 3 (.int .i64 (sc + 1))).setIfInBounds 4 (.int .i64 (sb + body.length))) ty (0, 0))) :: (cm, Is (mapO keyV (putE (cs.map entG) c k v3) (putC (cs.map entG) c k))) :: (placeRow v3 (pl ++ [q]) ++ R1)) (fun _ => by simp only [cnt_cons, cnt_append, cnt_nil] <;> omega)
      exact hd.to (List.Perm.cons _ (List.Perm.cons _ hp.symm))
end Go.Proofs.YtdhobpbngkainaaGreatDoor
/-
  Ours. Bytes in sectors, plain: what is written behind an end, sector by sector. No condition; no program.
-/
namespace Go.Proofs.YtdhobpbngkainaaGreatDoor

/-- Filled up to whole sectors. -/
def padS (x : Bs) : Bs := x ++ zeros ((128 - x.length % 128) % 128)
/-- What stands in the last sector. -/
def lastOf (x : Bs) : Bs := x.drop (128 * (x.length / 128))
def tailOf (x : Bs) : Bs := lastOf x ++ zeros (128 - x.length % 128)
theorem lastOf_length (x : Bs) : (lastOf x).length = x.length % 128 := by simp [lastOf]; omega
theorem tailOf_length (x : Bs) : (tailOf x).length = 128 := by simp [tailOf, lastOf_length, zeros_length]; omega
theorem padS_length (x : Bs) : (padS x).length = 128 * ((x.length + 127) / 128) := by simp [padS, zeros_length]; omega
theorem zeros_append (a b : Nat) : zeros a ++ zeros b = zeros (a + b) := by simp [zeros, List.replicate_append_replicate]
theorem zeros_drop (n k : Nat) : (zeros n).drop k = zeros (n - k) := by simp [zeros]
theorem zeros_take (n k : Nat) : (zeros n).take k = zeros (min k n) := by simp [zeros, List.take_replicate]
/-- c behind x, within its last sector: the sector that is written. -/
theorem padS_next {x c : Bs} (h : x.length % 128 + c.length ≤ 128) (h0 : 0 < c.length) :
    padS (x ++ c) = x.take (128 * (x.length / 128)) ++ (lastOf x ++ c ++ zeros (128 - x.length % 128 - c.length)) := by
  have e : x = x.take (128 * (x.length / 128)) ++ lastOf x := by simp [lastOf]
  unfold padS
  conv => lhs; arg 1; arg 1; rw [e]
  have hz : (128 - (x ++ c).length % 128) % 128 = 128 - x.length % 128 - c.length := by
    rw [List.length_append]; omega
  rw [hz]
  simp [List.append_assoc]
theorem putAt_putAt {l s1 s2 : Bs} {o k : Nat} (h1 : k ≤ s1.length) (h2 : s1.length ≤ k + s2.length) (hf : o + k + s2.length ≤ l.length) :
    putAt (putAt l o s1) (o + k) s2 = putAt l o (s1.take k ++ s2) := by
  unfold putAt
  have hl : (l.take o ++ s1 ++ l.drop (o + s1.length)).length = l.length := by simp; omega
  have ht : (l.take o ++ s1 ++ l.drop (o + s1.length)).take (o + k) = l.take o ++ s1.take k := by
    rw [List.append_assoc, List.take_append, List.take_append, List.length_take]
    rw [show min o l.length = o by omega, List.take_take, Nat.min_eq_right (by omega), show o + k - o = k by omega, show k - s1.length = 0 by omega]
    simp
  have hd : (l.take o ++ s1 ++ l.drop (o + s1.length)).drop (o + k + s2.length) = l.drop (o + (s1.take k ++ s2).length) := by
    rw [List.append_assoc, List.drop_append, List.drop_append, List.length_take]
    rw [show min o l.length = o by omega, List.drop_of_length_le (by simp; omega), List.drop_of_length_le (by omega), List.drop_drop]
    simp only [List.nil_append, List.length_append, List.length_take]
    congr 1
    omega
  rw [ht, hd]
  simp only [List.append_assoc]
theorem putAt_nil (l : Bs) (o : Nat) : putAt l o [] = l := by simp [putAt]
/-- The whole step: x is there behind o (whole sectors), c comes behind it. -/
theorem putAt_next {l x c : Bs} {o : Nat} (h : x.length % 128 + c.length ≤ 128) (h0 : 0 < c.length) (hf : o + (padS (x ++ c)).length ≤ l.length) :
    putAt (putAt l o (padS x)) (o + 128 * (x.length / 128)) (lastOf x ++ c ++ zeros (128 - x.length % 128 - c.length)) = putAt l o (padS (x ++ c)) := by
  have e1 := padS_next h h0
  have hlen : (lastOf x ++ c ++ zeros (128 - x.length % 128 - c.length)).length = 128 := by simp [lastOf_length, zeros_length]; omega
  have hp := padS_length x
  have hp2 := padS_length (x ++ c)
  rw [List.length_append] at hp2
  rw [putAt_putAt (by omega) (by omega) (by omega), e1]
  congr 2
  unfold padS
  rw [List.take_append_of_le_length (by omega)]
theorem putAt_first {l x c : Bs} {o : Nat} (h : x.length < 128) (h1 : x.length + c.length ≤ 128) (h0 : 0 < c.length) :
    putAt l o (x ++ c ++ zeros (128 - x.length - c.length)) = putAt l o (padS (x ++ c)) := by
  have e1 := padS_next (x := x) (c := c) (by omega) h0
  have e2 : x.length / 128 = 0 := by omega
  have e3 : x.length % 128 = x.length := by omega
  rw [e1]
  simp only [lastOf, e2, e3, Nat.mul_zero, List.take_zero, List.drop_zero, List.nil_append]
theorem lastOf_drop {x : Bs} {k : Nat} (h : 128 * k ≤ x.length) : lastOf (x.drop (128 * k)) = lastOf x := by
  unfold lastOf
  rw [List.drop_drop, List.length_drop]
  congr 1
  omega
theorem putTail {x c : Bs} (h : x.length % 128 + c.length ≤ 128) : putAt (tailOf x) (x.length % 128) c = lastOf x ++ c ++ zeros (128 - x.length % 128 - c.length) := by
  have hl := lastOf_length x
  unfold putAt tailOf
  rw [List.take_left' hl, ← hl, List.drop_append, List.drop_of_length_le (by omega), zeros_drop]
  simp only [List.nil_append]
  congr 2
  omega
theorem tailOf_next {x c : Bs} (h : x.length % 128 + c.length < 128) : tailOf (x ++ c) = lastOf x ++ c ++ zeros (128 - x.length % 128 - c.length) := by
  unfold tailOf lastOf
  have e1 : (x ++ c).length / 128 = x.length / 128 := by rw [List.length_append]; omega
  have e2 : (x ++ c).length % 128 = x.length % 128 + c.length := by rw [List.length_append]; omega
  rw [e1, e2, List.drop_append_of_le_length (by omega)]
  congr 2
  omega
theorem tailOf_full {x : Bs} (h : x.length % 128 = 0) : tailOf x = zeros 128 := by
  have : lastOf x = [] := List.eq_nil_of_length_eq_zero (by rw [lastOf_length, h])
  unfold tailOf
  rw [this, h]; rfl
/-- One round's write, as what stands on the device then. -/
theorem app_now {l data bj c : Bs} {first q : Nat} (hq : q = (data ++ bj).length / 128) (h : (data ++ bj).length % 128 + c.length ≤ 128) (h0 : 0 < c.length) (hf : 128 * (first + q) + 128 ≤ l.length) :
    putAt (if bj = [] then l else putAt l (128 * (first + data.length / 128)) (padS ((data ++ bj).drop (128 * (data.length / 128))))) (128 * (first + q)) (lastOf (data ++ bj) ++ c ++ zeros (128 - (data ++ bj).length % 128 - c.length)) =
      putAt l (128 * (first + data.length / 128)) (padS ((data ++ bj ++ c).drop (128 * (data.length / 128)))) := by
  have hx : 128 * (data.length / 128) ≤ (data ++ bj).length := by rw [List.length_append]; omega
  rw [List.drop_append_of_le_length (l₁ := data ++ bj) hx, ← lastOf_drop hx]
  obtain ⟨y, hy⟩ : ∃ y, y = (data ++ bj).drop (128 * (data.length / 128)) := ⟨_, rfl⟩
  have hyl : y.length = (data ++ bj).length - 128 * (data.length / 128) := by rw [hy, List.length_drop]
  have em : (data ++ bj).length % 128 = y.length % 128 := by omega
  rw [← hy, em]
  rw [em] at h
  split
  · rename_i hb
    subst hb
    have hy1 : y.length < 128 := by rw [hyl, List.append_nil]; omega
    have hq2 : q = data.length / 128 := by rw [hq, List.append_nil]
    rw [hq2]
    have e3 : y.length % 128 = y.length := by omega
    have e4 : lastOf y = y := by unfold lastOf; rw [show y.length / 128 = 0 by omega]; rfl
    rw [e3, e4]
    exact putAt_first hy1 (by omega) h0
  · have hq2 : 128 * (first + q) = 128 * (first + data.length / 128) + 128 * (y.length / 128) := by omega
    rw [hq2]
    refine putAt_next h h0 ?_
    have := padS_length (y ++ c)
    rw [List.length_append] at this
    omega
end Go.Proofs.YtdhobpbngkainaaGreatDoor
