/-
  Ours. Put's drawn regions behind its loop (the text is printed by wip/genputtail.py).
-/
import Derived.Test.YtdhobpbngkainaaGreatDoorMo13
import Derived.Lib.ConvBytes
namespace Go.Proofs.YtdhobpbngkainaaGreatDoor
open Go.RowKit Go.Maps

theorem str_bytes (w : World) (l : Bs) : ∃ cap w', (convert 9 38 (str l)).run Tryz.prog w = .ok (.slice (some ⟨w.heap.size, 0, none⟩) l.length cap) w' ∧ Same w w' ∧ CellsAt w' (some ⟨w.heap.size, 0, none⟩) (l.map enc8) := by
  refine ⟨_, _, Go.Lib.run_convert_string_bytes w 9 38 5 ⟨l.toArray⟩ Tryz.underlying9 Tryz.underlying38 Tryz.underlying5, ⟨rfl, rfl, rfl, ?_, fun k hk _ => ?_⟩, fun _ => ⟨_, _, rfl, fun j hj => ?_⟩⟩
  · rw [Go.Lib.bytesWorld_size]; omega
  · exact Go.Lib.bytesWorld_at_old w _ _ k hk
  · have hj' : j < l.length := by simpa using hj
    rw [Nat.zero_add, Go.Lib.bytesWorld_cell w _ _ j (by simpa [ByteArray.size] using hj')]
    simp [enc8, List.getD, hj']
theorem w_strBytes {o : Oper} {a : Act} {w : World} {K : Act → World → Prop} {Q : Exit → Act → World → Prop} (x : Operand) (ho : o.op = .convert 9 38 x) (l : Bs) (hx : a.eval x = str l)
    (hk : ∀ n cap w', Same w w' → CellsAt w' (some ⟨n, 0, none⟩) (l.map enc8) → w.heap.size ≤ n → K (a.put o.dst (.slice (some ⟨n, 0, none⟩) l.length cap)) w') : o.wp Tryz.prog a w K Q := by
  obtain ⟨cap, w', h1, h2, h3⟩ := str_bytes w l
  refine wp_run (v := .slice (some ⟨w.heap.size, 0, none⟩) l.length cap) (w' := w') ?_ (hk _ cap w' h2 h3 (Nat.le_refl _))
  simp [execOp, ho, hx, h1, Result.andThen]
set_option maxHeartbeats 4000000 in
set_option maxRecDepth 100000 in
theorem put29 (F1 Z : HF) (A : World) (B11 B9 : Nat) (V : VerL) (rv : Value) (rl : List Value) (l : Bs) {Q : Exit → Act → World → Prop} {w : World} {u0 u2 u3 u4 u5 u6 u7 u8 u10 u12 u13 u14 u15 u16 u17 u18 u19 u20 u21 u22 u23 u24 u25 u26 u27 u28 u29 u30 u31 u32 u33 u34 u35 u36 u37 u38 u39 u40 u41 u42 u43 u44 u45 u46 u47 u48 u49 u50 u51 u52 u53 u54 u55 u56 u57 u58 u59 u60 u61 u62 u63 u64 u65 u66 u67 u68 u69 u70 u71 u72 u73 u74 u75 u76 u77 u78 u79 u80 u81 u82 u83 u84 u85 u86 u87 u88 u89 u90 u91 u92 u93 u94 u95 u96 u97 u98 u99 u100 u101 u102 u103 u104 u105 u106 u107 u108 u109 u110 u111 u112 u113 u114 u115 u116 u117 u118 u119 u120 u121 u122 u123 u124 u125 u126 u127 u128 u129 u130 u131 u132 u133 u134 u135 u136 u137 u138 u139 u140 u141 u142 u143 u144 u145 u146 u147 u148 u149 u150 u151 u152 u153 u154 u155 u156 u157 u158 u159 u160 u161 u162 u163 u164 u165 u166 u167 u168 u169 u170 u171 u172 u173 u174 u175 u176 : Value} {ds : List Deferred} (hT : Turns F1 (rowF 38 1 rv rl.length rl ++ ((B11, Is (recsO rv)) :: (B9, Is (vboxO V.blk)) :: (verF V ++ Z))) A w) (hro : RowOk 1 rv rl.length rl) (hl : rl.length ≤ 1000000) (hpo : placeOk V.cv V.chs) (hcl : V.chs.length ≤ 100000) (hpl : l.length ≤ 255) (hnum : I64 V.num) (hsize : I64 V.size) (hat : ∀ n ∈ atsOf V.chs, I64 n)
    (hk : ∀ (y139 y140 y141 y142 y143 y144 y145 y146 : Value) (w' : World), bOk y144 (frame 2 (verB l V.num V.size (atsOf V.chs))) → RowOk 1 y146 (rl ++ [y144]).length (rl ++ [y144]) → Turns F1 ((B11, Is (recsO y146)) :: (rowF 38 1 y146 (rl ++ [y144]).length (rl ++ [y144]) ++ (bRow y144 (frame 2 (verB l V.num V.size (atsOf V.chs))) ++ ((B9, Is (vboxO V.blk)) :: (verF V ++ Z))))) A w' → Q .normal { tmps := #[u0, str l, u2, u3, u4, u5, u6, u7, u8, .pointer (some ⟨B9, 0, none⟩), u10, .pointer (some ⟨B11, 0, none⟩), u12, u13, u14, u15, u16, u17, u18, u19, u20, u21, u22, u23, u24, u25, u26, u27, u28, u29, u30, u31, u32, u33, u34, u35, u36, u37, u38, u39, u40, u41, u42, u43, u44, u45, u46, u47, u48, u49, u50, u51, u52, u53, u54, u55, u56, u57, u58, u59, u60, u61, u62, u63, u64, u65, u66, u67, u68, u69, u70, u71, u72, u73, u74, u75, u76, u77, u78, u79, u80, u81, u82, u83, u84, u85, u86, u87, u88, u89, u90, u91, u92, u93, u94, u95, u96, u97, u98, u99, u100, u101, u102, u103, u104, u105, u106, u107, u108, u109, u110, u111, u112, u113, u114, u115, u116, u117, u118, u119, u120, u121, u122, u123, u124, u125, u126, u127, u128, u129, u130, u131, u132, u133, u134, u135, u136, u137, u138, y139, y140, y141, y142, y143, y144, y145, y146, u147, u148, u149, u150, u151, u152, u153, u154, u155, u156, u157, u158, u159, u160, u161, u162, u163, u164, u165, u166, u167, u168, u169, u170, u171, u172, u173, u174, u175, u176], defers := ds } w') :
    (regOf 29 Tryz.f25).wp Tryz.prog Q { tmps := #[u0, str l, u2, u3, u4, u5, u6, u7, u8, .pointer (some ⟨B9, 0, none⟩), u10, .pointer (some ⟨B11, 0, none⟩), u12, u13, u14, u15, u16, u17, u18, u19, u20, u21, u22, u23, u24, u25, u26, u27, u28, u29, u30, u31, u32, u33, u34, u35, u36, u37, u38, u39, u40, u41, u42, u43, u44, u45, u46, u47, u48, u49, u50, u51, u52, u53, u54, u55, u56, u57, u58, u59, u60, u61, u62, u63, u64, u65, u66, u67, u68, u69, u70, u71, u72, u73, u74, u75, u76, u77, u78, u79, u80, u81, u82, u83, u84, u85, u86, u87, u88, u89, u90, u91, u92, u93, u94, u95, u96, u97, u98, u99, u100, u101, u102, u103, u104, u105, u106, u107, u108, u109, u110, u111, u112, u113, u114, u115, u116, u117, u118, u119, u120, u121, u122, u123, u124, u125, u126, u127, u128, u129, u130, u131, u132, u133, u134, u135, u136, u137, u138, u139, u140, u141, u142, u143, u144, u145, u146, u147, u148, u149, u150, u151, u152, u153, u154, u155, u156, u157, u158, u159, u160, u161, u162, u163, u164, u165, u166, u167, u168, u169, u170, u171, u172, u173, u174, u175, u176], defers := ds } w := by
  have HM := Lib.hid (show Tryz.prog.follows .mixedOrders = true by kernel_rfl)
  conv => arg 2; whnf
  refine wp_region_chainL (A := ?A) (hA := ?hA) HM.out (phiL [fun v => v = rv, fun v => v = str l, fun v => v = .pointer (some ⟨V.blk, 0, none⟩), fun _ => True, fun _ => True, fun _ => True, fun _ => True, fun _ => True, fun _ => True])
    (fun vs1 W => match vs1 with
    | [] => Turns F1 (rowF 38 1 rv rl.length rl ++ ((B11, Is (recsO rv)) :: (B9, Is (vboxO V.blk)) :: (verF V ++ Z))) A W
    | [v] => ∃ av cv, v = .agg #[.int .u8 2, str l, .int .i64 V.num, .int .i64 V.size, .slice av (atsOf V.chs).length cv] ∧ CellsAt W av ((atsOf V.chs).map encI) ∧ Turns F1 (rowF 38 1 rv rl.length rl ++ ((B11, Is (recsO rv)) :: (B9, Is (vboxO V.blk)) :: (verF V ++ Z))) A W
    | [_, f] => ∃ av cv, f = .iface 173 (.agg #[.int .u8 2, str l, .int .i64 V.num, .int .i64 V.size, .slice av (atsOf V.chs).length cv]) ∧ CellsAt W av ((atsOf V.chs).map encI) ∧ Turns F1 (rowF 38 1 rv rl.length rl ++ ((B11, Is (recsO rv)) :: (B9, Is (vboxO V.blk)) :: (verF V ++ Z))) A W
    | [_, _, r] => bOk r (frame 2 (verB l V.num V.size (atsOf V.chs))) ∧ Turns F1 (rowF 38 1 rv rl.length rl ++ (bRow r (frame 2 (verB l V.num V.size (atsOf V.chs))) ++ ((B11, Is (recsO rv)) :: (B9, Is (vboxO V.blk)) :: (verF V ++ Z)))) A W
    | [_, _, r, s] => ∃ n : Nat, bOk r (frame 2 (verB l V.num V.size (atsOf V.chs))) ∧ s = .slice (some ⟨n, 0, none⟩) 1 1 ∧ Turns F1 (rowF 38 1 rv rl.length rl ++ ((n, Is (rec1O r)) :: (bRow r (frame 2 (verB l V.num V.size (atsOf V.chs))) ++ ((B11, Is (recsO rv)) :: (B9, Is (vboxO V.blk)) :: (verF V ++ Z))))) A W
    | [_, _, r, _, u] => ∃ n : Nat, bOk r (frame 2 (verB l V.num V.size (atsOf V.chs))) ∧ RowOk 1 u (rl ++ [r]).length (rl ++ [r]) ∧ Turns F1 (rowF 38 1 u (rl ++ [r]).length (rl ++ [r]) ++ ((n, Is (rec1O r)) :: (bRow r (frame 2 (verB l V.num V.size (atsOf V.chs))) ++ ((B11, Is (recsO rv)) :: (B9, Is (vboxO V.blk)) :: (verF V ++ Z))))) A W
    | [_, _, r, _, u, _] => ∃ n : Nat, bOk r (frame 2 (verB l V.num V.size (atsOf V.chs))) ∧ RowOk 1 u (rl ++ [r]).length (rl ++ [r]) ∧ Turns F1 ((B11, Is (recsO u)) :: (rowF 38 1 u (rl ++ [r]).length (rl ++ [r]) ++ ((n, Is (rec1O r)) :: (bRow r (frame 2 (verB l V.num V.size (atsOf V.chs))) ++ ((B9, Is (vboxO V.blk)) :: (verF V ++ Z)))))) A W
    | _ => False)
    (fun W => W.heap[B11]? = some (recsO rv) ∧ W.heap[B9]? = some (vboxO V.blk)) [3, 4, 5, 6, 7, 8] ?hC (by kernel_rfl) (by kernel_rfl) (by kernel_rfl) (by decide) (by decide) ?h0 ?hs ?he
  case hA => intro x; simp only [fillFrom, Act.put, List.setIfInBounds_toArray, List.set_cons_zero, List.set_cons_succ, Nat.reduceAdd]; rfl
  case hs =>
    refine ⟨chain_quiet rfl rfl (fun x wq hd hC K hK hKw => ?_), chain_quiet rfl rfl (fun x wq hd hC K hK hKw => ?_), chain_quiet rfl rfl (fun x wq hd hC K hK hKw => ?_), chain_noisy 0 rfl rfl (fun x wq hd hS K hK => ?_), chain_noisy 1 rfl rfl (fun x wq hd hS K hK => ?_), chain_noisy 2 rfl rfl (fun x wq hd hS K hK => ?_), chain_noisy 3 rfl rfl (fun x wq hd hS K hK => ?_), chain_noisy 4 rfl rfl (fun x wq hd hS K hK => ?_), chain_noisy 5 rfl rfl (fun x wq hd hS K hK => ?_), trivial⟩
    · exact w_load Tryz.underlying61 rfl rfl (by rfl) (cell_at hC.1 0 rfl) (hK _ rfl)
    · exact wp_run (by kernel_rfl) (hK _ rfl)
    · exact w_load Tryz.underlying149 rfl rfl (by rfl) (cell_at hC.2 0 rfl) (hK _ rfl)
    · have h1 : x 1 = str l := depsC_get hd 1 (by kernel_rfl)
      have h2 : x 2 = .pointer (some ⟨V.blk, 0, none⟩) := depsC_get hd 2 (by kernel_rfl)
      refine wp_calls (by rw [h1, h2]; kernel_rfl) (versionRecord_calls l V wq (hS.sat.sub (fun _ => by simp only [cnt_cons, cnt_append, cnt_nil] <;> omega)) hpo hcl) ?_
      rintro e w3 ⟨av, cv, rfl, hc, hs⟩
      exact ⟨_, rfl, hK _ _ trivial ⟨av, cv, rfl, hc, hS.thenSame hs⟩⟩
    · obtain ⟨av, cv, e3, hc, hT⟩ := hS
      exact wp_run (v := .iface 173 (x 3)) (by rw [e3]; kernel_rfl) (hK _ _ trivial ⟨av, cv, by rw [e3], hc, hT⟩)
    · obtain ⟨av, cv, e4, hc, hT⟩ := hS
      refine wp_calls (by rw [e4]; kernel_rfl) (writeVer_calls 2 l V.num V.size av cv (atsOf V.chs) wq hc hpl hnum hsize hat (by unfold atsOf; rw [List.length_map]; exact hcl)) ?_
      rintro e w3 ⟨v3, rfl, hb3, hT3⟩
      refine ⟨_, rfl, hK _ _ trivial ⟨hb3, ?_⟩⟩
      have h := Turns.newIn hT hT3
      exact h.to (perm_of_cnt fun _ => by simp only [cnt_cons, cnt_append, cnt_nil] <;> omega)
    · obtain ⟨hb, hT⟩ := hS
      obtain ⟨-, -, av, cv, hv⟩ := bytes_one hb (hT.sat.sub (G := bRow (x 5) (frame 2 (verB l V.num V.size (atsOf V.chs)))) (fun _ => by simp only [cnt_cons, cnt_append, cnt_nil] <;> omega))
      refine wp_run (v := .slice (some ⟨wq.heap.size, 0, none⟩) 1 1) (w' := wq.alloc (rec1O (x 5))) (by rw [hv]; kernel_rfl) (hK _ _ trivial ⟨wq.heap.size, hb, rfl, ?_⟩)
      have h := Turns.allocIs hT (rec1O (x 5))
      exact h.to (perm_of_cnt fun _ => by simp only [cnt_cons, cnt_append, cnt_nil] <;> omega)
    · have h0 : x 0 = rv := depsC_get hd 0 (by kernel_rfl)
      obtain ⟨n, hb, en, hT⟩ := hS
      have hno := hT.sat.memIs (b := n) (o := rec1O (x 5)) (by simp)
      obtain ⟨h1, -, -⟩ := bytes_one hb (hT.sat.sub (G := bRow (x 5) (frame 2 (verB l V.num V.size (atsOf V.chs)))) (fun _ => by simp only [cnt_cons, cnt_append, cnt_nil] <;> omega))
      exact w_append_rec (.tmp 139) (.tmp 145) rfl rv rl (by rw [h0]; rfl) hT hro n (x 5) (by rw [en]; rfl) h1 (cell_at hno 0 rfl) hl (fun v1 w1 k1 k2 => hK _ _ trivial ⟨n, hb, k1, k2⟩)
    · obtain ⟨n, hb, ho, hT⟩ := hS
      have h1 := row_one hT.sat.left ho
      exact w_store1T 61 (.tmp 11) (.tmp 146) rfl B11 0 #[rv] 61 (x 7) (hT.to (H := (B11, Is (recsO rv)) :: (rowF 38 1 (x 7) (rl ++ [(x 5)]).length (rl ++ [(x 5)]) ++ ((n, Is (rec1O (x 5))) :: (bRow (x 5) (frame 2 (verB l V.num V.size (atsOf V.chs))) ++ ((B9, Is (vboxO V.blk)) :: (verF V ++ Z)))))) (perm_of_cnt fun _ => by simp only [cnt_cons, cnt_append, cnt_nil] <;> omega)) rfl rfl (by simp) (by kernel_rfl) h1.1 h1.2 (fun w9 h9 => hK _ _ trivial ⟨n, hb, ho, h9⟩)
  case hC =>
    intro vs1 W hlt hS
    match vs1, hS, hlt with
    | [], hT, _ => exact ⟨hT.sat.memIs (by simp), hT.sat.memIs (by simp)⟩
    | [_], ⟨_, _, _, _, hT⟩, _ => exact ⟨hT.sat.memIs (by simp), hT.sat.memIs (by simp)⟩
    | [_, _], ⟨_, _, _, _, hT⟩, _ => exact ⟨hT.sat.memIs (by simp), hT.sat.memIs (by simp)⟩
    | [_, _, _], ⟨_, hT⟩, _ => exact ⟨hT.sat.memIs (by simp), hT.sat.memIs (by simp)⟩
    | [_, _, _, _], ⟨_, _, _, hT⟩, _ => exact ⟨hT.sat.memIs (by simp), hT.sat.memIs (by simp)⟩
    | [_, _, _, _, _], ⟨_, _, _, hT⟩, _ => exact ⟨hT.sat.memIs (by simp), hT.sat.memIs (by simp)⟩
    | [_, _, _, _, _, _], _, hlt => exact absurd hlt (Nat.lt_irrefl _)
  case h0 =>
    exact hT.drew
  case he =>
    intro x w3 hφ hS
    obtain ⟨n, hb, hok3, hT3⟩ := hS
    exact hk (x 0) (x 1) (x 2) (x 3) (x 4) (x 5) (x 6) (x 7) w3 hb hok3 (hT3.drop (fun _ => by simp only [cnt_cons, cnt_append, cnt_nil] <;> omega))
set_option maxHeartbeats 4000000 in
set_option maxRecDepth 100000 in
theorem put36 (F1 Z : HF) (A : World) (B3 B22 a : Nat) (X : ArchL) (cs : List ChkL) (cc : Nat) (c : Bs) (q : Nat × Nat) {Q : Exit → Act → World → Prop} {w : World} {u0 u1 u2 u4 u5 u6 u7 u8 u9 u10 u11 u12 u13 u14 u15 u16 u17 u18 u19 u20 u23 u24 u25 u26 u27 u28 u29 u30 u31 u32 u33 u34 u35 u36 u37 u38 u39 u40 u41 u42 u43 u44 u45 u46 u47 u48 u49 u50 u51 u52 u53 u54 u55 u56 u57 u58 u59 u60 u61 u62 u63 u64 u65 u66 u67 u68 u69 u70 u71 u72 u73 u74 u75 u76 u77 u78 u79 u80 u81 u82 u83 u84 u85 u86 u87 u88 u89 u90 u91 u92 u93 u94 u95 u96 u97 u98 u99 u100 u101 u102 u103 u104 u105 u106 u107 u108 u109 u110 u111 u112 u113 u114 u115 u116 u117 u118 u119 u120 u121 u122 u123 u124 u125 u126 u127 u128 u129 u130 u131 u132 u133 u134 u135 u136 u137 u138 u139 u140 u141 u142 u143 u144 u145 u146 u147 u148 u149 u150 u151 u152 u153 u154 u155 u156 u157 u158 u159 u160 u161 u162 u163 u164 u165 u166 u167 u168 u169 u170 u171 u172 u173 u174 u175 u176 : Value} {ds : List Deferred} (hT : Turns F1 (((a, Is (.cells (archCells X) 128 (0, 0))) :: chunksF X.cm cs cc) ++ ((B3, Is (boxA a)) :: (B22, Is (placeO q)) :: Z)) A w) (hok : ChunksOk cs cc) (hlen : (placesOf cs (be (sumOf 1 c) 4)).length ≤ 100000) (hbl : c.length ≤ 1000000) (hsc : -4611686018427387904 ≤ X.sc ∧ X.sc ≤ 4611686018427387904) (hsb : -4611686018427387904 ≤ X.sb ∧ X.sb ≤ 4611686018427387904)
    (hk : ∀ (y160 y161 y162 y163 y164 y165 y166 : Value) (w' : World), (∃ v', placeOk v' (placesOf cs (be (sumOf 1 c) 4) ++ [q]) ∧ Turns F1 (((a, Is (.cells (((archCells X).setIfInBounds 3 (.int .i64 (X.sc + 1))).setIfInBounds 4 (.int .i64 (X.sb + c.length))) 128 (0, 0))) :: chunksF X.cm (setG cs cc (be (sumOf 1 c) 4) v' (placesOf cs (be (sumOf 1 c) 4) ++ [q])) (putC (cs.map entG) cc (be (sumOf 1 c) 4))) ++ ((B3, Is (boxA a)) :: (B22, Is (placeO q)) :: Z)) A w') → Q .normal { tmps := #[u0, u1, u2, .pointer (some ⟨B3, 0, none⟩), u4, u5, u6, u7, u8, u9, u10, u11, u12, u13, u14, u15, u16, u17, u18, u19, u20, str c, .pointer (some ⟨B22, 0, none⟩), u23, u24, u25, u26, u27, u28, u29, u30, u31, u32, u33, u34, u35, u36, u37, u38, u39, u40, u41, u42, u43, u44, u45, u46, u47, u48, u49, u50, u51, u52, u53, u54, u55, u56, u57, u58, u59, u60, u61, u62, u63, u64, u65, u66, u67, u68, u69, u70, u71, u72, u73, u74, u75, u76, u77, u78, u79, u80, u81, u82, u83, u84, u85, u86, u87, u88, u89, u90, u91, u92, u93, u94, u95, u96, u97, u98, u99, u100, u101, u102, u103, u104, u105, u106, u107, u108, u109, u110, u111, u112, u113, u114, u115, u116, u117, u118, u119, u120, u121, u122, u123, u124, u125, u126, u127, u128, u129, u130, u131, u132, u133, u134, u135, u136, u137, u138, u139, u140, u141, u142, u143, u144, u145, u146, u147, u148, u149, u150, u151, u152, u153, u154, u155, u156, u157, u158, u159, y160, y161, y162, y163, y164, y165, y166, u167, u168, u169, u170, u171, u172, u173, u174, u175, u176], defers := ds } w') :
    (regOf 36 Tryz.f25).wp Tryz.prog Q { tmps := #[u0, u1, u2, .pointer (some ⟨B3, 0, none⟩), u4, u5, u6, u7, u8, u9, u10, u11, u12, u13, u14, u15, u16, u17, u18, u19, u20, str c, .pointer (some ⟨B22, 0, none⟩), u23, u24, u25, u26, u27, u28, u29, u30, u31, u32, u33, u34, u35, u36, u37, u38, u39, u40, u41, u42, u43, u44, u45, u46, u47, u48, u49, u50, u51, u52, u53, u54, u55, u56, u57, u58, u59, u60, u61, u62, u63, u64, u65, u66, u67, u68, u69, u70, u71, u72, u73, u74, u75, u76, u77, u78, u79, u80, u81, u82, u83, u84, u85, u86, u87, u88, u89, u90, u91, u92, u93, u94, u95, u96, u97, u98, u99, u100, u101, u102, u103, u104, u105, u106, u107, u108, u109, u110, u111, u112, u113, u114, u115, u116, u117, u118, u119, u120, u121, u122, u123, u124, u125, u126, u127, u128, u129, u130, u131, u132, u133, u134, u135, u136, u137, u138, u139, u140, u141, u142, u143, u144, u145, u146, u147, u148, u149, u150, u151, u152, u153, u154, u155, u156, u157, u158, u159, u160, u161, u162, u163, u164, u165, u166, u167, u168, u169, u170, u171, u172, u173, u174, u175, u176], defers := ds } w := by
  have HM := Lib.hid (show Tryz.prog.follows .mixedOrders = true by kernel_rfl)
  conv => arg 2; whnf
  refine wp_region_chainL (A := ?A) (hA := ?hA) HM.out (phiL [fun v => v = .pointer (some ⟨a, 0, none⟩), fun v => v = .pointer (some ⟨a, 0, none⟩), fun v => v = .pointer (some ⟨a, 0, none⟩), fun v => v = str c, fun _ => True, fun v => v = .agg #[.int .i64 q.1, .int .i64 q.2], fun _ => True])
    (fun vs1 W => match vs1 with
    | [] => Turns F1 (((a, Is (.cells (archCells X) 128 (0, 0))) :: chunksF X.cm cs cc) ++ ((B3, Is (boxA a)) :: (B22, Is (placeO q)) :: Z)) A W
    | [v] => ∃ (n cap : Nat), v = .slice (some ⟨n, 0, none⟩) c.length cap ∧ CellsAt W (some ⟨n, 0, none⟩) (c.map enc8) ∧ Turns F1 (((a, Is (.cells (archCells X) 128 (0, 0))) :: chunksF X.cm cs cc) ++ ((B3, Is (boxA a)) :: (B22, Is (placeO q)) :: Z)) A W
    | [_, _] => ∃ v', placeOk v' (placesOf cs (be (sumOf 1 c) 4) ++ [q]) ∧ Turns F1 (((a, Is (.cells (((archCells X).setIfInBounds 3 (.int .i64 (X.sc + 1))).setIfInBounds 4 (.int .i64 (X.sb + c.length))) 128 (0, 0))) :: chunksF X.cm (setG cs cc (be (sumOf 1 c) 4) v' (placesOf cs (be (sumOf 1 c) 4) ++ [q])) (putC (cs.map entG) cc (be (sumOf 1 c) 4))) ++ ((B3, Is (boxA a)) :: (B22, Is (placeO q)) :: Z)) A W
    | _ => False)
    (fun W => W.heap[B3]? = some (boxA a) ∧ W.heap[B22]? = some (placeO q)) [4, 6] ?hC (by kernel_rfl) (by kernel_rfl) (by kernel_rfl) (by decide) (by decide) ?h0 ?hs ?he
  case hA => intro x; simp only [fillFrom, Act.put, List.setIfInBounds_toArray, List.set_cons_zero, List.set_cons_succ, Nat.reduceAdd]; rfl
  case hs =>
    refine ⟨chain_quiet rfl rfl (fun x wq hd hC K hK hKw => ?_), chain_quiet rfl rfl (fun x wq hd hC K hK hKw => ?_), chain_quiet rfl rfl (fun x wq hd hC K hK hKw => ?_), chain_quiet rfl rfl (fun x wq hd hC K hK hKw => ?_), chain_noisy 0 rfl rfl (fun x wq hd hS K hK => ?_), chain_quiet rfl rfl (fun x wq hd hC K hK hKw => ?_), chain_noisy 1 rfl rfl (fun x wq hd hS K hK => ?_), trivial⟩
    · exact w_load Tryz.underlying32 rfl rfl (by rfl) (cell_at hC.1 0 rfl) (hK _ rfl)
    · have h0 : x 0 = .pointer (some ⟨a, 0, none⟩) := depsC_get hd 0 (by kernel_rfl)
      exact wp_run (by rw [h0]; kernel_rfl) (hK _ rfl)
    · have h1 : x 1 = .pointer (some ⟨a, 0, none⟩) := depsC_get hd 1 (by kernel_rfl)
      exact wp_run (by rw [h1]; kernel_rfl) (hK _ rfl)
    · exact wp_run (by kernel_rfl) (hK _ rfl)
    · have h3 : x 3 = str c := depsC_get hd 3 (by kernel_rfl)
      exact w_strBytes (.tmp 163) rfl c (by rw [h3]; rfl) (fun n cap w1 h1 h2 h4 => hK _ _ trivial ⟨n, cap, rfl, h2, hS.thenSame h1⟩)
    · exact wp_load_mid 161 (.tmp 22) rfl B22 0 rfl [.int .i64 q.1, .int .i64 q.2] _ (fun j v hv => cell_at hC.2 (0 + j) (by rw [Nat.zero_add, ← Array.getElem?_toList]; exact hv)) Tryz.underlying161 rfl (by kernel_rfl) (hK _ rfl)
    · have h2 : x 2 = .pointer (some ⟨a, 0, none⟩) := depsC_get hd 2 (by kernel_rfl)
      have h5 : x 5 = .agg #[.int .i64 q.1, .int .i64 q.2] := depsC_get hd 5 (by kernel_rfl)
      obtain ⟨n, cap, e4, hc, hT⟩ := hS
      refine wp_calls (by rw [h2, h5]; rw [e4]; kernel_rfl) (keep_calls a X.pm X.tm X.cm cc X.sc X.sb X.used cs c (some ⟨n, 0, none⟩) cap q (archCells X) 128 wq hT.sat.left ⟨rfl, rfl, rfl, rfl, rfl, rfl⟩ hok hc hlen hbl hsc hsb) ?_
      rintro e w3 ⟨v', rfl, hp, hT3⟩
      exact ⟨_, rfl, hK _ _ trivial ⟨v', hp, hT.step (List.Perm.refl _) hT3⟩⟩
  case hC =>
    intro vs1 W hlt hS
    match vs1, hS, hlt with
    | [], hT, _ => exact ⟨hT.sat.memIs (by simp), hT.sat.memIs (by simp)⟩
    | [_], ⟨_, _, _, _, hT⟩, _ => exact ⟨hT.sat.memIs (by simp), hT.sat.memIs (by simp)⟩
    | [_, _], _, hlt => exact absurd hlt (Nat.lt_irrefl _)
  case h0 =>
    exact hT.drew
  case he =>
    intro x w3 hφ hS
    exact hk (x 0) (x 1) (x 2) (x 3) (x 4) (x 5) (x 6) w3 hS
set_option maxHeartbeats 4000000 in
set_option maxRecDepth 100000 in
theorem put37 (F1 Z : HF) (A : World) (B3 B9 a : Nat) (X : ArchL) (ps : List PathL) (pc : Nat) (l : Bs) (V : VerL) {Q : Exit → Act → World → Prop} {w : World} {u0 u2 u4 u5 u6 u7 u8 u10 u11 u12 u13 u14 u15 u16 u17 u18 u19 u20 u21 u22 u23 u24 u25 u26 u27 u28 u29 u30 u31 u32 u33 u34 u35 u36 u37 u38 u39 u40 u41 u42 u43 u44 u45 u46 u47 u48 u49 u50 u51 u52 u53 u54 u55 u56 u57 u58 u59 u60 u61 u62 u63 u64 u65 u66 u67 u68 u69 u70 u71 u72 u73 u74 u75 u76 u77 u78 u79 u80 u81 u82 u83 u84 u85 u86 u87 u88 u89 u90 u91 u92 u93 u94 u95 u96 u97 u98 u99 u100 u101 u102 u103 u104 u105 u106 u107 u108 u109 u110 u111 u112 u113 u114 u115 u116 u117 u118 u119 u120 u121 u122 u123 u124 u125 u126 u127 u128 u129 u130 u131 u132 u133 u134 u135 u136 u137 u138 u139 u140 u141 u142 u143 u144 u145 u146 u147 u148 u149 u150 u151 u152 u153 u154 u155 u156 u157 u158 u159 u160 u161 u162 u163 u164 u165 u166 u167 u168 u169 u170 u171 u172 u173 u174 u175 u176 : Value} {ds : List Deferred} (hT : Turns F1 (((a, Is (.cells (archCells X) 128 (0, 0))) :: (pathsF X.pm ps pc ++ verF V)) ++ ((B3, Is (boxA a)) :: (B9, Is (vboxO V.blk)) :: Z)) A w) (hok : PathsOk ps pc) (hl : OkS l) (hlen : (versOf ps l).length ≤ 100000) (hus : -4611686018427387904 ≤ X.used ∧ X.used + V.size ≤ 4611686018427387904) (hvs : V.size ≤ 4611686018427387904)
    (hk : ∀ (y167 y168 y169 y170 y171 y172 : Value) (w' : World), (∃ v', ptrOk v' (versOf ps l ++ [V]) ∧ Turns F1 (((a, Is (.cells ((archCells X).setIfInBounds 5 (.int .i64 (X.used + V.size))) 128 (0, 0))) :: pathsF X.pm (addP ps pc l v' V) (putC (ps.map entG) pc l)) ++ ((B3, Is (boxA a)) :: (B9, Is (vboxO V.blk)) :: Z)) A w') → Q .normal { tmps := #[u0, str l, u2, .pointer (some ⟨B3, 0, none⟩), u4, u5, u6, u7, u8, .pointer (some ⟨B9, 0, none⟩), u10, u11, u12, u13, u14, u15, u16, u17, u18, u19, u20, u21, u22, u23, u24, u25, u26, u27, u28, u29, u30, u31, u32, u33, u34, u35, u36, u37, u38, u39, u40, u41, u42, u43, u44, u45, u46, u47, u48, u49, u50, u51, u52, u53, u54, u55, u56, u57, u58, u59, u60, u61, u62, u63, u64, u65, u66, u67, u68, u69, u70, u71, u72, u73, u74, u75, u76, u77, u78, u79, u80, u81, u82, u83, u84, u85, u86, u87, u88, u89, u90, u91, u92, u93, u94, u95, u96, u97, u98, u99, u100, u101, u102, u103, u104, u105, u106, u107, u108, u109, u110, u111, u112, u113, u114, u115, u116, u117, u118, u119, u120, u121, u122, u123, u124, u125, u126, u127, u128, u129, u130, u131, u132, u133, u134, u135, u136, u137, u138, u139, u140, u141, u142, u143, u144, u145, u146, u147, u148, u149, u150, u151, u152, u153, u154, u155, u156, u157, u158, u159, u160, u161, u162, u163, u164, u165, u166, y167, y168, y169, y170, y171, y172, u173, u174, u175, u176], defers := ds } w') :
    (regOf 37 Tryz.f25).wp Tryz.prog Q { tmps := #[u0, str l, u2, .pointer (some ⟨B3, 0, none⟩), u4, u5, u6, u7, u8, .pointer (some ⟨B9, 0, none⟩), u10, u11, u12, u13, u14, u15, u16, u17, u18, u19, u20, u21, u22, u23, u24, u25, u26, u27, u28, u29, u30, u31, u32, u33, u34, u35, u36, u37, u38, u39, u40, u41, u42, u43, u44, u45, u46, u47, u48, u49, u50, u51, u52, u53, u54, u55, u56, u57, u58, u59, u60, u61, u62, u63, u64, u65, u66, u67, u68, u69, u70, u71, u72, u73, u74, u75, u76, u77, u78, u79, u80, u81, u82, u83, u84, u85, u86, u87, u88, u89, u90, u91, u92, u93, u94, u95, u96, u97, u98, u99, u100, u101, u102, u103, u104, u105, u106, u107, u108, u109, u110, u111, u112, u113, u114, u115, u116, u117, u118, u119, u120, u121, u122, u123, u124, u125, u126, u127, u128, u129, u130, u131, u132, u133, u134, u135, u136, u137, u138, u139, u140, u141, u142, u143, u144, u145, u146, u147, u148, u149, u150, u151, u152, u153, u154, u155, u156, u157, u158, u159, u160, u161, u162, u163, u164, u165, u166, u167, u168, u169, u170, u171, u172, u173, u174, u175, u176], defers := ds } w := by
  have HM := Lib.hid (show Tryz.prog.follows .mixedOrders = true by kernel_rfl)
  conv => arg 2; whnf
  refine wp_region_chainL (A := ?A) (hA := ?hA) HM.out (phiL [fun v => v = .pointer (some ⟨a, 0, none⟩), fun v => v = .pointer (some ⟨a, 0, none⟩), fun v => v = .pointer (some ⟨a, 0, none⟩), fun v => v = str l, fun v => v = .pointer (some ⟨V.blk, 0, none⟩), fun _ => True])
    (fun vs1 W => match vs1 with
    | [] => Turns F1 (((a, Is (.cells (archCells X) 128 (0, 0))) :: (pathsF X.pm ps pc ++ verF V)) ++ ((B3, Is (boxA a)) :: (B9, Is (vboxO V.blk)) :: Z)) A W
    | [_] => ∃ v', ptrOk v' (versOf ps l ++ [V]) ∧ Turns F1 (((a, Is (.cells ((archCells X).setIfInBounds 5 (.int .i64 (X.used + V.size))) 128 (0, 0))) :: pathsF X.pm (addP ps pc l v' V) (putC (ps.map entG) pc l)) ++ ((B3, Is (boxA a)) :: (B9, Is (vboxO V.blk)) :: Z)) A W
    | _ => False)
    (fun W => W.heap[B3]? = some (boxA a) ∧ W.heap[B9]? = some (vboxO V.blk)) [5] ?hC (by kernel_rfl) (by kernel_rfl) (by kernel_rfl) (by decide) (by decide) ?h0 ?hs ?he
  case hA => intro x; simp only [fillFrom, Act.put, List.setIfInBounds_toArray, List.set_cons_zero, List.set_cons_succ, Nat.reduceAdd]; rfl
  case hs =>
    refine ⟨chain_quiet rfl rfl (fun x wq hd hC K hK hKw => ?_), chain_quiet rfl rfl (fun x wq hd hC K hK hKw => ?_), chain_quiet rfl rfl (fun x wq hd hC K hK hKw => ?_), chain_quiet rfl rfl (fun x wq hd hC K hK hKw => ?_), chain_quiet rfl rfl (fun x wq hd hC K hK hKw => ?_), chain_noisy 0 rfl rfl (fun x wq hd hS K hK => ?_), trivial⟩
    · exact w_load Tryz.underlying32 rfl rfl (by rfl) (cell_at hC.1 0 rfl) (hK _ rfl)
    · have h0 : x 0 = .pointer (some ⟨a, 0, none⟩) := depsC_get hd 0 (by kernel_rfl)
      exact wp_run (by rw [h0]; kernel_rfl) (hK _ rfl)
    · have h1 : x 1 = .pointer (some ⟨a, 0, none⟩) := depsC_get hd 1 (by kernel_rfl)
      exact wp_run (by rw [h1]; kernel_rfl) (hK _ rfl)
    · exact wp_run (by kernel_rfl) (hK _ rfl)
    · exact w_load Tryz.underlying149 rfl rfl (by rfl) (cell_at hC.2 0 rfl) (hK _ rfl)
    · have h2 : x 2 = .pointer (some ⟨a, 0, none⟩) := depsC_get hd 2 (by kernel_rfl)
      have h3 : x 3 = str l := depsC_get hd 3 (by kernel_rfl)
      have h4 : x 4 = .pointer (some ⟨V.blk, 0, none⟩) := depsC_get hd 4 (by kernel_rfl)
      refine wp_calls (by rw [h2, h3, h4]; kernel_rfl) (add_calls a X.pm X.tm X.cm pc X.sc X.sb X.used ps l V (archCells X) 128 wq hS.sat.left ⟨rfl, rfl, rfl, rfl, rfl, rfl⟩ hok hl hlen hus hvs) ?_
      rintro e w3 ⟨v', rfl, hp, hT3⟩
      exact ⟨_, rfl, hK _ _ trivial ⟨v', hp, hS.step (List.Perm.refl _) hT3⟩⟩
  case hC =>
    intro vs1 W hlt hS
    match vs1, hS, hlt with
    | [], hT, _ => exact ⟨hT.sat.memIs (by simp), hT.sat.memIs (by simp)⟩
    | [_], _, hlt => exact absurd hlt (Nat.lt_irrefl _)
  case h0 =>
    exact hT.drew
  case he =>
    intro x w3 hφ hS
    exact hk (x 0) (x 1) (x 2) (x 3) (x 4) (x 5) w3 hS
end Go.Proofs.YtdhobpbngkainaaGreatDoor
/-
  Ours. Plain: behind a Put that is done the archive is whole again. No condition but what is said.
-/
namespace Go.Proofs.YtdhobpbngkainaaGreatDoor
open Go.RowKit Go.Maps

theorem frames_cons (c : Bs) (r : List Bs) : frames (c :: r) = frame 1 c ++ frames r := by simp [frames]
theorem frames_length : ∀ l : List Bs, (frames l).length = framesLen l
  | [] => rfl
  | c :: r => by rw [frames_cons, List.length_append, frame_length, framesLen_cons, frames_length r]
theorem placed_in (rest : Bs) : ∀ (l : List Bs) (data : Bs), (∀ c ∈ l, c.length < 65536) → ∀ e ∈ placed data.length l, e.2.2 = e.1.length ∧ InData (data ++ frames l ++ rest) e.2.1 e.1
  | [], _, _, e, h => by simp [placed] at h
  | c :: r, data, hl, e, h => by
    simp only [placed, List.mem_cons] at h
    rcases h with rfl | h
    · refine ⟨rfl, ?_⟩
      have := InData.frame (data := data) (body := c) (rest := frames r ++ rest) (hl c (by simp))
      rw [frames_cons]
      simpa [List.append_assoc] using this
    · have h2 := placed_in rest r (data ++ frame 1 c) (fun x hx => hl x (by simp [hx])) e (by rw [List.length_append, frame_length, ← Nat.add_assoc]; exact h)
      rw [frames_cons]
      simpa [List.append_assoc] using h2
theorem pathsOk_add {ps : List PathL} {pc : Nat} (hok : PathsOk ps pc) {l : Bs} (hl : OkS l) {v : Value} {V : VerL} (hv : ptrOk v (versOf ps l ++ [V])) (hV : placeOk V.cv V.chs) : PathsOk (addP ps pc l v V) (putC (ps.map entG) pc l) where
  map := by unfold addP; rw [setG_ent]; exact hok.map.put hl v
  rows := fun p hp => by
    rcases setG_mem hp with ⟨h1, _⟩ | ⟨_, h2, h3⟩
    · exact hok.rows p h1
    · refine ⟨by rw [h2, h3]; exact hv, fun U hU => ?_⟩
      rw [h3] at hU
      rcases List.mem_append.1 hU with h | h
      · unfold versOf gOf at h
        cases hf : ps.find? (fun p => decide (p.key = l)) with
        | none => rw [hf] at h; simp at h
        | some p' => rw [hf] at h; exact (hok.rows p' (List.mem_of_find?_eq_some hf)).2 U h
      · simp only [List.mem_singleton] at h; subst h; exact hV
theorem versOf_mem {ps : List PathL} {l : Bs} (h : versOf ps l ≠ []) : ∃ p ∈ ps, p.key = l ∧ p.g = versOf ps l := by
  unfold versOf gOf at h ⊢
  cases hf : ps.find? (fun p => decide (p.key = l)) with
  | none => rw [hf] at h; exact absurd rfl h
  | some p => exact ⟨p, List.mem_of_find?_eq_some hf, by simpa using List.find?_some hf, rfl⟩
theorem setG_len {γ : Type} (ps : List (GE γ)) (c : Nat) (l : Bs) (v : Value) (g : γ) : (setG ps c l v g).length ≤ ps.length + 1 := by
  unfold setG; split <;> simp
theorem zip_mem_right {α β : Type} : ∀ {l : List α} {m : List β}, l.length = m.length → ∀ b ∈ m, ∃ a ∈ l, (a, b) ∈ l.zip m
  | [], [], _, b, hb => by simp at hb
  | a :: l, x :: m, h, b, hb => by
    rcases List.mem_cons.1 hb with rfl | hb
    · exact ⟨a, by simp, by simp⟩
    · obtain ⟨a', h1, h2⟩ := zip_mem_right (by simpa using h) b hb
      exact ⟨a', by simp [h1], by simp [h2]⟩
theorem chs_sum : ∀ {l : List Bs} {m : List (Nat × Nat)}, l.length = m.length → (∀ e ∈ l.zip m, e.2.2 = e.1.length) → (m.map (·.2)).sum = (l.map List.length).sum
  | [], [], _, _ => rfl
  | c :: l, q :: m, h, hz => by
    have h1 := hz (c, q) (by simp)
    have h2 := chs_sum (l := l) (m := m) (by simpa using h) (fun e he => hz e (by simp [he]))
    simp only [List.map_cons, List.sum_cons]
    rw [h2]
    simp only at h1
    rw [h1]
theorem chunksFrom_sum : ∀ (l : List Nat) (d : Bs), l.sum = d.length → ((chunksFrom l d).map List.length).sum = d.length
  | [], d, h => by simpa [chunksFrom] using h
  | n :: r, d, h => by
    simp only [List.sum_cons] at h
    simp only [chunksFrom, List.map_cons, List.sum_cons, List.length_take]
    rw [chunksFrom_sum r (d.drop n) (by rw [List.length_drop]; omega), List.length_drop]
    omega
theorem chunksOf_sum (D : Bs) : ((chunksOf D).map List.length).sum = D.length := chunksFrom_sum _ _ (lensOf_sum D)
theorem sum_fresh (has : List Bs) : ∀ (l acc : List Bs), ((freshOf has acc l).map List.length).sum ≤ (acc.map List.length).sum + (l.map List.length).sum
  | [], acc => by simp [freshOf]
  | c :: l, acc => by
    simp only [freshOf]
    split
    · have := sum_fresh has l acc; simp; omega
    · have := sum_fresh has l (acc ++ [c]); simp at this ⊢; omega
theorem framesLen_eq (l : List Bs) : framesLen l = (l.map List.length).sum + 9 * l.length := by
  induction l with
  | nil => rfl
  | cons c r ih => rw [framesLen_cons, ih]; simp; omega
theorem freshS_sum (S : AS) (D : Bs) : ((freshS S D).map List.length).sum ≤ D.length := by
  have := sum_fresh (S.K.map (·.1)) (chunksOf D) []
  rw [chunksOf_sum] at this
  unfold freshS
  simpa using this
theorem freshS_len (S : AS) (D : Bs) : (freshS S D).length ≤ D.length := by
  have h1 := freshOf_len (S.K.map (·.1)) (chunksOf D) []
  have h2 := lensOf_length_le D
  rw [chunksOf_len] at h1
  unfold freshS
  simp at h1; omega
theorem freshS_mem {S : AS} {D c : Bs} (h : c ∈ freshS S D) : c ∈ chunksOf D ∧ c ∉ S.K.map (·.1) := by
  rcases freshOf_sub _ _ _ c h with h | h
  · simp at h
  · exact h
theorem tailOf_len (data : Bs) : (tailOf data).length = 128 := by
  unfold tailOf
  have := lastOf_length data
  simp [zeros]
  omega
theorem lastNum_le {S : AS} {b : Nat} (hB : ArB S b) (l : Bs) : lastNum (versOf S.ps l) ≤ 4294967296 + b := by
  unfold lastNum
  cases hg : (versOf S.ps l).getLast? with
  | none => simp
  | some V =>
    have hV := List.mem_of_getLast? hg
    obtain ⟨p, hp, _, h2⟩ := versOf_mem (ps := S.ps) (l := l) (fun e => by rw [e] at hV; simp at hV)
    rw [← h2] at hV
    exact ((hB.vers p hp).2.2 V hV).1
theorem frameV_len (l : Bs) (n s : Int) (chs : List (Nat × Nat)) : (frame 2 (verB l n s (atsOf chs))).length = l.length + 16 + 4 * chs.length := by
  simp only [frame_length, verB, List.length_append, textB_length, beI_length, numsB_length, atsOf, List.length_map]
  omega
theorem putB_D {S S' : AS} {D : Bs} {b : Nat} (h : PutB S D b S') : ArB S' (b + D.length + 2) := h _ (by have := freshS_len S D; omega) (by have := lensOf_length_le D; rw [chunksOf_len]; omega)
theorem put_done {S : AS} {l D : Bs} {b : Nat} (hok : ArOk S) (hB : ArB S b) (hl : l.length ≤ 20) (hD : D.length ≤ 4000) {sp : List (Nat × Nat × Nat)} (hA : AreaOk { S.A with spare := sp }) {V : VerL} (hnum : V.num = lastNum (versOf S.ps l) + 1) (hsize : V.size = D.length) (hheld : V.held = 0)
    (hnc : V.chs.length = (chunksOf D).length) (hchs : ∀ e ∈ (chunksOf D).zip V.chs, e ∈ S.K ++ placed S.data.length (freshS S D)) (hV : placeOk V.cv V.chs) {L' : DevL} (hL : DevOk L') (hLn : L'.n = S.L.n)
    (hdat : DataAt L'.now S.A.first S.A.count (S.data ++ frames (freshS S D) ++ frame 2 (verB l V.num V.size (atsOf V.chs)))) (hoth : ∀ f2 c2, (f2 + c2 ≤ S.A.first ∨ S.A.first + S.A.count ≤ f2) → halfOf L'.now f2 c2 = halfOf S.L.now f2 c2)
    (hLc : L'.chs.length ≤ S.L.chs.length + (frames (freshS S D) ++ frame 2 (verB l V.num V.size (atsOf V.chs))).length) {cs' : List ChkL} {cc' : Nat} (hcs : ChunksOk cs' cc')
    (hkin : ∀ k, (placesOf cs' k).Perm (((S.K ++ placed S.data.length (freshS S D)).filter (fun e => decide (keyB e.1 = k))).map (·.2))) {v' : Value} (hv : ptrOk v' (versOf S.ps l ++ [V])) :
    ∀ S', S' = { S with X := { S.X with sc := S.X.sc + (freshS S D).length, sb := S.X.sb + ((freshS S D).map List.length).sum, used := S.X.used + D.length }, A := { S.A with spare := sp, end_ := (S.data ++ frames (freshS S D) ++ frame 2 (verB l V.num V.size (atsOf V.chs))).length, tail := tailOf (S.data ++ frames (freshS S D) ++ frame 2 (verB l V.num V.size (atsOf V.chs))) }, L := L', ps := addP S.ps S.pc l v' V, pc := putC (S.ps.map entG) S.pc l, cs := cs', cc := cc', data := S.data ++ frames (freshS S D) ++ frame 2 (verB l V.num V.size (atsOf V.chs)), K := S.K ++ placed S.data.length (freshS S D) } →
    PutStep S S' l D V ∧ ArOk S' ∧ PutB S D b S' := by
  rintro S' rfl
  have hfl := freshS_len S D
  have hfs := freshS_sum S D
  have hkat : ∀ e ∈ S.K ++ placed S.data.length (freshS S D), e.2.2 = e.1.length ∧ InData (S.data ++ frames (freshS S D) ++ frame 2 (verB l V.num V.size (atsOf V.chs))) e.2.1 e.1 := fun e he => by
    rcases List.mem_append.1 he with h | h
    · refine ⟨(hok.kat e h).1, ?_⟩
      rw [List.append_assoc]
      exact (hok.kat e h).2.more
    · exact placed_in _ _ _ (fun c hc => by have := chunksOf_mem (freshS_mem hc).1; omega) e h
  have hpl : (placed S.data.length (freshS S D)).length = (freshS S D).length := by
    have := congrArg List.length (freshE_zip (freshS S D) S.data.length 0)
    simp only [List.length_map] at this
    rw [← this, freshE_len]
  have hln := lastNum_le hB l
  have hcn := lensOf_length_le D
  rw [chunksOf_len] at hnc
  have hvers : ∀ p ∈ addP S.ps S.pc l v' V, (p ∈ S.ps ∧ p.key ≠ l) ∨ (p.key = l ∧ p.g = versOf S.ps l ++ [V]) := fun p hp => by
    rcases setG_mem hp with h | ⟨h1, _, h3⟩
    · exact .inl h
    · exact .inr ⟨h1, h3⟩
  refine ⟨⟨rfl, rfl, rfl, rfl, rfl, hLn, rfl, rfl, rfl, rfl, rfl, fun m => ?_, hnum, hsize, hheld, by rw [hnc, chunksOf_len], hchs, rfl, hoth⟩, ?_, ?_⟩
  · simp only [versOf, addP, gOf_setG]
  · exact {
      dev := hL, n16 := by rw [hLn]; exact hok.n16, nmax := by rw [hLn]; exact hok.nmax, area := ⟨tailOf_len _, hA.few, hA.caps⟩, first := by rw [hLn]; exact hok.first, count := by rw [hLn]; exact hok.count
      end_ := rfl, tail := rfl, dat := hdat, paths := pathsOk_add hok.paths (by unfold OkS; omega) hv hV, tags := hok.tags, chunks := hcs, kin := hkin, kat := hkat
      vers := fun p hp U hU => by
        have old : ∀ p ∈ S.ps, ∀ U ∈ p.g, (∀ q ∈ U.chs, ∃ e ∈ S.K ++ placed S.data.length (freshS S D), e.2 = q) ∧ U.size = (U.chs.map (·.2)).sum := fun p hp U hU =>
          ⟨fun q hq => by obtain ⟨e, he, h⟩ := (hok.vers p hp U hU).1 q hq; exact ⟨e, List.mem_append_left _ he, h⟩, (hok.vers p hp U hU).2⟩
        rcases hvers p hp with ⟨h1, _⟩ | ⟨_, h3⟩
        · exact old p h1 U hU
        · rw [h3] at hU
          rcases List.mem_append.1 hU with h | h
          · obtain ⟨p', hp', _, h2⟩ := versOf_mem (ps := S.ps) (l := l) (fun e => by rw [e] at h; simp at h)
            rw [← h2] at h
            exact old p' hp' U h
          · simp only [List.mem_singleton] at h
            subst h
            have hll : (chunksOf D).length = U.chs.length := by rw [hnc, chunksOf_len]
            refine ⟨fun q hq => ?_, ?_⟩
            · obtain ⟨c, _, h2⟩ := zip_mem_right hll q hq
              exact ⟨(c, q), hchs _ h2, rfl⟩
            · rw [hsize, chs_sum hll (fun e he => (hkat e (hchs e he)).1), chunksOf_sum]
      some := fun p hp => by
        rcases hvers p hp with ⟨h1, _⟩ | ⟨_, h3⟩
        · exact hok.some p h1
        · rw [h3]; simp
      sound := hok.sound, ep := hok.ep }
  · intro b' hb1 hb3
    rw [chunksOf_len] at hb3
    have hfr : (frames (freshS S D) ++ frame 2 (verB l V.num V.size (atsOf V.chs))).length ≤ 262144 * 2 := by
      rw [List.length_append, frames_length, framesLen_eq, frameV_len]
      omega
    have hb2 : b ≤ b' := by omega
    exact {
      K := by have := hB.K; simp only [List.length_append, hpl]; omega
      np := by have h1 := setG_len S.ps S.pc l v' (versOf S.ps l ++ [V]); have := hB.np; show (setG S.ps S.pc l v' (versOf S.ps l ++ [V])).length ≤ _; omega
      nt := by have := hB.nt; show S.ts.length ≤ _; omega
      vers := fun p hp => by
        have old : ∀ U : VerL, U.num ≤ 4294967296 + b ∧ U.chs.length ≤ b ∧ U.size ≤ 65536 * b ∧ U.held.natAbs ≤ b → U.num ≤ 4294967296 + b' ∧ U.chs.length ≤ b' ∧ U.size ≤ 65536 * b' ∧ U.held.natAbs ≤ b' := fun U h => by omega
        rcases hvers p hp with ⟨h1, _⟩ | ⟨h0, h3⟩
        · obtain ⟨k1, k2, k3⟩ := hB.vers p h1
          exact ⟨k1, by omega, fun U hU => old U (k3 U hU)⟩
        · rw [h0, h3]
          have hlen : (versOf S.ps l).length ≤ b ∧ ∀ U ∈ versOf S.ps l, U.num ≤ 4294967296 + b ∧ U.chs.length ≤ b ∧ U.size ≤ 65536 * b ∧ U.held.natAbs ≤ b := by
            by_cases hn : versOf S.ps l = []
            · rw [hn]; exact ⟨by simp, fun U hU => by simp at hU⟩
            · obtain ⟨p', hp', _, h2⟩ := versOf_mem hn
              rw [← h2]; exact ⟨(hB.vers p' hp').2.1, (hB.vers p' hp').2.2⟩
          refine ⟨by omega, by simp; omega, fun U hU => ?_⟩
          rcases List.mem_append.1 hU with h | h
          · exact old U (hlen.2 U h)
          · simp only [List.mem_singleton] at h
            subst h
            rw [hnum, hsize, hheld, hnc]
            exact ⟨by omega, by omega, by omega, by simp⟩
      tags := fun p hp => by obtain ⟨k1, k2, k3⟩ := hB.tags p hp; exact ⟨k1, k2, by omega⟩
      used := by have := hB.used; simp only; omega
      sc := by have := hB.sc; simp only; omega
      sb := by have := hB.sb; simp only; omega
      quota := hB.quota
      chs := by have := hB.chs; simp only at hLc ⊢; omega }
end Go.Proofs.YtdhobpbngkainaaGreatDoor
