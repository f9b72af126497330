/-
  Ours. Put behind its loop: the records are written, what is new is taken up (the text is printed by wip/genputtail2.py).
-/
import Derived.Test.YtdhobpbngkainaaGreatDoorMo14
import Derived.Test.YtdhobpbngkainaaGreatDoorMo13
namespace Go.Proofs.YtdhobpbngkainaaGreatDoor
open Go.RowKit Go.Maps

def PutTailRes (S : AS) (l D : Bs) (b num : Nat) (B6 B7 : Nat) (F : HF) (B w' : World) (n : Int) (ev : Value) : Prop :=
  (∃ sp chs J, n = 0 ∧ ev = errV 8 ∧ AreaOk { S.A with spare := sp } ∧ Turns F ((B6, Is (intO 0)) :: (B7, Is (errO (errV 8))) :: (arF { S with A := { S.A with spare := sp } } ++ J)) B w' ∧
    128 * S.A.count < S.data.length + (frames (freshS S D)).length + (frame 2 (verB l num D.length (atsOf chs))).length ∧ chs.length = (chunksOf D).length) ∨
  (∃ S' V J, n = num ∧ ev = .nilIface ∧ PutStep S S' l D V ∧ ArOk S' ∧ PutB S D b S' ∧ Turns F ((B6, Is (intO num)) :: (B7, Is (errO (.nilIface))) :: (arF S' ++ J)) B w')
theorem own_cap {w : World} {b e n : Nat} {v : Value} {xs : List Value} {a : Option Addr} {cap : Nat} (h : w.ownsRow b e 1 v n xs) (hv : v = .slice a n cap) : cap ≤ 9223372036854775807 := by
  obtain ⟨a', c', h1, _, _, h2, _⟩ := own_cells2 h
  rw [hv] at h1
  simp only [Value.slice.injEq] at h1
  omega
def intN : Value → Nat
  | .int _ a => a.toNat
  | _ => 0
def aggAt (i : Nat) : Value → Value
  | .agg c => c.getD i undef
  | _ => undef
def entK (e : Ent Bs) : Bs × Nat × Nat := (e.key, intN (aggAt 0 e.val), intN (aggAt 1 e.val))
theorem entK_fresh : ∀ (l : List Bs) (at_ b : Nat), (freshE at_ b l).map entK = placed at_ l
  | [], _, _ => rfl
  | c :: r, at_, b => by
    simp only [freshE, placed, List.map_cons, entK_fresh r]
    congr 1
def XK (X : ArchL) (done : List (Ent Bs)) : ArchL := { X with sc := X.sc + done.length, sb := X.sb + (done.map (fun e => e.key.length)).sum }
/-- Between two rounds of the loop that takes the new chunks up. -/
def KeepRel (S : AS) (S1 : HF) (acc : List Bs) (F Z : HF) (B : World) (Bm r : Nat) (w : World) : Prop :=
  ∃ (done todo : List (Ent Bs)) (cs : List ChkL) (cc : Nat) (J : HF), (done ++ todo).Perm (freshE S.data.length 0 acc) ∧ ChunksOk cs cc ∧
    (∀ k, (placesOf cs k).Perm (((S.K ++ done.map entK).filter (fun e => decide (keyB e.1 = k))).map (·.2))) ∧
    Turns F ((r, Is (iterO Bm acc.length done)) :: (Bm, Is (mapO str (freshE S.data.length 0 acc) acc.length)) :: (S.a, Is (archO (XK S.X done))) :: (chunksF S.X.cm cs cc ++ (S1 ++ (J ++ Z)))) B w
def iterLeft (r n : Nat) (w : World) : Nat := match w.heap[r]? with
  | some (.mapIter _ _ seen _) => n - seen.size
  | _ => 0
theorem XK_step (X : ArchL) (done : List (Ent Bs)) (e : Ent Bs) : (.cells (((archCells (XK X done)).setIfInBounds 3 (.int .i64 ((XK X done).sc + 1))).setIfInBounds 4 (.int .i64 ((XK X done).sb + e.key.length))) 128 (0, 0) : Obj) = archO (XK X (done ++ [e])) := by
  have h1 : X.sc + (done.length : Int) + 1 = X.sc + ((done ++ [e]).length : Nat) := by simp; omega
  have h2 : X.sb + ((done.map (fun e => e.key.length)).sum : Nat) + (e.key.length : Int) = X.sb + (((done ++ [e]).map (fun e => e.key.length)).sum : Nat) := by simp; omega
  unfold archO
  congr 1
  simp only [archCells, XK]
  rw [h1, h2]
  rfl
theorem XK_end (X : ArchL) {done fE : List (Ent Bs)} {acc : List Bs} {at_ : Nat} (size n : Nat) (hs : size = n) (h : done.Perm fE) (hf : fE = freshE at_ 0 acc) : (.cells ((archCells (XK X done)).setIfInBounds 5 (.int .i64 ((XK X done).used + size))) 128 (0, 0) : Obj) = archO { X with sc := X.sc + acc.length, sb := X.sb + (acc.map List.length).sum, used := X.used + n } := by
  have h1 : done.length = acc.length := by rw [h.length_eq, hf, freshE_len]
  have h2 : (done.map (fun e => e.key.length)).sum = (acc.map List.length).sum := by
    rw [((h.map (fun e => e.key.length)).sum_nat), hf]
    conv => rhs; rw [← freshE_keys acc at_ 0, List.map_map]
    rfl
  subst hs
  unfold archO
  congr 1
  simp only [archCells, XK]
  rw [h1, h2]
  rfl
theorem chunksOk_set {cs : List ChkL} {cc : Nat} (h : ChunksOk cs cc) {k : Bs} (hk : Ok4 k) {v : Value} {g : List (Nat × Nat)} (hv : placeOk v g) : ChunksOk (setG cs cc k v g) (putC (cs.map entG) cc k) where
  map := by rw [setG_ent]; exact h.map.put hk v
  rows := fun p hp => by
    rcases setG_mem hp with ⟨h1, _⟩ | ⟨_, h2, h3⟩
    · exact h.rows p h1
    · rw [h2, h3]; exact hv
theorem done_sum {done todo fE : List (Ent Bs)} {acc : List Bs} {at_ m : Nat} (h : (done ++ todo).Perm fE) (hf : fE = freshE at_ 0 acc) (hm : (acc.map List.length).sum ≤ m) : (done.map (fun e => e.key.length)).sum ≤ m := by
  have h1 := ((h.map (fun e => e.key.length)).sum_nat)
  have h2 : fE.map (fun e => e.key.length) = acc.map List.length := by
    rw [hf]
    conv => rhs; rw [← freshE_keys acc at_ 0, List.map_map]
    rfl
  rw [h2, List.map_append, List.sum_append] at h1
  omega
theorem kin_step {cs : List ChkL} {cc : Nat} {T : List (Bs × Nat × Nat)} (h : ∀ k, (placesOf cs k).Perm ((T.filter (fun e => decide (keyB e.1 = k))).map (·.2))) (c : Bs) (q : Nat × Nat) (v : Value) :
    ∀ k, (placesOf (setG cs cc (keyB c) v (placesOf cs (keyB c) ++ [q])) k).Perm (((T ++ [(c, q)]).filter (fun e => decide (keyB e.1 = k))).map (·.2)) := by
  intro k
  rw [List.filter_append, List.map_append]
  have e1 : placesOf (setG cs cc (keyB c) v (placesOf cs (keyB c) ++ [q])) k = if k = keyB c then placesOf cs (keyB c) ++ [q] else placesOf cs k := gOf_setG [] cs cc (keyB c) k v _
  rw [e1]
  by_cases hk : k = keyB c
  · subst hk
    simp only [if_true, List.filter_cons, decide_true, List.filter_nil, List.map_cons, List.map_nil]
    exact (h _).append_right _
  · have hk2 : ¬ keyB c = k := fun e => hk e.symm
    simp only [hk, if_false, List.filter_cons, hk2, decide_false, Bool.false_eq_true, List.filter_nil, List.map_nil, List.append_nil]
    exact h k
set_option maxHeartbeats 4000000 in
set_option maxRecDepth 100000 in
theorem putRest_wp (S : AS) (hok : ArOk S) (b : Nat) (hB : ArB S b) (hb : b ≤ 90000) (l D : Bs) (hl : isPathB l = true) (hll : l.length ≤ 20) (hDl : D.length ≤ 4000) (B3 B6 B7 B9 B11 B12 B13 Bm Bv num : Nat) (hnum : num = lastNum (versOf S.ps l) + 1) (F : HF) (B : World)
    (hJ : PutJ S D B9 B11 B12 B13 Bm Bv num ((B3, Is (boxA S.a)) :: [(B6, Is (intO 0)), (B7, Is (errO .nilIface))]) (lensOf D).length F) (hF : Sat B F) {u0 u2 u4 u5 u8 u10 u13 u14 u15 u16 u17 u18 u19 u20 u21 u22 u23 u24 u25 u26 u27 u28 u29 u30 u31 u32 u33 u34 u35 u36 u37 u38 u39 u40 u41 u42 u43 u44 u45 u46 u47 u48 u49 u50 u51 u52 u53 u54 u55 u56 u57 u58 u59 u60 u61 u62 u63 u64 u65 u66 u67 u68 u69 u70 u71 u72 u73 u74 u75 u76 u77 u78 u79 u80 u81 u82 u83 u84 u85 u86 u87 u88 u89 u90 u91 u92 u93 u94 u95 u96 u97 u98 u99 u100 u101 u102 u103 u104 u105 u106 u107 u108 u109 u110 u111 u112 u113 u114 u115 u116 u117 u118 u119 u120 u121 u122 u123 u124 u125 u126 u127 u128 u129 u130 u131 u132 u133 u134 u135 u136 u137 u138 u139 u140 u141 u142 u143 u144 u145 u146 u147 u148 u149 u150 u151 u152 u153 u154 u155 u156 u157 u158 u159 u160 u161 u162 u163 u164 u165 u166 u167 u168 u169 u170 u171 u172 u173 u174 u175 u176 : Value} {ds : List Deferred} {Q : Exit → Act → World → Prop} 
    (hQ : ∀ (tmps : Array Value) (w' : World) (n : Int) (ev : Value), tmps.getD 6 undef = .pointer (some ⟨B6, 0, none⟩) → tmps.getD 7 undef = .pointer (some ⟨B7, 0, none⟩) → PutTailRes S l D b num B6 B7 F B w' n ev → Q .ret { tmps := tmps, defers := ds } w') :
    putRest.wp Tryz.prog Q { tmps := #[u0, str l, u2, .pointer (some ⟨B3, 0, none⟩), u4, u5, .pointer (some ⟨B6, 0, none⟩), .pointer (some ⟨B7, 0, none⟩), u8, .pointer (some ⟨B9, 0, none⟩), u10, .pointer (some ⟨B11, 0, none⟩), .pointer (some ⟨B12, 0, none⟩), u13, u14, u15, u16, u17, u18, u19, u20, u21, u22, u23, u24, u25, u26, u27, u28, u29, u30, u31, u32, u33, u34, u35, u36, u37, u38, u39, u40, u41, u42, u43, u44, u45, u46, u47, u48, u49, u50, u51, u52, u53, u54, u55, u56, u57, u58, u59, u60, u61, u62, u63, u64, u65, u66, u67, u68, u69, u70, u71, u72, u73, u74, u75, u76, u77, u78, u79, u80, u81, u82, u83, u84, u85, u86, u87, u88, u89, u90, u91, u92, u93, u94, u95, u96, u97, u98, u99, u100, u101, u102, u103, u104, u105, u106, u107, u108, u109, u110, u111, u112, u113, u114, u115, u116, u117, u118, u119, u120, u121, u122, u123, u124, u125, u126, u127, u128, u129, u130, u131, u132, u133, u134, u135, u136, u137, u138, u139, u140, u141, u142, u143, u144, u145, u146, u147, u148, u149, u150, u151, u152, u153, u154, u155, u156, u157, u158, u159, u160, u161, u162, u163, u164, u165, u166, u167, u168, u169, u170, u171, u172, u173, u174, u175, u176], defers := ds } B := by
  obtain ⟨sp, acc, fv, rv, chs, recs, hacc, hAo, hrb, hro, hpo, hcl, hin, hFe⟩ := hJ
  have hacc2 : acc = freshS S D := by rw [hacc, ← chunksOf_len, List.take_length]; rfl
  rw [← chunksOf_len, List.take_length] at hin
  obtain ⟨V, hV⟩ : ∃ V : VerL, V = ⟨Bv, num, D.length, fv, chs, 0⟩ := ⟨_, rfl⟩
  have hchl : chs.length ≤ 4000 := by have := lensOf_length_le D; omega
  obtain ⟨Y, hY⟩ : ∃ Y, Y = (B3, Is (boxA S.a)) :: (B6, Is (intO 0)) :: (B7, Is (errO .nilIface)) :: (S.a, Is (archO S.X)) :: (areaF S.X.ab S.X.d { S.A with spare := sp } ++ (devF S.X.d S.L ++ (pathsF S.X.pm S.ps S.pc ++ (tagsF S.X.tm S.ts S.tc ++ chunksF S.X.cm S.cs S.cc)))) := ⟨_, rfl⟩
  obtain ⟨Z, hZ⟩ : ∃ Z, Z = (B13, Is (intO ((S.data.length + framesLen acc : Nat) : Int))) :: (B12, Is (fmapO Bm)) :: (Bm, Is (mapO str (freshE S.data.length 0 acc) acc.length)) :: ((recs.flatMap fun r => bRow r.val r.bytes) ++ Y) := ⟨_, rfl⟩
  have hT : Turns F (rowF 38 1 rv (recs.map (·.val)).length (recs.map (·.val)) ++ ((B11, Is (recsO rv)) :: (B9, Is (vboxO V.blk)) :: (verF V ++ Z))) B B := by
    refine (Turns.refl hF).to ?_
    rw [hFe, hZ, hY, hV]
    unfold recRow arF
    exact (perm_of_cnt fun _ => by simp only [cnt_cons, cnt_append, cnt_nil] <;> omega)
  have hrl : (recs.map (·.val)).length = acc.length := by
    have := congrArg List.length hrb
    simpa using this
  have hal := freshS_len S D
  rw [← hacc2] at hal
  have hKat : ∀ e ∈ S.K, e.2.1 ≤ 137438953472 := fun e he => by
    have h1 := (hok.kat e he).2.1
    have h2 := hok.dat.2
    have h3 := hok.fits
    have h4 := hok.nmax
    omega
  have hln := lastNum_le hB l
  have hdl := hok.dat.2
  have hnn := hok.nmax
  have hfit := hok.fits
  have hat : ∀ n ∈ atsOf chs, I64 n := fun n hn => by
    obtain ⟨q, hq, rfl⟩ := List.mem_map.1 hn
    obtain ⟨c, hc, hz⟩ := zip_mem_right (l := chunksOf D) (by rw [hcl, chunksOf_len]) q hq
    have hbig : q.1 ≤ 1099511627776 := by
      rcases List.mem_append.1 (hin _ hz) with h | h
      · have := hKat _ h; simp only at this; omega
      · rw [hacc2] at h
        have h2 := placed_in [] (freshS S D) S.data (fun x hx => by have := chunksOf_mem (freshS_mem hx).1; omega) _ h
        have h3 := h2.2.1
        have h4 := freshS_sum S D
        rw [← hacc2] at h3 h4
        simp only [List.append_nil, List.length_append, frames_length, framesLen_eq] at h3
        omega
    unfold I64; omega
  have HM := Lib.hid (show Tryz.prog.follows .mixedOrders = true by kernel_rfl)
  have HH := Lib.hid (And.intro hok (And.intro hB (And.intro hF (And.intro hacc2 (And.intro hAo (And.intro hrb (And.intro hro (And.intro hpo (And.intro hcl (And.intro hin (And.intro hFe (And.intro hV (And.intro hY (And.intro hZ (And.intro hT (And.intro hrl (And.intro hat hQ)))))))))))))))))
  have HN := Lib.hid (And.intro hnum (And.intro hln (And.intro hal (And.intro hdl (And.intro hnn (And.intro hfit hchl))))))
  clear hok hB hF hacc hacc2 hAo hrb hro hpo hcl hin hFe hV hY hZ hT hrl hat hQ hnum hln hal hdl hnn hfit hKat hchl
  conv => arg 2; whnf
  go_wp2_with fail
  refine put29 F Z B B11 B9 V rv (recs.map (·.val)) l HH.out.2.2.2.2.2.2.2.2.2.2.2.2.2.2.1 HH.out.2.2.2.2.2.2.1.1 (by have := HH.out.2.2.2.2.2.2.2.2.2.2.2.2.2.2.2.1; have := HN.out.2.2.1; omega) (by rw [HH.out.2.2.2.2.2.2.2.2.2.2.2.1]; exact HH.out.2.2.2.2.2.2.2.1) (by rw [HH.out.2.2.2.2.2.2.2.2.2.2.2.1]; have := HN.out.2.2.2.2.2.2; show chs.length ≤ _; omega) (by omega) (by rw [HH.out.2.2.2.2.2.2.2.2.2.2.2.1]; show I64 (num : Int); unfold I64; have := HN.out.1; have := HN.out.2.1; omega) (by rw [HH.out.2.2.2.2.2.2.2.2.2.2.2.1]; show I64 (D.length : Int); unfold I64; omega) (by rw [HH.out.2.2.2.2.2.2.2.2.2.2.2.1]; exact HH.out.2.2.2.2.2.2.2.2.2.2.2.2.2.2.2.2.1) ?_
  intro _ _ _ _ _ vb _ rv2 w1 hb1 hr1 hT1
  obtain ⟨recs2, hrecs2⟩ : ∃ recs2 : List RecL, recs2 = recs ++ [⟨vb, frame 2 (verB l V.num V.size (atsOf V.chs))⟩] := ⟨_, rfl⟩
  have hrm : recs.map (·.val) ++ [vb] = recs2.map (·.val) := by rw [hrecs2, List.map_append]; rfl
  rw [hrm] at hr1 hT1
  have hrb2 : ∀ r ∈ recs2, bOk r.val r.bytes := fun r hr => by
    rw [hrecs2] at hr
    rcases List.mem_append.1 hr with h | h
    · exact HH.out.2.2.2.2.2.2.1.2 r h
    · simp only [List.mem_singleton] at h; subst h; exact hb1
  obtain ⟨sl2, cap2, rfl, -, -, hrc, hrow⟩ := own_cells' (owns_of_row hT1.sat.tail.left hr1)
  obtain ⟨RB, hRB⟩ : ∃ RB, RB = recs2.flatMap fun r => bRow r.val r.bytes := ⟨_, rfl⟩
  obtain ⟨G1, hG1⟩ : ∃ G1, G1 = (B9, Is (vboxO V.blk)) :: (verF V ++ ((B13, Is (intO ((S.data.length + framesLen acc : Nat) : Int))) :: (B12, Is (fmapO Bm)) :: (Bm, Is (mapO str (freshE S.data.length 0 acc) acc.length)) :: (B3, Is (boxA S.a)) :: (B6, Is (intO 0)) :: (B7, Is (errO .nilIface)) :: (pathsF S.X.pm S.ps S.pc ++ (tagsF S.X.tm S.ts S.tc ++ chunksF S.X.cm S.cs S.cc)))) := ⟨_, rfl⟩
  have hT2 : Turns F (((S.a, Is (archO S.X)) :: (areaF S.X.ab S.X.d { S.A with spare := sp } ++ devF S.X.d S.L)) ++ ((B11, Is (recsO (.slice sl2 (recs2.map (·.val)).length cap2))) :: (rowF 38 1 (.slice sl2 (recs2.map (·.val)).length cap2) (recs2.map (·.val)).length (recs2.map (·.val)) ++ (RB ++ G1)))) B w1 := by
    refine hT1.to ?_
    rw [HH.out.2.2.2.2.2.2.2.2.2.2.2.2.2.1, HH.out.2.2.2.2.2.2.2.2.2.2.2.2.1, hRB, hG1, hrecs2]
    simp only [List.flatMap_append, List.flatMap_cons, List.flatMap_nil, List.append_nil]
    exact (perm_of_cnt fun _ => by simp only [cnt_cons, cnt_append, cnt_nil] <;> omega)
  obtain ⟨rs, hrs⟩ : ∃ rs, rs = recs2.map (·.bytes) := ⟨_, rfl⟩
  have hrsl : (recs2.map (·.val)).length = rs.length := by rw [hrs, List.length_map, List.length_map]
  have hflat : rs.flatten = frames (freshS S D) ++ frame 2 (verB l V.num V.size (atsOf V.chs)) := by
    rw [hrs, hrecs2, List.map_append, HH.out.2.2.2.2.2.1, ← HH.out.2.2.2.1]
    simp [frames]
  have hrb3 : RB = recs2.flatMap fun r => bRow r.val r.bytes := hRB
  have hsum : sumLen rs ≤ 200000 := by
    rw [← sumLen_flat, hflat, List.length_append, frames_length, framesLen_eq, frameV_len]
    have h1 := freshS_sum S D
    have h2 := freshS_len S D
    have h3 := HN.out.2.2.2.2.2.2
    have h4 : V.chs.length = chs.length := by rw [HH.out.2.2.2.2.2.2.2.2.2.2.2.1]
    omega
  have hlen5 : rs.length ≤ 5000 := by
    rw [← hrsl, ← hrm, List.length_append]
    have := HH.out.2.2.2.2.2.2.2.2.2.2.2.2.2.2.2.1
    have := HN.out.2.2.1
    simp at *; omega
  have HCh := Lib.hid (change_calls S.a S.X S.X.ab S.X.d rfl { S.A with spare := sp } S.L S.data rs (recs2.map (·.val)) sl2 cap2 w1 hT2.sat.left HH.out.1.sound HH.out.1.dev HH.out.1.fits HH.out.1.nmax HH.out.1.end_ HH.out.1.tail HH.out.1.dat hrsl (by omega) (by omega) (by have := HH.out.2.1.chs; omega)
    hrc (fun x hx => ?hx1) (fun k h1 h2 => ?hx2))
  case hx1 =>
    have hb := hrow x hx
    have hin : x.block ∈ dom (rowF 38 1 (.slice sl2 (recs2.map (·.val)).length cap2) (recs2.map (·.val)).length (recs2.map (·.val))) := (dom_row _ _ _ _ _ _).2 hb
    intro hd
    exact hT2.sat.disj (b := x.block) (by rw [dom_cons]; exact List.mem_cons_of_mem _ hd) (by rw [dom_cons, dom_append]; exact List.mem_cons_of_mem _ (List.mem_append_left _ hin))
  case hx2 =>
    have hk2 : k < recs2.length := by simpa using h1
    have hmem : recs2[k] ∈ recs2 := List.getElem_mem hk2
    have hsub : Sat w1 (bRow recs2[k].val recs2[k].bytes) := Sat.flat (f := fun r : RecL => bRow r.val r.bytes) (by rw [← hrb3]; exact hT2.sat.right.tail.right.left) hmem
    obtain ⟨ka, kc, ke, -, kcap, kcells, kown⟩ := own_cells' (bOwns hsub (hrb2 _ hmem))
    have e2 : rs[k] = recs2[k].bytes := by simp [hrs]
    refine ⟨ka, kc, ?_, by rw [e2]; exact kcap, own_cap (bOwns hsub (hrb2 _ hmem)) ke, ?_, fun x hx => ?_⟩
    · rw [List.getElem_map, ke, e2]
    · rw [e2]; exact kcells
    · have hin : x.block ∈ dom (bRow recs2[k].val recs2[k].bytes) := (dom_row _ _ _ _ _ _).2 (kown x hx)
      have hin2 : x.block ∈ dom RB := by
        obtain ⟨p, hp, hpe⟩ := List.mem_map.1 hin
        rw [hrb3]
        exact List.mem_map.2 ⟨p, List.mem_flatMap.2 ⟨_, hmem, hp⟩, hpe⟩
      exact ⟨fun hd => hT2.sat.disj (b := x.block) (by rw [dom_cons]; exact List.mem_cons_of_mem _ hd) (by simp only [dom_cons, dom_append]; exact List.mem_cons_of_mem _ (List.mem_append_right _ (List.mem_append_left _ hin2))), hsub.lt hin⟩
  have HR1 := Lib.hid (And.intro hT2 (And.intro hrs (And.intro hflat (And.intro hsum (And.intro hG1 hrsl)))))
  have b3 : w1.cell? ⟨B3, 0, none⟩ = some (.pointer (some ⟨S.a, 0, none⟩)) := cell_at (hT2.sat.memIs (b := B3) (o := boxA S.a) (by rw [hG1]; simp)) 0 rfl
  have b11 : w1.cell? ⟨B11, 0, none⟩ = some (.slice sl2 (recs2.map (·.val)).length cap2) := cell_at (hT2.sat.memIs (b := B11) (o := recsO (.slice sl2 (recs2.map (·.val)).length cap2)) (by simp)) 0 rfl
  rw [hrsl] at b11
  clear hb1 hr1 hT1 hrc hrow hRB hG1 hT2 hrs hflat hrb3 hrb2 hrm
  go_wp2_with fail
  refine HCh.out.mono ?_
  rintro e w2 (⟨hfull, rfl, hs2⟩ | ⟨hfit, rfl, hch⟩)
  · have HR2 := Lib.hid (And.intro hfull (HR1.out.1.thenSame hs2))
    have hb6 := HR2.out.2.sat.memIs (b := B6) (o := intO 0) (by rw [HR1.out.2.2.2.2.1]; simp)
    have hb7 := HR2.out.2.sat.memIs (b := B7) (o := errO .nilIface) (by rw [HR1.out.2.2.2.2.1]; simp)
    have c6 : w2.cell? ⟨B6, 0, none⟩ = some (.int .i64 0) := cell_at hb6 0 rfl
    have c7 : w2.cell? ⟨B7, 0, none⟩ = some .nilIface := cell_at hb7 0 rfl
    have f6 := free_at hb6 0
    have f7 := free_at hb7 0
    have hnd : (dom [(B6, Is (intO 0)), (B7, Is (errO .nilIface))]).Nodup := (HR2.out.2.sat.sub (G := [(B6, Is (intO 0)), (B7, Is (errO .nilIface))]) (by rw [HR1.out.2.2.2.2.1]; exact (fun _ => by simp only [cnt_cons, cnt_append, cnt_nil] <;> omega))).nodup
    have h67 : ¬ B6 = B7 := by simpa using hnd
    have h76 : ¬ B7 = B6 := fun h => h67 h.symm
    clear hfull hs2 hb6 hb7 hnd
    unfold errV
    go_wp2_with fail
    refine HH.out.2.2.2.2.2.2.2.2.2.2.2.2.2.2.2.2.2 _ _ 0 (errV 8) rfl rfl (.inl ⟨sp, chs, ((B11, Is (recsO (.slice sl2 (recs2.map (·.val)).length cap2))) :: (rowF 38 1 (.slice sl2 (recs2.map (·.val)).length cap2) (recs2.map (·.val)).length (recs2.map (·.val)) ++ (RB ++ ((B9, Is (vboxO V.blk)) :: (verF V ++ [(B13, Is (intO ((S.data.length + framesLen acc : Nat) : Int))), (B12, Is (fmapO Bm)), (Bm, Is (mapO str (freshE S.data.length 0 acc) acc.length)), (B3, Is (boxA S.a))]))))), rfl, rfl, HH.out.2.2.2.2.1, ?_, ?_, by rw [chunksOf_len]; exact HH.out.2.2.2.2.2.2.2.2.1⟩)
    · have hq := HR2.out.2
      rw [HR1.out.2.2.2.2.1] at hq
      have q1 := hq.to (H := (B6, Is (intO 0)) :: (B7, Is (errO .nilIface)) :: (arF { S with A := { S.A with spare := sp } } ++ ((B11, Is (recsO (.slice sl2 (recs2.map (·.val)).length cap2))) :: (rowF 38 1 (.slice sl2 (recs2.map (·.val)).length cap2) (recs2.map (·.val)).length (recs2.map (·.val)) ++ (RB ++ ((B9, Is (vboxO V.blk)) :: (verF V ++ [(B13, Is (intO ((S.data.length + framesLen acc : Nat) : Int))), (B12, Is (fmapO Bm)), (Bm, Is (mapO str (freshE S.data.length 0 acc) acc.length)), (B3, Is (boxA S.a))]))))))) (by unfold arF; exact (perm_of_cnt fun _ => by simp only [cnt_cons, cnt_append, cnt_nil] <;> omega))
      have q2 := q1.putIs (o := intO 0) ((Mods.refl (fun k => k = B6) w2).set1 (i := 0) (.int .i64 0)) (set_same q1.sat.headIs 0 (.int .i64 0))
      have q3 := q2.to (H := (B7, Is (errO .nilIface)) :: (B6, Is (intO 0)) :: _) (List.Perm.swap _ _ _)
      have q4 := q3.putIs (o := errO (errV 8)) ((Mods.refl (fun k => k = B7) _).set1 (i := 0) (errV 8)) (set_same q3.sat.headIs 0 (errV 8))
      exact q4.to (List.Perm.swap _ _ _)
    · have h1 := HR2.out.1
      rw [← sumLen_flat, HR1.out.2.2.1, List.length_append, HH.out.2.2.2.2.2.2.2.2.2.2.2.1] at h1
      have h2 := frameV_len l num D.length chs
      have h3 := frameV_len l (num : Int) ((⟨Bv, num, D.length, fv, chs, 0⟩ : VerL).size) chs
      simp only at h1 h2 h3 ⊢
      omega
  · obtain ⟨L', hTc, hDv, hLn, hdat, hoth, hlc⟩ := hch
    obtain ⟨S1, hS1⟩ : ∃ S1, S1 = areaF S.X.ab S.X.d { S.A with spare := sp, end_ := (S.data ++ rs.flatten).length, tail := tailOf (S.data ++ rs.flatten) } ++ (devF S.X.d L' ++ (pathsF S.X.pm S.ps S.pc ++ tagsF S.X.tm S.ts S.tc)) := ⟨_, rfl⟩
    obtain ⟨Z0, hZ0⟩ : ∃ Z0, Z0 = (B3, Is (boxA S.a)) :: (B6, Is (intO 0)) :: (B7, Is (errO .nilIface)) :: (B9, Is (vboxO V.blk)) :: (B12, Is (fmapO Bm)) :: verF V := ⟨_, rfl⟩
    have hT3 : Turns F ((Bm, Is (mapO str (freshE S.data.length 0 acc) acc.length)) :: (S.a, Is (archO S.X)) :: (chunksF S.X.cm S.cs S.cc ++ (S1 ++ (((B11, Is (recsO (.slice sl2 (recs2.map (·.val)).length cap2))) :: (rowF 38 1 (.slice sl2 (recs2.map (·.val)).length cap2) (recs2.map (·.val)).length (recs2.map (·.val)) ++ (RB ++ [(B13, Is (intO ((S.data.length + framesLen acc : Nat) : Int)))]))) ++ Z0)))) B w2 := by
      have q := HR1.out.1.step (R := (S.a, Is (archO S.X)) :: ((B11, Is (recsO (.slice sl2 (recs2.map (·.val)).length cap2))) :: (rowF 38 1 (.slice sl2 (recs2.map (·.val)).length cap2) (recs2.map (·.val)).length (recs2.map (·.val)) ++ (RB ++ G1)))) (perm_of_cnt fun _ => by simp only [cnt_cons, cnt_append, cnt_nil] <;> omega) hTc
      refine q.to ?_
      rw [HR1.out.2.2.2.2.1, hS1, hZ0]
      exact (perm_of_cnt fun _ => by simp only [cnt_cons, cnt_append, cnt_nil] <;> omega)
    have hmk : MapOk OkS (freshE S.data.length 0 acc) acc.length := by
      rw [HH.out.2.2.2.1]
      exact freshE_ok (freshOf_nodup _ _ _ List.nodup_nil) (fun c hc => by have := chunksOf_mem (freshS_mem hc).1; unfold OkS; omega) _
    obtain ⟨fE, hfE⟩ : ∃ fE, fE = freshE S.data.length 0 acc := ⟨_, rfl⟩
    rw [← hfE] at hmk hT3
    have hbm := hT3.sat.headIs
    have b12 : w2.cell? ⟨B12, 0, none⟩ = some (.map (some Bm)) := cell_at (hT3.sat.memIs (b := B12) (o := fmapO Bm) (by rw [hZ0]; simp)) 0 rfl
    obtain ⟨r, hr⟩ : ∃ r, r = w2.heap.size := ⟨_, rfl⟩
    have hrel0 : KeepRel S S1 acc F Z0 B Bm r (w2.alloc (iterO Bm acc.length ([] : List (Ent Bs)))) := by
      refine ⟨[], fE, S.cs, S.cc, ((B11, Is (recsO (.slice sl2 (recs2.map (·.val)).length cap2))) :: (rowF 38 1 (.slice sl2 (recs2.map (·.val)).length cap2) (recs2.map (·.val)).length (recs2.map (·.val)) ++ (RB ++ [(B13, Is (intO ((S.data.length + framesLen acc : Nat) : Int)))]))), by rw [hfE]; exact List.Perm.refl _, HH.out.1.chunks, fun k => by simpa using HH.out.1.kin k, ?_⟩
      rw [← hfE]
      have hx : archO (XK S.X []) = archO S.X := by simp [XK]
      rw [hx, hr]
      exact (hT3.allocIs _).to (perm_of_cnt fun _ => by simp only [cnt_cons, cnt_append, cnt_nil] <;> omega)
    have HR3 := Lib.hid (And.intro hDv (And.intro hLn (And.intro hdat (And.intro hoth (And.intro hlc (And.intro hS1 (And.intro hZ0 (And.intro hmk (And.intro hfE (And.intro hr (And.intro hrel0 hbm)))))))))))
    clear hfit hTc hDv hLn hdat hoth hlc hS1 hZ0 hT3 hmk hfE hbm hrel0 hr
    go_wp2_with ((refine wpList_of_wp rfl (w_range (.tmp 153) rfl Tryz.underlying154 HR3.out.2.2.2.2.2.2.2.2.2.2.2 rfl ?_); rw [← HR3.out.2.2.2.2.2.2.2.2.2.1]))
    go_frame
    go_loopw [155] (fun _ wr => KeepRel S S1 acc F Z0 B Bm r wr) (fun _ wr => iterLeft r acc.length wr)
    case atStart => exact HR3.out.2.2.2.2.2.2.2.2.2.2.1
    case round =>
      obtain ⟨done, todo, cs, cc, J, hperm, hcsok, hkin, hTr⟩ := hrel
      rw [← HR3.out.2.2.2.2.2.2.2.2.1] at hperm hTr
      have hri := hTr.sat.headIs
      have hrm := hTr.sat.memIs (b := Bm) (o := mapO str fE acc.length) (by simp)
      have hal2 : acc.length ≤ 4000 := by have := HN.out.2.2.1; omega
      have hfl : fE.length = acc.length := by rw [HR3.out.2.2.2.2.2.2.2.2.1, freshE_len]
      have hdl : done.length + todo.length = acc.length := by rw [← hfl, ← hperm.length_eq, List.length_append]
      rcases run_nextE (P := Tryz.prog) (ty := 0) hri hrm HR3.out.2.2.2.2.2.2.2.1 hperm with ⟨ht, hnx⟩ | ⟨e, rest, w4, ht, hw4, hnx⟩
      · have hte : done.Perm fE := by rw [ht, List.append_nil] at hperm; exact hperm
        have HD := Lib.hid (And.intro hte (And.intro hcsok (And.intro hkin (And.intro hTr (And.intro hfl hdl)))))
        clear hte hcsok hkin hTr hfl hdl hperm hri hrm ht
        go_wp2_with fail
        refine put37 F ((r, Is (iterO Bm acc.length done)) :: (Bm, Is (mapO str fE acc.length)) :: (chunksF S.X.cm cs cc ++ (J ++ ((B6, Is (intO 0)) :: (B7, Is (errO .nilIface)) :: (B12, Is (fmapO Bm)) :: (areaF S.X.ab S.X.d { S.A with spare := sp, end_ := (S.data ++ rs.flatten).length, tail := tailOf (S.data ++ rs.flatten) } ++ (devF S.X.d L' ++ tagsF S.X.tm S.ts S.tc)))))) B B3 B9 S.a (XK S.X done) S.ps S.pc l V ?_ HH.out.1.paths (by unfold OkS; omega) ?_ ?_ ?_ ?_
        · have h := HD.out.2.2.2.1
          rw [HR3.out.2.2.2.2.2.2.1, HR3.out.2.2.2.2.2.1] at h
          show Turns F (((S.a, Is (archO (XK S.X done))) :: (pathsF S.X.pm S.ps S.pc ++ verF V)) ++ _) B _
          exact h.to (perm_of_cnt fun _ => by simp only [cnt_cons, cnt_append, cnt_nil] <;> omega)
        · by_cases hn : versOf S.ps l = []
          · rw [hn]; simp
          · obtain ⟨p', hp', _, h2⟩ := versOf_mem hn
            rw [← h2]
            have := (HH.out.2.1.vers p' hp').2.1
            omega
        · have h1 := HH.out.2.1.used
          rw [HH.out.2.2.2.2.2.2.2.2.2.2.2.1]
          simp only [XK]
          omega
        · rw [HH.out.2.2.2.2.2.2.2.2.2.2.2.1]
          simp only
          omega
        intro _ _ _ _ _ _ w6 hw6
        obtain ⟨v', hv', hT6⟩ := hw6
        have hps : Sat w6 (pathsF S.X.pm (addP S.ps S.pc l v' V) (putC (S.ps.map entG) S.pc l)) := hT6.sat.left.tail
        have hver : w6.heap[V.blk]? = some (verO V) := ((hps.tail.perm (paths_set S.pc l v' V (by rw [← ent_keys]; exact HH.out.1.paths.map.nodup))).right.right).headIs
        have hT7 : Turns F ((B6, Is (intO 0)) :: (B7, Is (errO .nilIface)) :: ((S.a, Is (.cells ((archCells (XK S.X done)).setIfInBounds 5 (.int .i64 ((XK S.X done).used + V.size))) 128 (0, 0))) :: (areaF S.X.ab S.X.d { S.A with spare := sp, end_ := (S.data ++ rs.flatten).length, tail := tailOf (S.data ++ rs.flatten) } ++ (devF S.X.d L' ++ (pathsF S.X.pm (addP S.ps S.pc l v' V) (putC (S.ps.map entG) S.pc l) ++ (tagsF S.X.tm S.ts S.tc ++ chunksF S.X.cm cs cc)))) ++ ((r, Is (iterO Bm acc.length done)) :: (Bm, Is (mapO str fE acc.length)) :: (J ++ ((B3, Is (boxA S.a)) :: (B9, Is (vboxO V.blk)) :: (B12, Is (fmapO Bm)) :: []))))) B w6 := by
          have e0 : (XK S.X done).pm = S.X.pm := rfl
          rw [e0] at hT6
          exact hT6.to (perm_of_cnt fun _ => by simp only [cnt_cons, cnt_append, cnt_nil] <;> omega)
        have hb6 := hT7.sat.headIs
        have hb7 := hT7.sat.tail.headIs
        have hnd := (hT7.sat.sub (G := [(B6, Is (intO 0)), (B7, Is (errO .nilIface))]) (fun _ => by simp only [cnt_cons, cnt_append, cnt_nil] <;> omega)).nodup
        have h67 : ¬ B6 = B7 := by simpa using hnd
        have h76 : ¬ B7 = B6 := fun h => h67 h.symm
        have c6 : w6.cell? ⟨B6, 0, none⟩ = some (.int .i64 0) := cell_at hb6 0 rfl
        have c7 : w6.cell? ⟨B7, 0, none⟩ = some .nilIface := cell_at hb7 0 rfl
        have f6 := free_at hb6 0
        have f7 := free_at hb7 0
        have b9 : w6.cell? ⟨B9, 0, none⟩ = some (.pointer (some ⟨V.blk, 0, none⟩)) := cell_at (hT7.sat.memIs (b := B9) (o := vboxO V.blk) (by simp)) 0 rfl
        have bv0 : w6.cell? ⟨V.blk, 0, none⟩ = some (.int .i64 V.num) := cell_at hver 0 rfl
        have HG := Lib.hid (And.intro hT7 hv')
        clear hT6 hps hver hT7 hb6 hb7 hnd hv'
        go_wp2_with fail
        have hT8 := HG.out.1.putIs (o := intO V.num) ((Mods.refl (fun k => k = B6) w6).set1 (i := 0) (.int .i64 V.num)) (set_same HG.out.1.sat.headIs 0 (.int .i64 V.num))
        have hT9 := hT8.to (H := (B7, Is (errO .nilIface)) :: (B6, Is (intO V.num)) :: _) (List.Perm.swap _ _ _)
        have hT10 := hT9.putIs (o := errO .nilIface) ((Mods.refl (fun k => k = B7) _).set1 (i := 0) .nilIface) (set_same hT9.sat.headIs 0 .nilIface)
        have hfin : ∃ S', PutStep S S' l D V ∧ ArOk S' ∧ PutB S D b S' ∧ arF S' = ((S.a, Is (.cells ((archCells (XK S.X done)).setIfInBounds 5 (.int .i64 ((XK S.X done).used + V.size))) 128 (0, 0))) :: (areaF S.X.ab S.X.d { S.A with spare := sp, end_ := (S.data ++ rs.flatten).length, tail := tailOf (S.data ++ rs.flatten) } ++ (devF S.X.d L' ++ (pathsF S.X.pm (addP S.ps S.pc l v' V) (putC (S.ps.map entG) S.pc l) ++ (tagsF S.X.tm S.ts S.tc ++ chunksF S.X.cm cs cc))))) := by
          have hVe := HH.out.2.2.2.2.2.2.2.2.2.2.2.1
          have hfl := HR1.out.2.2.1
          have hap : S.data ++ rs.flatten = S.data ++ frames (freshS S D) ++ frame 2 (verB l V.num V.size (atsOf V.chs)) := by rw [hfl, List.append_assoc]
          have hdk : (done.map entK).Perm (placed S.data.length (freshS S D)) := by
            have := HD.out.1.map entK
            rw [HR3.out.2.2.2.2.2.2.2.2.1, entK_fresh, HH.out.2.2.2.1] at this
            exact this
          obtain ⟨p1, p2, p3⟩ := put_done HH.out.1 HH.out.2.1 (by omega) hDl (V := V) HH.out.2.2.2.2.1 (by rw [hVe]; exact HN.out.1) (by rw [hVe]) (by rw [hVe]) (by rw [hVe, chunksOf_len]; exact HH.out.2.2.2.2.2.2.2.2.1) (by rw [hVe, ← HH.out.2.2.2.1]; exact HH.out.2.2.2.2.2.2.2.2.2.1) (by rw [hVe]; exact HH.out.2.2.2.2.2.2.2.1)
            HR3.out.1 HR3.out.2.1 (by rw [← hap]; exact HR3.out.2.2.1) HR3.out.2.2.2.1 (by rw [← hfl]; exact HR3.out.2.2.2.2.1) HD.out.2.1 (fun k => (HD.out.2.2.1 k).trans (((hdk.append_left S.K).filter _).map _)) HG.out.2 _ rfl
          refine ⟨_, p1, p2, p3, ?_⟩
          unfold arF
          simp only
          rw [hap]
          have hx := XK_end S.X V.size D.length (by rw [hVe]) HD.out.1 (HR3.out.2.2.2.2.2.2.2.2.1.trans (by rw [HH.out.2.2.2.1]))
          rw [hx]
        obtain ⟨S', p1, p2, p3, p4⟩ := hfin
        refine HH.out.2.2.2.2.2.2.2.2.2.2.2.2.2.2.2.2.2 _ _ num .nilIface rfl rfl (.inr ⟨S', V, ((r, Is (iterO Bm acc.length done)) :: (Bm, Is (mapO str fE acc.length)) :: (J ++ ((B3, Is (boxA S.a)) :: (B9, Is (vboxO V.blk)) :: (B12, Is (fmapO Bm)) :: []))), rfl, rfl, p1, p2, p3, ?_⟩)
        have hnv : (V.num : Int) = num := by rw [HH.out.2.2.2.2.2.2.2.2.2.2.2.1]
        rw [p4, ← hnv]
        exact hT10.to (List.Perm.swap _ _ _)
      · obtain ⟨w5, hw5⟩ : ∃ w5, w5 = Go.ChangeMaps.setBlock w4 r (iterO Bm acc.length (done ++ [e])) := ⟨_, rfl⟩
        rw [← hw5] at hnx
        have hT5 : Turns F ((r, Is (iterO Bm acc.length (done ++ [e]))) :: (Bm, Is (mapO str fE acc.length)) :: (S.a, Is (archO (XK S.X done))) :: (chunksF S.X.cm cs cc ++ (S1 ++ (J ++ Z0)))) B w5 := by
          rw [hw5]
          rcases hw4 with rfl | rfl
          · exact hTr.putIs (setBlock_mods _ _ _) (setBlock_at hri)
          · exact (hTr.drew).putIs (setBlock_mods _ _ _) (setBlock_at (by exact hri))
        have heE : e ∈ fE := hperm.mem_iff.1 (List.mem_append_right _ (ht.mem_iff.2 (by simp)))
        have hri5 := hT5.sat.headIs
        have hrm5 := hT5.sat.memIs (b := Bm) (o := mapO str fE acc.length) (by simp)
        have hen := run_entryE (P := Tryz.prog) hri5 hrm5 HR3.out.2.2.2.2.2.2.2.1 heE
        obtain ⟨q, hq, hev⟩ := freshE_val acc S.data.length 0 e (by rw [← HR3.out.2.2.2.2.2.2.2.2.1]; exact heE)
        obtain ⟨c, hc⟩ : ∃ c, c = e.key := ⟨_, rfl⟩
        rw [hev, ← hc] at hnx hen
        simp only [placeVal] at hnx hen
        have b3' : w5.cell? ⟨B3, 0, none⟩ = some (.pointer (some ⟨S.a, 0, none⟩)) := cell_at (hT5.sat.memIs (b := B3) (o := boxA S.a) (by rw [HR3.out.2.2.2.2.2.2.1]; simp)) 0 rfl
        have HD := Lib.hid (And.intro hperm (And.intro hcsok (And.intro hkin (And.intro hT5 (And.intro heE (And.intro hev (And.intro hc (And.intro hq (And.intro ht (And.intro hdl (And.intro hri hri5)))))))))))
        clear hperm hcsok hkin hTr hrm hw5 hw4 heE hri5 hrm5 hev hc hq ht hT5 hri
        go_wp2_with fail
        refine put36 F ((r, Is (iterO Bm acc.length (done ++ [e]))) :: (Bm, Is (mapO str fE acc.length)) :: (S1 ++ (J ++ ((B6, Is (intO 0)) :: (B7, Is (errO .nilIface)) :: (B9, Is (vboxO V.blk)) :: (B12, Is (fmapO Bm)) :: verF V)))) B B3 w5.heap.size S.a (XK S.X done) cs cc c q ?_ HD.out.2.1 ?_ ?_ ?_ ?_ ?_
        · have h := Turns.allocIs HD.out.2.2.2.1 (placeO q)
          rw [HR3.out.2.2.2.2.2.2.1] at h
          show Turns F (((S.a, Is (archO (XK S.X done))) :: chunksF S.X.cm cs cc) ++ _) B _
          exact h.to (perm_of_cnt fun _ => by simp only [cnt_cons, cnt_append, cnt_nil] <;> omega)
        · have h := (HD.out.2.2.1 (keyB c)).length_eq
          have h2 := List.length_filter_le (fun e => decide (keyB e.1 = keyB c)) (S.K ++ done.map entK)
          have h3 := HH.out.2.1.K
          rw [List.length_map] at h
          rw [List.length_append, List.length_map] at h2
          unfold keyB at h h2
          omega
        · rw [HD.out.2.2.2.2.2.2.1]
          have := HR3.out.2.2.2.2.2.2.2.1.ok e HD.out.2.2.2.2.1
          exact this
        · have := HH.out.2.1.sc
          simp only [XK]
          omega
        · have h1 := HH.out.2.1.sb
          have h2 : (done.map (fun e => e.key.length)).sum ≤ 4000 := done_sum HD.out.1 HR3.out.2.2.2.2.2.2.2.2.1 (by rw [HH.out.2.2.2.1]; exact Nat.le_trans (freshS_sum S D) hDl)
          simp only [XK]
          omega
        intro _ _ _ _ _ _ _ w6 hw6
        obtain ⟨v', hv', hT6⟩ := hw6
        go_frame
        go_roundw
        case rel =>
          refine ⟨_, _, _, _, _, _, _, _, _, _, _, _, _, _, ?_, rfl⟩
          have hwho := HD.out.2.2.2.2.2.2.1
          refine ⟨done ++ [e], rest, setG cs cc (keyB c) v' (placesOf cs (keyB c) ++ [q]), putC (cs.map entG) cc (keyB c), (w5.heap.size, Is (placeO q)) :: J, by rw [← HR3.out.2.2.2.2.2.2.2.2.1]; exact iter_step HD.out.1 HD.out.2.2.2.2.2.2.2.2.1, chunksOk_set HD.out.2.1 (be_length _ _) hv', ?_, ?_⟩
          · rw [List.map_append, ← List.append_assoc]
            have he : [e].map entK = [(c, q)] := by
              simp only [List.map_cons, List.map_nil, entK, HD.out.2.2.2.2.2.1, ← hwho]; rfl
            rw [he]
            exact kin_step HD.out.2.2.1 c q v'
          · have hx := XK_step S.X done e
            rw [← hwho] at hx
            have e0 : (XK S.X done).cm = S.X.cm := rfl
            rw [hx, e0] at hT6
            refine hT6.to ?_
            rw [HR3.out.2.2.2.2.2.2.1, HR3.out.2.2.2.2.2.2.2.2.1]
            unfold keyB
            exact (perm_of_cnt fun _ => by simp only [cnt_cons, cnt_append, cnt_nil] <;> omega)
        case measure =>
          have e1 : iterLeft r acc.length wr = acc.length - done.length := by unfold iterLeft; rw [HD.out.2.2.2.2.2.2.2.2.2.2.1]; simp [iterO]
          have e2 : iterLeft r acc.length w6 = acc.length - (done.length + 1) := by unfold iterLeft; rw [hT6.sat.memIs (b := r) (o := iterO Bm acc.length (done ++ [e])) (by simp)]; simp [iterO]
          rw [e1, e2]
          have h3 := HD.out.2.2.2.2.2.2.2.2.2.1
          have h4 := HD.out.2.2.2.2.2.2.2.2.1.length_eq
          simp only [List.length_cons] at h4
          omega
end Go.Proofs.YtdhobpbngkainaaGreatDoor
/-
  Ours. Put from the records' cell on: the loop over the chunks and what is behind it (the text is printed by wip/genputloop.py).
-/
namespace Go.Proofs.YtdhobpbngkainaaGreatDoor
open Go.RowKit Go.Maps Go.Shelf
attribute [local go_sem] Oper.semAt_some

def EachFPost (a : Option Addr) (len cap : Nat) (w : World) (e : Ending) (w' : World) : Prop :=
  e = .returned (.func (.func 123) #[] #[.pointer (some ⟨w.heap.size, 0, none⟩)]) ∧ w' = w.alloc (.cells #[.slice a len cap] 38)
set_option maxHeartbeats 1000000 in
theorem EachF_calls (a : Option Addr) (len cap : Nat) (w : World) : Calls Tryz.prog 76 #[.slice a len cap] w (EachFPost a len cap w) := by
  go_enter Tryz.func76, Tryz.ntmps76
  go_wp2
  go_ret
  exact ⟨rfl, rfl⟩
theorem Turns.putNew {F G : HF} {a w : World} {r : Nat} (h : Turns F G a w) (hr : a.heap.size ≤ r) (hn : r ∉ dom G) (o : Obj) : Turns F G a (w.putObj r o) :=
  ⟨h.mods.putObj (.inr hr) o, h.sat.frame ((Mods.refl (fun k => k = r) w).putObj (.inl rfl) o) (fun b hb e => hn (e ▸ hb)), h.fresh⟩
def fromReg (id : Nat) : Code → Option Code
  | .seq (.region i ops d) b => if i = id then some (.seq (.region i ops d) b) else fromReg id b
  | .seq _ b => fromReg id b
  | _ => none
noncomputable def putFrom14 : Code := (Tryz.f25.body.bind (fromReg 14)).getD .skip
def PutFull (S : AS) (l D : Bs) (w : World) (e : Ending) (w' : World) (b num : Nat) : Prop :=
  ((∃ sp chs, e = .returned (.tuple #[.int .i64 0, errV 8]) ∧ AreaOk { S.A with spare := sp } ∧ Turns (arF S) (arF { S with A := { S.A with spare := sp } }) w w' ∧
        128 * S.A.count < S.data.length + (frames (freshS S D)).length + (frame 2 (verB l num D.length (atsOf chs))).length ∧ chs.length = (chunksOf D).length) ∨
     (∃ S' V, e = .returned (.tuple #[.int .i64 num, .nilIface]) ∧ PutStep S S' l D V ∧ ArOk S' ∧ PutB S D b S' ∧ Turns (arF S) (arF S') w w'))
set_option maxHeartbeats 4000000 in
set_option maxRecDepth 100000 in
theorem put13_wp (S : AS) (l D : Bs) (sl : Option Addr) (cap b : Nat) (hok : ArOk S) (hB : ArB S b) (hb : b ≤ 90000) (hl : isPathB l = true) (hll : l.length ≤ 20) (hDl : D.length ≤ 4000) (hcap : D.length ≤ cap) (B3 B6 B7 B9 B11 Bv num : Nat) (hnum : num = lastNum (versOf S.ps l) + 1) (w0 w : World)
    (hT : Turns (arF S) ((B11, Is (recsO (.slice none 0 0))) :: (Bv, Is (verO ⟨Bv, num, D.length, .slice none 0 0, [], 0⟩)) :: (B9, Is (vboxO Bv)) :: (B7, Is (errO .nilIface)) :: (B6, Is (intO 0)) :: (B3, Is (boxA S.a)) :: arF S) w0 w) (hD : CellsAt w0 sl (D.map enc8)) (hsl : ∀ x, sl = some x → x.block ∉ dom (arF S))
    (R : Ending → World → Prop) (hR : ∀ e w', PutFull S l D w0 e w' b num → R e w') {u4 u5 u8 u10 u12 u13 u14 u15 u16 u17 u18 u19 u20 u21 u22 u23 u24 u25 u26 u27 u28 u29 u30 u31 u32 u33 u34 u35 u36 u37 u38 u39 u40 u41 u42 u43 u44 u45 u46 u47 u48 u49 u50 u51 u52 u53 u54 u55 u56 u57 u58 u59 u60 u61 u62 u63 u64 u65 u66 u67 u68 u69 u70 u71 u72 u73 u74 u75 u76 u77 u78 u79 u80 u81 u82 u83 u84 u85 u86 u87 u88 u89 u90 u91 u92 u93 u94 u95 u96 u97 u98 u99 u100 u101 u102 u103 u104 u105 u106 u107 u108 u109 u110 u111 u112 u113 u114 u115 u116 u117 u118 u119 u120 u121 u122 u123 u124 u125 u126 u127 u128 u129 u130 u131 u132 u133 u134 u135 u136 u137 u138 u139 u140 u141 u142 u143 u144 u145 u146 u147 u148 u149 u150 u151 u152 u153 u154 u155 u156 u157 u158 u159 u160 u161 u162 u163 u164 u165 u166 u167 u168 u169 u170 u171 u172 u173 u174 u175 u176 : Value} {K : Act → World → Prop} (hK : ∀ a w, putFrom14.wp Tryz.prog (bodyPostM Fence.wide 3 Tryz.prog Tryz.f25 R) a w → K a w) :
    (regOf 13 Tryz.f25).wp Tryz.prog (Exit.then K (bodyPostM Fence.wide 3 Tryz.prog Tryz.f25 R)) { tmps := #[.pointer (some ⟨S.a, 0, none⟩), str l, .slice sl D.length cap, .pointer (some ⟨B3, 0, none⟩), u4, u5, .pointer (some ⟨B6, 0, none⟩), .pointer (some ⟨B7, 0, none⟩), u8, .pointer (some ⟨B9, 0, none⟩), u10, .pointer (some ⟨B11, 0, none⟩), u12, u13, u14, u15, u16, u17, u18, u19, u20, u21, u22, u23, u24, u25, u26, u27, u28, u29, u30, u31, u32, u33, u34, u35, u36, u37, u38, u39, u40, u41, u42, u43, u44, u45, u46, u47, u48, u49, u50, u51, u52, u53, u54, u55, u56, u57, u58, u59, u60, u61, u62, u63, u64, u65, u66, u67, u68, u69, u70, u71, u72, u73, u74, u75, u76, u77, u78, u79, u80, u81, u82, u83, u84, u85, u86, u87, u88, u89, u90, u91, u92, u93, u94, u95, u96, u97, u98, u99, u100, u101, u102, u103, u104, u105, u106, u107, u108, u109, u110, u111, u112, u113, u114, u115, u116, u117, u118, u119, u120, u121, u122, u123, u124, u125, u126, u127, u128, u129, u130, u131, u132, u133, u134, u135, u136, u137, u138, u139, u140, u141, u142, u143, u144, u145, u146, u147, u148, u149, u150, u151, u152, u153, u154, u155, u156, u157, u158, u159, u160, u161, u162, u163, u164, u165, u166, u167, u168, u169, u170, u171, u172, u173, u174, u175, u176], defers := [] } w := by
  have HH := Lib.hid (And.intro hok (And.intro hB (And.intro hb (And.intro hT (And.intro hD (And.intro hsl (And.intro hnum (And.intro hcap hR))))))))
  clear hok hB hb hT hD hsl hnum hcap hR
  conv => arg 2; whnf
  go_wp2_with ((refine wpList_of_wp rfl (w_makeMapT 154 rfl HH.out.2.2.2.1 ?_); intro Bm w1 hT1; have a7 : w1.cell? ⟨S.a, 7, none⟩ = some (.pointer (some ⟨S.X.ab, 0, none⟩)) := cell_at (hT1.sat.memIs (b := S.a) (o := archO S.X) (by simp [arF])) 7 rfl; have ab3 : w1.cell? ⟨S.X.ab, 3, none⟩ = some (.int .i64 S.A.end_) := cell_at (hT1.sat.memIs (b := S.X.ab) (o := .cells (areaCells S.X.d S.A) 157 (0, 0)) (by simp [arF, areaF])) 3 (areaC_3 _ _); have b3 : w1.cell? ⟨B3, 0, none⟩ = some (.pointer (some ⟨S.a, 0, none⟩)) := cell_at (hT1.sat.memIs (b := B3) (o := boxA S.a) (by simp)) 0 rfl; have hal : S.a < w1.heap.size := hT1.sat.lt (by simp [arF]); have habl : S.X.ab < w1.heap.size := hT1.sat.lt (by simp [arF, areaF]); have hb3l : B3 < w1.heap.size := hT1.sat.lt (by simp); have HT1 := Lib.hid hT1; clear hT1))
  conv => arg 2; whnf
  go_wp2_with fail
  refine (EachF_calls _ _ _ _).mono ?_
  rintro e w2 ⟨rfl, rfl⟩
  go_wp2_with fail
  obtain ⟨B12, hB12⟩ : ∃ B12, B12 = w1.heap.size := ⟨_, rfl⟩
  obtain ⟨B13, hB13⟩ : ∃ B13, B13 = w1.heap.size + 1 := ⟨_, rfl⟩
  obtain ⟨bx, hbx⟩ : ∃ bx, bx = w1.heap.size + 1 + 1 := ⟨_, rfl⟩
  have hT2 : Turns (arF S) ((B13, Is (intO ((S.data.length + framesLen [] : Nat) : Int))) :: (B12, Is (fmapO Bm)) :: (Bm, Is (mapO str (freshE S.data.length 0 []) 0)) :: (B11, Is (recsO (.slice none 0 0))) :: (recRow (.slice none 0 0) [] ++ ((B9, Is (vboxO Bv)) :: (verF ⟨Bv, num, D.length, .slice none 0 0, [], 0⟩ ++ (((B3, Is (boxA S.a)) :: [(B6, Is (intO 0)), (B7, Is (errO .nilIface))]) ++ arF S))))) w0 ((w1.alloc (.cells #[.map (some Bm)] 154)).alloc (.cells #[.int .i64 S.A.end_] 3)) := by
    have h := (HT1.out.allocIs (fmapO Bm)).allocIs (intO S.A.end_)
    rw [World.size_alloc, ← hB13, ← hB12] at h
    refine h.to ?_
    unfold recRow verF placeRow
    simp only [rowF, Value.ownBlock, List.flatMap_nil, List.map_nil, List.nil_append, framesLen, List.sum_nil, Nat.add_zero, freshE, mapO]
    rw [← HH.out.1.end_]
    exact (perm_of_cnt fun _ => by simp only [cnt_cons, cnt_append, cnt_nil] <;> omega)
  have hbxx := alloc_new ((w1.alloc (.cells #[.map (some Bm)] 154)).alloc (.cells #[.int .i64 S.A.end_] 3)) (.cells #[.slice sl D.length cap] 38)
  have hT3 := hT2.alloc (.cells #[.slice sl D.length cap] 38)
  simp only [World.size_alloc] at hbxx
  have hnb : bx ∉ dom ((B13, Is (intO ((S.data.length + framesLen [] : Nat) : Int))) :: (B12, Is (fmapO Bm)) :: (Bm, Is (mapO str (freshE S.data.length 0 []) 0)) :: (B11, Is (recsO (.slice none 0 0))) :: (recRow (.slice none 0 0) [] ++ ((B9, Is (vboxO Bv)) :: (verF ⟨Bv, num, D.length, .slice none 0 0, [], 0⟩ ++ (((B3, Is (boxA S.a)) :: [(B6, Is (intO 0)), (B7, Is (errO .nilIface))]) ++ arF S))))) := fun h => by have := hT2.sat.lt h; simp only [World.size_alloc] at this; omega
  rw [← hbx] at hbxx
  have hsz : (((w1.alloc (.cells #[.map (some Bm)] 154)).alloc (.cells #[.int .i64 S.A.end_] 3)).alloc (.cells #[.slice sl D.length cap] 38)).heap.size = bx + 1 := by simp only [World.size_alloc]; omega
  rw [← hbx, ← hB13, ← hB12]
  generalize ((w1.alloc (.cells #[.map (some Bm)] 154)).alloc (.cells #[.int .i64 S.A.end_] 3)).alloc (.cells #[.slice sl D.length cap] 38) = W2 at hbxx hT3 hsz ⊢
  clear a7 ab3 b3 hal habl hb3l hT2 hB12 hB13 hbx
  obtain ⟨F0, hF0⟩ : ∃ F0, F0 = (B13, Is (intO ((S.data.length + framesLen [] : Nat) : Int))) :: (B12, Is (fmapO Bm)) :: (Bm, Is (mapO str (freshE S.data.length 0 []) 0)) :: (B11, Is (recsO (.slice none 0 0))) :: (recRow (.slice none 0 0) [] ++ ((B9, Is (vboxO Bv)) :: (verF ⟨Bv, num, D.length, .slice none 0 0, [], 0⟩ ++ (((B3, Is (boxA S.a)) :: [(B6, Is (intO 0)), (B7, Is (errO .nilIface))]) ++ arF S)))) := ⟨_, rfl⟩
  rw [← hF0] at hT3 hnb
  have hDW : CellsAt W2 sl (D.map enc8) := HH.out.2.2.2.2.1.turnsOld hT3 HH.out.2.2.2.2.2.1
  obtain ⟨d, off, hda, hdb, hdF, hdw⟩ : ∃ d off, (0 < D.length → sl = some ⟨d, off, none⟩) ∧ HasBytes W2 d off D ∧ d ∉ dom F0 ∧ (d ≠ W2.heap.size ∧ d ≠ W2.heap.size + 1) := by
    by_cases hd : D = []
    · subst hd
      exact ⟨W2.heap.size + 2, 0, fun h => by simp at h, fun j hj => by simp at hj, fun h => by have := hT3.sat.lt h; omega, by omega⟩
    · have hp : 0 < D.length := List.length_pos_iff.2 hd
      obtain ⟨g, off, rfl, hc⟩ := hDW (by simpa using hp)
      obtain ⟨g0, off0, he0, hc0⟩ := HH.out.2.2.2.2.1 (by simpa using hp)
      simp only [Option.some.injEq, Addr.mk.injEq, and_true] at he0
      obtain ⟨rfl, rfl⟩ := he0
      have hlt0 : g < w0.heap.size := World.block_lt_of_cell? w0 _ (hc0 0 (by simpa using hp))
      have hlt : g < W2.heap.size := Nat.lt_of_lt_of_le hlt0 hT3.mods.size
      refine ⟨g, off, fun _ => rfl, fun j hj => by rw [hc j (by simpa using hj)]; simp [enc8], fun h => ?_, by omega⟩
      rcases hT3.fresh g h with h' | h'
      · exact HH.out.2.2.2.2.2.1 _ rfl h'
      · omega
  have HL := Lib.hid (And.intro hF0 (And.intro hT3 (And.intro hnb (And.intro hdb (And.intro hdF hsz)))))
  refine (wpIn_wide (n := 3)).1 ?_
  refine wpIn_eachT (n := 1) bx d off cap sl D rfl hda HH.out.2.2.2.2.2.2.2.1 (by omega) hbxx HL.out.2.2.2.1 hdw (PutJ S D B9 B11 B12 B13 Bm Bv num ((B3, Is (boxA S.a)) :: [(B6, Is (intO 0)), (B7, Is (errO .nilIface))])) F0 ?h0 HL.out.2.1.sat HL.out.2.2.1 HL.out.2.2.2.2.1 ?a1 ?assign ?body ?done
  case assign =>
    intro l i W K hK
    gi_wp2
    exact hK
  case h0 =>
    refine ⟨S.A.spare, [], .slice none 0 0, .slice none 0 0, [], [], rfl, HH.out.1.area, rfl, ⟨⟨rfl, fun _ => ⟨rfl, rfl⟩⟩, fun r hr => by simp at hr⟩, ⟨rfl, fun _ => ⟨rfl, rfl⟩⟩, rfl, fun e he => by simp at he, ?_⟩
    rw [HL.out.1]; rfl
  case body =>
    intro l2 i F A hi hJ hF hdA hdF2 hle
    exact putBody_wp S HH.out.1 D d off 1 l2 B3 B6 B7 B9 B11 B12 B13 Bm Bv num i _ F A hdA hdF2 hi hDl (by have := HH.out.2.1.K; have := HH.out.2.2.1; omega) hJ hF S.a l
  case done =>
    intro Dd F B hDd hJ hT4 hDF hDB
    rename_i hK
    have hT5 := HL.out.2.1.trans hT4
    have HG := Lib.hid (And.intro hJ (And.intro hT4 (And.intro hDF (And.intro hDB hT5))))
    refine hK _ _ ?_
    refine putRest_wp S HH.out.1 b HH.out.2.1 HH.out.2.2.1 l D hl hll hDl B3 B6 B7 B9 B11 B12 B13 Bm Bv num HH.out.2.2.2.2.2.2.1 F B hJ hT4.sat ?_
    intro tmps w' n ev h6 h7 hres
    have fin : ∀ (G J : HF) (v : Int) (u : Value), Turns F ((B6, Is (intO v)) :: (B7, Is (errO u)) :: (G ++ J)) B w' → (∀ W, Turns (arF S) G w0 W → PutFull S l D w0 (.returned (.tuple #[.int .i64 v, u])) W b num) →
        bodyPostM Fence.wide 3 Tryz.prog Tryz.f25 R .ret { tmps := tmps, defers := [{ target := .collected Dd, args := #[] }] } w' := by
      intro G J v u hTt hPF
      have hDlt : Dd < B.heap.size := lt_of_heap HG.out.2.2.2.1
      have hDn : Dd ∉ dom ((B6, Is (intO v)) :: (B7, Is (errO u)) :: (G ++ J)) := fun h => by
        rcases hTt.fresh _ h with h' | h'
        · exact HG.out.2.2.1 h'
        · omega
      have hDw : w'.heap[Dd]? = some (.deferred (some [])) := hTt.mods.at HG.out.2.2.2.1 HG.out.2.2.1
      have hT6 := (HG.out.2.2.2.2.trans hTt).putNew (Nat.le_trans HL.out.2.1.mods.size hDd) hDn (.deferred none)
      refine ⟨by simp, .inl ⟨_, _, rfl, run_takeDeferred hDw, ?_⟩⟩
      exact ⟨_, results_cells2 rfl tmps _ B6 B7 (.int .i64 v) u Tryz.underlying3 rfl Tryz.underlying45 rfl h6 h7 (cell_at (hT6.sat.headIs) 0 rfl) (cell_at (hT6.sat.tail.headIs) 0 rfl), HH.out.2.2.2.2.2.2.2.2 _ _ (hPF _ (hT6.drop (fun _ => by simp only [cnt_cons, cnt_append, cnt_nil] <;> omega)))⟩
    rcases hres with ⟨sp, chs, J, rfl, rfl, h1, h2, h3, h4⟩ | ⟨S', V, J, rfl, rfl, h1, h2, h3, h4⟩
    · exact fin _ J 0 (errV 8) h2 (fun W hW => .inl ⟨sp, chs, rfl, h1, hW, h3, h4⟩)
    · exact fin _ J num .nilIface h4 (fun W hW => .inr ⟨S', V, rfl, h1, h2, h3, hW⟩)
end Go.Proofs.YtdhobpbngkainaaGreatDoor
/-
  Ours. Put's drawn regions ahead of its loop (the text is printed by wip/genputhead.py).
-/
namespace Go.Proofs.YtdhobpbngkainaaGreatDoor
open Go.RowKit Go.Maps

set_option maxHeartbeats 4000000 in
set_option maxRecDepth 100000 in
theorem put6 (F1 Z : HF) (A : World) (B3 a n : Nat) (X : ArchL) (sl : Option Addr) (cap : Nat) {Q : Exit → Act → World → Prop} {w : World} {u0 u1 u4 u5 u6 u7 u8 u9 u10 u11 u12 u13 u14 u15 u16 u17 u18 u19 u20 u21 u22 u23 u24 u25 u26 u27 u28 u29 u30 u31 u32 u33 u34 u35 u36 u37 u38 u39 u40 u41 u42 u43 u44 u45 u46 u47 u48 u49 u50 u51 u52 u53 u54 u55 u56 u57 u58 u59 u60 u61 u62 u63 u64 u65 u66 u67 u68 u69 u70 u71 u72 u73 u74 u75 u76 u77 u78 u79 u80 u81 u82 u83 u84 u85 u86 u87 u88 u89 u90 u91 u92 u93 u94 u95 u96 u97 u98 u99 u100 u101 u102 u103 u104 u105 u106 u107 u108 u109 u110 u111 u112 u113 u114 u115 u116 u117 u118 u119 u120 u121 u122 u123 u124 u125 u126 u127 u128 u129 u130 u131 u132 u133 u134 u135 u136 u137 u138 u139 u140 u141 u142 u143 u144 u145 u146 u147 u148 u149 u150 u151 u152 u153 u154 u155 u156 u157 u158 u159 u160 u161 u162 u163 u164 u165 u166 u167 u168 u169 u170 u171 u172 u173 u174 u175 u176 : Value} {ds : List Deferred} (hT : Turns F1 ((B3, Is (boxA a)) :: (a, Is (archO X)) :: Z) A w) (hu : -4611686018427387904 ≤ X.used ∧ X.used ≤ 4611686018427387904) (hn : n ≤ 1099511627776)
    (hk : ∀ (y34 y35 y36 y37 y38 y39 y40 y41 y42 y43 y44 y45 y46 : Value) (w' : World), y46 = .bool (decide (X.quota < X.used + n)) → Turns F1 ((B3, Is (boxA a)) :: (a, Is (archO X)) :: Z) A w' → Q .normal { tmps := #[u0, u1, .slice sl n cap, .pointer (some ⟨B3, 0, none⟩), u4, u5, u6, u7, u8, u9, u10, u11, u12, u13, u14, u15, u16, u17, u18, u19, u20, u21, u22, u23, u24, u25, u26, u27, u28, u29, u30, u31, u32, u33, y34, y35, y36, y37, y38, y39, y40, y41, y42, y43, y44, y45, y46, u47, u48, u49, u50, u51, u52, u53, u54, u55, u56, u57, u58, u59, u60, u61, u62, u63, u64, u65, u66, u67, u68, u69, u70, u71, u72, u73, u74, u75, u76, u77, u78, u79, u80, u81, u82, u83, u84, u85, u86, u87, u88, u89, u90, u91, u92, u93, u94, u95, u96, u97, u98, u99, u100, u101, u102, u103, u104, u105, u106, u107, u108, u109, u110, u111, u112, u113, u114, u115, u116, u117, u118, u119, u120, u121, u122, u123, u124, u125, u126, u127, u128, u129, u130, u131, u132, u133, u134, u135, u136, u137, u138, u139, u140, u141, u142, u143, u144, u145, u146, u147, u148, u149, u150, u151, u152, u153, u154, u155, u156, u157, u158, u159, u160, u161, u162, u163, u164, u165, u166, u167, u168, u169, u170, u171, u172, u173, u174, u175, u176], defers := ds } w') :
    (regOf 6 Tryz.f25).wp Tryz.prog Q { tmps := #[u0, u1, .slice sl n cap, .pointer (some ⟨B3, 0, none⟩), u4, u5, u6, u7, u8, u9, u10, u11, u12, u13, u14, u15, u16, u17, u18, u19, u20, u21, u22, u23, u24, u25, u26, u27, u28, u29, u30, u31, u32, u33, u34, u35, u36, u37, u38, u39, u40, u41, u42, u43, u44, u45, u46, u47, u48, u49, u50, u51, u52, u53, u54, u55, u56, u57, u58, u59, u60, u61, u62, u63, u64, u65, u66, u67, u68, u69, u70, u71, u72, u73, u74, u75, u76, u77, u78, u79, u80, u81, u82, u83, u84, u85, u86, u87, u88, u89, u90, u91, u92, u93, u94, u95, u96, u97, u98, u99, u100, u101, u102, u103, u104, u105, u106, u107, u108, u109, u110, u111, u112, u113, u114, u115, u116, u117, u118, u119, u120, u121, u122, u123, u124, u125, u126, u127, u128, u129, u130, u131, u132, u133, u134, u135, u136, u137, u138, u139, u140, u141, u142, u143, u144, u145, u146, u147, u148, u149, u150, u151, u152, u153, u154, u155, u156, u157, u158, u159, u160, u161, u162, u163, u164, u165, u166, u167, u168, u169, u170, u171, u172, u173, u174, u175, u176], defers := ds } w := by
  have HM := Lib.hid (show Tryz.prog.follows .mixedOrders = true by kernel_rfl)
  conv => arg 2; whnf
  refine wp_region_chain (A := ?A) (hA := ?hA) HM.out (phiL [fun v => v = .pointer (some ⟨a, 0, none⟩), fun v => v = .pointer (some ⟨a, 0, none⟩), fun v => v = .pointer (some ⟨a, 0, none⟩), fun v => v = .pointer (some ⟨a, 5, none⟩), fun v => v = .int .i64 X.used, fun v => v = .slice sl n cap, fun v => v = .int .i64 n, fun v => v = .int .i64 (X.used + n), fun v => v = .pointer (some ⟨a, 0, none⟩), fun v => v = .pointer (some ⟨a, 0, none⟩), fun v => v = .pointer (some ⟨a, 9, none⟩), fun v => v = .int .i64 X.quota, fun v => v = .bool (decide (X.quota < X.used + n))])
    (fun vs1 W => match vs1 with
    | [] => Turns F1 ((B3, Is (boxA a)) :: (a, Is (archO X)) :: Z) A W
    | _ => False)
    (fun W => W.heap[B3]? = some (boxA a) ∧ W.heap[a]? = some (archO X)) [] ?hC (by kernel_rfl) (by kernel_rfl) (by decide) (by decide) ?h0 ?hs ?he
  case hA => intro x; simp only [fillFrom, Act.put, List.setIfInBounds_toArray, List.set_cons_zero, List.set_cons_succ, Nat.reduceAdd]; rfl
  case hs =>
    refine ⟨chain_quiet rfl rfl (fun x wq hd hC K hK hKw => ?_), chain_quiet rfl rfl (fun x wq hd hC K hK hKw => ?_), chain_quiet rfl rfl (fun x wq hd hC K hK hKw => ?_), chain_quiet rfl rfl (fun x wq hd hC K hK hKw => ?_), chain_quiet rfl rfl (fun x wq hd hC K hK hKw => ?_), chain_quiet rfl rfl (fun x wq hd hC K hK hKw => ?_), chain_quiet rfl rfl (fun x wq hd hC K hK hKw => ?_), chain_quiet rfl rfl (fun x wq hd hC K hK hKw => ?_), chain_quiet rfl rfl (fun x wq hd hC K hK hKw => ?_), chain_quiet rfl rfl (fun x wq hd hC K hK hKw => ?_), chain_quiet rfl rfl (fun x wq hd hC K hK hKw => ?_), chain_quiet rfl rfl (fun x wq hd hC K hK hKw => ?_), chain_quiet rfl rfl (fun x wq hd hC K hK hKw => ?_), trivial⟩
    · exact w_load Tryz.underlying32 rfl rfl (by rfl) (cell_at hC.1 0 rfl) (hK _ rfl)
    · have h0 : x 0 = .pointer (some ⟨a, 0, none⟩) := depsC_get hd 0 (by kernel_rfl)
      exact wp_run (by rw [h0]; kernel_rfl) (hK _ rfl)
    · have h1 : x 1 = .pointer (some ⟨a, 0, none⟩) := depsC_get hd 1 (by kernel_rfl)
      exact wp_run (by rw [h1]; kernel_rfl) (hK _ rfl)
    · have h2 : x 2 = .pointer (some ⟨a, 0, none⟩) := depsC_get hd 2 (by kernel_rfl)
      exact wp_run (by rw [h2]; kernel_rfl) (hK _ rfl)
    · have h3 : x 3 = .pointer (some ⟨a, 5, none⟩) := depsC_get hd 3 (by kernel_rfl)
      exact w_load Tryz.underlying3 rfl rfl (by rw [h3]; rfl) (cell_at hC.2 5 rfl) (hK _ rfl)
    · exact wp_run (by kernel_rfl) (hK _ rfl)
    · have h5 : x 5 = .slice sl n cap := depsC_get hd 5 (by kernel_rfl)
      exact wp_run (by rw [h5]; kernel_rfl) (hK _ rfl)
    · have h4 : x 4 = .int .i64 X.used := depsC_get hd 4 (by kernel_rfl)
      have h6 : x 6 = .int .i64 n := depsC_get hd 6 (by kernel_rfl)
      exact w_bin .add 3 3 (.tmp 38) (.tmp 40) rfl (by rw [h4]; rfl) (by rw [h6]; rfl) (run_addI (by omega) (by omega) wq) rfl (hK _ rfl)
    · exact w_load Tryz.underlying32 rfl rfl (by rfl) (cell_at hC.1 0 rfl) (hK _ rfl)
    · have h8 : x 8 = .pointer (some ⟨a, 0, none⟩) := depsC_get hd 8 (by kernel_rfl)
      exact wp_run (by rw [h8]; kernel_rfl) (hK _ rfl)
    · have h9 : x 9 = .pointer (some ⟨a, 0, none⟩) := depsC_get hd 9 (by kernel_rfl)
      exact wp_run (by rw [h9]; kernel_rfl) (hK _ rfl)
    · have h10 : x 10 = .pointer (some ⟨a, 9, none⟩) := depsC_get hd 10 (by kernel_rfl)
      exact w_load Tryz.underlying3 rfl rfl (by rw [h10]; rfl) (cell_at hC.2 9 rfl) (hK _ rfl)
    · have h7 : x 7 = .int .i64 (X.used + n) := depsC_get hd 7 (by kernel_rfl)
      have h11 : x 11 = .int .i64 X.quota := depsC_get hd 11 (by kernel_rfl)
      exact w_bin .gtr 3 3 (.tmp 41) (.tmp 45) rfl (by rw [h7]; rfl) (by rw [h11]; rfl) (run_gtrI wq) rfl (hK _ rfl)
  case hC =>
    intro vs1 W hS
    match vs1, hS with
    | [], hT => exact ⟨hT.sat.memIs (by simp), hT.sat.memIs (by simp)⟩
  case h0 =>
    exact hT.drew
  case he =>
    intro x w3 hφ hS
    exact hk (x 0) (x 1) (x 2) (x 3) (x 4) (x 5) (x 6) (x 7) (x 8) (x 9) (x 10) (x 11) (x 12) w3 (allPhi_get hφ 12 (by decide) (by decide)) hS
set_option maxHeartbeats 4000000 in
set_option maxRecDepth 100000 in
theorem put11 (F1 Z : HF) (A : World) (B9 Bv g off n cap size : Nat) (U : VerL) {Q : Exit → Act → World → Prop} {w : World} {u0 u1 u2 u3 u4 u5 u6 u7 u8 u11 u12 u13 u14 u15 u16 u17 u18 u19 u20 u21 u22 u23 u24 u25 u26 u27 u28 u29 u30 u31 u32 u33 u34 u35 u36 u37 u38 u39 u40 u41 u42 u43 u44 u45 u46 u47 u48 u49 u50 u51 u52 u53 u54 u55 u56 u57 u58 u59 u60 u61 u62 u63 u64 u65 u66 u67 u68 u69 u70 u71 u72 u73 u74 u75 u76 u77 u78 u79 u80 u81 u82 u83 u84 u85 u86 u87 u88 u89 u90 u91 u92 u93 u94 u95 u96 u97 u98 u99 u100 u101 u102 u103 u104 u105 u106 u107 u108 u109 u110 u111 u112 u113 u114 u115 u116 u117 u118 u119 u120 u121 u122 u123 u124 u125 u126 u127 u128 u129 u130 u131 u132 u133 u134 u135 u136 u137 u138 u139 u140 u141 u142 u143 u144 u145 u146 u147 u148 u149 u150 u151 u152 u153 u154 u155 u156 u157 u158 u159 u160 u161 u162 u163 u164 u165 u166 u167 u168 u169 u170 u171 u172 u173 u174 u175 u176 : Value} {ds : List Deferred} (hT : Turns F1 ((Bv, Is (verO ⟨Bv, 1, size, .slice none 0 0, [], 0⟩)) :: (B9, Is (vboxO Bv)) :: Z) A w) (hc1 : w.cell? ⟨g, off + (n - 1), none⟩ = some (ptrV U)) (hc2 : w.heap[U.blk]? = some (verO U)) (hn : 0 < n ∧ n ≤ 1099511627776) (hu : U.num ≤ 1099511627776)
    (hk : ∀ (y62 y63 y64 y65 y66 y67 y68 y69 y70 y71 y72 y73 y74 : Value) (w' : World), Turns F1 ((Bv, Is (verO ⟨Bv, U.num + 1, size, .slice none 0 0, [], 0⟩)) :: (B9, Is (vboxO Bv)) :: Z) A w' → Q .normal { tmps := #[u0, u1, u2, u3, u4, u5, u6, u7, u8, .pointer (some ⟨B9, 0, none⟩), .slice (some ⟨g, off, none⟩) n cap, u11, u12, u13, u14, u15, u16, u17, u18, u19, u20, u21, u22, u23, u24, u25, u26, u27, u28, u29, u30, u31, u32, u33, u34, u35, u36, u37, u38, u39, u40, u41, u42, u43, u44, u45, u46, u47, u48, u49, u50, u51, u52, u53, u54, u55, u56, u57, u58, u59, u60, u61, y62, y63, y64, y65, y66, y67, y68, y69, y70, y71, y72, y73, y74, u75, u76, u77, u78, u79, u80, u81, u82, u83, u84, u85, u86, u87, u88, u89, u90, u91, u92, u93, u94, u95, u96, u97, u98, u99, u100, u101, u102, u103, u104, u105, u106, u107, u108, u109, u110, u111, u112, u113, u114, u115, u116, u117, u118, u119, u120, u121, u122, u123, u124, u125, u126, u127, u128, u129, u130, u131, u132, u133, u134, u135, u136, u137, u138, u139, u140, u141, u142, u143, u144, u145, u146, u147, u148, u149, u150, u151, u152, u153, u154, u155, u156, u157, u158, u159, u160, u161, u162, u163, u164, u165, u166, u167, u168, u169, u170, u171, u172, u173, u174, u175, u176], defers := ds } w') :
    (regOf 11 Tryz.f25).wp Tryz.prog Q { tmps := #[u0, u1, u2, u3, u4, u5, u6, u7, u8, .pointer (some ⟨B9, 0, none⟩), .slice (some ⟨g, off, none⟩) n cap, u11, u12, u13, u14, u15, u16, u17, u18, u19, u20, u21, u22, u23, u24, u25, u26, u27, u28, u29, u30, u31, u32, u33, u34, u35, u36, u37, u38, u39, u40, u41, u42, u43, u44, u45, u46, u47, u48, u49, u50, u51, u52, u53, u54, u55, u56, u57, u58, u59, u60, u61, u62, u63, u64, u65, u66, u67, u68, u69, u70, u71, u72, u73, u74, u75, u76, u77, u78, u79, u80, u81, u82, u83, u84, u85, u86, u87, u88, u89, u90, u91, u92, u93, u94, u95, u96, u97, u98, u99, u100, u101, u102, u103, u104, u105, u106, u107, u108, u109, u110, u111, u112, u113, u114, u115, u116, u117, u118, u119, u120, u121, u122, u123, u124, u125, u126, u127, u128, u129, u130, u131, u132, u133, u134, u135, u136, u137, u138, u139, u140, u141, u142, u143, u144, u145, u146, u147, u148, u149, u150, u151, u152, u153, u154, u155, u156, u157, u158, u159, u160, u161, u162, u163, u164, u165, u166, u167, u168, u169, u170, u171, u172, u173, u174, u175, u176], defers := ds } w := by
  have HM := Lib.hid (show Tryz.prog.follows .mixedOrders = true by kernel_rfl)
  conv => arg 2; whnf
  refine wp_region_chainL (A := ?A) (hA := ?hA) HM.out (phiL [fun v => v = .pointer (some ⟨Bv, 0, none⟩), fun v => v = .slice (some ⟨g, off, none⟩) n cap, fun v => v = .slice (some ⟨g, off, none⟩) n cap, fun v => v = .int .i64 n, fun v => v = .int .i64 ((n : Int) - 1), fun v => v = .pointer (some ⟨g, off + (n - 1), none⟩), fun v => v = .pointer (some ⟨U.blk, 0, none⟩), fun v => v = .pointer (some ⟨U.blk, 0, none⟩), fun v => v = .pointer (some ⟨U.blk, 0, none⟩), fun v => v = .int .i64 U.num, fun v => v = .int .i64 (U.num + 1), fun v => v = .pointer (some ⟨Bv, 0, none⟩), fun v => v = .pointer (some ⟨Bv, 0, none⟩), fun _ => True])
    (fun vs1 W => match vs1 with
    | [] => Turns F1 ((Bv, Is (verO ⟨Bv, 1, size, .slice none 0 0, [], 0⟩)) :: (B9, Is (vboxO Bv)) :: Z) A W ∧ W.cell? ⟨g, off + (n - 1), none⟩ = some (ptrV U) ∧ W.heap[U.blk]? = some (verO U)
    | [_] => Turns F1 ((Bv, Is (.cells ((verCells ⟨Bv, 1, size, .slice none 0 0, [], 0⟩).setIfInBounds 0 (.int .i64 (U.num + 1))) 152 (0, 0))) :: (B9, Is (vboxO Bv)) :: Z) A W
    | _ => False)
    (fun W => W.heap[B9]? = some (vboxO Bv) ∧ W.cell? ⟨g, off + (n - 1), none⟩ = some (ptrV U) ∧ W.heap[U.blk]? = some (verO U)) [13] ?hC (by kernel_rfl) (by kernel_rfl) (by kernel_rfl) (by decide) (by decide) ?h0 ?hs ?he
  case hA => intro x; simp only [fillFrom, Act.put, List.setIfInBounds_toArray, List.set_cons_zero, List.set_cons_succ, Nat.reduceAdd]; rfl
  case hs =>
    refine ⟨chain_quiet rfl rfl (fun x wq hd hC K hK hKw => ?_), chain_quiet rfl rfl (fun x wq hd hC K hK hKw => ?_), chain_quiet rfl rfl (fun x wq hd hC K hK hKw => ?_), chain_quiet rfl rfl (fun x wq hd hC K hK hKw => ?_), chain_quiet rfl rfl (fun x wq hd hC K hK hKw => ?_), chain_quiet rfl rfl (fun x wq hd hC K hK hKw => ?_), chain_quiet rfl rfl (fun x wq hd hC K hK hKw => ?_), chain_quiet rfl rfl (fun x wq hd hC K hK hKw => ?_), chain_quiet rfl rfl (fun x wq hd hC K hK hKw => ?_), chain_quiet rfl rfl (fun x wq hd hC K hK hKw => ?_), chain_quiet rfl rfl (fun x wq hd hC K hK hKw => ?_), chain_quiet rfl rfl (fun x wq hd hC K hK hKw => ?_), chain_quiet rfl rfl (fun x wq hd hC K hK hKw => ?_), chain_noisy 0 rfl rfl (fun x wq hd hS K hK => ?_), trivial⟩
    · exact w_load Tryz.underlying149 rfl rfl (by rfl) (cell_at hC.1 0 rfl) (hK _ rfl)
    · exact wp_run (by kernel_rfl) (hK _ rfl)
    · exact wp_run (by kernel_rfl) (hK _ rfl)
    · have h2 : x 2 = .slice (some ⟨g, off, none⟩) n cap := depsC_get hd 2 (by kernel_rfl)
      exact wp_run (by rw [h2]; kernel_rfl) (hK _ rfl)
    · have h3 : x 3 = .int .i64 n := depsC_get hd 3 (by kernel_rfl)
      exact w_bin .sub 3 3 (.tmp 65) (.const (.int .i64 1)) rfl (by rw [h3]; rfl) rfl (run_subI (by omega) (by omega) wq) rfl (hK _ rfl)
    · have h1 : x 1 = .slice (some ⟨g, off, none⟩) n cap := depsC_get hd 1 (by kernel_rfl)
      have h4 : x 4 = .int .i64 ((n : Int) - 1) := depsC_get hd 4 (by kernel_rfl)
      refine w_indexS (sz := 1) 153 149 (.tmp 63) (.tmp 66) rfl Tryz.underlying153 (by kernel_rfl) (by rw [h1]; rfl) (by rw [h4]; rfl) (by omega) (by omega) ?_
      rw [show off + ((n : Int) - 1).toNat * 1 = off + (n - 1) by omega]
      exact hK _ rfl
    · have h5 : x 5 = .pointer (some ⟨g, off + (n - 1), none⟩) := depsC_get hd 5 (by kernel_rfl)
      exact w_load Tryz.underlying149 rfl rfl (by rw [h5]; rfl) (hC.2.1) (hK _ rfl)
    · have h6 : x 6 = .pointer (some ⟨U.blk, 0, none⟩) := depsC_get hd 6 (by kernel_rfl)
      exact wp_run (by rw [h6]; kernel_rfl) (hK _ rfl)
    · have h7 : x 7 = .pointer (some ⟨U.blk, 0, none⟩) := depsC_get hd 7 (by kernel_rfl)
      exact wp_run (by rw [h7]; kernel_rfl) (hK _ rfl)
    · have h8 : x 8 = .pointer (some ⟨U.blk, 0, none⟩) := depsC_get hd 8 (by kernel_rfl)
      exact w_load Tryz.underlying3 rfl rfl (by rw [h8]; rfl) (cell_at hC.2.2 0 rfl) (hK _ rfl)
    · have h9 : x 9 = .int .i64 U.num := depsC_get hd 9 (by kernel_rfl)
      exact w_bin .add 3 3 (.tmp 71) (.const (.int .i64 1)) rfl (by rw [h9]; rfl) rfl (run_addI (by omega) (by omega) wq) rfl (hK _ rfl)
    · have h0 : x 0 = .pointer (some ⟨Bv, 0, none⟩) := depsC_get hd 0 (by kernel_rfl)
      exact wp_run (by rw [h0]; kernel_rfl) (hK _ rfl)
    · have h11 : x 11 = .pointer (some ⟨Bv, 0, none⟩) := depsC_get hd 11 (by kernel_rfl)
      exact wp_run (by rw [h11]; kernel_rfl) (hK _ rfl)
    · have h10 : x 10 = .int .i64 (U.num + 1) := depsC_get hd 10 (by kernel_rfl)
      have h12 : x 12 = .pointer (some ⟨Bv, 0, none⟩) := depsC_get hd 12 (by kernel_rfl)
      exact w_store1T 3 (.tmp 74) (.tmp 72) rfl Bv 0 (verCells ⟨Bv, 1, size, .slice none 0 0, [], 0⟩) 152 (.int .i64 (U.num + 1)) hS.1 (by rw [h12]; rfl) (by rw [h10]; rfl) (by simp [verCells]) (by kernel_rfl) rfl rfl (fun w9 h9 => hK _ _ trivial h9)
  case hC =>
    intro vs1 W hlt hS
    match vs1, hS, hlt with
    | [], hT, _ => exact ⟨hT.1.sat.memIs (by simp), hT.2.1, hT.2.2⟩
    | [_], _, hlt => exact absurd hlt (Nat.lt_irrefl _)
  case h0 =>
    exact ⟨hT.drew, hc1, hc2⟩
  case he =>
    intro x w3 hφ hS
    exact hk (x 0) (x 1) (x 2) (x 3) (x 4) (x 5) (x 6) (x 7) (x 8) (x 9) (x 10) (x 11) (x 12) w3 hS
end Go.Proofs.YtdhobpbngkainaaGreatDoor
