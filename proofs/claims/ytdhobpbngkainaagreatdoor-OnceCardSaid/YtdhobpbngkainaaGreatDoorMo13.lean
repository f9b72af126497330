/-
  Ours. What holds between two rounds of Put; plain words on the chunks that are new. No condition.
-/
import Derived.Test.YtdhobpbngkainaaGreatDoorMo11
import Derived.Test.YtdhobpbngkainaaGreatDoorMo12
namespace Go.Proofs.YtdhobpbngkainaaGreatDoor
open Go.RowKit Go.Maps Go.Shelf

theorem freshOf_snoc (has : List Bs) (c : Bs) : ∀ (l acc : List Bs), freshOf has acc (l ++ [c]) = if c ∈ has ∨ c ∈ freshOf has acc l then freshOf has acc l else freshOf has acc l ++ [c]
  | [], acc => by simp only [List.nil_append, freshOf]; congr
  | x :: l, acc => by
    simp only [List.cons_append, freshOf]
    split <;> exact freshOf_snoc has c l _
theorem freshOf_sub (has : List Bs) : ∀ (l acc : List Bs), ∀ c ∈ freshOf has acc l, c ∈ acc ∨ (c ∈ l ∧ c ∉ has)
  | [], acc => fun c h => .inl h
  | x :: l, acc => fun c h => by
    simp only [freshOf] at h
    split at h
    · rcases freshOf_sub has l acc c h with h' | ⟨h1, h2⟩
      · exact .inl h'
      · exact .inr ⟨List.mem_cons_of_mem _ h1, h2⟩
    · rename_i hn
      rcases freshOf_sub has l _ c h with h' | ⟨h1, h2⟩
      · rcases List.mem_append.1 h' with h' | h'
        · exact .inl h'
        · simp only [List.mem_singleton] at h'; subst h'; exact .inr ⟨by simp, fun hh => hn (.inl hh)⟩
      · exact .inr ⟨List.mem_cons_of_mem _ h1, h2⟩
theorem freshOf_nodup (has : List Bs) : ∀ (l acc : List Bs), acc.Nodup → (freshOf has acc l).Nodup
  | [], acc, h => h
  | x :: l, acc, h => by
    simp only [freshOf]
    split
    · exact freshOf_nodup has l acc h
    · rename_i hn
      refine freshOf_nodup has l _ (List.nodup_append.2 ⟨h, by simp, ?_⟩)
      intro a ha b hb e
      simp only [List.mem_singleton] at hb
      exact hn (.inr (hb ▸ e ▸ ha))
theorem freshOf_len (has : List Bs) : ∀ (l acc : List Bs), (freshOf has acc l).length ≤ acc.length + l.length
  | [], acc => by simp [freshOf]
  | x :: l, acc => by
    simp only [freshOf]
    split
    · have := freshOf_len has l acc; simp; omega
    · have := freshOf_len has l (acc ++ [x]); simp at this ⊢; omega
def placeVal (q : Nat × Nat) : Value := .agg #[.int .i64 q.1, .int .i64 q.2]
def freshE : Nat → Nat → List Bs → List (Ent Bs)
  | _, _, [] => []
  | at_, b, c :: r => ⟨c, placeVal (at_, c.length), b⟩ :: freshE (at_ + c.length + 9) (b + 1) r
theorem freshE_keys : ∀ (l : List Bs) (at_ b : Nat), (freshE at_ b l).map (·.key) = l
  | [], _, _ => rfl
  | c :: r, at_, b => by simp [freshE, freshE_keys r]
theorem freshE_len (l : List Bs) (at_ b : Nat) : (freshE at_ b l).length = l.length := by
  have := congrArg List.length (freshE_keys l at_ b)
  simpa using this
theorem framesLen_cons (c : Bs) (r : List Bs) : framesLen (c :: r) = c.length + 9 + framesLen r := rfl
theorem framesLen_snoc (l : List Bs) (c : Bs) : framesLen (l ++ [c]) = framesLen l + (c.length + 9) := by simp [framesLen]
theorem freshE_append (m : List Bs) : ∀ (l : List Bs) (at_ b : Nat), freshE at_ b (l ++ m) = freshE at_ b l ++ freshE (at_ + framesLen l) (b + l.length) m
  | [], at_, b => by simp [freshE, framesLen]
  | c :: r, at_, b => by
    simp only [List.cons_append, freshE, freshE_append m r, framesLen_cons, List.length_cons]
    rw [show at_ + c.length + 9 + framesLen r = at_ + (c.length + 9 + framesLen r) by omega, show b + 1 + r.length = b + (r.length + 1) by omega]
theorem freshE_born : ∀ (l : List Bs) (at_ b : Nat), ∀ e ∈ freshE at_ b l, b ≤ e.born ∧ e.born < b + l.length
  | [], _, _, e, h => by simp [freshE] at h
  | c :: r, at_, b, e, h => by
    simp only [freshE, List.mem_cons] at h
    rcases h with rfl | h
    · simp
    · have := freshE_born r _ _ e h; simp; omega
theorem freshE_borns : ∀ (l : List Bs) (at_ b : Nat), ((freshE at_ b l).map (·.born)).Nodup
  | [], _, _ => by simp [freshE]
  | c :: r, at_, b => by
    simp only [freshE, List.map_cons, List.nodup_cons]
    refine ⟨fun h => ?_, freshE_borns r _ _⟩
    obtain ⟨e, he, hb⟩ := List.mem_map.1 h
    have := freshE_born r _ _ e he
    omega
theorem freshE_ok {l : List Bs} (h : l.Nodup) (hs : ∀ c ∈ l, OkS c) (at_ : Nat) : MapOk OkS (freshE at_ 0 l) l.length where
  nodup := by rw [freshE_keys]; exact h
  borns := freshE_borns l at_ 0
  lt := fun e he => by have := freshE_born l at_ 0 e he; omega
  ok := fun e he => hs _ (by rw [← freshE_keys l at_ 0]; exact List.mem_map.2 ⟨e, he, rfl⟩)
theorem freshE_val : ∀ (l : List Bs) (at_ b : Nat), ∀ e ∈ freshE at_ b l, ∃ q, (e.key, q) ∈ placed at_ l ∧ e.val = placeVal q
  | [], _, _, e, h => by simp [freshE] at h
  | c :: r, at_, b, e, h => by
    simp only [freshE, List.mem_cons] at h
    rcases h with rfl | h
    · exact ⟨_, List.mem_cons_self, rfl⟩
    · obtain ⟨q, h1, h2⟩ := freshE_val r _ _ e h
      exact ⟨q, List.mem_cons_of_mem _ h1, h2⟩
theorem freshE_zip : ∀ (l : List Bs) (at_ b : Nat), (freshE at_ b l).map (fun e => (e.key, e.val)) = (placed at_ l).map (fun p => (p.1, placeVal p.2))
  | [], _, _ => rfl
  | c :: r, at_, b => by simp [freshE, placed, freshE_zip r]
theorem freshE_has (l : List Bs) (at_ b : Nat) (c : Bs) : hasE (freshE at_ b l) c = decide (c ∈ l) := by
  rw [Bool.eq_iff_iff, hasE_iff, decide_eq_true_eq]
  have hk := freshE_keys l at_ b
  constructor
  · rintro ⟨e, he, rfl⟩
    rw [← hk]; exact List.mem_map.2 ⟨e, he, rfl⟩
  · intro h
    rw [← hk] at h
    obtain ⟨e, he, h2⟩ := List.mem_map.1 h
    exact ⟨e, he, h2⟩
theorem freshE_get {l : List Bs} {at_ b : Nat} {c : Bs} (h : c ∈ l) : ∃ q, (c, q) ∈ placed at_ l ∧ getE (freshE at_ b l) c = some (placeVal q) := by
  have h1 := freshE_has l at_ b c
  rw [decide_eq_true h, hasE_get] at h1
  cases hg : getE (freshE at_ b l) c with
  | none => rw [hg] at h1; cases h1
  | some v =>
    obtain ⟨e, he, hk, hv⟩ := getE_some hg
    obtain ⟨q, hq, h2⟩ := freshE_val l at_ b e he
    exact ⟨q, hk ▸ hq, by rw [← hv, h2]⟩
theorem freshE_put {l : List Bs} {at_ : Nat} {c : Bs} (h : c ∉ l) : putE (freshE at_ 0 l) l.length c (placeVal (at_ + framesLen l, c.length)) = freshE at_ 0 (l ++ [c]) ∧ putC (freshE at_ 0 l) l.length c = (l ++ [c]).length := by
  have h1 := freshE_has l at_ 0 c
  rw [decide_eq_false h] at h1
  unfold putE putC
  rw [h1, freshE_append]
  simp [freshE]
theorem placed_snoc (l : List Bs) (c : Bs) (at_ : Nat) : placed at_ (l ++ [c]) = placed at_ l ++ [(c, at_ + framesLen l, c.length)] := by rw [placed_append]; rfl
theorem chunksOf_len (D : Bs) : (chunksOf D).length = (lensOf D).length := chunksFrom_length _ _
/-- The chunk of a round. -/
def chunkI (D : Bs) (i : Nat) : Bs := (D.drop ((lensOf D).take i).sum).take ((lensOf D).getD i 0)
theorem chunksOf_snoc {D : Bs} {i : Nat} (h : i < (lensOf D).length) : (chunksOf D).take (i + 1) = (chunksOf D).take i ++ [chunkI D i] := by
  have h' : i < (chunksOf D).length := by rw [chunksOf_len]; exact h
  have e : (chunksOf D)[i] = (D.drop ((lensOf D).take i).sum).take (lensOf D)[i] := chunksFrom_at _ _ _ h
  rw [List.take_succ_eq_append_getElem h', e]
  unfold chunkI
  simp [List.getD_eq_getElem?_getD, h]
theorem take_sum_le (l : List Nat) (i : Nat) (h : i < l.length) : (l.take i).sum + l[i] ≤ l.sum := by
  conv => rhs; rw [← List.take_append_drop (i + 1) l, List.sum_append, List.take_succ_eq_append_getElem h, List.sum_append]
  simp
theorem chunkI_len {D : Bs} {i : Nat} (h : i < (lensOf D).length) : (chunkI D i).length = (lensOf D).getD i 0 := by
  have h1 := take_sum_le (lensOf D) i h
  rw [lensOf_sum] at h1
  unfold chunkI
  rw [List.length_take, List.length_drop]
  simp only [List.getD_eq_getElem?_getD, h, List.getElem?_eq_getElem, Option.getD_some]
  omega
theorem chunkI_cells {w : World} {d off : Nat} {D : Bs} {i : Nat} (hD : HasBytes w d off D) (h : i < (lensOf D).length) : CellsAt w (some ⟨d, off + ((lensOf D).take i).sum, none⟩) ((chunkI D i).map enc8) := fun _ => by
  refine ⟨d, _, rfl, fun j hj => ?_⟩
  have hl := chunkI_len h
  have h1 := take_sum_le (lensOf D) i h
  rw [lensOf_sum] at h1
  have e : (lensOf D).getD i 0 = (lensOf D)[i] := by simp [List.getD_eq_getElem?_getD, h]
  rw [List.length_map, hl, e] at hj
  have := hD (((lensOf D).take i).sum + j) (by omega)
  rw [← Nat.add_assoc] at this
  rw [this]
  simp [chunkI, enc8]
def intO (n : Int) : Obj := .cells #[.int .i64 n] 3 (0, 0)
def boxA (a : Nat) : Obj := .cells #[.pointer (some ⟨a, 0, none⟩)] 32 (0, 0)
def errO (v : Value) : Obj := .cells #[v] 45 (0, 0)
def vboxO (b : Nat) : Obj := .cells #[.pointer (some ⟨b, 0, none⟩)] 149 (0, 0)
def recsO (v : Value) : Obj := .cells #[v] 61 (0, 0)
def fmapO (b : Nat) : Obj := .cells #[.map (some b)] 154 (0, 0)
def PutJ (S : AS) (D : Bs) (B9 B11 B12 B13 Bm Bv num : Nat) (R : HF) (i : Nat) (F : HF) : Prop :=
  ∃ (sp : List (Nat × Nat × Nat)) (acc : List Bs) (fv rv : Value) (chs : List (Nat × Nat)) (recs : List RecL),
    acc = freshOf (S.K.map (·.1)) [] ((chunksOf D).take i) ∧ AreaOk { S.A with spare := sp } ∧ recs.map (·.bytes) = acc.map (frame 1) ∧ recOk rv recs ∧ placeOk fv chs ∧ chs.length = i ∧
    (∀ e ∈ ((chunksOf D).take i).zip chs, e ∈ S.K ++ placed S.data.length acc) ∧
    F = (B13, Is (intO ((S.data.length + framesLen acc : Nat) : Int))) :: (B12, Is (fmapO Bm)) :: (Bm, Is (mapO str (freshE S.data.length 0 acc) acc.length)) :: (B11, Is (recsO rv)) ::
      (recRow rv recs ++ ((B9, Is (vboxO Bv)) :: (verF ⟨Bv, num, D.length, fv, chs, 0⟩ ++ (R ++ arF { S with A := { S.A with spare := sp } }))))
theorem put_in {l : List Bs} {chs : List (Nat × Nat)} {c : Bs} {q : Nat × Nat} {T T' : List (Bs × Nat × Nat)} (hl : l.length = chs.length) (h : ∀ e ∈ l.zip chs, e ∈ T) (hT : ∀ e ∈ T, e ∈ T') (hq : (c, q) ∈ T') : ∀ e ∈ (l ++ [c]).zip (chs ++ [q]), e ∈ T' := by
  intro e he
  rw [List.zip_append hl] at he
  rcases List.mem_append.1 he with h' | h'
  · exact hT e (h e h')
  · simp only [List.zip_cons_cons, List.zip_nil_right, List.mem_singleton] at h'
    subst h'; exact hq
theorem chunksOf_mem {D : Bs} {c : Bs} (h : c ∈ chunksOf D) : c.length ≤ D.length := by
  obtain ⟨i, hi, rfl⟩ := List.mem_iff_getElem.1 h
  have hi' : i < (lensOf D).length := by rw [← chunksOf_len]; exact hi
  have e : (chunksOf D)[i] = (D.drop ((lensOf D).take i).sum).take (lensOf D)[i] := chunksFrom_at _ _ _ hi'
  rw [e, List.length_take, List.length_drop]
  omega
theorem acc_ok {S : AS} {D : Bs} {i : Nat} (hD : D.length ≤ 4000) : ∀ c ∈ freshOf (S.K.map (·.1)) [] ((chunksOf D).take i), OkS c := fun c hc => by
  rcases freshOf_sub _ _ _ c hc with h | ⟨h, _⟩
  · simp at h
  · have := chunksOf_mem (List.mem_of_mem_take h)
    unfold OkS; omega
theorem framesLen_le : ∀ (l : List Bs) (m : Nat), (∀ c ∈ l, c.length ≤ m) → framesLen l ≤ l.length * (m + 9)
  | [], _, _ => by simp [framesLen]
  | c :: r, m, h => by
    have h1 := h c (by simp)
    have h2 := framesLen_le r m (fun x hx => h x (by simp [hx]))
    rw [framesLen_cons, List.length_cons, Nat.add_mul]
    omega
/-! ### the code, taken apart -/
def findRF : Code → Option (Code × Code)
  | .rangeFunc _ _ a b => some (a, b)
  | .seq a b => match findRF a with | some r => some r | none => findRF b
  | .block _ c => findRF c
  | .scope c => findRF c
  | _ => none
def restRF : Code → Option Code
  | .seq a b => if (findRF a).isSome then some b else restRF b
  | _ => none
noncomputable def putBody : Code := ((Tryz.f25.body.bind findRF).map (·.2)).getD .skip
noncomputable def putRest : Code := (Tryz.f25.body.bind restRF).getD .skip
end Go.Proofs.YtdhobpbngkainaaGreatDoor
/-
  Ours. Put's drawn regions within its loop (the text is printed by wip/genputregs.py).
-/
namespace Go.Proofs.YtdhobpbngkainaaGreatDoor
open Go.RowKit Go.Maps

def rec1O (v : Value) : Obj := .cells #[v] 38 (0, 0)
theorem place_one {v : Value} {l : List (Nat × Nat)} (h : placeOk v l) {w : World} (hs : Sat w (placeRow v l)) : v.oneCell' = true ∧ v.cells = #[v] := by
  obtain ⟨sl, cap, rfl, _⟩ := place_cells hs h
  exact ⟨rfl, rfl⟩
theorem bytes_one {w : World} {v : Value} {l : Bs} (h : bOk v l) (hs : Sat w (bRow v l)) : v.oneCell' = true ∧ v.cells = #[v] ∧ ∃ a cap, v = .slice a l.length cap := by
  obtain ⟨a, cap, rfl, _⟩ := own_cells' (bOwns hs h)
  exact ⟨rfl, rfl, a, cap, rfl⟩
theorem row_one {w : World} {e : Nat} {v : Value} {l : List Value} (hs : Sat w (rowF e 1 v l.length l)) (h : RowOk 1 v l.length l) : v.oneCell' = true ∧ v.cells = #[v] := by
  obtain ⟨a, cap, rfl, _⟩ := own_cells' (owns_of_row hs h)
  exact ⟨rfl, rfl⟩
set_option maxHeartbeats 4000000 in
set_option maxRecDepth 100000 in
theorem put28 {lb n : Nat} (F1 Z : HF) (A : World) (B15 B9 Bv : Nat) (VV : VerL) (q : Nat × Nat) (fv : Value) (chs : List (Nat × Nat)) {Q : Exit → Act → World → Prop} {w : World} {u0 u1 u2 u3 u4 u5 u6 u7 u8 u10 u11 u12 u13 u14 u16 u17 u18 u19 u20 u21 u22 u23 u24 u25 u26 u27 u28 u29 u30 u31 u32 u33 u34 u35 u36 u37 u38 u39 u40 u41 u42 u43 u44 u45 u46 u47 u48 u49 u50 u51 u52 u53 u54 u55 u56 u57 u58 u59 u60 u61 u62 u63 u64 u65 u66 u67 u68 u69 u70 u71 u72 u73 u74 u75 u76 u77 u78 u79 u80 u81 u82 u83 u84 u85 u86 u87 u88 u89 u90 u91 u92 u93 u94 u95 u96 u97 u98 u99 u100 u101 u102 u103 u104 u105 u106 u107 u108 u109 u110 u111 u112 u113 u114 u115 u116 u117 u118 u119 u120 u121 u122 u123 u124 u125 u126 u127 u128 u129 u130 u131 u132 u133 u134 u135 u136 u137 u138 u139 u140 u141 u142 u143 u144 u145 u146 u147 u148 u149 u150 u151 u152 u153 u154 u155 u156 u157 u158 u159 u160 u161 u162 u163 u164 u165 u166 u167 u168 u169 u170 u171 u172 u173 u174 u175 u176 : Value} {ds : List Deferred} (hT : Turns F1 ((B15, Is (placeO q)) :: (B9, Is (vboxO Bv)) :: (Bv, Is (verO VV)) :: (placeRow fv chs ++ Z)) A w) (hpo : placeOk fv chs) (hcv : VV.cv = fv) (hcl : chs.length ≤ 100000)
    (hQo : ¬ LetsOut Q) (hk : ∀ (y129 y130 y131 y132 y133 y134 y135 y136 y137 y138 : Value) (w' : World), placeOk y136 (chs ++ [q]) → Turns F1 ((Bv, Is (.cells ((verCells VV).setIfInBounds 2 y136) 152 (0, 0))) :: (B15, Is (placeO q)) :: (B9, Is (vboxO Bv)) :: (placeRow y136 (chs ++ [q]) ++ Z)) A w' → Q .normal { tmps := #[u0, u1, u2, u3, u4, u5, u6, u7, u8, .pointer (some ⟨B9, 0, none⟩), u10, u11, u12, u13, u14, .pointer (some ⟨B15, 0, none⟩), u16, u17, u18, u19, u20, u21, u22, u23, u24, u25, u26, u27, u28, u29, u30, u31, u32, u33, u34, u35, u36, u37, u38, u39, u40, u41, u42, u43, u44, u45, u46, u47, u48, u49, u50, u51, u52, u53, u54, u55, u56, u57, u58, u59, u60, u61, u62, u63, u64, u65, u66, u67, u68, u69, u70, u71, u72, u73, u74, u75, u76, u77, u78, u79, u80, u81, u82, u83, u84, u85, u86, u87, u88, u89, u90, u91, u92, u93, u94, u95, u96, u97, u98, u99, u100, u101, u102, u103, u104, u105, u106, u107, u108, u109, u110, u111, u112, u113, u114, u115, u116, u117, u118, u119, u120, u121, u122, u123, u124, u125, u126, u127, u128, y129, y130, y131, y132, y133, y134, y135, y136, y137, y138, u139, u140, u141, u142, u143, u144, u145, u146, u147, u148, u149, u150, u151, u152, u153, u154, u155, u156, u157, u158, u159, u160, u161, u162, u163, u164, u165, u166, u167, u168, u169, u170, u171, u172, u173, u174, u175, u176], defers := ds } w') :
    (regOf 28 Tryz.f25).wpIn (Fence.wide.inRound lb) n Tryz.prog Q { tmps := #[u0, u1, u2, u3, u4, u5, u6, u7, u8, .pointer (some ⟨B9, 0, none⟩), u10, u11, u12, u13, u14, .pointer (some ⟨B15, 0, none⟩), u16, u17, u18, u19, u20, u21, u22, u23, u24, u25, u26, u27, u28, u29, u30, u31, u32, u33, u34, u35, u36, u37, u38, u39, u40, u41, u42, u43, u44, u45, u46, u47, u48, u49, u50, u51, u52, u53, u54, u55, u56, u57, u58, u59, u60, u61, u62, u63, u64, u65, u66, u67, u68, u69, u70, u71, u72, u73, u74, u75, u76, u77, u78, u79, u80, u81, u82, u83, u84, u85, u86, u87, u88, u89, u90, u91, u92, u93, u94, u95, u96, u97, u98, u99, u100, u101, u102, u103, u104, u105, u106, u107, u108, u109, u110, u111, u112, u113, u114, u115, u116, u117, u118, u119, u120, u121, u122, u123, u124, u125, u126, u127, u128, u129, u130, u131, u132, u133, u134, u135, u136, u137, u138, u139, u140, u141, u142, u143, u144, u145, u146, u147, u148, u149, u150, u151, u152, u153, u154, u155, u156, u157, u158, u159, u160, u161, u162, u163, u164, u165, u166, u167, u168, u169, u170, u171, u172, u173, u174, u175, u176], defers := ds } w := by
  have HM := Lib.hid (show Tryz.prog.follows .mixedOrders = true by kernel_rfl)
  conv => arg 4; whnf
  refine wpIn_region_chainL (A := ?A) (hA := ?hA) HM.out (by kernel_rfl) hQo (phiL [fun v => v = .pointer (some ⟨Bv, 0, none⟩), fun v => v = .pointer (some ⟨Bv, 0, none⟩), fun v => v = .pointer (some ⟨Bv, 0, none⟩), fun v => v = .pointer (some ⟨Bv, 2, none⟩), fun v => v = fv, fun v => v = .agg #[.int .i64 q.1, .int .i64 q.2], fun _ => True, fun _ => True, fun v => v = .pointer (some ⟨Bv, 0, none⟩), fun v => v = .pointer (some ⟨Bv, 2, none⟩), fun _ => True])
    (fun vs1 W => match vs1 with
    | [] => Turns F1 (placeRow fv chs ++ ((B15, Is (placeO q)) :: (B9, Is (vboxO Bv)) :: (Bv, Is (verO VV)) :: Z)) A W
    | [v] => ∃ n : Nat, v = .slice (some ⟨n, 0, none⟩) 1 1 ∧ Turns F1 (placeRow fv chs ++ ((n, Is (placeO q)) :: (B15, Is (placeO q)) :: (B9, Is (vboxO Bv)) :: (Bv, Is (verO VV)) :: Z)) A W
    | [_, u] => ∃ n : Nat, placeOk u (chs ++ [q]) ∧ Turns F1 (placeRow u (chs ++ [q]) ++ ((n, Is (placeO q)) :: (B15, Is (placeO q)) :: (B9, Is (vboxO Bv)) :: (Bv, Is (verO VV)) :: Z)) A W
    | [_, u, _] => ∃ n : Nat, placeOk u (chs ++ [q]) ∧ Turns F1 ((Bv, Is (.cells ((verCells VV).setIfInBounds 2 u) 152 (0, 0))) :: (placeRow u (chs ++ [q]) ++ ((n, Is (placeO q)) :: (B15, Is (placeO q)) :: (B9, Is (vboxO Bv)) :: Z))) A W
    | _ => False)
    (fun W => W.heap[B9]? = some (vboxO Bv) ∧ W.heap[Bv]? = some (verO VV) ∧ W.heap[B15]? = some (placeO q)) [6, 7, 10] ?hC (by kernel_rfl) (by kernel_rfl) (by kernel_rfl) (by decide) (by decide) ?h0 ?hs ?he
  case hA => intro x; simp only [fillFrom, Act.put, List.setIfInBounds_toArray, List.set_cons_zero, List.set_cons_succ, Nat.reduceAdd]; rfl
  case hs =>
    refine ⟨chain_quiet rfl rfl (fun x wq hd hC K hK hKw => ?_), chain_quiet rfl rfl (fun x wq hd hC K hK hKw => ?_), chain_quiet rfl rfl (fun x wq hd hC K hK hKw => ?_), chain_quiet rfl rfl (fun x wq hd hC K hK hKw => ?_), chain_quiet rfl rfl (fun x wq hd hC K hK hKw => ?_), chain_quiet rfl rfl (fun x wq hd hC K hK hKw => ?_), chain_noisy 0 rfl rfl (fun x wq hd hS K hK => ?_), chain_noisy 1 rfl rfl (fun x wq hd hS K hK => ?_), chain_quiet rfl rfl (fun x wq hd hC K hK hKw => ?_), chain_quiet rfl rfl (fun x wq hd hC K hK hKw => ?_), chain_noisy 2 rfl rfl (fun x wq hd hS K hK => ?_), trivial⟩
    · exact w_load Tryz.underlying149 rfl rfl (by rfl) (cell_at hC.1 0 rfl) (hK _ rfl)
    · exact w_load Tryz.underlying149 rfl rfl (by rfl) (cell_at hC.1 0 rfl) (hK _ rfl)
    · have h1 : x 1 = .pointer (some ⟨Bv, 0, none⟩) := depsC_get hd 1 (by kernel_rfl)
      exact wp_run (by rw [h1]; kernel_rfl) (hK _ rfl)
    · have h2 : x 2 = .pointer (some ⟨Bv, 0, none⟩) := depsC_get hd 2 (by kernel_rfl)
      exact wp_run (by rw [h2]; kernel_rfl) (hK _ rfl)
    · have h3 : x 3 = .pointer (some ⟨Bv, 2, none⟩) := depsC_get hd 3 (by kernel_rfl)
      exact w_load Tryz.underlying150 rfl rfl (by rw [h3]; rfl) (cell_at hC.2.1 2 (by rw [← hcv]; rfl)) (hK _ rfl)
    · exact wp_load_mid 161 (.tmp 15) rfl B15 0 rfl [.int .i64 q.1, .int .i64 q.2] _ (fun j v hv => cell_at hC.2.2 (0 + j) (by rw [Nat.zero_add, ← Array.getElem?_toList]; exact hv)) Tryz.underlying161 rfl (by kernel_rfl) (hK _ rfl)
    · have h5 : x 5 = .agg #[.int .i64 q.1, .int .i64 q.2] := depsC_get hd 5 (by kernel_rfl)
      refine wp_run (v := .slice (some ⟨wq.heap.size, 0, none⟩) 1 1) (w' := wq.alloc (placeO q)) (by rw [h5]; kernel_rfl) (hK _ _ trivial ⟨wq.heap.size, rfl, ?_⟩)
      have h := Turns.allocIs hS (placeO q)
      exact h.to (perm_of_cnt fun _ => by simp only [cnt_cons, cnt_append, cnt_nil] <;> omega)
    · have h4 : x 4 = fv := depsC_get hd 4 (by kernel_rfl)
      obtain ⟨n, en, hT⟩ := hS
      have hno := hT.sat.memIs (b := n) (o := placeO q) (by simp)
      exact w_append_pl (.tmp 133) (.tmp 135) rfl fv chs (by rw [h4]; rfl) hT hpo (some ⟨n, 0, none⟩) 1 1 (by rw [en]; rfl) [q] rfl (fun _ => ⟨_, rfl, fun j u hu => by
          rw [Addr.add_lit, Nat.zero_add]
          exact cell_at hno j (by rw [← Array.getElem?_toList]; exact hu)⟩) (by simp; omega) (fun v1 w1 h1 h2 => hK _ _ trivial ⟨n, h1, h2⟩)
    · have h0 : x 0 = .pointer (some ⟨Bv, 0, none⟩) := depsC_get hd 0 (by kernel_rfl)
      exact wp_run (by rw [h0]; kernel_rfl) (hK _ rfl)
    · have h8 : x 8 = .pointer (some ⟨Bv, 0, none⟩) := depsC_get hd 8 (by kernel_rfl)
      exact wp_run (by rw [h8]; kernel_rfl) (hK _ rfl)
    · have h9 : x 9 = .pointer (some ⟨Bv, 2, none⟩) := depsC_get hd 9 (by kernel_rfl)
      obtain ⟨n, ho, hT⟩ := hS
      have h1 := place_one ho hT.sat.left
      exact w_store1T 150 (.tmp 138) (.tmp 136) rfl Bv 2 (verCells VV) 152 (x 7) (hT.to (H := (Bv, Is (verO VV)) :: (placeRow (x 7) (chs ++ [q]) ++ ((n, Is (placeO q)) :: (B15, Is (placeO q)) :: (B9, Is (vboxO Bv)) :: Z))) (perm_of_cnt fun _ => by simp only [cnt_cons, cnt_append, cnt_nil] <;> omega)) (by rw [h9]; rfl) rfl (by simp [verCells]) (by kernel_rfl) h1.1 h1.2 (fun w9 h9 => hK _ _ trivial ⟨n, ho, h9⟩)
  case hC =>
    intro vs1 W hlt hS
    match vs1, hS, hlt with
    | [], hT, _ => exact ⟨hT.sat.memIs (by simp), hT.sat.memIs (by simp), hT.sat.memIs (by simp)⟩
    | [_], ⟨_, _, hT⟩, _ => exact ⟨hT.sat.memIs (by simp), hT.sat.memIs (by simp), hT.sat.memIs (by simp)⟩
    | [_, _], ⟨_, _, hT⟩, _ => exact ⟨hT.sat.memIs (by simp), hT.sat.memIs (by simp), hT.sat.memIs (by simp)⟩
    | [_, _, _], _, hlt => exact absurd hlt (Nat.lt_irrefl _)
  case h0 =>
    exact (hT.to (H := placeRow fv chs ++ ((B15, Is (placeO q)) :: (B9, Is (vboxO Bv)) :: (Bv, Is (verO VV)) :: Z)) (perm_of_cnt fun _ => by simp only [cnt_cons, cnt_append, cnt_nil] <;> omega)).drew
  case he =>
    intro x w3 hφ hS
    obtain ⟨n, hok3, hT3⟩ := hS
    exact hk (x 0) (x 1) (x 2) (x 3) (x 4) (x 5) (x 6) (x 7) (x 8) (x 9) w3 hok3 (hT3.drop (fun _ => by simp only [cnt_cons, cnt_append, cnt_nil] <;> omega))
set_option maxHeartbeats 4000000 in
set_option maxRecDepth 100000 in
theorem put26 {lb n : Nat} (F1 Z : HF) (A : World) (B11 : Nat) (rv : Value) (l : List Value) (c : Bs) (csl : Option Addr) (ccap : Nat) {Q : Exit → Act → World → Prop} {w : World} {u0 u1 u2 u3 u4 u5 u6 u7 u8 u9 u10 u12 u13 u15 u16 u17 u18 u19 u20 u21 u22 u23 u24 u25 u26 u27 u28 u29 u30 u31 u32 u33 u34 u35 u36 u37 u38 u39 u40 u41 u42 u43 u44 u45 u46 u47 u48 u49 u50 u51 u52 u53 u54 u55 u56 u57 u58 u59 u60 u61 u62 u63 u64 u65 u66 u67 u68 u69 u70 u71 u72 u73 u74 u75 u76 u77 u78 u79 u80 u81 u82 u83 u84 u85 u86 u87 u88 u89 u90 u91 u92 u93 u94 u95 u96 u97 u98 u99 u100 u101 u102 u103 u104 u105 u106 u107 u108 u109 u110 u111 u112 u113 u114 u115 u116 u117 u118 u119 u120 u121 u122 u123 u124 u125 u126 u127 u128 u129 u130 u131 u132 u133 u134 u135 u136 u137 u138 u139 u140 u141 u142 u143 u144 u145 u146 u147 u148 u149 u150 u151 u152 u153 u154 u155 u156 u157 u158 u159 u160 u161 u162 u163 u164 u165 u166 u167 u168 u169 u170 u171 u172 u173 u174 u175 u176 : Value} {ds : List Deferred} (hT : Turns F1 ((B11, Is (recsO rv)) :: (rowF 38 1 rv l.length l ++ Z)) A w) (hro : RowOk 1 rv l.length l) (hl : l.length ≤ 1000000) (hcc : ∀ W G, Turns F1 G A W → CellsAt W csl (c.map enc8)) (hcl : c.length ≤ 1000000)
    (hQo : ¬ LetsOut Q) (hk : ∀ (y119 y120 y121 y122 y123 : Value) (w' : World), bOk y121 (frame 1 c) → RowOk 1 y123 (l ++ [y121]).length (l ++ [y121]) → Turns F1 ((B11, Is (recsO y123)) :: (rowF 38 1 y123 (l ++ [y121]).length (l ++ [y121]) ++ (bRow y121 (frame 1 c) ++ Z))) A w' → Q .normal { tmps := #[u0, u1, u2, u3, u4, u5, u6, u7, u8, u9, u10, .pointer (some ⟨B11, 0, none⟩), u12, u13, .slice csl c.length ccap, u15, u16, u17, u18, u19, u20, u21, u22, u23, u24, u25, u26, u27, u28, u29, u30, u31, u32, u33, u34, u35, u36, u37, u38, u39, u40, u41, u42, u43, u44, u45, u46, u47, u48, u49, u50, u51, u52, u53, u54, u55, u56, u57, u58, u59, u60, u61, u62, u63, u64, u65, u66, u67, u68, u69, u70, u71, u72, u73, u74, u75, u76, u77, u78, u79, u80, u81, u82, u83, u84, u85, u86, u87, u88, u89, u90, u91, u92, u93, u94, u95, u96, u97, u98, u99, u100, u101, u102, u103, u104, u105, u106, u107, u108, u109, u110, u111, u112, u113, u114, u115, u116, u117, u118, y119, y120, y121, y122, y123, u124, u125, u126, u127, u128, u129, u130, u131, u132, u133, u134, u135, u136, u137, u138, u139, u140, u141, u142, u143, u144, u145, u146, u147, u148, u149, u150, u151, u152, u153, u154, u155, u156, u157, u158, u159, u160, u161, u162, u163, u164, u165, u166, u167, u168, u169, u170, u171, u172, u173, u174, u175, u176], defers := ds } w') :
    (regOf 26 Tryz.f25).wpIn (Fence.wide.inRound lb) n Tryz.prog Q { tmps := #[u0, u1, u2, u3, u4, u5, u6, u7, u8, u9, u10, .pointer (some ⟨B11, 0, none⟩), u12, u13, .slice csl c.length ccap, u15, u16, u17, u18, u19, u20, u21, u22, u23, u24, u25, u26, u27, u28, u29, u30, u31, u32, u33, u34, u35, u36, u37, u38, u39, u40, u41, u42, u43, u44, u45, u46, u47, u48, u49, u50, u51, u52, u53, u54, u55, u56, u57, u58, u59, u60, u61, u62, u63, u64, u65, u66, u67, u68, u69, u70, u71, u72, u73, u74, u75, u76, u77, u78, u79, u80, u81, u82, u83, u84, u85, u86, u87, u88, u89, u90, u91, u92, u93, u94, u95, u96, u97, u98, u99, u100, u101, u102, u103, u104, u105, u106, u107, u108, u109, u110, u111, u112, u113, u114, u115, u116, u117, u118, u119, u120, u121, u122, u123, u124, u125, u126, u127, u128, u129, u130, u131, u132, u133, u134, u135, u136, u137, u138, u139, u140, u141, u142, u143, u144, u145, u146, u147, u148, u149, u150, u151, u152, u153, u154, u155, u156, u157, u158, u159, u160, u161, u162, u163, u164, u165, u166, u167, u168, u169, u170, u171, u172, u173, u174, u175, u176], defers := ds } w := by
  have HM := Lib.hid (show Tryz.prog.follows .mixedOrders = true by kernel_rfl)
  conv => arg 4; whnf
  refine wpIn_region_chainL (A := ?A) (hA := ?hA) HM.out (by kernel_rfl) hQo (phiL [fun v => v = rv, fun v => v = .slice csl c.length ccap, fun _ => True, fun _ => True, fun _ => True, fun _ => True])
    (fun vs1 W => match vs1 with
    | [] => Turns F1 (rowF 38 1 rv l.length l ++ ((B11, Is (recsO rv)) :: Z)) A W
    | [v] => bOk v (frame 1 c) ∧ Turns F1 (rowF 38 1 rv l.length l ++ ((B11, Is (recsO rv)) :: (bRow v (frame 1 c) ++ Z))) A W
    | [v, s] => ∃ n : Nat, bOk v (frame 1 c) ∧ s = .slice (some ⟨n, 0, none⟩) 1 1 ∧ Turns F1 (rowF 38 1 rv l.length l ++ ((B11, Is (recsO rv)) :: (n, Is (rec1O v)) :: (bRow v (frame 1 c) ++ Z))) A W
    | [v, _, u] => ∃ n : Nat, bOk v (frame 1 c) ∧ RowOk 1 u (l ++ [v]).length (l ++ [v]) ∧ Turns F1 (rowF 38 1 u (l ++ [v]).length (l ++ [v]) ++ ((B11, Is (recsO rv)) :: (n, Is (rec1O v)) :: (bRow v (frame 1 c) ++ Z))) A W
    | [v, _, u, _] => ∃ n : Nat, bOk v (frame 1 c) ∧ RowOk 1 u (l ++ [v]).length (l ++ [v]) ∧ Turns F1 ((B11, Is (recsO u)) :: (rowF 38 1 u (l ++ [v]).length (l ++ [v]) ++ ((n, Is (rec1O v)) :: (bRow v (frame 1 c) ++ Z)))) A W
    | _ => False)
    (fun W => (∃ G, Turns F1 G A W) ∧ W.heap[B11]? = some (recsO rv)) [2, 3, 4, 5] ?hC (by kernel_rfl) (by kernel_rfl) (by kernel_rfl) (by decide) (by decide) ?h0 ?hs ?he
  case hA => intro x; simp only [fillFrom, Act.put, List.setIfInBounds_toArray, List.set_cons_zero, List.set_cons_succ, Nat.reduceAdd]; rfl
  case hs =>
    refine ⟨chain_quiet rfl rfl (fun x wq hd hC K hK hKw => ?_), chain_quiet rfl rfl (fun x wq hd hC K hK hKw => ?_), chain_noisy 0 rfl rfl (fun x wq hd hS K hK => ?_), chain_noisy 1 rfl rfl (fun x wq hd hS K hK => ?_), chain_noisy 2 rfl rfl (fun x wq hd hS K hK => ?_), chain_noisy 3 rfl rfl (fun x wq hd hS K hK => ?_), trivial⟩
    · exact w_load Tryz.underlying61 rfl rfl (by rfl) (cell_at hC.2 0 rfl) (hK _ rfl)
    · exact wp_run (by kernel_rfl) (hK _ rfl)
    · have h1 : x 1 = .slice csl c.length ccap := depsC_get hd 1 (by kernel_rfl)
      refine wp_calls (by rw [h1]; kernel_rfl) (Frame_calls 1 csl ccap c wq (hcc wq _ hS) (by omega)) ?_
      rintro e w3 ⟨v3, rfl, hb3, hT3⟩
      refine ⟨_, rfl, hK _ _ trivial ⟨hb3, ?_⟩⟩
      have h := Turns.newIn hS hT3
      exact h.to (perm_of_cnt fun _ => by simp only [cnt_cons, cnt_append, cnt_nil] <;> omega)
    · obtain ⟨hb, hT⟩ := hS
      obtain ⟨-, -, av, cv, hv⟩ := bytes_one hb (hT.sat.sub (G := bRow (x 2) (frame 1 c)) (fun _ => by simp only [cnt_cons, cnt_append, cnt_nil] <;> omega))
      refine wp_run (v := .slice (some ⟨wq.heap.size, 0, none⟩) 1 1) (w' := wq.alloc (rec1O (x 2))) (by rw [hv]; kernel_rfl) (hK _ _ trivial ⟨wq.heap.size, hb, rfl, ?_⟩)
      have h := Turns.allocIs hT (rec1O (x 2))
      exact h.to (perm_of_cnt fun _ => by simp only [cnt_cons, cnt_append, cnt_nil] <;> omega)
    · have h0 : x 0 = rv := depsC_get hd 0 (by kernel_rfl)
      obtain ⟨n, hb, en, hT⟩ := hS
      have hno := hT.sat.memIs (b := n) (o := rec1O (x 2)) (by simp)
      obtain ⟨h1, -, -⟩ := bytes_one hb (hT.sat.sub (G := bRow (x 2) (frame 1 c)) (fun _ => by simp only [cnt_cons, cnt_append, cnt_nil] <;> omega))
      exact w_append_rec (.tmp 119) (.tmp 122) rfl rv l (by rw [h0]; rfl) hT hro n (x 2) (by rw [en]; rfl) h1 (cell_at hno 0 rfl) hl (fun v1 w1 k1 k2 => hK _ _ trivial ⟨n, hb, k1, k2⟩)
    · obtain ⟨n, hb, ho, hT⟩ := hS
      have h1 := row_one hT.sat.left ho
      exact w_store1T 61 (.tmp 11) (.tmp 123) rfl B11 0 #[rv] 61 (x 4) (hT.to (H := (B11, Is (recsO rv)) :: (rowF 38 1 (x 4) (l ++ [(x 2)]).length (l ++ [(x 2)]) ++ ((n, Is (rec1O (x 2))) :: (bRow (x 2) (frame 1 c) ++ Z)))) (perm_of_cnt fun _ => by simp only [cnt_cons, cnt_append, cnt_nil] <;> omega)) rfl rfl (by simp) (by kernel_rfl) h1.1 h1.2 (fun w9 h9 => hK _ _ trivial ⟨n, hb, ho, h9⟩)
  case hC =>
    intro vs1 W hlt hS
    match vs1, hS, hlt with
    | [], hT, _ => exact ⟨⟨_, hT⟩, hT.sat.memIs (by simp)⟩
    | [_], ⟨_, hT⟩, _ => exact ⟨⟨_, hT⟩, hT.sat.memIs (by simp)⟩
    | [_, _], ⟨_, _, _, hT⟩, _ => exact ⟨⟨_, hT⟩, hT.sat.memIs (by simp)⟩
    | [_, _, _], ⟨_, _, _, hT⟩, _ => exact ⟨⟨_, hT⟩, hT.sat.memIs (by simp)⟩
    | [_, _, _, _], _, hlt => exact absurd hlt (Nat.lt_irrefl _)
  case h0 =>
    exact (hT.to (H := rowF 38 1 rv l.length l ++ ((B11, Is (recsO rv)) :: Z)) (perm_of_cnt fun _ => by simp only [cnt_cons, cnt_append, cnt_nil] <;> omega)).drew
  case he =>
    intro x w3 hφ hS
    obtain ⟨n, hb, hok3, hT3⟩ := hS
    exact hk (x 0) (x 1) (x 2) (x 3) (x 4) w3 hb hok3 (hT3.drop (fun _ => by simp only [cnt_cons, cnt_append, cnt_nil] <;> omega))
set_option maxHeartbeats 4000000 in
set_option maxRecDepth 100000 in
theorem put27 {lb n : Nat} (F1 Z : HF) (A : World) (B13 : Nat) (e : Int) (c : Bs) (csl : Option Addr) (ccap : Nat) {Q : Exit → Act → World → Prop} {w : World} {u0 u1 u2 u3 u4 u5 u6 u7 u8 u9 u10 u11 u12 u15 u16 u17 u18 u19 u20 u21 u22 u23 u24 u25 u26 u27 u28 u29 u30 u31 u32 u33 u34 u35 u36 u37 u38 u39 u40 u41 u42 u43 u44 u45 u46 u47 u48 u49 u50 u51 u52 u53 u54 u55 u56 u57 u58 u59 u60 u61 u62 u63 u64 u65 u66 u67 u68 u69 u70 u71 u72 u73 u74 u75 u76 u77 u78 u79 u80 u81 u82 u83 u84 u85 u86 u87 u88 u89 u90 u91 u92 u93 u94 u95 u96 u97 u98 u99 u100 u101 u102 u103 u104 u105 u106 u107 u108 u109 u110 u111 u112 u113 u114 u115 u116 u117 u118 u119 u120 u121 u122 u123 u124 u125 u126 u127 u128 u129 u130 u131 u132 u133 u134 u135 u136 u137 u138 u139 u140 u141 u142 u143 u144 u145 u146 u147 u148 u149 u150 u151 u152 u153 u154 u155 u156 u157 u158 u159 u160 u161 u162 u163 u164 u165 u166 u167 u168 u169 u170 u171 u172 u173 u174 u175 u176 : Value} {ds : List Deferred} (hT : Turns F1 ((B13, Is (intO e)) :: Z) A w) (hcl : c.length ≤ 1000000) (he : -4611686018427387904 ≤ e ∧ e ≤ 4611686018427387904)
    (hQo : ¬ LetsOut Q) (hk : ∀ (y124 y125 y126 y127 y128 : Value) (w' : World), Turns F1 ((B13, Is (intO (e + (c.length + 9)))) :: Z) A w' → Q .normal { tmps := #[u0, u1, u2, u3, u4, u5, u6, u7, u8, u9, u10, u11, u12, .pointer (some ⟨B13, 0, none⟩), .slice csl c.length ccap, u15, u16, u17, u18, u19, u20, u21, u22, u23, u24, u25, u26, u27, u28, u29, u30, u31, u32, u33, u34, u35, u36, u37, u38, u39, u40, u41, u42, u43, u44, u45, u46, u47, u48, u49, u50, u51, u52, u53, u54, u55, u56, u57, u58, u59, u60, u61, u62, u63, u64, u65, u66, u67, u68, u69, u70, u71, u72, u73, u74, u75, u76, u77, u78, u79, u80, u81, u82, u83, u84, u85, u86, u87, u88, u89, u90, u91, u92, u93, u94, u95, u96, u97, u98, u99, u100, u101, u102, u103, u104, u105, u106, u107, u108, u109, u110, u111, u112, u113, u114, u115, u116, u117, u118, u119, u120, u121, u122, u123, y124, y125, y126, y127, y128, u129, u130, u131, u132, u133, u134, u135, u136, u137, u138, u139, u140, u141, u142, u143, u144, u145, u146, u147, u148, u149, u150, u151, u152, u153, u154, u155, u156, u157, u158, u159, u160, u161, u162, u163, u164, u165, u166, u167, u168, u169, u170, u171, u172, u173, u174, u175, u176], defers := ds } w') :
    (regOf 27 Tryz.f25).wpIn (Fence.wide.inRound lb) n Tryz.prog Q { tmps := #[u0, u1, u2, u3, u4, u5, u6, u7, u8, u9, u10, u11, u12, .pointer (some ⟨B13, 0, none⟩), .slice csl c.length ccap, u15, u16, u17, u18, u19, u20, u21, u22, u23, u24, u25, u26, u27, u28, u29, u30, u31, u32, u33, u34, u35, u36, u37, u38, u39, u40, u41, u42, u43, u44, u45, u46, u47, u48, u49, u50, u51, u52, u53, u54, u55, u56, u57, u58, u59, u60, u61, u62, u63, u64, u65, u66, u67, u68, u69, u70, u71, u72, u73, u74, u75, u76, u77, u78, u79, u80, u81, u82, u83, u84, u85, u86, u87, u88, u89, u90, u91, u92, u93, u94, u95, u96, u97, u98, u99, u100, u101, u102, u103, u104, u105, u106, u107, u108, u109, u110, u111, u112, u113, u114, u115, u116, u117, u118, u119, u120, u121, u122, u123, u124, u125, u126, u127, u128, u129, u130, u131, u132, u133, u134, u135, u136, u137, u138, u139, u140, u141, u142, u143, u144, u145, u146, u147, u148, u149, u150, u151, u152, u153, u154, u155, u156, u157, u158, u159, u160, u161, u162, u163, u164, u165, u166, u167, u168, u169, u170, u171, u172, u173, u174, u175, u176], defers := ds } w := by
  have HM := Lib.hid (show Tryz.prog.follows .mixedOrders = true by kernel_rfl)
  conv => arg 4; whnf
  refine wpIn_region_chainL (A := ?A) (hA := ?hA) HM.out (by kernel_rfl) hQo (phiL [fun v => v = .int .i64 e, fun v => v = .slice csl c.length ccap, fun v => v = .int .i64 c.length, fun v => v = .int .i64 (c.length + 9), fun v => v = .int .i64 (e + (c.length + 9)), fun _ => True])
    (fun vs1 W => match vs1 with
    | [] => Turns F1 ((B13, Is (intO e)) :: Z) A W
    | [_] => Turns F1 ((B13, Is (intO (e + (c.length + 9)))) :: Z) A W
    | _ => False)
    (fun W => W.heap[B13]? = some (intO e)) [5] ?hC (by kernel_rfl) (by kernel_rfl) (by kernel_rfl) (by decide) (by decide) ?h0 ?hs ?he
  case hA => intro x; simp only [fillFrom, Act.put, List.setIfInBounds_toArray, List.set_cons_zero, List.set_cons_succ, Nat.reduceAdd]; rfl
  case hs =>
    refine ⟨chain_quiet rfl rfl (fun x wq hd hC K hK hKw => ?_), chain_quiet rfl rfl (fun x wq hd hC K hK hKw => ?_), chain_quiet rfl rfl (fun x wq hd hC K hK hKw => ?_), chain_quiet rfl rfl (fun x wq hd hC K hK hKw => ?_), chain_quiet rfl rfl (fun x wq hd hC K hK hKw => ?_), chain_noisy 0 rfl rfl (fun x wq hd hS K hK => ?_), trivial⟩
    · exact w_load Tryz.underlying3 rfl rfl (by rfl) (cell_at hC 0 rfl) (hK _ rfl)
    · exact wp_run (by kernel_rfl) (hK _ rfl)
    · have h1 : x 1 = .slice csl c.length ccap := depsC_get hd 1 (by kernel_rfl)
      exact wp_run (by rw [h1]; kernel_rfl) (hK _ rfl)
    · have h2 : x 2 = .int .i64 c.length := depsC_get hd 2 (by kernel_rfl)
      refine wp_calls (by rw [h2]; kernel_rfl) (Size_calls c.length (by omega) (by omega) wq) ?_
      rintro e2 w3 ⟨rfl, rfl⟩
      exact ⟨_, rfl, hK _ rfl⟩
    · have h0 : x 0 = .int .i64 e := depsC_get hd 0 (by kernel_rfl)
      have h3 : x 3 = .int .i64 (c.length + 9) := depsC_get hd 3 (by kernel_rfl)
      exact w_bin .add 3 3 (.tmp 124) (.tmp 127) rfl (by rw [h0]; rfl) (by rw [h3]; rfl) (run_addI (by omega) (by omega) wq) rfl (hK _ rfl)
    · have h4 : x 4 = .int .i64 (e + (c.length + 9)) := depsC_get hd 4 (by kernel_rfl)
      exact w_store1T 3 (.tmp 13) (.tmp 128) rfl B13 0 #[.int .i64 e] 3 (.int .i64 (e + (c.length + 9))) hS rfl (by rw [h4]; rfl) (by simp) (by kernel_rfl) rfl rfl (fun w9 h9 => hK _ _ trivial h9)
  case hC =>
    intro vs1 W hlt hS
    match vs1, hS, hlt with
    | [], hT, _ => exact hT.sat.memIs (by simp)
    | [_], _, hlt => exact absurd hlt (Nat.lt_irrefl _)
  case h0 =>
    exact hT.drew
  case he =>
    intro x w3 hφ hS
    exact hk (x 0) (x 1) (x 2) (x 3) (x 4) w3 hS
end Go.Proofs.YtdhobpbngkainaaGreatDoor
/-
  Ours. A round of Put's loop over the chunks (the text is printed by wip/genputbody.py).
-/
namespace Go.Proofs.YtdhobpbngkainaaGreatDoor
open Go.RowKit Go.Maps Go.Shelf
attribute [local go_sem] Oper.semAt_some

set_option maxHeartbeats 4000000 in
set_option maxRecDepth 100000 in
theorem putBody_wp (S : AS) (hok : ArOk S) (D : Bs) (d off n lb : Nat) (B3 B6 B7 B9 B11 B12 B13 Bm Bv num i : Nat) (R0 F : HF) (A : World) (hD : HasBytes A d off D) (hdF : d ∉ dom F) (hi : i < (lensOf D).length) (hDl : D.length ≤ 4000) (hKl : S.K.length ≤ 500000)
    (hJ : PutJ S D B9 B11 B12 B13 Bm Bv num ((B3, Is (boxA S.a)) :: R0) i F) (hF : Sat A F) (a0 : Nat) (l : Bs) {dv : Value} {u4 u5 u8 u10 u15 u16 u17 u18 u19 u20 u21 u22 u23 u24 u25 u26 u27 u28 u29 u30 u31 u32 u33 u34 u35 u36 u37 u38 u39 u40 u41 u42 u43 u44 u45 u46 u47 u48 u49 u50 u51 u52 u53 u54 u55 u56 u57 u58 u59 u60 u61 u62 u63 u64 u65 u66 u67 u68 u69 u70 u71 u72 u73 u74 u75 u76 u77 u78 u79 u80 u81 u82 u83 u84 u86 u87 u88 u89 u90 u91 u92 u93 u94 u95 u96 u97 u98 u99 u100 u101 u102 u103 u104 u105 u106 u107 u108 u109 u110 u111 u112 u113 u114 u115 u116 u117 u118 u119 u120 u121 u122 u123 u124 u125 u126 u127 u128 u129 u130 u131 u132 u133 u134 u135 u136 u137 u138 u139 u140 u141 u142 u143 u144 u145 u146 u147 u148 u149 u150 u151 u152 u153 u154 u155 u156 u157 u158 u159 u160 u161 u162 u163 u164 u165 u166 u167 u168 u169 u170 u171 u172 u173 u174 u175 u176 : Value} :
    putBody.wpIn (Fence.wide.inRound lb) n Tryz.prog (postT (PutJ S D B9 B11 B12 B13 Bm Bv num ((B3, Is (boxA S.a)) :: R0)) i F A) { tmps := #[.pointer (some ⟨a0, 0, none⟩), str l, dv, .pointer (some ⟨B3, 0, none⟩), u4, u5, .pointer (some ⟨B6, 0, none⟩), .pointer (some ⟨B7, 0, none⟩), u8, .pointer (some ⟨B9, 0, none⟩), u10, .pointer (some ⟨B11, 0, none⟩), .pointer (some ⟨B12, 0, none⟩), .pointer (some ⟨B13, 0, none⟩), chunkArg d off D i, u15, u16, u17, u18, u19, u20, u21, u22, u23, u24, u25, u26, u27, u28, u29, u30, u31, u32, u33, u34, u35, u36, u37, u38, u39, u40, u41, u42, u43, u44, u45, u46, u47, u48, u49, u50, u51, u52, u53, u54, u55, u56, u57, u58, u59, u60, u61, u62, u63, u64, u65, u66, u67, u68, u69, u70, u71, u72, u73, u74, u75, u76, u77, u78, u79, u80, u81, u82, u83, u84, chunkArg d off D i, u86, u87, u88, u89, u90, u91, u92, u93, u94, u95, u96, u97, u98, u99, u100, u101, u102, u103, u104, u105, u106, u107, u108, u109, u110, u111, u112, u113, u114, u115, u116, u117, u118, u119, u120, u121, u122, u123, u124, u125, u126, u127, u128, u129, u130, u131, u132, u133, u134, u135, u136, u137, u138, u139, u140, u141, u142, u143, u144, u145, u146, u147, u148, u149, u150, u151, u152, u153, u154, u155, u156, u157, u158, u159, u160, u161, u162, u163, u164, u165, u166, u167, u168, u169, u170, u171, u172, u173, u174, u175, u176], defers := [] } A := by
  obtain ⟨sp, acc, fv, rv, chs, recs, hacc, hAo, hrb, hro, hpo, hcl, hin, hFe⟩ := hJ
  obtain ⟨c, hc⟩ : ∃ c, c = chunkI D i := ⟨_, rfl⟩
  have hcl2 := chunkI_len hi
  rw [← hc] at hcl2
  have hcc := chunkI_cells hD hi
  rw [← hc] at hcc
  obtain ⟨o2, ho2⟩ : ∃ o2, o2 = off + ((lensOf D).take i).sum := ⟨_, rfl⟩
  have harg : chunkArg d off D i = .slice (some ⟨d, o2, none⟩) c.length c.length := by unfold chunkArg; rw [← hcl2, ← ho2]
  rw [← ho2] at hcc
  rw [harg]
  have a3 : A.cell? ⟨B3, 0, none⟩ = some (.pointer (some ⟨S.a, 0, none⟩)) := cell_at (hF.memIs (b := B3) (o := boxA S.a) (by rw [hFe]; simp)) 0 rfl
  have hs : Sat A (areaF S.X.ab S.X.d { S.A with spare := sp } ++ ((B13, Is (intO ((S.data.length + framesLen acc : Nat) : Int))) :: (B12, Is (fmapO Bm)) :: (Bm, Is (mapO str (freshE S.data.length 0 acc) acc.length)) :: (B11, Is (recsO rv)) ::
      (recRow rv recs ++ ((B9, Is (vboxO Bv)) :: (verF ⟨Bv, num, D.length, fv, chs, 0⟩ ++ (((B3, Is (boxA S.a)) :: R0) ++ ((S.a, Is (archO S.X)) :: (devF S.X.d S.L ++ (pathsF S.X.pm S.ps S.pc ++ (tagsF S.X.tm S.ts S.tc ++ chunksF S.X.cm S.cs S.cc)))))))))) := by
    refine hF.perm ?_
    rw [hFe]
    unfold arF
    exact (perm_of_cnt fun _ => by simp only [cnt_cons, cnt_append, cnt_nil] <;> omega)
  obtain ⟨R, hR⟩ : ∃ R, R = ((B13, Is (intO ((S.data.length + framesLen acc : Nat) : Int))) :: (B12, Is (fmapO Bm)) :: (Bm, Is (mapO str (freshE S.data.length 0 acc) acc.length)) :: (B11, Is (recsO rv)) ::
      (recRow rv recs ++ ((B9, Is (vboxO Bv)) :: (verF ⟨Bv, num, D.length, fv, chs, 0⟩ ++ (((B3, Is (boxA S.a)) :: R0) ++ ((S.a, Is (archO S.X)) :: (devF S.X.d S.L ++ (pathsF S.X.pm S.ps S.pc ++ (tagsF S.X.tm S.ts S.tc ++ chunksF S.X.cm S.cs S.cc))))))))) := ⟨_, rfl⟩
  rw [← hR] at hs
  have hdR : d ∉ dom (areaF S.X.ab S.X.d { S.A with spare := sp } ++ R) := fun h => hdF (((dom_perm (show (areaF S.X.ab S.X.d { S.A with spare := sp } ++ R).Perm F by rw [hFe, hR]; unfold arF; exact (perm_of_cnt fun _ => by simp only [cnt_cons, cnt_append, cnt_nil] <;> omega))).mem_iff).1 h)
  have HKn := Lib.hid (known_calls S.a S.X S.X.ab S.X.d rfl { S.A with spare := sp } S.L S.cs S.cc c (some ⟨d, o2, none⟩) c.length R A hs (fun x => by rw [hR]; simp only [cnt_cons, cnt_append]; omega) hok.dev hAo hok.fits hok.nmax hok.chunks hcc
    (fun x hx => by obtain rfl := Option.some.inj hx; exact hdR) (by have := lensOf_sum D; have := take_sum_le (lensOf D) i hi; rw [hcl2]; simp only [List.getD_eq_getElem?_getD, List.getElem?_eq_getElem hi, Option.getD_some]; omega)
    (by have := places_len hok (be (sumOf 1 c) 4); omega) (places_body hok))
  have HH := Lib.hid (And.intro hok (And.intro hD (And.intro hdF (And.intro hF (And.intro hacc (And.intro hAo (And.intro hrb (And.intro hro (And.intro hpo (And.intro hcl (And.intro hin (And.intro hFe (And.intro hc (And.intro hcl2 (And.intro hcc (And.intro ho2 (And.intro hs (And.intro hR hdR))))))))))))))))))
  clear hok hD hdF hF hacc hAo hrb hro hpo hcl hin hFe hc hcl2 hcc ho2 harg hs hR hdR
  conv => arg 4; whnf
  gi_wp2_with fail
  refine ⟨trivial, fun h => by simp [Fence.wide] at h, (calls_in HKn.out).mono ?_⟩
  rintro e w4 ⟨⟨sp2, hAo2, hT2⟩, hres⟩
  obtain ⟨q, okb, rfl, hq1, hq2⟩ : ∃ (q : Nat × Nat) (okb : Bool), e = .returned (.tuple #[.agg #[.int .i64 q.1, .int .i64 q.2], .bool okb, .nilIface]) ∧ (okb = true → (c, q) ∈ S.K) ∧ (okb = false → c ∉ S.K.map (·.1)) := by
    rcases hres with ⟨p, hp, hc, rfl⟩ | ⟨hno, rfl⟩
    · exact ⟨p, true, rfl, fun _ => has_in HH.out.1 hp hc, fun h => by cases h⟩
    · refine ⟨(0, 0), false, rfl, (fun h => by cases h), fun _ hm => ?_⟩
      obtain ⟨e, he, h1⟩ := List.mem_map.1 hm
      obtain ⟨p1, p2⟩ := in_has HH.out.1 (b := c) (q := e.2) (by rw [← h1]; exact he)
      exact hno _ p1 p2
  clear hres
  obtain ⟨F1, hF1⟩ : ∃ F1, F1 = areaF S.X.ab S.X.d { S.A with spare := sp } ++ R := ⟨_, rfl⟩
  obtain ⟨Y, hY⟩ : ∃ Y, Y = areaF S.X.ab S.X.d { S.A with spare := sp2 } ++ (R0 ++ ((S.a, Is (archO S.X)) :: (devF S.X.d S.L ++ (pathsF S.X.pm S.ps S.pc ++ (tagsF S.X.tm S.ts S.tc ++ chunksF S.X.cm S.cs S.cc))))) := ⟨_, rfl⟩
  obtain ⟨VV, hVV⟩ : ∃ VV : VerL, VV = ⟨Bv, num, D.length, fv, chs, 0⟩ := ⟨_, rfl⟩
  obtain ⟨fE, hfE⟩ : ∃ fE, fE = freshE S.data.length 0 acc := ⟨_, rfl⟩
  obtain ⟨nE, hnE⟩ : ∃ nE, nE = acc.length := ⟨_, rfl⟩
  obtain ⟨e13, he13⟩ : ∃ e13 : Nat, e13 = S.data.length + framesLen acc := ⟨_, rfl⟩
  have hT4 : Turns F1 ((B13, Is (intO e13)) :: (B12, Is (fmapO Bm)) :: (Bm, Is (mapO str fE nE)) :: (B11, Is (recsO rv)) :: (B9, Is (vboxO Bv)) :: (Bv, Is (verO VV)) :: (B3, Is (boxA S.a)) :: (recRow rv recs ++ (placeRow fv chs ++ Y))) A w4 := by
    rw [hF1]
    refine hT2.to ?_
    rw [HH.out.2.2.2.2.2.2.2.2.2.2.2.2.2.2.2.2.2.1, hY, hVV, hfE, hnE, he13]
    unfold verF
    exact (perm_of_cnt fun _ => by simp only [cnt_cons, cnt_append, cnt_nil] <;> omega)
  have hdF1 : d ∉ dom F1 := by rw [hF1]; exact HH.out.2.2.2.2.2.2.2.2.2.2.2.2.2.2.2.2.2.2
  have hm0 : MapOk OkS fE nE := by
    rw [hfE, hnE]
    refine freshE_ok (by rw [HH.out.2.2.2.2.1]; exact freshOf_nodup _ _ _ List.nodup_nil) (by rw [HH.out.2.2.2.2.1]; exact acc_ok hDl) _
  obtain ⟨f, th, hg1, hg2, hg3, hg4⟩ : ∃ (f : Nat × Nat) (th : Bool), (getE fE c).getD (.agg #[.int .i64 0, .int .i64 0]) = .agg #[.int .i64 f.1, .int .i64 f.2] ∧ hasE fE c = th ∧ (th = true → (c, f) ∈ placed S.data.length acc ∧ c ∈ acc) ∧ (th = false → c ∉ acc) := by
    rw [hfE, freshE_has]
    by_cases hm : c ∈ acc
    · obtain ⟨f, h1, h2⟩ := freshE_get (at_ := S.data.length) (b := 0) hm
      exact ⟨f, true, by rw [h2]; rfl, decide_eq_true hm, fun _ => ⟨h1, hm⟩, fun h => by cases h⟩
    · refine ⟨(0, 0), false, ?_, decide_eq_false hm, (fun h => by cases h), fun _ => hm⟩
      have := freshE_has acc S.data.length 0 c
      rw [decide_eq_false hm, hasE_get] at this
      cases hg : getE (freshE S.data.length 0 acc) c with
      | none => rfl
      | some v => rw [hg] at this; cases this
  have hl4 : ∀ k, k ∈ dom ((B13, Is (intO e13)) :: (B12, Is (fmapO Bm)) :: (Bm, Is (mapO str fE nE)) :: (B11, Is (recsO rv)) :: (B9, Is (vboxO Bv)) :: (Bv, Is (verO VV)) :: (B3, Is (boxA S.a)) :: (recRow rv recs ++ (placeRow fv chs ++ Y))) → k < w4.heap.size := fun k hk => hT4.sat.lt hk
  have l9 := hl4 B9 (by simp)
  have l11 := hl4 B11 (by simp)
  have l12 := hl4 B12 (by simp)
  have l13 := hl4 B13 (by simp)
  have lv := hl4 Bv (by simp)
  have b12 : w4.cell? ⟨B12, 0, none⟩ = some (.map (some Bm)) := cell_at (hT4.sat.memIs (b := B12) (o := fmapO Bm) (by simp)) 0 rfl
  have b13 : w4.cell? ⟨B13, 0, none⟩ = some (.int .i64 e13) := cell_at (hT4.sat.memIs (b := B13) (o := intO e13) (by simp)) 0 rfl
  have hT5 : Turns F1 ((w4.heap.size, Is (placeO q)) :: ((B13, Is (intO e13)) :: (B12, Is (fmapO Bm)) :: (Bm, Is (mapO str fE nE)) :: (B11, Is (recsO rv)) :: (B9, Is (vboxO Bv)) :: (Bv, Is (verO VV)) :: (B3, Is (boxA S.a)) :: (recRow rv recs ++ (placeRow fv chs ++ Y)))) A (w4.alloc (.cells #[.int .i64 q.1, .int .i64 q.2] 161)) := hT4.allocIs (placeO q)
  have hbm5 := hT5.sat.memIs (b := Bm) (o := mapO str fE nE) (by simp)
  have hcv := bytes_str c.length (HH.out.2.2.2.2.2.2.2.2.2.2.2.2.2.2.1.turnsOld hT5 (fun x hx => by obtain rfl := Option.some.inj hx; exact hdF1))
  have hzp : (zeroValue 161).run Tryz.prog (w4.alloc (.cells #[.int .i64 q.1, .int .i64 q.2] 161)) = .ok (.agg #[.int .i64 0, .int .i64 0]) (w4.alloc (.cells #[.int .i64 q.1, .int .i64 q.2] 161)) := by kernel_rfl
  have hT6 : ∀ x : Nat × Nat, Turns F1 ((w4.heap.size + 1, Is (placeO f)) :: (w4.heap.size, Is (placeO x)) :: ((B13, Is (intO e13)) :: (B12, Is (fmapO Bm)) :: (Bm, Is (mapO str fE nE)) :: (B11, Is (recsO rv)) :: (B9, Is (vboxO Bv)) :: (Bv, Is (verO VV)) :: (B3, Is (boxA S.a)) :: (recRow rv recs ++ (placeRow fv chs ++ Y)))) A ((w4.alloc (.cells #[.int .i64 x.1, .int .i64 x.2] 161)).alloc (.cells #[.int .i64 f.1, .int .i64 f.2] 161)) := fun x => by
    have := (hT4.allocIs (placeO x)).allocIs (placeO f)
    rw [World.size_alloc] at this
    exact this
  have hcm : c ∈ chunksOf D := by
    have := chunksOf_snoc hi
    rw [← HH.out.2.2.2.2.2.2.2.2.2.2.2.2.1] at this
    exact List.mem_of_mem_take (i := i + 1) (by rw [this]; simp)
  have hOkc : OkS c := by have := chunksOf_mem hcm; unfold OkS; omega
  have hcv2 := bytes_str c.length (HH.out.2.2.2.2.2.2.2.2.2.2.2.2.2.2.1.turnsOld (hT6 (e13, c.length)) (fun x hx => by obtain rfl := Option.some.inj hx; exact hdF1))
  have hFp : F1.Perm F := by rw [hF1, HH.out.2.2.2.2.2.2.2.2.2.2.2.1, HH.out.2.2.2.2.2.2.2.2.2.2.2.2.2.2.2.2.2.1]; unfold arF; exact (perm_of_cnt fun _ => by simp only [cnt_cons, cnt_append, cnt_nil] <;> omega)
  have hlt : ((chunksOf D).take i).length = chs.length := by
    rw [List.length_take, chunksOf_len, HH.out.2.2.2.2.2.2.2.2.2.1]; omega
  have hcl : chs.length ≤ 4000 := by
    rw [HH.out.2.2.2.2.2.2.2.2.2.1]; have := lensOf_length_le D; omega
  have hal2 : acc.length ≤ 4000 := by
    rw [HH.out.2.2.2.2.1]
    have h1 := freshOf_len (S.K.map (·.1)) ((chunksOf D).take i) []
    rw [List.length_take, chunksOf_len] at h1
    have := lensOf_length_le D
    simp at h1; omega
  have hrl : (recs.map (·.val)).length = acc.length := by
    have := congrArg List.length HH.out.2.2.2.2.2.2.1
    simpa using this
  have hdl := HH.out.1.dat.2
  have hnn := HH.out.1.nmax
  have hfit := HH.out.1.fits
  have he13b : e13 ≤ 1099511627776 := by
    rw [he13]
    have h2 := framesLen_le acc 4000 (fun x hx => by
      rw [HH.out.2.2.2.2.1] at hx
      rcases freshOf_sub _ _ _ x hx with h | ⟨h, _⟩
      · simp at h
      · have := chunksOf_mem (List.mem_of_mem_take h); omega)
    have h3 : acc.length * (4000 + 9) ≤ 4000 * (4000 + 9) := Nat.mul_le_mul_right _ hal2
    omega
  have HB := Lib.hid (And.intro hT6 (And.intro hdF1 (And.intro hm0 (And.intro hg1 (And.intro hg2 (And.intro hbm5 (And.intro hzp hOkc)))))))
  have HE := Lib.hid (And.intro hF1 (And.intro hY (And.intro hVV (And.intro hfE (And.intro hnE (And.intro he13 (And.intro hAo2 (And.intro hq1 (And.intro hq2 (And.intro hg3 hg4))))))))))
  have HF2 := Lib.hid (And.intro hFp (And.intro hlt (And.intro hcl (And.intro hal2 (And.intro hrl (And.intro he13b hcm))))))
  clear hF1 hY hVV hfE hnE he13 hAo2 hq1 hq2 hg3 hg4 hT4 hT5 hT6 hdF1 hm0 hg1 hg2 hT2 hbm5 hzp hl4 hOkc hFp hlt hcl hal2 hrl he13b hcm hdl hnn hfit
  have FIN : ∀ (w6 : World) (q6 : Nat × Nat) (acc' : List Bs) (rv' y : Value) (recs' : List RecL) (Z : HF), acc' = freshOf (S.K.map (·.1)) [] ((chunksOf D).take (i + 1)) → (∀ e ∈ placed S.data.length acc, e ∈ placed S.data.length acc') → (c, q6) ∈ S.K ++ placed S.data.length acc' → recs'.map (·.bytes) = acc'.map (frame 1) → recOk rv' recs' →
      placeOk y (chs ++ [q6]) → Turns F1 ((Bv, Is (.cells ((verCells VV).setIfInBounds 2 y) 152 (0, 0))) :: (w4.heap.size, Is (placeO q6)) :: (B9, Is (vboxO Bv)) :: (placeRow y (chs ++ [q6]) ++ Z)) A w6 →
      (∀ x, cnt x ((B13, Is (intO ((S.data.length + framesLen acc' : Nat) : Int))) :: (B12, Is (fmapO Bm)) :: (Bm, Is (mapO str (freshE S.data.length 0 acc') acc'.length)) :: (B11, Is (recsO rv')) :: (B3, Is (boxA S.a)) :: (recRow rv' recs' ++ Y)) ≤ cnt x Z) →
      ∃ F', PutJ S D B9 B11 B12 B13 Bm Bv num ((B3, Is (boxA S.a)) :: R0) (i + 1) F' ∧ Turns F F' A w6 := by
    intro w6 q6 acc' rv' y recs' Z h1 h2 h3 h4 h5 h6 h7 h8
    refine ⟨_, ⟨sp2, acc', y, rv', chs ++ [q6], recs', h1, HE.out.2.2.2.2.2.2.1, h4, h5, h6, by rw [List.length_append, HH.out.2.2.2.2.2.2.2.2.2.1]; rfl, ?_, rfl⟩, ?_⟩
    · rw [chunksOf_snoc hi, ← HH.out.2.2.2.2.2.2.2.2.2.2.2.2.1]
      exact put_in HF2.out.2.1 HH.out.2.2.2.2.2.2.2.2.2.2.1 (fun e he => by
        rcases List.mem_append.1 he with h | h
        · exact List.mem_append_left _ h
        · exact List.mem_append_right _ (h2 e h)) h3
    · refine (h7.drop (fun x => ?_)).perm HF2.out.1 (List.Perm.refl _)
      have := h8 x
      rw [HE.out.2.1] at this
      have e : verO ⟨Bv, num, D.length, y, chs ++ [q6], 0⟩ = .cells ((verCells VV).setIfInBounds 2 y) 152 (0, 0) := by rw [HE.out.2.2.1]; rfl
      unfold verF arF
      rw [e]
      simp only [cnt_cons, cnt_append, cnt_nil] at this ⊢
      omega
  have HFIN := Lib.hid FIN
  clear FIN
  gi_wp2_with (first
    | (refine wpListIn_of_wp rfl rfl (w_lookOk strEnc (.tmp 97) (.tmp 99) rfl Tryz.underlying154 HB.out.2.2.2.2.2.1 HB.out.2.2.1 HB.out.2.2.2.2.2.2.1 c rfl rfl HB.out.2.2.2.2.2.2.2 ?_); rw [HB.out.2.2.2.1, HB.out.2.2.2.2.1])
    | (refine wpListIn_of_wp rfl rfl (w_mapUpT strEnc (.tmp 115) (.tmp 117) (.tmp 118) rfl Tryz.underlying154 Bm fE nE ((HB.out.1 (e13, c.length)).to (H := (Bm, Is (mapO str fE nE)) :: ((w4.heap.size + 1, Is (placeO f)) :: (w4.heap.size, Is (placeO (e13, c.length))) :: (B13, Is (intO e13)) :: (B12, Is (fmapO Bm)) :: (B11, Is (recsO rv)) :: (B9, Is (vboxO Bv)) :: (Bv, Is (verO VV)) :: (B3, Is (boxA S.a)) :: (recRow rv recs ++ (placeRow fv chs ++ Y)))) (perm_of_cnt fun _ => by simp only [cnt_cons, cnt_append, cnt_nil] <;> omega)) HB.out.2.2.1 c (placeVal (e13, c.length)) rfl rfl rfl HB.out.2.2.2.2.2.2.2 ?_); intro w6 hT7; simp only [Act.put]))
  · rename_i h1 h2
    refine put28 F1 ((w4.heap.size + 1, Is (placeO f)) :: (B13, Is (intO e13)) :: (B12, Is (fmapO Bm)) :: (Bm, Is (mapO str fE nE)) :: (B11, Is (recsO rv)) :: (B3, Is (boxA S.a)) :: (recRow rv recs ++ Y)) A w4.heap.size B9 Bv VV f fv chs ((HB.out.1 f).to (perm_of_cnt fun _ => by simp only [cnt_cons, cnt_append, cnt_nil] <;> omega)) HH.out.2.2.2.2.2.2.2.2.1 (by rw [HE.out.2.2.1]) (by have := HF2.out.2.2.1; omega) (fun ⟨_, _, h⟩ => h) ?_
    intro _ _ _ _ _ _ _ _ _ _ w7 hpo7 hT7
    refine HFIN.out w7 f acc rv _ recs _ ?_ (fun _ h => h) (List.mem_append_right _ (HE.out.2.2.2.2.2.2.2.2.2.1 h1).1) HH.out.2.2.2.2.2.2.1 HH.out.2.2.2.2.2.2.2.1 hpo7 hT7 (fun x => by rw [← HE.out.2.2.2.1, ← HE.out.2.2.2.2.1, ← HE.out.2.2.2.2.2.1]; simp only [cnt_cons, cnt_append, cnt_nil]; omega)
    rw [chunksOf_snoc hi, freshOf_snoc, ← HH.out.2.2.2.2.2.2.2.2.2.2.2.2.1, ← HH.out.2.2.2.2.1, if_pos (.inr (HE.out.2.2.2.2.2.2.2.2.2.1 h1).2)]
  · rename_i h1 h2
    refine put28 F1 ((w4.heap.size + 1, Is (placeO f)) :: (B13, Is (intO e13)) :: (B12, Is (fmapO Bm)) :: (Bm, Is (mapO str fE nE)) :: (B11, Is (recsO rv)) :: (B3, Is (boxA S.a)) :: (recRow rv recs ++ Y)) A w4.heap.size B9 Bv VV q fv chs ((HB.out.1 q).to (perm_of_cnt fun _ => by simp only [cnt_cons, cnt_append, cnt_nil] <;> omega)) HH.out.2.2.2.2.2.2.2.2.1 (by rw [HE.out.2.2.1]) (by have := HF2.out.2.2.1; omega) (fun ⟨_, _, h⟩ => h) ?_
    intro _ _ _ _ _ _ _ _ _ _ w7 hpo7 hT7
    refine HFIN.out w7 q acc rv _ recs _ ?_ (fun _ h => h) (List.mem_append_left _ (HE.out.2.2.2.2.2.2.2.1 (by simpa using h2))) HH.out.2.2.2.2.2.2.1 HH.out.2.2.2.2.2.2.2.1 hpo7 hT7 (fun x => by rw [← HE.out.2.2.2.1, ← HE.out.2.2.2.2.1, ← HE.out.2.2.2.2.2.1]; simp only [cnt_cons, cnt_append, cnt_nil]; omega)
    rw [chunksOf_snoc hi, freshOf_snoc, ← HH.out.2.2.2.2.2.2.2.2.2.2.2.2.1, ← HH.out.2.2.2.2.1, if_pos (.inl (List.mem_map.2 ⟨_, HE.out.2.2.2.2.2.2.2.1 (by simpa using h2), rfl⟩))]
  · rename_i h1 K1 k1 h2 K2 k2
    have hn1 := HE.out.2.2.2.2.2.2.2.2.2.2 (by simpa using h1)
    have hn2 := HE.out.2.2.2.2.2.2.2.2.1 (by simpa using h2)
    have hput := freshE_put (at_ := S.data.length) hn1
    refine put26 F1 ((w4.heap.size + 1, Is (placeO f)) :: (w4.heap.size, Is (placeO (e13, c.length))) :: (B13, Is (intO e13)) :: (B12, Is (fmapO Bm)) :: (Bm, Is (mapO str (putE fE nE c (placeVal (e13, c.length))) (putC fE nE c))) :: (B9, Is (vboxO Bv)) :: (Bv, Is (verO VV)) :: (B3, Is (boxA S.a)) :: ((recs.flatMap fun r => bRow r.val r.bytes) ++ (placeRow fv chs ++ Y))) A B11 rv (recs.map (·.val)) c (some ⟨d, o2, none⟩) c.length (hT7.to (by unfold recRow; exact (perm_of_cnt fun _ => by simp only [cnt_cons, cnt_append, cnt_nil] <;> omega))) HH.out.2.2.2.2.2.2.2.1.1 (by have := HF2.out.2.2.2.2.1; have := HF2.out.2.2.2.1; omega) (fun W G hG => HH.out.2.2.2.2.2.2.2.2.2.2.2.2.2.2.1.turnsOld hG (fun x hx => by obtain rfl := Option.some.inj hx; exact HB.out.2.1)) (by have := chunksOf_mem HF2.out.2.2.2.2.2.2; omega) (fun ⟨_, _, h⟩ => h) ?_
    intro _ _ fv2 _ rv2 w8 hb8 hr8 hT8
    have HR8 := Lib.hid (And.intro hb8 (And.intro hr8 (And.intro hT8 (And.intro hn1 (And.intro hn2 hput)))))
    clear hb8 hr8 hT8 hT7 hn1 hn2 hput
    gi_wp2_with fail
    refine put27 F1 ((w4.heap.size + 1, Is (placeO f)) :: (w4.heap.size, Is (placeO (e13, c.length))) :: (B12, Is (fmapO Bm)) :: (Bm, Is (mapO str (putE fE nE c (placeVal (e13, c.length))) (putC fE nE c))) :: (B11, Is (recsO rv2)) :: (B9, Is (vboxO Bv)) :: (Bv, Is (verO VV)) :: (B3, Is (boxA S.a)) :: (rowF 38 1 rv2 (recs.map (·.val) ++ [fv2]).length (recs.map (·.val) ++ [fv2]) ++ (bRow fv2 (frame 1 c) ++ ((recs.flatMap fun r => bRow r.val r.bytes) ++ (placeRow fv chs ++ Y))))) A B13 e13 c (some ⟨d, o2, none⟩) c.length (HR8.out.2.2.1.to (perm_of_cnt fun _ => by simp only [cnt_cons, cnt_append, cnt_nil] <;> omega)) (by have := chunksOf_mem HF2.out.2.2.2.2.2.2; omega) (by have := HF2.out.2.2.2.2.2.1; omega) (fun ⟨_, _, h⟩ => h) ?_
    intro _ _ _ _ _ w9 hT9
    have HR9 := Lib.hid hT9
    clear hT9
    gi_wp2_with fail
    refine put28 F1 ((w4.heap.size + 1, Is (placeO f)) :: (B13, Is (intO (e13 + (c.length + 9)))) :: (B12, Is (fmapO Bm)) :: (Bm, Is (mapO str (putE fE nE c (placeVal (e13, c.length))) (putC fE nE c))) :: (B11, Is (recsO rv2)) :: (B3, Is (boxA S.a)) :: (rowF 38 1 rv2 (recs.map (·.val) ++ [fv2]).length (recs.map (·.val) ++ [fv2]) ++ (bRow fv2 (frame 1 c) ++ ((recs.flatMap fun r => bRow r.val r.bytes) ++ Y)))) A w4.heap.size B9 Bv VV (e13, c.length) fv chs (HR9.out.to (perm_of_cnt fun _ => by simp only [cnt_cons, cnt_append, cnt_nil] <;> omega)) HH.out.2.2.2.2.2.2.2.2.1 (by rw [HE.out.2.2.1]) (by have := HF2.out.2.2.1; omega) (fun ⟨_, _, h⟩ => h) ?_
    intro _ _ _ _ _ _ _ _ _ _ w7 hpo7 hT7
    refine HFIN.out w7 (e13, c.length) (acc ++ [c]) rv2 _ (recs ++ [⟨fv2, frame 1 c⟩]) _ ?_ (fun e h => by rw [placed_snoc]; exact List.mem_append_left _ h) ?_ ?_ ?_ hpo7 hT7 (fun x => ?_)
    · rw [chunksOf_snoc hi, freshOf_snoc, ← HH.out.2.2.2.2.2.2.2.2.2.2.2.2.1, ← HH.out.2.2.2.2.1, if_neg (fun h => h.elim HR8.out.2.2.2.2.1 HR8.out.2.2.2.1)]
    · rw [placed_snoc, HE.out.2.2.2.2.2.1]
      exact List.mem_append_right _ (List.mem_append_right _ (by simp))
    · rw [List.map_append, List.map_append, HH.out.2.2.2.2.2.2.1]; rfl
    · refine ⟨by rw [List.map_append]; exact HR8.out.2.1, fun r hr => ?_⟩
      rcases List.mem_append.1 hr with h | h
      · exact HH.out.2.2.2.2.2.2.2.1.2 r h
      · simp only [List.mem_singleton] at h; subst h; exact HR8.out.1
    · have e1 := HR8.out.2.2.2.2.2.1
      have e2 := HR8.out.2.2.2.2.2.2
      rw [← HE.out.2.2.2.2.2.1, ← HE.out.2.2.2.1, ← HE.out.2.2.2.2.1] at e1
      rw [← HE.out.2.2.2.1, ← HE.out.2.2.2.2.1] at e2
      have e3 : ((S.data.length + framesLen (acc ++ [c]) : Nat) : Int) = (e13 : Int) + (c.length + 9) := by rw [framesLen_snoc, HE.out.2.2.2.2.2.1]; omega
      rw [e1, e2, e3]
      unfold recRow
      simp only [List.map_append, List.flatMap_append, List.flatMap_cons, List.flatMap_nil, List.append_nil, List.map_cons, List.map_nil, cnt_cons, cnt_append, cnt_nil]
      omega
  · rename_i h1 h2
    refine put28 F1 ((w4.heap.size + 1, Is (placeO f)) :: (B13, Is (intO e13)) :: (B12, Is (fmapO Bm)) :: (Bm, Is (mapO str fE nE)) :: (B11, Is (recsO rv)) :: (B3, Is (boxA S.a)) :: (recRow rv recs ++ Y)) A w4.heap.size B9 Bv VV q fv chs ((HB.out.1 q).to (perm_of_cnt fun _ => by simp only [cnt_cons, cnt_append, cnt_nil] <;> omega)) HH.out.2.2.2.2.2.2.2.2.1 (by rw [HE.out.2.2.1]) (by have := HF2.out.2.2.1; omega) (fun ⟨_, _, h⟩ => h) ?_
    intro _ _ _ _ _ _ _ _ _ _ w7 hpo7 hT7
    refine HFIN.out w7 q acc rv _ recs _ ?_ (fun _ h => h) (List.mem_append_left _ (HE.out.2.2.2.2.2.2.2.1 (by simpa using h2))) HH.out.2.2.2.2.2.2.1 HH.out.2.2.2.2.2.2.2.1 hpo7 hT7 (fun x => by rw [← HE.out.2.2.2.1, ← HE.out.2.2.2.2.1, ← HE.out.2.2.2.2.2.1]; simp only [cnt_cons, cnt_append, cnt_nil]; omega)
    rw [chunksOf_snoc hi, freshOf_snoc, ← HH.out.2.2.2.2.2.2.2.2.2.2.2.2.1, ← HH.out.2.2.2.2.1, if_pos (.inl (List.mem_map.2 ⟨_, HE.out.2.2.2.2.2.2.2.1 (by simpa using h2), rfl⟩))]
end Go.Proofs.YtdhobpbngkainaaGreatDoor
