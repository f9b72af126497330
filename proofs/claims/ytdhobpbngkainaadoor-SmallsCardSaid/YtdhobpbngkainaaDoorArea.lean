/-
  Ours. Half of a device: its blocks; New; All.
-/
import Derived.Test.YtdhobpbngkainaaDoorDev2
import Derived.Test.YtdhobpbngkainaaDoorFrame
import Derived.Conc.SmallLaws
namespace Go.Proofs.YtdhobpbngkainaaDoor
open Go.RowKit

theorem wpList_build_is {P : Program} {ops : Array Oper} {rest : List Oper} {o : Oper} {a : Act} {w : World} {Q : Exit → Act → World → Prop} (hg : o.guard = none) (t : TypeId) (parts : Array (Nat × Operand)) (ho : o.op = .build t parts) (cells : Array Value)
    (hc : P.built t (parts.map fun (i, x) => (i, a.eval x)).toList = some cells) (h : wpList P ops Q rest (a.put o.dst (.agg cells)) w) : wpList P ops Q (o :: rest) a w :=
  wpList_plain hg fun _ hK => wp_build_is t parts ho cells hc (hK _ _ h)
structure AreaL where
  first : Nat
  count : Nat
  end_ : Nat
  tail : Bs
  ch : Nat
  spare : List (Nat × Nat × Nat)
def spareV (s : Nat × Nat × Nat) : Value := .slice (some ⟨s.1, 0, none⟩) s.2.1 s.2.2
def spareF (l : List (Nat × Nat × Nat)) : HF := l.map fun s => (s.1, fun o => ∃ cur : Array Value, o = .cells cur 5 (0, 0) ∧ cur.size = s.2.2)
def areaCells (d : Nat) (A : AreaL) : Array Value := #[.pointer (some ⟨d, 0, none⟩), .int .i64 A.first, .int .i64 A.count, .int .i64 A.end_] ++ row8 A.tail ++ #[.chan (some A.ch)]
def areaF (ab d : Nat) (A : AreaL) : HF :=
  (ab, Is (.cells (areaCells d A) 78 (0, 0))) :: (A.ch, fun o => ∃ s r, o = .chan 2 (A.spare.map spareV).toArray false s r false) :: spareF A.spare
structure AreaOk (A : AreaL) : Prop where
  tail : A.tail.length = 128
  few : A.spare.length ≤ 2
  caps : ∀ s ∈ A.spare, s.2.1 ≤ s.2.2 ∧ s.2.2 ≤ maxLen

theorem zeroArea (w : World) : (zeroValue 78).run Tryd.prog w = .ok (.agg (#[.pointer none, .int .i64 0, .int .i64 0, .int .i64 0] ++ row8 (zeros 128) ++ #[.chan none])) w := by kernel_rfl
def zareaA : Array Value := #[.pointer none, .int .i64 0, .int .i64 0, .int .i64 0] ++ row8 (zeros 128) ++ #[.chan none]

def NewAreaPost (d : Nat) (first count : Nat) (w : World) (e : Ending) (w' : World) : Prop :=
  ∃ ab ch, e = .returned (.pointer (some ⟨ab, 0, none⟩)) ∧ Turns [] (areaF ab d ⟨first, count, 0, zeros 128, ch, []⟩) w w'
theorem zareaA_eq : zareaA = (Value.pointer none :: .int .i64 0 :: .int .i64 0 :: .int .i64 0 :: ((zeros 128).map enc8 ++ [Value.chan none])).toArray := by
  simp [zareaA, row8]
set_option maxRecDepth 100000 in
theorem build_area (p a b c : Value) (hp : p.cells = #[p]) (ha : a.cells = #[a]) (hb : b.cells = #[b]) (hc : c.cells = #[c]) :
    Tryd.prog.built 78 [(0, p), (1, a), (2, b), (5, c)] = some (#[p, a, b, .int .i64 0] ++ row8 (zeros 128) ++ #[c]) := by
  have e : Tryd.prog.built 78 [(0, p), (1, a), (2, b), (5, c)] = Instr.fill (#[(0, 1), (1, 1), (2, 1), (3, 1), (4, 128), (132, 1)][·]?) zareaA [(0, p), (1, a), (2, b), (5, c)] := by kernel_rfl
  rw [e, zareaA_eq]
  have hz : ((zeros 128).map enc8).length = 128 := by rw [List.length_map, zeros_length]
  have hr : row8 (zeros 128) = ((zeros 128).map enc8).toArray := rfl
  rw [hr]
  generalize (zeros 128).map enc8 = Z at hz ⊢
  rw [fill_step _ _ 0 p 0 1 _ rfl (by rw [hp]; rfl) (by simp)]
  rw [fill_step _ _ 1 a 1 1 _ rfl (by rw [ha]; rfl) (by simp [spl, hp])]
  rw [fill_step _ _ 2 b 2 1 _ rfl (by rw [hb]; rfl) (by simp [spl, hp, ha])]
  have e3 : spl (spl (spl (Value.pointer none :: .int .i64 0 :: .int .i64 0 :: .int .i64 0 :: (Z ++ [Value.chan none])) 0 p.cells.toList) 1 a.cells.toList) 2 b.cells.toList = p :: a :: b :: .int .i64 0 :: (Z ++ [Value.chan none]) := by
    simp [spl, hp, ha, hb]
  rw [e3, fill_step _ _ 5 c 132 1 _ rfl (by rw [hc]; rfl) (by simp [hz])]
  have e4 : spl (p :: a :: b :: Value.int .i64 0 :: (Z ++ [Value.chan none])) 132 c.cells.toList = p :: a :: b :: .int .i64 0 :: (Z ++ [c]) := by
    have : (132 : Nat) = Z.length + 4 := by omega
    simp [spl, hc, this]
  rw [e4]
  simp [Instr.fill]
theorem infoBs : (Tryd.prog.info? 52).map (fun i => i.bytes) = some 24 := by kernel_rfl
theorem mkChan (w : World) : (Instr.makeChan 76 (.int .i64 2)).run Tryd.prog w = .ok (.chan (some w.heap.size)) (w.alloc (.chan 2 #[] false 0 0 false)) := by
  have h := infoBs
  cases hi : Tryd.prog.info? 52 with
  | none => rw [hi] at h; simp at h
  | some i =>
    rw [hi] at h
    have hb : i.bytes = 24 := by simpa using h
    simpa using Conc.run_makeChan (P := Tryd.prog) (w := w) Tryd.underlying76 hi .i64 2 (by omega) (by rw [hb]; omega)
set_option maxHeartbeats 1000000 in
set_option maxRecDepth 100000 in
theorem NewArea_calls (d first count : Nat) (w : World) : Calls Tryd.prog 21 #[.pointer (some ⟨d, 0, none⟩), .int .i64 first, .int .i64 count] w (NewAreaPost d first count w) := by
  have hm := mkChan
  have hb := build_area (.pointer (some ⟨d, 0, none⟩)) (.int .i64 first) (.int .i64 count) (.chan (some w.heap.size)) rfl rfl rfl rfl
  have HB : Hid (Tryd.prog.built 78 [(0, .pointer (some ⟨d, 0, none⟩)), (1, .int .i64 first), (2, .int .i64 count), (5, .chan (some w.heap.size))] = some (areaCells d ⟨first, count, 0, zeros 128, w.heap.size, []⟩)) := Lib.hid hb
  clear hb
  go_enter Tryd.func21, Tryd.ntmps21
  go_wp2_with (refine wpList_build_is rfl 78 _ rfl (areaCells d ⟨first, count, 0, zeros 128, w.heap.size, []⟩) (by simp only [List.map_toArray, List.map_cons, List.map_nil]; exact HB.out) ?_)
  go_ret
  refine ⟨w.heap.size + 1, w.heap.size, rfl, ?_⟩
  show Turns [] _ w ((w.alloc (.chan 2 #[] false 0 0 false)).alloc (.cells (areaCells d ⟨first, count, 0, zeros 128, w.heap.size, []⟩) 78))
  have h := ((Turns.refl (Sat.nil w)).allocIn (φ := fun o => ∃ s r, o = .chan 2 #[] false s r false) (o := .chan 2 #[] false 0 0 false) ⟨0, 0, rfl⟩).allocIs (.cells (areaCells d ⟨first, count, 0, zeros 128, w.heap.size, []⟩) 78)
  simp only [World.size_alloc] at h
  exact h

/-! ### All -/
theorem cell_same {w w' : World} (hs : Same w w') {a : Addr} {v : Value} (h : w.cell? a = some v) : w'.cell? a = some v := (World.cell?_of_block (w := w) (hs.block a.block (World.block_lt_of_cell? w _ h) id)).trans h
theorem there_same {w w' : World} (hs : Same w w') {b o n : Nat} (h : w.there b o n) : w'.there b o n := fun j hj => by
  obtain ⟨h1, h2⟩ := h j hj
  obtain ⟨u, hu⟩ := Option.isSome_iff_exists.1 h1
  have hb := World.block_lt_of_cell? w _ hu
  have he := hs.block b hb id
  exact ⟨by rw [cell_same hs hu]; rfl, by rw [← h2]; simp [World.frozen?, he]⟩
theorem secA {wr w2 : World} (hs : Same wr w2) {s : Bs} (hl : s.length = 128) : ((w2.alloc (.cells zsec 64)).setCells w2.heap.size 0 (s.map enc8)).heap[w2.heap.size]? = some (.cells (row8 s) 64 (0, 0)) ∧
    Same wr ((w2.alloc (.cells zsec 64)).setCells w2.heap.size 0 (s.map enc8)) := by
  obtain ⟨h1, h2⟩ := setCells_sec (alloc_new w2 (.cells (row8 (zeros 128)) 64)) (s := s) (by rw [hl, zeros_length])
  exact ⟨h1, ((hs.alloc _)).trans' h2 (fun i hi => .inr (by have := hs.size; omega))⟩
theorem secB {wr w2 : World} (hs : Same (wr.alloc (.cells zsec 64)) w2) {s : Bs} (hl : s.length = 128) : (w2.setCells wr.heap.size 0 (s.map enc8)).heap[wr.heap.size]? = some (.cells (row8 s) 64 (0, 0)) ∧
    Same wr (w2.setCells wr.heap.size 0 (s.map enc8)) := by
  have h0 : w2.heap[wr.heap.size]? = some (.cells (row8 (zeros 128)) 64 (0, 0)) := hs.at (alloc_new wr _) id
  obtain ⟨h1, h2⟩ := setCells_sec h0 (s := s) (by rw [hl, zeros_length])
  exact ⟨h1, ((((Mods.refl _ wr).alloc _).trans' hs (fun i hi => hi.elim))).trans' h2 (fun i hi => .inr (by omega))⟩
theorem keepSet {W : World} {b o : Nat} {vs : List Value} {a : Addr} {v : Value} (hne : a.block ≠ b) (h : W.cell? a = some v) : (W.setCells b o vs).cell? a = some v :=
  (World.cell?_setCells_out b vs o W a (fun hb _ => absurd hb.symm hne.symm)).trans h
theorem areaF_ab {w : World} {ab d : Nat} {A : AreaL} {R : HF} (h : Sat w (areaF ab d A ++ R)) : w.heap[ab]? = some (.cells (areaCells d A) 78 (0, 0)) := by exact h.headIs
theorem areaC_0 (d : Nat) (A : AreaL) : (areaCells d A)[0]? = some (.pointer (some ⟨d, 0, none⟩)) := by simp [areaCells, Array.getElem?_append]
theorem areaC_1 (d : Nat) (A : AreaL) : (areaCells d A)[1]? = some (.int .i64 A.first) := by simp [areaCells, Array.getElem?_append]
theorem areaC_2 (d : Nat) (A : AreaL) : (areaCells d A)[2]? = some (.int .i64 A.count) := by simp [areaCells, Array.getElem?_append]
theorem areaC_3 (d : Nat) (A : AreaL) : (areaCells d A)[3]? = some (.int .i64 A.end_) := by simp [areaCells, Array.getElem?_append]
/-- The bytes of the half. -/
def halfOf (l : Bs) (first count : Nat) : Bs := (l.drop (128 * first)).take (128 * count)
theorem halfOf_succ {l : Bs} {n first k : Nat} (hl : l.length = 128 * n) (h : first + k < n) : halfOf l first (k + 1) = halfOf l first k ++ secOf l (first + k) := by
  unfold halfOf secOf
  rw [Nat.mul_add 128 k 1, List.take_add, List.drop_drop]
  congr 2
  · congr 1; omega
theorem halfOf_length {l : Bs} {n first k : Nat} (hl : l.length = 128 * n) (h : first + k ≤ n) : (halfOf l first k).length = 128 * k := by
  unfold halfOf; simp; omega

def AllPost (l : Bs) (w : World) (e : Ending) (w' : World) : Prop := ∃ v, e = .returned (.tuple #[v, .nilIface]) ∧ bOk v l ∧ Turns [] (bRow v l) w w'
def AllRel (ab d : Nat) (A : AreaL) (L : DevL) (w : World) (v i : Value) (wr : World) : Prop :=
  ∃ k : Nat, k ≤ A.count ∧ i = .int .i64 k ∧ bOk v (halfOf L.now A.first k) ∧ Turns [] (bRow v (halfOf L.now A.first k)) w wr
set_option maxHeartbeats 4000000 in
set_option maxRecDepth 100000 in
theorem All_calls (ab d : Nat) (A : AreaL) (L : DevL) (w : World) (h : Sat w (areaF ab d A ++ devF d L)) (hL : DevOk L) (hA : A.first + A.count ≤ L.n) (hn : L.n ≤ 1073741824) :
    Calls Tryd.prog 12 #[.pointer (some ⟨ab, 0, none⟩)] w (AllPost (halfOf L.now A.first A.count) w) := by
  have hab := areaF_ab h
  have a0 := cell_at hab 0 (areaC_0 d A)
  have a1 := cell_at hab 1 (areaC_1 d A)
  have a2 := cell_at hab 2 (areaC_2 d A)
  have hal : ab < w.heap.size := lt_of_heap hab
  have H := Lib.hid (And.intro h (And.intro hL hab))
  clear h hL hab
  go_enter Tryd.func12, Tryd.ntmps12
  go_wp2_with fail
  clear a0 a1 a2
  go_loopw [4, 12] (fun v i wr => AllRel ab d A L w v i wr) (fun _ i _ => A.count - (intOf i).toNat)
  case atStart => exact ⟨0, Nat.zero_le _, rfl, by simpa [halfOf] using bOk_nil, by simpa [halfOf, bRow_nil] using Turns.refl (Sat.nil w)⟩
  case round =>
    obtain ⟨k, hk, rfl, hok, hT⟩ := hrel
    by_cases hlt : k < A.count
    · have hs := hT.news
      have hab := hs.mods (fun _ => False) |>.at (areaF_ab H.out.1) id
      have a0 := cell_at hab 0 (areaC_0 d A)
      have a1 := cell_at hab 1 (areaC_1 d A)
      have hal : ab < wr.heap.size := lt_of_heap hab
      have hz := zeroSec
      have HR := Lib.hid (And.intro hok (And.intro hT (And.intro hs hab)))
      clear hok hT hs hab
      have HC : Hid (∀ W : World, Same w W → Calls Tryd.prog 16 #[.pointer (some ⟨d, 0, none⟩), .int .i64 ((A.first : Int) + k)] W (ReadPost L (A.first + k) W)) := Lib.hid (fun W hW => Read_calls d L (A.first + k) W (H.out.1.right.same hW) H.out.2.1 (by omega))
      have hl := secOf_length H.out.2.1.nowL (show A.first + k < L.n by omega)
      have hone := enc8_one (secOf L.now (A.first + k))
      have hlm : ((secOf L.now (A.first + k)).map enc8).length = 128 := by rw [List.length_map]; exact hl
      have hi : (Tryd.prog.info? 64).map (·.size) = some ((secOf L.now (A.first + k)).map enc8).toArray.size := by rw [List.size_toArray, hlm]; exact secInfo
      have hth : ∀ W : World, (W.alloc (.cells zsec 64)).there W.heap.size 0 128 := fun W => there_of (alloc_new W _) 0 128 (by rw [show zsec = row8 (zeros 128) from rfl, row8_size, zeros_length]; omega)
      have hsum : IntKind.i64.wrap ((A.first : Int) + k) = (A.first : Int) + k := IntWalk.i64_in _ (by omega)
      clear hl
      go_wp2_with fail
      go_region_held3 (fun w' => w'.cell? ⟨ab, 0, none⟩ = some (.pointer (some ⟨d, 0, none⟩)) ∧ w'.cell? ⟨ab, 1, none⟩ = some (.int .i64 A.first)) (first | exact ⟨a0, a1⟩ | exact ⟨k0, k1⟩ | exact ⟨(World.cell?_alloc_lt _ _ ⟨ab, 0, none⟩ hal).trans a0, (World.cell?_alloc_lt _ _ ⟨ab, 1, none⟩ hal).trans a1⟩ | exact ⟨(World.cell?_alloc_lt _ _ ⟨ab, 0, none⟩ kl).trans k0, (World.cell?_alloc_lt _ _ ⟨ab, 1, none⟩ kl).trans k1⟩ | exact ⟨keepSet (by show ab ≠ _; omega) k0, keepSet (by show ab ≠ _; omega) k1⟩ | exact ⟨keepSet (by show ab ≠ _; omega) ((World.cell?_alloc_lt _ _ ⟨ab, 0, none⟩ kl).trans k0), keepSet (by show ab ≠ _; omega) ((World.cell?_alloc_lt _ _ ⟨ab, 1, none⟩ kl).trans k1)⟩) ((go_at_call 16; refine (HC.out _ (by first | exact HR.out.2.2.1.drew | exact HR.out.2.2.1.drew.alloc _)).mono ?_; rintro e w2 ⟨rfl, hs2⟩; have k0 : w2.cell? ⟨ab, 0, none⟩ = some (.pointer (some ⟨d, 0, none⟩)) := (by first | exact cell_same hs2 a0 | exact cell_same hs2 ((World.cell?_alloc_lt _ _ ⟨ab, 0, none⟩ hal).trans a0)); have k1 : w2.cell? ⟨ab, 1, none⟩ = some (.int .i64 A.first) := (by first | exact cell_same hs2 a1 | exact cell_same hs2 ((World.cell?_alloc_lt _ _ ⟨ab, 1, none⟩ hal).trans a1)); have kl : ab < w2.heap.size := World.block_lt_of_cell? w2 _ k0; (first | have hB2 : w2.there wr.heap.size 0 128 := there_same hs2 (hth wr.drew) | skip); have HS2 := Lib.hid hs2; clear hs2))
      all_goals clear a0 a1 k0 k1 hone hi hth hsum
      all_goals
        first
        | (obtain ⟨hb3, hs3⟩ := secA (wr := wr) ((Mods.refl _ wr).drew.trans HS2.out) (s := secOf L.now (A.first + k)) (by simpa using hlm)
           change Exit.then _ _ _ _ ((w2.alloc (.cells zsec 64)).setCells w2.heap.size 0 ((secOf L.now (A.first + k)).map enc8))
           generalize (w2.alloc (.cells zsec 64)).setCells w2.heap.size 0 ((secOf L.now (A.first + k)).map enc8) = W3 at hb3 hs3 ⊢
           generalize w2.heap.size = T at hb3 ⊢)
        | (obtain ⟨hb3, hs3⟩ := secB (wr := wr) ((Mods.refl _ (wr.alloc (.cells zsec 64))).drew.trans HS2.out) (s := secOf L.now (A.first + k)) (by simpa using hlm)
           change Exit.then _ _ _ _ (w2.setCells wr.heap.size 0 ((secOf L.now (A.first + k)).map enc8))
           generalize w2.setCells wr.heap.size 0 ((secOf L.now (A.first + k)).map enc8) = W3 at hb3 hs3 ⊢
           generalize wr.heap.size = T at hb3 ⊢)
      all_goals
        have hT3 := HR.out.2.1.thenSame hs3
        have hown3 := bOwns hT3.sat HR.out.1
        obtain ⟨i0, hi0, hz1, hz2, hz3⟩ := info_parts infoByte
        have hnews : ∀ j u, ((secOf L.now (A.first + k)).map enc8)[j]? = some u → W3.cell? ((⟨T, 0, none⟩ : Addr).add j) = some u := fun j u hu => by
          rw [Addr.add_mid, Nat.zero_add]; exact cell_at hb3 j (by simpa [row8] using hu)
        have hlk : (halfOf L.now A.first k).length ≤ 137438953472 := by rw [halfOf_length H.out.2.1.nowL (by omega)]; omega
        have hstep := halfOf_succ H.out.2.1.nowL (first := A.first) (k := k) (by omega)
        have H3 := Lib.hid (And.intro hT3 (And.intro hown3 (And.intro hnews (And.intro hlm (And.intro hi0 (And.intro hz1 (And.intro hz2 (And.intro hz3 hstep))))))))
        clear hT3 hown3 hnews hlm hi0 hz1 hz2 hz3 hb3 hs3 hstep
        go_wp2_with (refine wpList_append_fp _ rfl (.tmp 32) (.tmp 33) 52 rfl 5 i0 (.int .u8 0) 1 1 Tryd.underlying52 H3.out.2.2.2.2.1 H3.out.2.2.2.2.2.1 H3.out.2.2.2.2.2.2.1 H3.out.2.2.2.2.2.2.2.1 rfl (by decide) _ _ _ rfl H3.out.2.1 ⟨T, 0, none⟩ 128 128 ((secOf L.now (A.first + k)).map enc8) rfl (by rw [H3.out.2.2.2.1]) H3.out.2.2.1 (enc8_one _) (by unfold maxLen; omega) (by omega) ?_; intro v' w4 hown' hgrow _ hgb)
        obtain ⟨hok4, hT4⟩ := bRow_appends (F := []) (G := []) (v := u4) (by simpa using H3.out.1) (by have := H3.out.2.2.2.1; simpa using this.symm) hown' hgrow hgb
        rw [← H3.out.2.2.2.2.2.2.2.2] at hok4 hT4
        exact ⟨⟨k + 1, by omega, by go_num, hok4, by simpa using hT4⟩, by simp [intOf]; omega⟩
    · obtain rfl : k = A.count := by omega
      have HR := Lib.hid (And.intro hok hT)
      clear hok hT
      go_wp2_with fail
      go_ret2
      exact ⟨_, rfl, HR.out⟩
end Go.Proofs.YtdhobpbngkainaaDoor
