/-
  Ours. Half of a device: its blocks; New; All.
-/
import Derived.Test.YtdhobpbngkainaaGreatDoorMo04
import Derived.Test.YtdhobpbngkainaaGreatDoorMo03
import Derived.Conc.SmallLaws
import Derived.Deep.CutBlock
import Derived.Lib.SliceRun
import Derived.DeepKeys
import Derived.ChangeKeys
namespace Go.Proofs.YtdhobpbngkainaaGreatDoor
open Go.RowKit

theorem wpList_build_is {P : Program} {ops : Array Oper} {rest : List Oper} {o : Oper} {a : Act} {w : World} {Q : Exit → Act → World → Prop} (hg : o.guard = none) (t : TypeId) (parts : Array (Nat × Operand)) (ho : o.op = .build t parts) (cells : Array Value)
    (hc : P.built t (parts.map fun (i, x) => (i, a.eval x)).toList = some cells) (h : wpList P ops Q rest (a.put o.dst (.agg cells)) w) : wpList P ops Q (o :: rest) a w :=
  wpList_plain hg fun _ hK => wp_build_is t parts ho cells hc (hK _ _ h)
structure AreaL where
  first : Nat
  count : Nat
  end_ : Nat
  tail : Bs
  ch : Nat
  spare : List (Nat × Nat × Nat)
def spareV (s : Nat × Nat × Nat) : Value := .slice (some ⟨s.1, 0, none⟩) s.2.1 s.2.2
def spareF (l : List (Nat × Nat × Nat)) : HF := l.map fun s => (s.1, fun o => ∃ cur : Array Value, o = .cells cur 5 (0, 0) ∧ cur.size = s.2.2)
def areaCells (d : Nat) (A : AreaL) : Array Value := #[.pointer (some ⟨d, 0, none⟩), .int .i64 A.first, .int .i64 A.count, .int .i64 A.end_] ++ row8 A.tail ++ #[.chan (some A.ch)]
def areaF (ab d : Nat) (A : AreaL) : HF :=
  (ab, Is (.cells (areaCells d A) 157 (0, 0))) :: (A.ch, fun o => ∃ s r, o = .chan 2 (A.spare.map spareV).toArray false s r false) :: spareF A.spare
structure AreaOk (A : AreaL) : Prop where
  tail : A.tail.length = 128
  few : A.spare.length ≤ 2
  caps : ∀ s ∈ A.spare, s.2.1 ≤ s.2.2 ∧ s.2.2 ≤ maxLen

theorem zeroArea (w : World) : (zeroValue 157).run Tryz.prog w = .ok (.agg (#[.pointer none, .int .i64 0, .int .i64 0, .int .i64 0] ++ row8 (zeros 128) ++ #[.chan none])) w := by kernel_rfl
def zareaA : Array Value := #[.pointer none, .int .i64 0, .int .i64 0, .int .i64 0] ++ row8 (zeros 128) ++ #[.chan none]

def NewAreaPost (d : Nat) (first count : Nat) (w : World) (e : Ending) (w' : World) : Prop :=
  ∃ ab ch, e = .returned (.pointer (some ⟨ab, 0, none⟩)) ∧ Turns [] (areaF ab d ⟨first, count, 0, zeros 128, ch, []⟩) w w'
theorem zareaA_eq : zareaA = (Value.pointer none :: .int .i64 0 :: .int .i64 0 :: .int .i64 0 :: ((zeros 128).map enc8 ++ [Value.chan none])).toArray := by
  simp [zareaA, row8]
set_option maxRecDepth 100000 in
theorem build_area (p a b c : Value) (hp : p.cells = #[p]) (ha : a.cells = #[a]) (hb : b.cells = #[b]) (hc : c.cells = #[c]) :
    Tryz.prog.built 157 [(0, p), (1, a), (2, b), (5, c)] = some (#[p, a, b, .int .i64 0] ++ row8 (zeros 128) ++ #[c]) := by
  have e : Tryz.prog.built 157 [(0, p), (1, a), (2, b), (5, c)] = Instr.fill (#[(0, 1), (1, 1), (2, 1), (3, 1), (4, 128), (132, 1)][·]?) zareaA [(0, p), (1, a), (2, b), (5, c)] := by kernel_rfl
  rw [e, zareaA_eq]
  have hz : ((zeros 128).map enc8).length = 128 := by rw [List.length_map, zeros_length]
  have hr : row8 (zeros 128) = ((zeros 128).map enc8).toArray := rfl
  rw [hr]
  generalize (zeros 128).map enc8 = Z at hz ⊢
  rw [fill_step _ _ 0 p 0 1 _ rfl (by rw [hp]; rfl) (by simp)]
  rw [fill_step _ _ 1 a 1 1 _ rfl (by rw [ha]; rfl) (by simp [spl, hp])]
  rw [fill_step _ _ 2 b 2 1 _ rfl (by rw [hb]; rfl) (by simp [spl, hp, ha])]
  have e3 : spl (spl (spl (Value.pointer none :: .int .i64 0 :: .int .i64 0 :: .int .i64 0 :: (Z ++ [Value.chan none])) 0 p.cells.toList) 1 a.cells.toList) 2 b.cells.toList = p :: a :: b :: .int .i64 0 :: (Z ++ [Value.chan none]) := by
    simp [spl, hp, ha, hb]
  rw [e3, fill_step _ _ 5 c 132 1 _ rfl (by rw [hc]; rfl) (by simp [hz])]
  have e4 : spl (p :: a :: b :: Value.int .i64 0 :: (Z ++ [Value.chan none])) 132 c.cells.toList = p :: a :: b :: .int .i64 0 :: (Z ++ [c]) := by
    have : (132 : Nat) = Z.length + 4 := by omega
    simp [spl, hc, this]
  rw [e4]
  simp [Instr.fill]
theorem infoBs : (Tryz.prog.info? 38).map (fun i => i.bytes) = some 24 := by kernel_rfl
theorem mkChan (w : World) : (Instr.makeChan 155 (.int .i64 2)).run Tryz.prog w = .ok (.chan (some w.heap.size)) (w.alloc (.chan 2 #[] false 0 0 false)) := by
  have h := infoBs
  cases hi : Tryz.prog.info? 38 with
  | none => rw [hi] at h; simp at h
  | some i =>
    rw [hi] at h
    have hb : i.bytes = 24 := by simpa using h
    simpa using Conc.run_makeChan (P := Tryz.prog) (w := w) Tryz.underlying155 hi .i64 2 (by omega) (by rw [hb]; omega)
set_option maxHeartbeats 1000000 in
set_option maxRecDepth 100000 in
theorem NewArea_calls (d first count : Nat) (w : World) : Calls Tryz.prog 99 #[.pointer (some ⟨d, 0, none⟩), .int .i64 first, .int .i64 count] w (NewAreaPost d first count w) := by
  have hm := mkChan
  have hb := build_area (.pointer (some ⟨d, 0, none⟩)) (.int .i64 first) (.int .i64 count) (.chan (some w.heap.size)) rfl rfl rfl rfl
  have HB : Hid (Tryz.prog.built 157 [(0, .pointer (some ⟨d, 0, none⟩)), (1, .int .i64 first), (2, .int .i64 count), (5, .chan (some w.heap.size))] = some (areaCells d ⟨first, count, 0, zeros 128, w.heap.size, []⟩)) := Lib.hid hb
  clear hb
  go_enter Tryz.func99, Tryz.ntmps99
  go_wp2_with (refine wpList_build_is rfl 157 _ rfl (areaCells d ⟨first, count, 0, zeros 128, w.heap.size, []⟩) (by simp only [List.map_toArray, List.map_cons, List.map_nil]; exact HB.out) ?_)
  go_ret
  refine ⟨w.heap.size + 1, w.heap.size, rfl, ?_⟩
  show Turns [] _ w ((w.alloc (.chan 2 #[] false 0 0 false)).alloc (.cells (areaCells d ⟨first, count, 0, zeros 128, w.heap.size, []⟩) 157))
  have h := ((Turns.refl (Sat.nil w)).allocIn (φ := fun o => ∃ s r, o = .chan 2 #[] false s r false) (o := .chan 2 #[] false 0 0 false) ⟨0, 0, rfl⟩).allocIs (.cells (areaCells d ⟨first, count, 0, zeros 128, w.heap.size, []⟩) 157)
  simp only [World.size_alloc] at h
  exact h

/-! ### All -/
theorem cell_same {w w' : World} (hs : Same w w') {a : Addr} {v : Value} (h : w.cell? a = some v) : w'.cell? a = some v := (World.cell?_of_block (w := w) (hs.block a.block (World.block_lt_of_cell? w _ h) id)).trans h
theorem there_same {w w' : World} (hs : Same w w') {b o n : Nat} (h : w.there b o n) : w'.there b o n := fun j hj => by
  obtain ⟨h1, h2⟩ := h j hj
  obtain ⟨u, hu⟩ := Option.isSome_iff_exists.1 h1
  have hb := World.block_lt_of_cell? w _ hu
  have he := hs.block b hb id
  exact ⟨by rw [cell_same hs hu]; rfl, by rw [← h2]; simp [World.frozen?, he]⟩
theorem secA {wr w2 : World} (hs : Same wr w2) {s : Bs} (hl : s.length = 128) : ((w2.alloc (.cells zsec 43)).setCells w2.heap.size 0 (s.map enc8)).heap[w2.heap.size]? = some (.cells (row8 s) 43 (0, 0)) ∧
    Same wr ((w2.alloc (.cells zsec 43)).setCells w2.heap.size 0 (s.map enc8)) := by
  obtain ⟨h1, h2⟩ := setCells_sec (alloc_new w2 (.cells (row8 (zeros 128)) 43)) (s := s) (by rw [hl, zeros_length])
  exact ⟨h1, ((hs.alloc _)).trans' h2 (fun i hi => .inr (by have := hs.size; omega))⟩
theorem secB {wr w2 : World} (hs : Same (wr.alloc (.cells zsec 43)) w2) {s : Bs} (hl : s.length = 128) : (w2.setCells wr.heap.size 0 (s.map enc8)).heap[wr.heap.size]? = some (.cells (row8 s) 43 (0, 0)) ∧
    Same wr (w2.setCells wr.heap.size 0 (s.map enc8)) := by
  have h0 : w2.heap[wr.heap.size]? = some (.cells (row8 (zeros 128)) 43 (0, 0)) := hs.at (alloc_new wr _) id
  obtain ⟨h1, h2⟩ := setCells_sec h0 (s := s) (by rw [hl, zeros_length])
  exact ⟨h1, ((((Mods.refl _ wr).alloc _).trans' hs (fun i hi => hi.elim))).trans' h2 (fun i hi => .inr (by omega))⟩
theorem keepSet {W : World} {b o : Nat} {vs : List Value} {a : Addr} {v : Value} (hne : a.block ≠ b) (h : W.cell? a = some v) : (W.setCells b o vs).cell? a = some v :=
  (World.cell?_setCells_out b vs o W a (fun hb _ => absurd hb.symm hne.symm)).trans h
theorem areaF_ab {w : World} {ab d : Nat} {A : AreaL} {R : HF} (h : Sat w (areaF ab d A ++ R)) : w.heap[ab]? = some (.cells (areaCells d A) 157 (0, 0)) := by exact h.headIs
theorem areaC_0 (d : Nat) (A : AreaL) : (areaCells d A)[0]? = some (.pointer (some ⟨d, 0, none⟩)) := by simp [areaCells, Array.getElem?_append]
theorem areaC_1 (d : Nat) (A : AreaL) : (areaCells d A)[1]? = some (.int .i64 A.first) := by simp [areaCells, Array.getElem?_append]
theorem areaC_2 (d : Nat) (A : AreaL) : (areaCells d A)[2]? = some (.int .i64 A.count) := by simp [areaCells, Array.getElem?_append]
theorem areaC_3 (d : Nat) (A : AreaL) : (areaCells d A)[3]? = some (.int .i64 A.end_) := by simp [areaCells, Array.getElem?_append]
/-- The bytes of the half. -/
def halfOf (l : Bs) (first count : Nat) : Bs := (l.drop (128 * first)).take (128 * count)
theorem halfOf_succ {l : Bs} {n first k : Nat} (hl : l.length = 128 * n) (h : first + k < n) : halfOf l first (k + 1) = halfOf l first k ++ secOf l (first + k) := by
  unfold halfOf secOf
  rw [Nat.mul_add 128 k 1, List.take_add, List.drop_drop]
  congr 2
  · congr 1; omega
theorem halfOf_length {l : Bs} {n first k : Nat} (hl : l.length = 128 * n) (h : first + k ≤ n) : (halfOf l first k).length = 128 * k := by
  unfold halfOf; simp; omega

def AllPost (l : Bs) (w : World) (e : Ending) (w' : World) : Prop := ∃ v, e = .returned (.tuple #[v, .nilIface]) ∧ bOk v l ∧ Turns [] (bRow v l) w w'
def AllRel (ab d : Nat) (A : AreaL) (L : DevL) (w : World) (v i : Value) (wr : World) : Prop :=
  ∃ k : Nat, k ≤ A.count ∧ i = .int .i64 k ∧ bOk v (halfOf L.now A.first k) ∧ Turns [] (bRow v (halfOf L.now A.first k)) w wr
set_option maxHeartbeats 4000000 in
set_option maxRecDepth 100000 in
theorem All_calls (ab d : Nat) (A : AreaL) (L : DevL) (w : World) (h : Sat w (areaF ab d A ++ devF d L)) (hL : DevOk L) (hA : A.first + A.count ≤ L.n) (hn : L.n ≤ 1073741824) :
    Calls Tryz.prog 54 #[.pointer (some ⟨ab, 0, none⟩)] w (AllPost (halfOf L.now A.first A.count) w) := by
  have hab := areaF_ab h
  have a0 := cell_at hab 0 (areaC_0 d A)
  have a1 := cell_at hab 1 (areaC_1 d A)
  have a2 := cell_at hab 2 (areaC_2 d A)
  have hal : ab < w.heap.size := lt_of_heap hab
  have H := Lib.hid (And.intro h (And.intro hL hab))
  clear h hL hab
  go_enter Tryz.func54, Tryz.ntmps54
  go_wp2_with fail
  clear a0 a1 a2
  go_loopw [4, 12] (fun v i wr => AllRel ab d A L w v i wr) (fun _ i _ => A.count - (intOf i).toNat)
  case atStart => exact ⟨0, Nat.zero_le _, rfl, by simpa [halfOf] using bOk_nil, by simpa [halfOf, bRow_nil] using Turns.refl (Sat.nil w)⟩
  case round =>
    obtain ⟨k, hk, rfl, hok, hT⟩ := hrel
    by_cases hlt : k < A.count
    · have hs := hT.news
      have hab := hs.mods (fun _ => False) |>.at (areaF_ab H.out.1) id
      have a0 := cell_at hab 0 (areaC_0 d A)
      have a1 := cell_at hab 1 (areaC_1 d A)
      have hal : ab < wr.heap.size := lt_of_heap hab
      have hz := zeroSec
      have HR := Lib.hid (And.intro hok (And.intro hT (And.intro hs hab)))
      clear hok hT hs hab
      have HC : Hid (∀ W : World, Same w W → Calls Tryz.prog 17 #[.pointer (some ⟨d, 0, none⟩), .int .i64 ((A.first : Int) + k)] W (ReadPost L (A.first + k) W)) := Lib.hid (fun W hW => Read_calls d L (A.first + k) W (H.out.1.right.same hW) H.out.2.1 (by omega))
      have hl := secOf_length H.out.2.1.nowL (show A.first + k < L.n by omega)
      have hone := enc8_one (secOf L.now (A.first + k))
      have hlm : ((secOf L.now (A.first + k)).map enc8).length = 128 := by rw [List.length_map]; exact hl
      have hi : (Tryz.prog.info? 43).map (·.size) = some ((secOf L.now (A.first + k)).map enc8).toArray.size := by rw [List.size_toArray, hlm]; exact secInfo
      have hth : ∀ W : World, (W.alloc (.cells zsec 43)).there W.heap.size 0 128 := fun W => there_of (alloc_new W _) 0 128 (by rw [show zsec = row8 (zeros 128) from rfl, row8_size, zeros_length]; omega)
      have hsum : IntKind.i64.wrap ((A.first : Int) + k) = (A.first : Int) + k := IntWalk.i64_in _ (by omega)
      clear hl
      go_wp2_with fail
      go_region_held3 (fun w' => w'.cell? ⟨ab, 0, none⟩ = some (.pointer (some ⟨d, 0, none⟩)) ∧ w'.cell? ⟨ab, 1, none⟩ = some (.int .i64 A.first)) (first | exact ⟨a0, a1⟩ | exact ⟨k0, k1⟩ | exact ⟨(World.cell?_alloc_lt _ _ ⟨ab, 0, none⟩ hal).trans a0, (World.cell?_alloc_lt _ _ ⟨ab, 1, none⟩ hal).trans a1⟩ | exact ⟨(World.cell?_alloc_lt _ _ ⟨ab, 0, none⟩ kl).trans k0, (World.cell?_alloc_lt _ _ ⟨ab, 1, none⟩ kl).trans k1⟩ | exact ⟨keepSet (by show ab ≠ _; omega) k0, keepSet (by show ab ≠ _; omega) k1⟩ | exact ⟨keepSet (by show ab ≠ _; omega) ((World.cell?_alloc_lt _ _ ⟨ab, 0, none⟩ kl).trans k0), keepSet (by show ab ≠ _; omega) ((World.cell?_alloc_lt _ _ ⟨ab, 1, none⟩ kl).trans k1)⟩) ((go_at_call 17; refine (HC.out _ (by first | exact HR.out.2.2.1.drew | exact HR.out.2.2.1.drew.alloc _)).mono ?_; rintro e w2 ⟨rfl, hs2⟩; have k0 : w2.cell? ⟨ab, 0, none⟩ = some (.pointer (some ⟨d, 0, none⟩)) := (by first | exact cell_same hs2 a0 | exact cell_same hs2 ((World.cell?_alloc_lt _ _ ⟨ab, 0, none⟩ hal).trans a0)); have k1 : w2.cell? ⟨ab, 1, none⟩ = some (.int .i64 A.first) := (by first | exact cell_same hs2 a1 | exact cell_same hs2 ((World.cell?_alloc_lt _ _ ⟨ab, 1, none⟩ hal).trans a1)); have kl : ab < w2.heap.size := World.block_lt_of_cell? w2 _ k0; (first | have hB2 : w2.there wr.heap.size 0 128 := there_same hs2 (hth wr.drew) | skip); have HS2 := Lib.hid hs2; clear hs2))
      all_goals clear a0 a1 k0 k1 hone hi hth hsum
      all_goals
        first
        | (obtain ⟨hb3, hs3⟩ := secA (wr := wr) ((Mods.refl _ wr).drew.trans HS2.out) (s := secOf L.now (A.first + k)) (by simpa using hlm)
           change Exit.then _ _ _ _ ((w2.alloc (.cells zsec 43)).setCells w2.heap.size 0 ((secOf L.now (A.first + k)).map enc8))
           generalize (w2.alloc (.cells zsec 43)).setCells w2.heap.size 0 ((secOf L.now (A.first + k)).map enc8) = W3 at hb3 hs3 ⊢
           generalize w2.heap.size = T at hb3 ⊢)
        | (obtain ⟨hb3, hs3⟩ := secB (wr := wr) ((Mods.refl _ (wr.alloc (.cells zsec 43))).drew.trans HS2.out) (s := secOf L.now (A.first + k)) (by simpa using hlm)
           change Exit.then _ _ _ _ (w2.setCells wr.heap.size 0 ((secOf L.now (A.first + k)).map enc8))
           generalize w2.setCells wr.heap.size 0 ((secOf L.now (A.first + k)).map enc8) = W3 at hb3 hs3 ⊢
           generalize wr.heap.size = T at hb3 ⊢)
      all_goals
        have hT3 := HR.out.2.1.thenSame hs3
        have hown3 := bOwns hT3.sat HR.out.1
        obtain ⟨i0, hi0, hz1, hz2, hz3⟩ := info_parts infoByte
        have hnews : ∀ j u, ((secOf L.now (A.first + k)).map enc8)[j]? = some u → W3.cell? ((⟨T, 0, none⟩ : Addr).add j) = some u := fun j u hu => by
          rw [Addr.add_mid, Nat.zero_add]; exact cell_at hb3 j (by simpa [row8] using hu)
        have hlk : (halfOf L.now A.first k).length ≤ 137438953472 := by rw [halfOf_length H.out.2.1.nowL (by omega)]; omega
        have hstep := halfOf_succ H.out.2.1.nowL (first := A.first) (k := k) (by omega)
        have H3 := Lib.hid (And.intro hT3 (And.intro hown3 (And.intro hnews (And.intro hlm (And.intro hi0 (And.intro hz1 (And.intro hz2 (And.intro hz3 hstep))))))))
        clear hT3 hown3 hnews hlm hi0 hz1 hz2 hz3 hb3 hs3 hstep
        go_wp2_with (refine wpList_append_fp _ rfl (.tmp 32) (.tmp 33) 38 rfl 5 i0 (.int .u8 0) 1 1 Tryz.underlying38 H3.out.2.2.2.2.1 H3.out.2.2.2.2.2.1 H3.out.2.2.2.2.2.2.1 H3.out.2.2.2.2.2.2.2.1 rfl (by decide) _ _ _ rfl H3.out.2.1 ⟨T, 0, none⟩ 128 128 ((secOf L.now (A.first + k)).map enc8) rfl (by rw [H3.out.2.2.2.1]) H3.out.2.2.1 (enc8_one _) (by unfold maxLen; omega) (by omega) ?_; intro v' w4 hown' hgrow _ hgb)
        obtain ⟨hok4, hT4⟩ := bRow_appends (F := []) (G := []) (v := u4) (by simpa using H3.out.1) (by have := H3.out.2.2.2.1; simpa using this.symm) hown' hgrow hgb
        rw [← H3.out.2.2.2.2.2.2.2.2] at hok4 hT4
        exact ⟨⟨k + 1, by omega, by go_num, hok4, by simpa using hT4⟩, by simp [intOf]; omega⟩
    · obtain rfl : k = A.count := by omega
      have HR := Lib.hid (And.intro hok hT)
      clear hok hT
      go_wp2_with fail
      go_ret2
      exact ⟨_, rfl, HR.out⟩
end Go.Proofs.YtdhobpbngkainaaGreatDoor
/-
  Ours. The area's spare buffers: buffer, back.
-/
namespace Go.Proofs.YtdhobpbngkainaaGreatDoor
open Go.RowKit

theorem setChan_mods (w : World) (c cap : Nat) (buf : Array Value) (cl : Bool) (s r : Nat) (tm : Bool) : Mods (fun k => k = c) w (w.setChan c cap buf cl s r tm) :=
  ⟨rfl, rfl, rfl, by simp [World.setChan], fun k _ hk => by simp only [World.setChan]; rw [Array.getElem?_setIfInBounds_ne (Ne.symm hk)]⟩
theorem Turns.weakHead {F G : HF} {a w : World} {b : Nat} {φ ψ : Obj → Prop} (h : Turns F ((b, φ) :: G) a w) (hw : ∀ o, φ o → ψ o) : Turns F ((b, ψ) :: G) a w :=
  ⟨h.mods, h.sat.weak hw, fun k hk => h.fresh k (by simpa using hk)⟩
theorem areaC_ch (d : Nat) (A : AreaL) (h : A.tail.length = 128) : (areaCells d A)[132]? = some (.chan (some A.ch)) := by
  have e : (areaCells d A)[132]? = (areaCells d A).toList[132]? := by simp
  rw [e]
  simp only [areaCells, Array.toList_append, row8, List.append_assoc]
  rw [List.getElem?_append_right (by simp), List.getElem?_append_right (by simp [h])]
  simp [h]
theorem bRow_fresh (w : World) (cur : Array Value) (cap : Nat) (hc : cur.size = cap) (hm : cap ≤ maxLen) : Turns [] (bRow (.slice (some ⟨w.heap.size, 0, none⟩) 0 cap) []) w (w.alloc (.cells cur 5)) := by
  have := (Turns.refl (Sat.nil w)).allocIn (φ := fun o => ∃ cap' cur, Value.slice (some ⟨w.heap.size, 0, none⟩) 0 cap = .slice (some ⟨w.heap.size, 0, none⟩) 0 cap' ∧ o = .cells cur 5 (0, 0) ∧ 0 ≤ cap' ∧ cap' ≤ maxLen ∧ cur.size = cap' * 1 ∧ cur.toList.take (0 * 1) = []) (o := .cells cur 5) ⟨cap, cur, rfl, rfl, Nat.zero_le _, hm, by omega, by simp⟩
  exact this
theorem bOk_empty (g cap : Nat) : bOk (.slice (some ⟨g, 0, none⟩) 0 cap) [] := ⟨rfl, fun h => by simp [Value.ownBlock] at h⟩
def BufferPost (ab d : Nat) (A : AreaL) (w : World) (e : Ending) (w' : World) : Prop :=
  ∃ bg cv sp, e = .returned (.slice (some ⟨bg, 0, none⟩) 0 cv) ∧ bOk (.slice (some ⟨bg, 0, none⟩) 0 cv) [] ∧ Turns (areaF ab d A) (bRow (.slice (some ⟨bg, 0, none⟩) 0 cv) [] ++ areaF ab d { A with spare := sp }) w w' ∧ AreaOk { A with spare := sp } ∧ sp.length ≤ A.spare.length ∧ sp.length ≤ 1
set_option maxHeartbeats 1000000 in
set_option maxRecDepth 100000 in
theorem buffer_calls (ab d : Nat) (A : AreaL) (w : World) (h : Sat w (areaF ab d A)) (hA : AreaOk A) :
    Calls Tryz.prog 151 #[.pointer (some ⟨ab, 0, none⟩)] w (BufferPost ab d A w) := by
  have hab := h.headIs
  have a5 : w.cell? ⟨ab, 132, none⟩ = some (.chan (some A.ch)) := cell_at hab 132 (areaC_ch d A hA.tail)
  obtain ⟨o, hch, s, r, rfl⟩ := h.tail.head
  have HH := Lib.hid (And.intro h hA)
  clear h hA hab
  cases hs : A.spare with
  | nil =>
    rw [hs] at hch
    have HC := Lib.hid hch
    have HS := Lib.hid hs
    clear hch hs
    obtain ⟨cur, hsz, hmk⟩ : ∃ cur : Array Value, cur.size = 256 ∧ ∀ w : World, (Instr.makeSlice 38 (.int .i64 0) (.int .i64 256)).run Tryz.prog w = .ok (.slice (some ⟨w.heap.size, 0, none⟩) 0 256) (w.alloc (.cells cur 5)) :=
      ⟨row8 (List.replicate 256 0), by rw [row8_size, List.length_replicate], fun _ => by kernel_rfl⟩
    have HSZ := Lib.hid hsz
    clear hsz
    go_enter Tryz.func151, Tryz.ntmps151
    go_upto_region 2 with (fail)
    refine wp_select_none (n := 2) (z := .slice none 0 0) rfl rfl rfl (by kernel_rfl) HC.out ?_
    simp only [List.drop_succ_cons, List.drop_zero, Act.put, List.setIfInBounds_toArray, List.set_cons_zero, List.set_cons_succ]
    go_wp2_with fail
    go_ret
    exact ⟨_, _, A.spare, rfl, bOk_empty _ _, Turns.newIn (Turns.refl HH.out.1) (bRow_fresh w cur 256 HSZ.out (by unfold maxLen; omega)), HH.out.2, Nat.le_refl _, by rw [HS.out]; simp⟩
  | cons x sp =>
    rw [hs] at hch
    have HC := Lib.hid hch
    have HS := Lib.hid hs
    clear hch hs
    have hx := HH.out.2.caps x (by rw [HS.out]; simp)
    have hx1 : (0 : Int) ≤ (x.2.2 : Int) := by omega
    have hx2 : (x.2.2 : Int) ≤ 9223372036854775807 := by have := hx.2; unfold maxLen at this; omega
    obtain ⟨bx, lx, cx⟩ := x
    simp only at hx hx1 hx2
    go_enter Tryz.func151, Tryz.ntmps151
    go_upto_region 2 with (fail)
    refine wp_select_recv (n := 2) (z := .slice none 0 0) rfl rfl rfl (by kernel_rfl) HC.out (by simp) ?_
    rw [show (List.map spareV ((bx, lx, cx) :: sp)).toArray.getD 0 undef = .slice (some ⟨bx, 0, none⟩) lx cx from rfl]
    have hm := setChan_mods w A.ch 2 ((List.map spareV ((bx, lx, cx) :: sp)).toArray.extract 1 (List.map spareV ((bx, lx, cx) :: sp)).toArray.size) false s (r + 1) false
    have hc2 := Conc.heap_setChan w A.ch 2 ((List.map spareV ((bx, lx, cx) :: sp)).toArray.extract 1 (List.map spareV ((bx, lx, cx) :: sp)).toArray.size) false s (r + 1) false (lt_of_heap HC.out)
    generalize w.setChan A.ch 2 ((List.map spareV ((bx, lx, cx) :: sp)).toArray.extract 1 (List.map spareV ((bx, lx, cx) :: sp)).toArray.size) false s (r + 1) false = W2 at hm hc2 ⊢
    have HM := Lib.hid (And.intro hm hc2)
    clear hm hc2
    simp only [List.drop_succ_cons, List.drop_zero, Act.put, List.setIfInBounds_toArray, List.set_cons_zero, List.set_cons_succ]
    go_wp2_with fail
    go_ret
    have hb := HH.out.1
    simp only [areaF, HS.out, spareF, List.map_cons] at hb
    have h1 := (Turns.refl hb).to (H := (A.ch, fun o => ∃ s r, o = .chan 2 (List.map spareV ((bx, lx, cx) :: sp)).toArray false s r false) :: (ab, Is (.cells (areaCells d A) 157 (0, 0))) :: (bx, fun o => ∃ cur : Array Value, o = .cells cur 5 (0, 0) ∧ cur.size = cx) :: spareF sp) (List.Perm.swap _ _ _)
    have h2 := h1.put (ψ := fun o => ∃ s r, o = .chan 2 (sp.map spareV).toArray false s r false) HM.out.1 HM.out.2 ⟨s, r + 1, by simp; exact List.take_of_length_le (by simp)⟩
    refine ⟨_, _, sp, rfl, bOk_empty _ _, ?_, ⟨HH.out.2.tail, ?_, ?_⟩, ?_, ?_⟩
    · have e : areaF ab d A = (ab, Is (.cells (areaCells d A) 157 (0, 0))) :: (A.ch, fun o => ∃ s r, o = .chan 2 (List.map spareV ((bx, lx, cx) :: sp)).toArray false s r false) :: (bx, fun o => ∃ cur : Array Value, o = .cells cur 5 (0, 0) ∧ cur.size = cx) :: spareF sp := by
        simp only [areaF, HS.out, spareF, List.map_cons]
      have h4 := (h2.to (H := (bx, fun o => ∃ cur : Array Value, o = .cells cur 5 (0, 0) ∧ cur.size = cx) :: (ab, Is (.cells (areaCells d A) 157 (0, 0))) :: (A.ch, fun o => ∃ s r, o = .chan 2 (sp.map spareV).toArray false s r false) :: spareF sp) (perm_of_cnt fun _ => by simp only [cnt_cons, cnt_append, cnt_nil] <;> omega)).weakHead (ψ := fun o => ∃ cap' cur, Value.slice (some ⟨bx, 0, none⟩) 0 cx = .slice (some ⟨bx, 0, none⟩) 0 cap' ∧ o = .cells cur 5 (0, 0) ∧ 0 ≤ cap' ∧ cap' ≤ maxLen ∧ cur.size = cap' * 1 ∧ cur.toList.take (0 * 1) = []) (fun o ⟨cur, h1, h2⟩ => ⟨cx, cur, rfl, h1, Nat.zero_le _, hx.2, by omega, by simp⟩)
      rw [e]
      exact h4
    · have := HH.out.2.few; rw [HS.out] at this; simp at this ⊢; omega
    · intro x hx; exact HH.out.2.caps x (by rw [HS.out]; exact List.mem_cons_of_mem _ hx)
    · rw [HS.out]; simp
    · have := HH.out.2.few; rw [HS.out] at this; simp at this; omega

/-! ### back -/
theorem zeroByte (w : World) : (zeroValue 5).run Tryz.prog w = .ok (.int .u8 0) w := by kernel_rfl
theorem clear_row {w : World} {g n cap : Nat} {cur : Array Value} (hg : w.heap[g]? = some (.cells cur 5 (0, 0))) (hn : n ≤ cap) (hc : cur.size = cap) :
    ∃ W1 : World, (∀ ty, (Builtin.clear_ #[38] ty #[.slice (some ⟨g, 0, none⟩) n cap]).run Tryz.prog w = .ok (.tuple #[]) W1) ∧ Mods (fun k => k = g) w W1 ∧ ∃ cur' : Array Value, W1.heap[g]? = some (.cells cur' 5 (0, 0)) ∧ cur'.size = cap := by
  rcases Nat.eq_zero_or_pos n with rfl | hp
  · exact ⟨w, fun ty => by simp [Builtin.clear_, run_underlying Tryz.underlying38], Mods.refl _ _, cur, hg, hc⟩
  · have hth := there_of hg 0 n (by omega)
    have h1 := fun ty => Lib.run_clear_slice (P := Tryz.prog) w 38 5 ty (.int .u8 0) Tryz.underlying38 zeroByte rfl rfl g 0 n cap hp (fun j hj => (hth j hj).1) (fun j hj => (hth j hj).2)
    obtain ⟨h2, h3⟩ := setCells_gen (C := cur.toList) (by simpa using hg) 0 (List.replicate n (.int .u8 0)) (by simp; omega)
    exact ⟨_, h1, h3, _, h2, by simp [spl]; omega⟩
def BackPost (ab d : Nat) (A : AreaL) (v : Value) (l : Bs) (w : World) (e : Ending) (w' : World) : Prop :=
  e = .returned (.tuple #[]) ∧ ∃ sp, Turns (bRow v l ++ areaF ab d A) (areaF ab d { A with spare := sp }) w w' ∧ AreaOk { A with spare := sp }
set_option maxHeartbeats 1000000 in
set_option maxRecDepth 100000 in
theorem back_calls (ab d : Nat) (A : AreaL) (g cap : Nat) (l : Bs) (w : World) (h : Sat w (bRow (.slice (some ⟨g, 0, none⟩) l.length cap) l ++ areaF ab d A)) (hA : AreaOk A) :
    Calls Tryz.prog 153 #[.pointer (some ⟨ab, 0, none⟩), .slice (some ⟨g, 0, none⟩) l.length cap] w (BackPost ab d A (.slice (some ⟨g, 0, none⟩) l.length cap) l w) := by
  obtain ⟨o, hgo, cap', cur, hv, rfl, hn, hcm, hcs, htk⟩ := (show Sat w ((g, _) :: areaF ab d A) from h).head
  obtain rfl : cap = cap' := by simpa using hv
  obtain ⟨W1, hcl, hm1, cur1, hg1, hs1⟩ := clear_row hgo hn (by omega)
  have hT1 : Turns (bRow (.slice (some ⟨g, 0, none⟩) l.length cap) l ++ areaF ab d A) ((g, fun o => ∃ cur : Array Value, o = .cells cur 5 (0, 0) ∧ cur.size = cap) :: areaF ab d A) w W1 := (Turns.refl h).put (φ := _) (ψ := fun o => ∃ cur : Array Value, o = .cells cur 5 (0, 0) ∧ cur.size = cap) hm1 hg1 ⟨cur1, rfl, hs1⟩
  have hab := hT1.sat.tail.headIs
  have a5 : W1.cell? ⟨ab, 132, none⟩ = some (.chan (some A.ch)) := cell_at hab 132 (areaC_ch d A hA.tail)
  obtain ⟨o, hch, s, r, rfl⟩ := hT1.sat.tail.tail.head
  have HH := Lib.hid (And.intro hT1 (And.intro hA (And.intro hn hcm)))
  clear h hA hab hgo hn hcm hcs htk hm1 hg1 hs1 hT1 hv
  have HC := Lib.hid hch
  clear hch
  go_enter Tryz.func153, Tryz.ntmps153
  go_upto_region 3 with (simp only [hcl])
  by_cases hlt : A.spare.length < 2
  · refine wp_select_send (n := 2) (v := .slice (some ⟨g, 0, none⟩) l.length cap) (z := .slice none 0 0) rfl rfl rfl (by kernel_rfl) HC.out (by simpa using hlt) ?_
    have hm := setChan_mods W1 A.ch 2 ((A.spare.map spareV).toArray.push (.slice (some ⟨g, 0, none⟩) l.length cap)) false (s + 1) r false
    have hc2 := Conc.heap_setChan W1 A.ch 2 ((A.spare.map spareV).toArray.push (.slice (some ⟨g, 0, none⟩) l.length cap)) false (s + 1) r false (lt_of_heap HC.out)
    generalize W1.setChan A.ch 2 ((A.spare.map spareV).toArray.push (.slice (some ⟨g, 0, none⟩) l.length cap)) false (s + 1) r false = W2 at hm hc2 ⊢
    have HM := Lib.hid (And.intro hm hc2)
    clear hm hc2 hcl
    simp only [List.drop_succ_cons, List.drop_zero, Act.put, List.setIfInBounds_toArray, List.set_cons_zero, List.set_cons_succ]
    go_wp2_with fail
    go_end0
    have h1 := HH.out.1.to (H := (A.ch, fun o => ∃ s r, o = .chan 2 (A.spare.map spareV).toArray false s r false) :: (ab, Is (.cells (areaCells d A) 157 (0, 0))) :: (spareF A.spare ++ [(g, fun o => ∃ cur : Array Value, o = .cells cur 5 (0, 0) ∧ cur.size = cap)])) (by unfold areaF; exact (perm_of_cnt fun _ => by simp only [cnt_cons, cnt_append, cnt_nil] <;> omega))
    have h2 := h1.put (ψ := fun o => ∃ s r, o = .chan 2 ((A.spare ++ [(g, l.length, cap)]).map spareV).toArray false s r false) HM.out.1 HM.out.2 ⟨s + 1, r, by simp [spareV]⟩
    refine ⟨rfl, A.spare ++ [(g, l.length, cap)], ?_, ⟨HH.out.2.1.tail, by simp; omega, ?_⟩⟩
    · have e : areaF ab d { A with spare := A.spare ++ [(g, l.length, cap)] } = (ab, Is (.cells (areaCells d A) 157 (0, 0))) :: (A.ch, fun o => ∃ s r, o = .chan 2 ((A.spare ++ [(g, l.length, cap)]).map spareV).toArray false s r false) :: (spareF A.spare ++ [(g, fun o => ∃ cur : Array Value, o = .cells cur 5 (0, 0) ∧ cur.size = cap)]) := by
        unfold areaF spareF
        simp only [List.map_append, List.map_cons, List.map_nil]
        rfl
      rw [e]
      exact h2.to (perm_of_cnt fun _ => by simp only [cnt_cons, cnt_append, cnt_nil] <;> omega)
    · intro x hx
      rcases List.mem_append.1 hx with hx | hx
      · exact HH.out.2.1.caps x hx
      · simp at hx; subst hx; exact HH.out.2.2
  · refine wp_select_full (n := 2) (v := .slice (some ⟨g, 0, none⟩) l.length cap) (z := .slice none 0 0) rfl rfl rfl (by kernel_rfl) HC.out (by simp; omega) ?_
    clear hcl
    simp only [List.drop_succ_cons, List.drop_zero, Act.put, List.setIfInBounds_toArray, List.set_cons_zero, List.set_cons_succ]
    go_wp2_with fail
    go_end0
    exact ⟨rfl, A.spare, Turns.drop (H := areaF ab d A) HH.out.1 (fun _ => by simp only [cnt_cons, cnt_append, cnt_nil] <;> omega), HH.out.2.1⟩
end Go.Proofs.YtdhobpbngkainaaGreatDoor
/-
  Ours. Arrays of bytes: when two are equal, as the program asks.
-/
namespace Go.Proofs.YtdhobpbngkainaaGreatDoor
open Go.RowKit

theorem arr_lits {t n : Nat} (ht : Tryz.prog.underlying t = some (.array n 5)) (hc : Tryz.prog.cellsOf t = n) (d : Nat) (s : Bs) (hs : s.length = n) :
    Tryz.prog.keyLits (d + 2) t (s.map enc8) = some (s.map fun x => Lit.int .u8 x.toNat) := by
  have h1 : Tryz.prog.cellsOf 5 = 1 := by kernel_rfl
  have e0 : Tryz.prog.keyLits (d + 2) t (s.map enc8) = if (s.map enc8).length = n then ((List.range n).mapM fun i => Tryz.prog.keyLits (d + 1) 5 (((s.map enc8).drop i).take 1)).map List.flatten else none := by
    conv => lhs; unfold Program.keyLits
    simp only [ht, hc, h1, Nat.mul_one]
  rw [e0, if_pos (by simpa using hs)]
  have hm : ∀ (m : Nat) (l : Bs) (o : Nat), (s.drop o).take m = l → l.length = m → (List.range' o m).mapM (fun i => Tryz.prog.keyLits (d + 1) 5 (((s.map enc8).drop i).take 1)) = some (l.map fun x => [Lit.int .u8 x.toNat]) := by
    intro m
    induction m with
    | zero => intro l o h hl; simp at hl; subst hl; rfl
    | succ m ih =>
      intro l o h hl
      cases l with
      | nil => simp at hl
      | cons x r =>
        have ho : o < s.length := by
          rcases Nat.lt_or_ge o s.length with h' | h'
          · exact h'
          · rw [List.drop_of_length_le h'] at h; simp at h
        rw [List.drop_eq_getElem_cons ho, List.take_succ_cons] at h
        obtain ⟨rfl, hr⟩ := List.cons.inj h
        have e1 : ((s.map enc8).drop o).take 1 = [enc8 s[o]] := by
          rw [List.drop_eq_getElem_cons (show o < (s.map enc8).length by simpa using ho)]
          simp only [List.take_succ_cons, List.take_zero, List.getElem_map]
        have e2 : Tryz.prog.keyLits (d + 1) 5 [enc8 s[o]] = some [Lit.int .u8 s[o].toNat] := by
          have := UInt8.toNat_lt s[o]
          have hw : (Lit.int .u8 (s[o].toNat : Int)).wf = true := by simp [Lit.wf, IntKind.min, IntKind.max, IntKind.bits, IntKind.signed]; omega
          simp only [Program.keyLits, Tryz.underlying5, enc8]
          exact if_pos ⟨trivial, hw⟩
        rw [List.range'_succ, List.mapM_cons, e1, e2]
        rw [ih r (o + 1) hr (by simpa using hl)]
        rfl
  have hf : ∀ l : Bs, (l.map fun x => [Lit.int IntKind.u8 (x.toNat : Int)]).flatten = l.map fun x => Lit.int IntKind.u8 (x.toNat : Int) := fun l => by
    induction l with
    | nil => rfl
    | cons x r ih => rw [List.map_cons, List.map_cons, List.flatten_cons, ih]; rfl
  have hm0 := hm n s 0 (by rw [List.drop_zero]; exact List.take_of_length_le (by omega)) hs
  rw [List.range_eq_range', hm0, Option.map_some, hf]
theorem lits_inj {a b : Bs} (h : (a.map fun x => Lit.int IntKind.u8 x.toNat) = b.map fun x => Lit.int IntKind.u8 x.toNat) : a = b := by
  induction a generalizing b with
  | nil => cases b with
    | nil => rfl
    | cons y r => simp at h
  | cons x r ih => cases b with
    | nil => simp at h
    | cons y s =>
      simp only [List.map_cons, List.cons.injEq, Lit.int.injEq, true_and] at h
      obtain ⟨h1, h2⟩ := h
      rw [ih h2, UInt8.toNat_inj.1 (show x.toNat = y.toNat by omega)]
set_option maxRecDepth 100000 in
/-- What the program asks of two arrays of bytes. -/
theorem run_equal_arr {t n : Nat} (ht : Tryz.prog.underlying t = some (.array n 5)) (hc : Tryz.prog.cellsOf t = n) (hk : Tryz.prog.keyTypeAt 2 t = true) (hk2 : Tryz.prog.keyType t = true) (hsz : Tryz.prog.types.size + 1 = 362 + 1)
    (a b : Bs) (ha : a.length = n) (hb : b.length = n) (w : World) : (Op.equal t (.agg (row8 a)) (.agg (row8 b))).run Tryz.prog w = .ok (decide (a = b)) w := by
  have key : ∀ s : Bs, s.length = n → keyOf Tryz.prog t (.agg (row8 s)) = some (.string (keyBytes (s.map fun x => Lit.int .u8 x.toNat))) := fun s hs => by
    unfold keyOf
    rw [ht]
    simp only [hk2, Value.formed, ht, hc, row8_size, hs, beq_self_eq_true, Bool.and_self, if_true]
    rw [hsz]
    show (Tryz.prog.keyLits (362 - 1 + 2) t (row8 s).toList).map _ = _
    rw [show (row8 s).toList = s.map enc8 from rfl, arr_lits ht hc _ s hs]
    rfl
  obtain ⟨r, hr, hiff⟩ := run_equal_deep w (m := 2) (by decide) hk (by rw [ht]) (key a ha) (key b hb)
  rw [hr]
  congr 1
  rw [Bool.eq_iff_iff, hiff, decide_eq_true_iff]
  constructor
  · intro e
    have e' : keyBytes (a.map fun x => Lit.int .u8 x.toNat) = keyBytes (b.map fun x => Lit.int .u8 x.toNat) := by simpa using e
    exact lits_inj (Go.keyLits_inj (arr_lits ht hc 0 a ha) (arr_lits ht hc 0 b hb) e')
  · rintro rfl; rfl
theorem neq_arr {t n : Nat} (ht : Tryz.prog.underlying t = some (.array n 5)) (hc : Tryz.prog.cellsOf t = n) (hk : Tryz.prog.keyTypeAt 2 t = true) (hk2 : Tryz.prog.keyType t = true) (hsz : Tryz.prog.types.size + 1 = 362 + 1)
    (a b : Bs) (ha : a.length = n) (hb : b.length = n) (w : World) : (binOp .neq t (.agg (row8 a)) (.agg (row8 b))).run Tryz.prog w = .ok (.bool (!decide (a = b))) w := by
  simp only [binOp, Sem.run_bind, run_equal_arr ht hc hk hk2 hsz a b ha hb w, Result.andThen_ok, Sem.run_pure]
theorem eql_arr {t n : Nat} (ht : Tryz.prog.underlying t = some (.array n 5)) (hc : Tryz.prog.cellsOf t = n) (hk : Tryz.prog.keyTypeAt 2 t = true) (hk2 : Tryz.prog.keyType t = true) (hsz : Tryz.prog.types.size + 1 = 362 + 1)
    (a b : Bs) (ha : a.length = n) (hb : b.length = n) (w : World) : (binOp .eql t (.agg (row8 a)) (.agg (row8 b))).run Tryz.prog w = .ok (.bool (decide (a = b))) w := by
  simp only [binOp, Sem.run_bind, run_equal_arr ht hc hk hk2 hsz a b ha hb w, Result.andThen_ok, Sem.run_pure]
theorem neq_arr42 (a b : Bs) (ha : a.length = 128) (hb : b.length = 128) (w : World) : (binOp .neq 42 (.agg (row8 a)) (.agg (row8 b))).run Tryz.prog w = .ok (.bool (!decide (a = b))) w :=
  neq_arr Tryz.underlying42 (by kernel_rfl) (by kernel_rfl) (by kernel_rfl) (by kernel_rfl) a b ha hb w
theorem neq_sec (a b : Bs) (ha : a.length = 128) (hb : b.length = 128) (w : World) : (binOp .neq 43 (.agg (row8 a)) (.agg (row8 b))).run Tryz.prog w = .ok (.bool (!decide (a = b))) w :=
  neq_arr Tryz.underlying43 (by kernel_rfl) (by kernel_rfl) (by kernel_rfl) (by kernel_rfl) a b ha hb w
theorem eql_sec (a b : Bs) (ha : a.length = 128) (hb : b.length = 128) (w : World) : (binOp .eql 43 (.agg (row8 a)) (.agg (row8 b))).run Tryz.prog w = .ok (.bool (decide (a = b))) w :=
  eql_arr Tryz.underlying43 (by kernel_rfl) (by kernel_rfl) (by kernel_rfl) (by kernel_rfl) a b ha hb w
end Go.Proofs.YtdhobpbngkainaaGreatDoor
/-
  Ours. Steps: two arrays compared; a slice taken for an array.
-/
namespace Go.Proofs.YtdhobpbngkainaaGreatDoor
open Go.RowKit

set_option maxRecDepth 100000 in
theorem run_guard_arr {t : Nat} (hg : Tryz.prog.eqGuardType Tryz.prog.depth t = false) (b : BinOp) (x y : Operand) (A B : Array Value) (w : World) : (eqGuard b t x y (.agg A) (.agg B)).run Tryz.prog w = .ok () w := by
  have hp : ∀ w, Sem.run Tryz.prog program w = .ok Tryz.prog w := fun _ => rfl
  have h1 : (!Tryz.prog.eqGuardType Tryz.prog.depth t) = true := by rw [hg]; rfl
  cases b <;> first | rfl | (unfold eqGuard; simp only [Bool.not_true, Bool.false_eq_true, if_false, Sem.run_bind, hp, Result.andThen_ok, h1, if_true, Sem.run_pure])
/-- Two arrays compared, in the head of a region that draws. -/
theorem wpStill_cmp {ops : Array Oper} {w : World} {Q : Act → Prop} {a : Act} {op : Oper} {rest : List Oper} (hgd : op.guard = none) (b : BinOp) (t : TypeId) (x y : Operand) (ty : TypeId) (ho : op.op = .binOp b t x y ty)
    (hg : Tryz.prog.eqGuardType Tryz.prog.depth t = false) (A B : Array Value) (v : Value) (hn : (binOp b t (.agg A) (.agg B)).run Tryz.prog w = .ok v w) (hx : a.eval x = .agg A) (hy : a.eval y = .agg B)
    (h : wpStill Tryz.prog ops w Q rest (a.put op.dst v)) : wpStill Tryz.prog ops w Q (op :: rest) a := by
  refine wpStill_step (fun K hK => ?_)
  have hw : Region.wanted op (yielded ops a.tmps) = true := by simp [Region.wanted, hgd]
  rw [if_pos hw]
  unfold Oper.still execOp
  simp only [ho, hx, hy, Sem.run_bind, run_guard_arr hg, Result.andThen_ok, hn, Oper.stillUpon, Sem.run_pure]
  exact ⟨trivial, hK _ h⟩
/-- The same, in a region in the text's order. -/
theorem wpList_cmp {ops : Array Oper} {w : World} {Q : Exit → Act → World → Prop} {a : Act} {op : Oper} {rest : List Oper} (hgd : op.guard = none) (b : BinOp) (t : TypeId) (x y : Operand) (ty : TypeId) (ho : op.op = .binOp b t x y ty)
    (hg : Tryz.prog.eqGuardType Tryz.prog.depth t = false) (A B : Array Value) (v : Value) (hn : (binOp b t (.agg A) (.agg B)).run Tryz.prog w = .ok v w) (hx : a.eval x = .agg A) (hy : a.eval y = .agg B)
    (h : wpList Tryz.prog ops Q rest (a.put op.dst v) w) : wpList Tryz.prog ops Q (op :: rest) a w := by
  refine wpList_plain hgd fun K hK => ?_
  unfold Oper.wp execOp
  simp only [ho, hx, hy, Sem.run_bind, run_guard_arr hg, Result.andThen_ok, hn, Sem.run_pure]
  exact hK _ _ h
/-- A slice that is long enough, taken for an array. -/
theorem run_arrayAt (ad : Addr) (len cap : Nat) (h : 128 ≤ len) (w : World) : (Instr.arrayAt 42 (.slice (some ad) len cap)).run Tryz.prog w = .ok (.pointer (some ad)) w := by
  have h' : ¬ len < 128 := by omega
  unfold Instr.arrayAt
  simp [run_underlying Tryz.underlying42, h']
theorem wpStill_arr {ops : Array Oper} {w : World} {Q : Act → Prop} {a : Act} {op : Oper} {rest : List Oper} (hgd : op.guard = none) (x : Operand) (ho : op.op = .sliceToArrayPointer 42 x)
    (ad : Addr) (len cap : Nat) (hl : 128 ≤ len) (hx : a.eval x = .slice (some ad) len cap)
    (h : wpStill Tryz.prog ops w Q rest (a.put op.dst (.pointer (some ad)))) : wpStill Tryz.prog ops w Q (op :: rest) a := by
  refine wpStill_step (fun K hK => ?_)
  have hw : Region.wanted op (yielded ops a.tmps) = true := by simp [Region.wanted, hgd]
  rw [if_pos hw]
  unfold Oper.still execOp
  simp only [ho, hx, Sem.run_bind, run_arrayAt ad len cap hl, Result.andThen_ok, Oper.stillUpon, Sem.run_pure]
  exact ⟨trivial, hK _ h⟩
theorem guard42 : Tryz.prog.eqGuardType Tryz.prog.depth 42 = false := by kernel_rfl
theorem guardSec : Tryz.prog.eqGuardType Tryz.prog.depth 43 = false := by kernel_rfl
end Go.Proofs.YtdhobpbngkainaaGreatDoor
