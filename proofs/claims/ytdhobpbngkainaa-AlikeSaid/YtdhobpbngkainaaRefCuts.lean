/-
  Ours. The reference's Cuts: it answers the lengths of the chunks, in new memory.
-/
import Derived.Test.YtdhobpbngkainaaProg
import Derived.Test.YtdhobpbngkainaaCutPlain
import Derived.Test.YtdhobpbngkainaaAppend
import Derived.RegionTactic
import Derived.RangeFuncBox
namespace Go.Proofs.Ytdhobpbngkainaa
open Go.RowKit

theorem infoIntR : (Try.prog.info? 3).map (fun i => (i.zero, i.size, i.bytes)) = some (some (.int .i64 0), 1, 8) := by kernel_rfl

def GearPost (c : Nat) (w : World) (e : Ending) (w' : World) : Prop := e = .returned (.int .u32 (gearI c)) ∧ w = w'
set_option maxHeartbeats 1000000 in
theorem gear_calls (c : Nat) (hc : c < 256) (w : World) : Calls Try.prog 15 #[.int .u8 c] w (GearPost c w) := by
  go_enter Try.func15, Try.ntmps15
  go_wp2
  go_ret
  exact ⟨rfl, rfl⟩

theorem bits_and_mask (x : Int) (m k : Nat) (hm : m + 1 = 2 ^ k) (hk : k ≤ 32) (h0 : 0 ≤ x) (h1 : x < 4294967296) : bits BinOp.and IntKind.u32 x m = x % (m + 1 : Nat) := by
  obtain ⟨n, rfl⟩ := Int.eq_ofNat_of_zero_le h0
  have hp : (2 : Nat) ^ k ≤ 2 ^ 32 := Nat.pow_le_pow_right (by omega) hk
  have e1 : (BitVec.ofInt 32 (n : Int)).toNat = n := by rw [BitVec.ofInt_natCast, BitVec.toNat_ofNat]; exact Nat.mod_eq_of_lt (by omega)
  have e2 : (BitVec.ofInt 32 (m : Int)).toNat = m := by rw [BitVec.ofInt_natCast, BitVec.toNat_ofNat]; exact Nat.mod_eq_of_lt (by omega)
  have e3 : n &&& m = n % 2 ^ k := by
    have := Nat.and_two_pow_sub_one_eq_mod n k
    rw [← hm, Nat.add_sub_cancel] at this
    rw [← hm]; exact this
  show IntKind.u32.wrap ((BitVec.ofInt 32 (n : Int) &&& BitVec.ofInt 32 (m : Int)).toNat : Int) = _
  rw [BitVec.toNat_and, e1, e2, e3, IntKind.wrap_u32, hm]
  have : n % 2 ^ k < 2 ^ k := Nat.mod_lt _ (Nat.two_pow_pos k)
  omega
/-- P3's words for the end of a chunk. -/
theorem endsB_eq (h : Int) (n : Nat) (h0 : 0 ≤ h) (h1 : h < 4294967296) :
    endsB h n = (decide (256 ≤ n) || (decide (64 ≤ n) && (h % 16 == 0)) || (decide (16 ≤ n) && decide (n < 64) && (h % 256 == 0))) := by
  have e1 := bits_and_mask h 15 4 rfl (by omega) h0 h1
  have e2 := bits_and_mask h 255 8 rfl (by omega) h0 h1
  unfold endsB
  rw [show ((15 : Int)) = ((15 : Nat) : Int) from rfl, show ((255 : Int)) = ((255 : Nat) : Int) from rfl, e1, e2]
  by_cases a : 256 ≤ n
  · simp [a]
  · by_cases b : 64 ≤ n
    · have c : ¬ n < 64 := by omega
      simp [a, b, c, bne]
    · have c : n < 64 := by omega
      by_cases d : 16 ≤ n <;> simp [a, b, c, d, bne]

def RefCutsPost (data : List UInt8) (w : World) (e : Ending) (w' : World) : Prop :=
  ∃ v, e = .returned v ∧ w'.ownsRow w.heap.size 3 1 v (lensOf data).length ((lensOf data).map fun n : Nat => Value.int .i64 n) ∧ Same w w'

theorem ends_iff (h c : Int) (n : Nat) : endsB (hashI h c) (n + 1) = true ↔ (256 ≤ (n : Int) + 1 ∨ (64 ≤ (n : Int) + 1 ∧ (h * 2 + gearI c) % 16 = 0) ∨ (16 ≤ (n : Int) + 1 ∧ (n : Int) + 1 < 64 ∧ (h * 2 + gearI c) % 256 = 0)) := by
  have hr := hashI_range h c
  rw [endsB_eq _ _ hr.1 hr.2]
  have e1 : hashI h c % 16 = (h * 2 + gearI c) % 16 := by unfold hashI; omega
  have e2 : hashI h c % 256 = (h * 2 + gearI c) % 256 := by unfold hashI; omega
  rw [e1, e2]
  simp only [Bool.or_eq_true, Bool.and_eq_true, decide_eq_true_eq, beq_iff_eq]
  omega

def RefRel (data : List UInt8) (w : World) (out hh nn ii : Value) (wr : World) : Prop :=
  ∃ (k n : Nat) (h : Int) (os : List Nat), k ≤ data.length ∧ ii = .int .i64 k ∧ nn = .int .i64 n ∧ hh = .int .u32 h ∧ 0 ≤ h ∧ h < 4294967296 ∧ n < 256 ∧ n ≤ k ∧
      os ++ cutsN h n (data.drop k) = lensOf data ∧ os.length ≤ k ∧ wr.ownsRow 0 3 1 out os.length (os.map fun n : Nat => Value.int .i64 n) ∧ (∀ g, out.ownBlock = some g → w.heap.size ≤ g) ∧ Same w wr

theorem refRel_end {data : List UInt8} {w wr w3 : World} {v v' : Value} {o : Obj} {k n : Nat} {h : Int} {os : List Nat} {x : UInt8} (hlt : k < data.length) (hx : x = data[k]) (hos : os ++ cutsN h n (data.drop k) = lensOf data) (hol : os.length ≤ k)
    (hbl : ∀ g, v.ownBlock = some g → w.heap.size ≤ g) (hs : Same w wr) (he : k + 1 = data.length ∨ endsB (hashI h x.toNat) (n + 1) = true)
    (hown : w3.ownsRow 0 3 1 v' (os.length + 1) ((os.map fun n : Nat => Value.int .i64 n) ++ [.int .i64 ((n : Int) + 1)])) (hgrow : (wr.alloc o).grownBy w3 v.ownBlock) (hg : ∀ g, v'.ownBlock = some g → v.ownBlock = some g ∨ (wr.alloc o).heap.size ≤ g) (m : Int) (hm : m = (k : Int) + 1) :
    RefRel data w v' (.int .u32 0) (.int .i64 0) (.int .i64 m) w3 := by
  have hd : data.drop k = x :: data.drop (k + 1) := by rw [hx]; exact List.drop_eq_getElem_cons hlt
  have hc : cutsN h n (data.drop k) = (n + 1) :: cutsN 0 0 (data.drop (k + 1)) := by
    rw [hd]
    rcases he with he | he
    · rw [show data.drop (k + 1) = [] from List.drop_of_length_le (by omega), cutsN_last]; rfl
    · exact cutsN_yes _ _ _ _ he
  refine ⟨k + 1, 0, 0, os ++ [n + 1], by omega, by simp [hm], rfl, rfl, by omega, by omega, by omega, by omega, ?_, by simp; omega, ?_, ?_, ?_⟩
  · rw [← hos, hc]; simp
  · simpa using hown
  · intro g h'
    have := hs.size
    rcases hg g h' with h2 | h2
    · exact hbl g h2
    · simp at h2; omega
  · exact (hs.alloc o).grown hgrow (fun k hk => .inr (hbl k hk))

theorem refRel_stay {data : List UInt8} {w wr : World} {v : Value} {k n : Nat} {h m : Int} {os : List Nat} {x : UInt8} (hlt : k < data.length) (hx : x = data[k]) (hos : os ++ cutsN h n (data.drop k) = lensOf data) (hol : os.length ≤ k) (hnk : n ≤ k)
    (hown : wr.ownsRow 0 3 1 v os.length (os.map fun n : Nat => Value.int .i64 n)) (hbl : ∀ g, v.ownBlock = some g → w.heap.size ≤ g) (hs : Same w wr) (he : ¬ (k + 1 = data.length ∨ endsB (hashI h x.toNat) (n + 1) = true)) (hm : m = hashI h x.toNat) :
    RefRel data w v (.int .u32 m) (.int .i64 ((n : Int) + 1)) (.int .i64 ((k : Int) + 1)) wr := by
  have hd : data.drop k = x :: data.drop (k + 1) := by rw [hx]; exact List.drop_eq_getElem_cons hlt
  have he2 : endsB (hashI h x.toNat) (n + 1) = false := by
    cases hz : endsB (hashI h x.toNat) (n + 1)
    · rfl
    · exact absurd (.inr hz) he
  have hr := hashI_range h x.toNat
  refine ⟨k + 1, n + 1, hashI h x.toNat, os, by omega, by simp, by simp, by rw [hm], hr.1, hr.2, ?_, by omega, ?_, by omega, hown, hbl, hs⟩
  · rcases Nat.lt_or_ge (n + 1) 256 with h' | h'
    · exact h'
    · rw [ends_256 h'] at he2; cases he2
  · rw [← hos, hd, cutsN_no _ _ _ _ he2]
    intro hn
    have := List.drop_eq_nil_iff.1 hn
    exact he (.inl (by omega))

set_option maxHeartbeats 4000000 in
set_option maxRecDepth 100000 in
theorem refCuts_calls (a : Option Addr) (cap : Nat) (data : List UInt8) (w : World) (hd : CellsAt w a (data.map enc8)) (hmax : data.length ≤ 1099511627776) :
    Calls Try.prog 11 #[.slice a data.length cap] w (RefCutsPost data w) := by
  go_enter Try.func11, Try.ntmps11
  go_wp2
  obtain ⟨i0, hi0, hz1, hz2, hz3⟩ := info_parts infoIntR
  go_loopw [3, 4, 5, 6] (RefRel data w) (fun _ _ _ ii _ => data.length - (intOf ii).toNat)
  case atStart => exact ⟨0, 0, 0, [], by omega, rfl, rfl, rfl, by omega, by omega, by omega, by omega, rfl, by simp, World.ownsRow_nil _ _ _ _, by simp [Value.ownBlock], Mods.refl _ _⟩
  case round =>
    obtain ⟨k, n, h, os, hk, rfl, rfl, rfl, hh0, hh1, hn, hnk, hos, hol, hown, hbl, hs⟩ := hrel
    have HO := Lib.hid (And.intro hos (And.intro hown (And.intro hbl hs)))
    clear hos hown hbl hs
    by_cases hlt : k < data.length
    · obtain ⟨g1, o1, rfl, hc1⟩ := hd (by simp; omega)
      have hk1 : w.cell? ⟨g1, o1 + k, none⟩ = some (enc8 data[k]) := by rw [hc1 k (by simpa using hlt)]; simp
      have hk2 := (World.cell?_of_block (w := w) (HO.out.2.2.2.block g1 (World.block_lt_of_cell? w _ hk1) id)).trans hk1
      obtain ⟨x, hx⟩ : ∃ x, x = data[k] := ⟨_, rfl⟩
      rw [← hx] at hk2
      unfold enc8 at hk2
      have HX := Lib.hid hx
      have hxl := x.toNat_lt
      have HE := Lib.hid (ends_iff h x.toNat n)
      clear hx hk1 hc1 hd
      go_wp2_with (first
        | (go_at_call 15; refine (gear_calls _ hxl _).mono ?_; rintro e w2 ⟨rfl, rfl⟩)
        | (at_builtin; refine wpList_append_fp _ rfl _ _ 27 rfl 3 i0 (.int .i64 0) 1 8 Try.underlying27 hi0 hz1 hz2 hz3 rfl (by decide) _ _ _ rfl (HO.out.2.1.alloc _) ⟨wr.heap.size, 0, none⟩ 1 1 [.int .i64 ((n : Int) + 1)] rfl rfl (cell_one_new _ _ _) (by simp [Value.oneCell']) (by unfold maxLen; omega) (by omega) ?_; intro v' A3 hown' hgrow _ hgb))
      all_goals go_roundw
      all_goals
        first
        | (refine refRel_end hlt HX.out HO.out.1 hol HO.out.2.2.1 HO.out.2.2.2 ?_ hown' hgrow hgb _ ?_
           · first
             | exact .inl (by omega)
             | exact .inr (HE.out.2 (.inl (by omega)))
             | exact .inr (HE.out.2 (.inr (.inl ⟨by omega, eq_of_beq (by assumption)⟩)))
             | exact .inr (HE.out.2 (.inr (.inr ⟨by omega, by omega, eq_of_beq (by assumption)⟩)))
             | (refine .inr (HE.out.2 (.inl ?_))
                have hq : ((k : Int) == (data.length : Int) - 1) = true ∨ ((n : Int) + 1 == 256) = true := by assumption
                rcases hq with h' | h' <;> (have := eq_of_beq h'; omega))
             | (exfalso
                have hq : ((k : Int) == (data.length : Int) - 1) = true ∨ ((n : Int) + 1 == 256) = true := by assumption
                rcases hq with h' | h' <;> (have := eq_of_beq h'; omega))
           · omega)
        | (refine refRel_stay hlt HX.out HO.out.1 hol hnk HO.out.2.1 HO.out.2.2.1 HO.out.2.2.2 ?_ rfl
           have key : ∀ c : Int, 0 ≤ c → ¬ (256 ≤ (n : Int) + 1) := fun _ _ => by
             first
             | omega
             | (have hq : ((k : Int) == (data.length : Int) - 1) = false ∧ ((n : Int) + 1 == 256) = false := by assumption
                have := ne_of_beq_false hq.2; omega)
           intro hh
           rcases hh with hh | hh
           · omega
           · rcases HE.out.1 hh with h1 | ⟨h1, h2⟩ | ⟨h1, h2, h3⟩
             · exact key 0 (by omega) h1
             · first
               | omega
               | exact ne_of_beq_false (by assumption) h2
             · first
               | omega
               | exact ne_of_beq_false (by assumption) h3)
        | (simp [intOf]; omega)
    · obtain ⟨hos, hown, hbl, hs⟩ := HO.out
      have hkk : k = data.length := by omega
      have hP' : os = lensOf data := by rw [hkk, List.drop_length] at hos; simpa [cutsN] using hos
      have hP := Lib.hid hP'
      clear hP'
      have HF := Lib.hid (And.intro hown (And.intro hbl hs))
      clear hos hown hbl hs hkk
      go_wp2
      go_ret
      exact ⟨_, rfl, by rw [← hP.out]; exact ownsRow_base HF.out.1 HF.out.2.1, HF.out.2.2⟩

end Go.Proofs.Ytdhobpbngkainaa
