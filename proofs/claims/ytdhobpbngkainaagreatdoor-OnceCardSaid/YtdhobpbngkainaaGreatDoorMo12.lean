/-
  Ours. The cutter's two functions: what NewCutter makes, what Ends answers and leaves.
-/
import Derived.Test.YtdhobpbngkainaaGreatDoorProg
import Derived.Test.YtdhobpbngkainaaGreatDoorMo11
import Derived.RegionTactic
import Derived.BigQuiet
import Derived.Deep.QuietTactic
import Derived.RangeFuncNested
import Derived.RangeFuncBound
import Derived.RangeFuncCalls
import Derived.RangeFuncLeaves
import Derived.Shelf.Abstract
import Derived.OwnWalkIn
import Derived.TacticsInMore
import Derived.LoopNIn
import Derived.LoopIn
import Derived.Test.YtdhobpbngkainaaGreatDoorMo09
import Derived.OrdersIn
import Derived.RangeFuncIn
import Derived.TacticsIn
import Derived.Test.YtdhobpbngkainaaGreatDoorMo10
import Derived.Maps.RangeRun
import Derived.Carry
namespace Go.Proofs.YtdhobpbngkainaaGreatDoor
open Go.RowKit

def IsCutter (w : World) (b : Nat) (h : Int) (n : Nat) : Prop := w.heap[b]? = some (.cells (cutC h n) 296 (0, 0))

def zcut : Array Value := gearsTo 0
theorem zeroCut (w : World) : (zeroValue 296).run Tryz.prog w = .ok (.agg zcut) w := by kernel_rfl

def NewCutterPost (w : World) (e : Ending) (w' : World) : Prop :=
  e = .returned (.pointer (some ⟨w.heap.size, 0, none⟩)) ∧ IsCutter w' w.heap.size 0 0 ∧ Same w w'

set_option maxHeartbeats 1000000 in
set_option maxRecDepth 100000 in
theorem NewCutter_calls (w : World) : Calls Tryz.prog 124 #[] w (NewCutterPost w) := by
  have hz := zeroCut
  go_enter Tryz.func124, Tryz.ntmps124
  go_wp2
  clear hz
  go_loopw [6] (fun i wr => ∃ k : Nat, k ≤ 256 ∧ i = .int .i64 k ∧ wr.heap[w.heap.size]? = some (.cells (gearsTo k) 296 (0,0)) ∧ Same w wr)
    (fun i _ => 256 - (intOf i).toNat)
  case atStart => exact ⟨0, by omega, rfl, alloc_new w _, (Mods.refl _ _).alloc _⟩
  case round =>
    obtain ⟨k, hk, rfl, hcs, hs⟩ := hrel
    by_cases hlt : k < 256
    · have hc := cell_at hcs k (gearsTo_get k hlt)
      have hf := free_at hcs k
      have HC := Lib.hid hcs
      clear hcs
      go_wp2
      go_roundw
      case rel =>
        refine ⟨k + 1, by omega, by go_num, ?_, hs.setCell (.inr (Nat.le_refl _)) _⟩
        rw [set_same HC.out]
        exact congrArg some (congrArg (fun c => Obj.cells c _ _) (gearsTo_set k hlt))
      case measure => simp [intOf]; omega
    · obtain rfl : k = 256 := by omega
      have HC := Lib.hid hcs
      clear hcs
      go_wp2
      go_ret
      exact ⟨rfl, by unfold IsCutter; rw [HC.out, gearsTo_full], hs⟩

def EndsPost (w : World) (b : Nat) (h : Int) (n : Nat) (e : Ending) (w' : World) : Prop :=
  e = .returned (.bool (endsB h n)) ∧ IsCutter w' b (if endsB h n then 0 else h) (if endsB h n then 0 else n) ∧ Mods (· = b) w w' ∧ w'.heap.size = w.heap.size

theorem isCutter_h {w : World} {b : Nat} {h : Int} {n : Nat} (hC : IsCutter w b h n) (h' m : Int) (hm : m = h') : IsCutter (w.setCell ⟨b, 256, none⟩ (.int .u32 m)) b h' n :=
  (set_same hC 256 _).trans (by rw [hm, cutC_set_h])
theorem isCutter_n {w : World} {b : Nat} {h : Int} {n : Nat} (hC : IsCutter w b h n) (n' : Nat) (m : Int) (hm : m = n') : IsCutter (w.setCell ⟨b, 257, none⟩ (.int .i64 m)) b h n' :=
  (set_same hC 257 _).trans (by rw [cutC_set_n h n n' _ (by rw [hm])])
theorem isCutter_drew {w : World} {b : Nat} {h : Int} {n : Nat} (hC : IsCutter w b h n) : IsCutter w.drew b h n := hC
theorem endsPost_yes {w w' : World} {b : Nat} {h : Int} {n : Nat} (e : endsB h n = true) (hC : IsCutter w' b 0 0) (hM : Mods (· = b) w w') (hz : w'.heap.size = w.heap.size) :
    EndsPost w b h n (.returned (.bool true)) w' := by
  refine ⟨by rw [e], ?_, hM, hz⟩; rw [e]; exact hC
theorem endsPost_no {w w' : World} {b : Nat} {h : Int} {n : Nat} (e : endsB h n = false) (hC : IsCutter w' b h n) (hM : Mods (· = b) w w') (hz : w'.heap.size = w.heap.size) :
    EndsPost w b h n (.returned (.bool false)) w' := by
  refine ⟨by rw [e], ?_, hM, hz⟩; rw [e]; exact hC
theorem hash_form (h c : Int) : (h * 2 % 4294967296 + gearI c) % 4294967296 = hashI h c := by unfold hashI; omega

set_option maxHeartbeats 1000000 in
set_option maxRecDepth 100000 in
theorem Ends_calls (w : World) (b : Nat) (h : Int) (n c : Nat) (hc : c < 256) (hn : n < 256) (hC : IsCutter w b h n) :
    Calls Tryz.prog 125 #[.pointer (some ⟨b, 0, none⟩), .int .u8 c] w (EndsPost w b (hashI h c) (n + 1)) := by
  have h1 := cell_at hC c (cutC_g h n c hc)
  have h2 := cell_at hC 256 (cutC_h h n)
  have h3 := cell_at hC 257 (cutC_n h n)
  have f2 := free_at hC 256
  have f3 := free_at hC 257
  have HC := Lib.hid hC
  clear hC
  have b0 := bits_and0
  go_enter Tryz.func125, Tryz.ntmps125
  go_wp2
  go_region
  all_goals go_wp2
  all_goals go_ret
  · refine endsPost_yes (ends_256 (by omega)) ?_ ?_ ?_
    · exact isCutter_drew (isCutter_n (isCutter_h (isCutter_n (isCutter_h HC.out (hashI h c) _ rfl) (n + 1) _ rfl) 0 0 rfl) 0 0 rfl)
    · repeat (first | exact Mods.refl _ _ | refine Mods.drew ?_ | refine Mods.set1 ?_ _)
    · simp [World.drew]
  · refine endsPost_no (ends_64 (v := true) (by omega) (by omega) (by assumption)) ?_ ?_ ?_
    · exact isCutter_drew (isCutter_n (isCutter_h HC.out (hashI h c) _ rfl) (n + 1) _ rfl)
    · repeat (first | exact Mods.refl _ _ | refine Mods.drew ?_ | refine Mods.set1 ?_ _)
    · simp [World.drew]
  · refine endsPost_yes (ends_64 (v := false) (by omega) (by omega) (by assumption)) ?_ ?_ ?_
    · exact isCutter_drew (isCutter_n (isCutter_h (isCutter_n (isCutter_h HC.out (hashI h c) _ rfl) (n + 1) _ rfl) 0 0 rfl) 0 0 rfl)
    · repeat (first | exact Mods.refl _ _ | refine Mods.drew ?_ | refine Mods.set1 ?_ _)
    · simp [World.drew]
  · refine endsPost_no (ends_16 (v := true) (by omega) (by omega) (by assumption)) ?_ ?_ ?_
    · exact isCutter_drew (isCutter_n (isCutter_h HC.out (hashI h c) _ rfl) (n + 1) _ rfl)
    · repeat (first | exact Mods.refl _ _ | refine Mods.drew ?_ | refine Mods.set1 ?_ _)
    · simp [World.drew]
  · refine endsPost_yes (ends_16 (v := false) (by omega) (by omega) (by assumption)) ?_ ?_ ?_
    · exact isCutter_drew (isCutter_n (isCutter_h (isCutter_n (isCutter_h HC.out (hashI h c) _ rfl) (n + 1) _ rfl) 0 0 rfl) 0 0 rfl)
    · repeat (first | exact Mods.refl _ _ | refine Mods.drew ?_ | refine Mods.set1 ?_ _)
    · simp [World.drew]
  · refine endsPost_no (ends_0 (by omega)) ?_ ?_ ?_
    · exact isCutter_drew (isCutter_n (isCutter_h HC.out (hashI h c) _ rfl) (n + 1) _ rfl)
    · repeat (first | exact Mods.refl _ _ | refine Mods.drew ?_ | refine Mods.set1 ?_ _)
    · simp [World.drew]

end Go.Proofs.YtdhobpbngkainaaGreatDoor
/-
  Ours. chunk.Each's iterator: the chunks come one by one, each a piece of the content; whatever the loop's body keeps in blocks of its own.
-/
namespace Go.Proofs.YtdhobpbngkainaaGreatDoor
open Go.RowKit Go.Shelf
attribute [local go_sem] Oper.semAt_some

abbrev FW : Fence := Fence.wide

/-- What a round of a loop over chunks leaves: the blocks that the body owns, and that nothing else turned. -/
def RoundPost (J Jx : Nat → (Nat → Prop) → World → Prop) (i : Nat) (S : Nat → Prop) (A : World) (e : Ending) (B : World) : Prop :=
  (e = .returned (.bool true) ∧ ∃ S', J (i + 1) S' B ∧ Mods S A B ∧ ∀ k, S' k → k < B.heap.size ∧ (S k ∨ A.heap.size ≤ k)) ∨
  (e = .returned (.bool false) ∧ ∃ S', Jx i S' B ∧ Mods S A B ∧ ∀ k, S' k → k < B.heap.size ∧ (S k ∨ A.heap.size ≤ k))

def EachPost (J Jx : Nat → (Nat → Prop) → World → Prop) (N : Nat) (S : Nat → Prop) (W : World) (e : Ending) (B : World) : Prop :=
  (∃ v, e = .returned v) ∧ ∃ S', (J N S' B ∨ ∃ i, i < N ∧ Jx i S' B) ∧ Mods S W B ∧ ∀ k, S' k → k < B.heap.size ∧ (S k ∨ W.heap.size ≤ k)

def EachRel (J : Nat → (Nat → Prop) → World → Prop) (data : List UInt8) (S0 : Nat → Prop) (W : World) (c box d : Nat) (k : Nat) (i frm : Nat) (wr : World) : Prop :=
  ∃ S, J i S wr ∧ ¬ S c ∧ ¬ S box ∧ ¬ S d ∧ (∀ q, S q → q < wr.heap.size ∧ (S0 q ∨ W.heap.size ≤ q)) ∧ Mods S0 W wr ∧ c < wr.heap.size ∧
    i ≤ (lensOf data).length ∧ (k = data.length → i = (lensOf data).length) ∧
    (k < data.length → ∃ h n, IsCutter wr c h n ∧ n < 256 ∧ frm + n = k ∧ frm = ((lensOf data).take i).sum ∧ (lensOf data).drop i = cutsN h n (data.drop k))

theorem drop_cons_facts {l : List Nat} {i a : Nat} {r : List Nat} (h : l.drop i = a :: r) : ∃ hi : i < l.length, l[i] = a ∧ l.drop (i + 1) = r ∧ (l.take (i + 1)).sum = (l.take i).sum + a := by
  have hi : i < l.length := by
    rcases Nat.lt_or_ge i l.length with h' | h'
    · exact h'
    · rw [List.drop_of_length_le h'] at h; cases h
  have e : l[i] = a := by
    have := List.getElem?_drop (xs := l) (i := i) (j := 0)
    rw [h] at this
    simp at this
    exact (List.getElem?_eq_some_iff.1 this.symm).2
  refine ⟨hi, e, ?_, ?_⟩
  · rw [← List.drop_drop, h]; rfl
  · rw [List.take_succ_eq_append_getElem hi, List.sum_append, e]; simp

/-- Where a chunk ends behind byte k: which one it is. -/
theorem each_at_end {data : List UInt8} {k i frm m : Nat} {h : Int} {x : UInt8} (hlt : k < data.length) (hx : x = data[k]) (hfm : frm + m = k) (hfr : frm = ((lensOf data).take i).sum)
    (hdr : (lensOf data).drop i = cutsN h m (data.drop k)) (he : endsB (hashI h x.toNat) (m + 1) = true ∨ k + 1 = data.length) :
    ∃ hi : i < (lensOf data).length, (lensOf data)[i] = k + 1 - frm ∧ (lensOf data).drop (i + 1) = cutsN 0 0 (data.drop (k + 1)) ∧ k + 1 = ((lensOf data).take (i + 1)).sum := by
  have hd : data.drop k = x :: data.drop (k + 1) := by rw [hx]; exact List.drop_eq_getElem_cons hlt
  have h2 : (lensOf data).drop i = (m + 1) :: cutsN 0 0 (data.drop (k + 1)) := by
    rw [hdr, hd]
    rcases he with he | he
    · exact cutsN_yes _ _ _ _ he
    · rw [List.drop_of_length_le (by omega)]; rw [cutsN_last]; rfl
  obtain ⟨hi, h3, h4, h5⟩ := drop_cons_facts h2
  exact ⟨hi, by omega, h4, by omega⟩

section
variable {J Jx : Nat → (Nat → Prop) → World → Prop} {data : List UInt8} {S0 S : Nat → Prop} {W wr w2 w3 : World} {c box d k i frm m : Nat} {h : Int} {x : UInt8}

/-- A round has gone on. -/
theorem each_next (hlt : k < data.length) (hx : x = data[k]) (hfm : frm + m = k) (hfr : frm = ((lensOf data).take i).sum)
    (hdr : (lensOf data).drop i = cutsN h m (data.drop k)) (he : endsB (hashI h x.toNat) (m + 1) = true ∨ k + 1 = data.length)
    (hSc : ¬ S c) (hSb : ¬ S box) (hSd : ¬ S d) (hSu : ∀ q, S q → q < wr.heap.size ∧ (S0 q ∨ W.heap.size ≤ q)) (hM : Mods S0 W wr) (hcW : W.heap.size ≤ c) (hcl : c < wr.heap.size)
    (hbW : box < W.heap.size) (hdl : d < W.heap.size)
    (hM2 : Mods (· = c) wr w2) (hC2 : k + 1 < data.length → IsCutter w2 c 0 0) {S' : Nat → Prop} (hJ : J (i + 1) S' w3) (hM3 : Mods S w2 w3) (hS' : ∀ q, S' q → q < w3.heap.size ∧ (S q ∨ w2.heap.size ≤ q)) :
    EachRel J data S0 W c box d (k + 1) (i + 1) (k + 1) w3 := by
  obtain ⟨hi, h3, h4, h5⟩ := each_at_end hlt hx hfm hfr hdr he
  have z2 := hM2.size
  have z3 := hM3.size
  have z1 := hM.size
  refine ⟨S', hJ, ?_, ?_, ?_, ?_, ?_, by omega, by omega, ?_, ?_⟩
  · intro hc; rcases (hS' c hc).2 with h' | h'
    · exact hSc h'
    · omega
  · intro hc; rcases (hS' box hc).2 with h' | h'
    · exact hSb h'
    · omega
  · intro hc; rcases (hS' d hc).2 with h' | h'
    · exact hSd h'
    · omega
  · intro q hq
    refine ⟨(hS' q hq).1, ?_⟩
    rcases (hS' q hq).2 with h' | h'
    · exact (hSu q h').2
    · omega
  · refine (hM.trans' hM2 (fun q hq => ?_)).trans' hM3 (fun q hq => (hSu q hq).2)
    subst hq; exact .inr hcW
  · intro hk
    rw [show data.drop (k + 1) = [] from List.drop_of_length_le (by omega)] at h4
    simp only [cutsN] at h4
    have := List.drop_eq_nil_iff.1 h4
    omega
  · intro hk
    exact ⟨0, 0, hM3.at (hC2 hk) hSc, by omega, by omega, h5, h4⟩

/-- No chunk ends here. -/
theorem each_stay (hlt : k + 1 < data.length) (hx : x = data[k]) (hfm : frm + m = k) (hfr : frm = ((lensOf data).take i).sum) (hi : i ≤ (lensOf data).length)
    (hdr : (lensOf data).drop i = cutsN h m (data.drop k)) (he : endsB (hashI h x.toNat) (m + 1) = false)
    (hJ : J i S wr) (hfrm : ∀ i S A B, J i S A → (∀ k, S k → k < A.heap.size) → Mods (fun k => ¬ S k) A B → J i S B)
    (hSc : ¬ S c) (hSb : ¬ S box) (hSd : ¬ S d) (hSu : ∀ q, S q → q < wr.heap.size ∧ (S0 q ∨ W.heap.size ≤ q)) (hM : Mods S0 W wr) (hcW : W.heap.size ≤ c) (hcl : c < wr.heap.size)
    (hM2 : Mods (· = c) wr w2) (hC2 : IsCutter w2 c (hashI h x.toNat) (m + 1)) :
    EachRel J data S0 W c box d (k + 1) i frm w2 := by
  have z2 := hM2.size
  refine ⟨S, hfrm i S wr w2 hJ (fun q hq => (hSu q hq).1) (hM2.mono (fun q hq => .inl (by subst hq; exact hSc))), hSc, hSb, hSd, fun q hq => ⟨by have := (hSu q hq).1; omega, (hSu q hq).2⟩, ?_, by omega, hi, by omega, ?_⟩
  · refine hM.trans' hM2 (fun q hq => ?_)
    subst hq; exact .inr hcW
  · intro _
    have hd : data.drop k = x :: data.drop (k + 1) := by rw [hx]; exact List.drop_eq_getElem_cons (by omega)
    refine ⟨hashI h x.toNat, m + 1, hC2, ?_, by omega, hfr, ?_⟩
    · rcases Nat.lt_or_ge (m + 1) 256 with h' | h'
      · exact h'
      · rw [ends_256 h'] at he; cases he
    · rw [hdr, hd, cutsN_no _ _ _ _ he]
      intro hn
      have := List.drop_eq_nil_iff.1 hn
      omega
end

def EachRound (P : Program) (n l d off : Nat) (data : List UInt8) (J Jx : Nat → (Nat → Prop) → World → Prop) : Prop :=
    ∀ i S A (hi : i < (lensOf data).length), J i S A → HasBytes A d off data → (∀ k, S k → k < A.heap.size) → ¬ S d →
      YieldAt FW n P l #[.slice (some ⟨d, off + ((lensOf data).take i).sum, none⟩) (lensOf data)[i] (lensOf data)[i]] A (RoundPost J Jx i S A)
def Framed (J : Nat → (Nat → Prop) → World → Prop) : Prop := ∀ i S A B, J i S A → (∀ k, S k → k < A.heap.size) → Mods (fun k => ¬ S k) A B → J i S B

/-- One round, asked for in the walk's own spelling. -/
theorem each_yield {n l d off : Nat} {data : List UInt8} {J Jx : Nat → (Nat → Prop) → World → Prop} (hround : EachRound Tryz.prog n l d off data J Jx) (hfrm : Framed J)
    {k i frm m : Nat} {h : Int} {x : UInt8} (hlt : k < data.length) (hx : x = data[k]) (hfm : frm + m = k) (hfr : frm = ((lensOf data).take i).sum)
    (hdr : (lensOf data).drop i = cutsN h m (data.drop k)) (he : endsB (hashI h x.toNat) (m + 1) = true ∨ k + 1 = data.length)
    {S S0 : Nat → Prop} {W wr w2 : World} {c : Nat} (hJ : J i S wr) (hd : HasBytes W d off data) (hSu : ∀ q, S q → q < wr.heap.size ∧ (S0 q ∨ W.heap.size ≤ q)) (hM : Mods S0 W wr)
    (hSd0 : ¬ S0 d) (hSd : ¬ S d) (hSc : ¬ S c) (hM2 : Mods (· = c) wr w2) (hdc : d ≠ c) :
    YieldAt FW n Tryz.prog l #[.slice (some ⟨d, off + frm, none⟩) (k + 1 - frm) (k + 1 - frm)] w2 (RoundPost J Jx i S w2) ∧ i < (lensOf data).length := by
  obtain ⟨hi, h3, h4, h5⟩ := each_at_end hlt hx hfm hfr hdr he
  have := hround i S w2 hi (hfrm i S wr w2 hJ (fun q hq => (hSu q hq).1) (hM2.mono (fun q hq => .inl (by subst hq; exact hSc)))) ((hd.keep hM hSd0).keep hM2 hdc)
    (fun q hq => Nat.lt_of_lt_of_le (hSu q hq).1 hM2.size) hSd
  rw [h3, ← hfr] at this
  exact ⟨this, hi⟩

set_option maxHeartbeats 4000000 in
set_option maxRecDepth 100000 in
theorem Each1_calls (n l box d off cap : Nat) (a : Option Addr) (data : List UInt8) (J Jx : Nat → (Nat → Prop) → World → Prop) (W : World) (S0 : Nat → Prop)
    (ha : 0 < data.length → a = some ⟨d, off, none⟩) (hcap : data.length ≤ cap) (hmax : data.length ≤ 140737488351232)
    (hbox : W.heap[box]? = some (.cells #[.slice a data.length cap] 38 (0, 0))) (hd : HasBytes W d off data)
    (hSb : ¬ S0 box) (hSd : ¬ S0 d) (hSo : ∀ k, S0 k → k < W.heap.size) (h0 : J 0 S0 W) (hfrm : Framed J) (hround : EachRound Tryz.prog n l d off data J Jx) :
    CallsIn FW (n + 1) Tryz.prog 123 #[.func (.yield l) #[] #[], .pointer (some ⟨box, 0, none⟩)] W (EachPost J Jx (lensOf data).length S0 W) := by
  have hbW := lt_of_heap hbox
  refine callsIn_of_wp Tryz.func123 rfl trivial ?_ rfl
  simp only [Tryz.ntmps123, List.size_toArray, List.length_cons, List.length_nil, Nat.reduceAdd, Nat.reduceSub, Array.replicate_succ, Array.replicate_zero, List.push_toArray, List.append_toArray, List.nil_append, List.cons_append]
  gi_wp2_with fail
  refine ⟨trivial, (callsIn_wide.2 (NewCutter_calls _)).mono ?_⟩
  rintro e w1 ⟨rfl, hC1, hs1⟩
  obtain ⟨c, hcdef⟩ : ∃ c, c = W.heap.size := ⟨_, rfl⟩
  rw [← hcdef] at hC1 ⊢
  have hbox1 := cell_at (hs1.at hbox id) 0 (v := .slice a data.length cap) (by simp)
  have HC1 := Lib.hid (And.intro hC1 (And.intro hcdef (And.intro h0 (And.intro hSo (And.intro hbox hs1)))))
  clear hC1 hcdef h0 hSo hbox hs1
  have HR := Lib.hid hround
  have HF := Lib.hid hfrm
  have HD := Lib.hid hd
  clear hround hfrm hd
  gi_wp2_with fail
  gi_loopw [4, 10] (fun fr kk wr => ∃ (k i frm : Nat), k ≤ data.length ∧ fr = .int .i64 frm ∧ kk = .int .i64 k ∧ EachRel J data S0 W c box d k i frm wr)
    (fun _ kk _ => data.length - (intOf kk).toNat)
  case atStart =>
    obtain ⟨hC1, hc, h0, hSo, hbox, hs1⟩ := HC1.out
    refine ⟨0, 0, 0, by omega, rfl, rfl, S0, HF.out 0 S0 W w1 h0 hSo (hs1.mods _), ?_, hSb, hSd, fun q hq => ⟨by have := hSo q hq; have := hs1.size; omega, .inl hq⟩, hs1.mods _, ?_, by omega, ?_, ?_⟩
    · intro hq; have := hSo _ hq; omega
    · have := lt_of_heap hC1; exact this
    · intro hk
      have : data = [] := List.eq_nil_of_length_eq_zero hk.symm
      subst this; simp [lensOf, cutsN]
    · intro hk; exact ⟨0, 0, hC1, by omega, rfl, by simp, by simp [lensOf]⟩
  case round =>
    obtain ⟨k, i, frm, hk, rfl, rfl, hR⟩ := hrel
    by_cases hlt : k < data.length
    · obtain ⟨S, hJ, hSc, hSb', hSd', hSu, hM, hcl, hi, _, hst⟩ := hR
      obtain ⟨h, m, hC, hm, hfm, hfr', hdr⟩ := hst hlt
      obtain rfl := ha (by omega)
      have hbx := cell_at (hM.at HC1.out.2.2.2.2.1 hSb) 0 (v := .slice (some ⟨d, off, none⟩) data.length cap) (by simp)
      have hdk := (HD.out.keep hM hSd) k hlt
      have hdl : d < W.heap.size := World.block_lt_of_cell? W _ (HD.out k hlt)
      have hcW : W.heap.size ≤ c := by have := HC1.out.2.1; omega
      have hbx' : ∀ w2 : World, Mods (· = c) wr w2 → w2.cell? ⟨box, 0, none⟩ = some (.slice (some ⟨d, off, none⟩) data.length cap) := fun w2 h2 => by
        have e := h2.block box (by have := hM.size; omega) (by omega)
        exact (World.cell?_of_block (w := wr) e).trans hbx
      have HI := Lib.hid (And.intro hJ (And.intro hSu (And.intro hM (And.intro hC (And.intro hfr' hdr)))))
      have HB := Lib.hid hbx'
      clear hJ hSu hM hC hfr' hdr hst hbx'
      obtain ⟨x, hx⟩ : ∃ x : UInt8, x = data[k] := ⟨_, rfl⟩
      rw [← hx] at hdk
      have Hx := Lib.hid hx
      clear hx
      have hxl := x.toNat_lt
      have hfk : frm ≤ k := by omega
      have hfc : frm < cap := by omega
      have HFM := Lib.hid hfm
      clear hfm
      by_cases hE : endsB (hashI h x.toNat) (m + 1) = true ∨ k + 1 = data.length
      · -- A CHUNK ENDS BEHIND BYTE k
        obtain ⟨z, hz⟩ : ∃ z, endsB (hashI h x.toNat) (m + 1) = z := ⟨_, rfl⟩
        have HE := Lib.hid hE
        have HZ := Lib.hid hz
        clear hE hz
        gi_wp2_with fail
        refine ⟨trivial, (callsIn_wide.2 (Ends_calls wr c h m x.toNat hxl (by omega) HI.out.2.2.2.1)).mono ?_⟩
        rintro e w2 ⟨rfl, hC2, hM2, hz2⟩
        rw [HZ.out] at hC2 ⊢
        have hb2 := HB.out w2 hM2
        have hlast : z = false → ((k : Int) == (data.length : Int) - 1) = true := fun hzf => by
          rcases HE.out with h' | h'
          · rw [HZ.out, hzf] at h'; cases h'
          · simp; omega
        obtain ⟨hI1, hI2, hI3, hI4, hI5, hI6⟩ := HI.out
        obtain ⟨⟨fn, tmps, assign, body, hy, hRd⟩, hil⟩ := each_yield HR.out HF.out hlt Hx.out HFM.out hI5 hI6 HE.out hI1 HD.out hI2 hI3 hSd hSd' hSc hM2 (by omega)
        have hCz : k + 1 < data.length → IsCutter w2 c 0 0 := fun hk1 => by
          rcases HE.out with h' | h'
          · rw [HZ.out] at h'; rw [h'] at hC2; exact hC2
          · omega
        have HN := Lib.hid (fun (w3 : World) (S' : Nat → Prop) (hJ3 : J (i + 1) S' w3) (hM3 : Mods S w2 w3) (hS3 : ∀ q, S' q → q < w3.heap.size ∧ (S q ∨ w2.heap.size ≤ q)) =>
          each_next (box := box) hlt Hx.out HFM.out hI5 hI6 HE.out hSc hSb' hSd' hI2 hI3 hcW hcl hbW hdl hM2 hCz hJ3 hM3 hS3)
        have HX := Lib.hid (And.intro hil (And.intro (hI3.trans' hM2 (T := (· = c)) (fun q hq => .inr (by omega))) (And.intro hI2 (And.intro hM2.size hI3.size))))
        clear hC2 hM2 hz2 hI1 hI2 hI3 hI4 hI5 hI6 hCz hil
        cases z
        · have hl := hlast rfl
          clear hlast
          gi_wp2_with fail
          refine hRd.mono ?_
          rintro e w3 (⟨rfl, S', hJ3, hM3, hS3⟩ | ⟨rfl, S', hJ3, hM3, hS3⟩)
          · have HR3 := Lib.hid (HN.out w3 S' hJ3 hM3 hS3)
            clear hJ3 hM3 hS3 hy
            gi_wp2
            go_roundw
            case rel => exact ⟨k + 1, i + 1, k + 1, by omega, by go_num, by go_num, HR3.out⟩
            case measure => simp [intOf]; omega
          · obtain ⟨hil, hM02, hI2, hz2, hz1⟩ := HX.out
            have HP : Hid (EachPost J Jx (lensOf data).length S0 W (.returned (.tuple #[])) w3) :=
              ⟨⟨_, rfl⟩, S', .inr ⟨i, hil, hJ3⟩, hM02.trans' hM3 (fun q hq => (hI2 q hq).2), fun q hq => ⟨(hS3 q hq).1, by
                rcases (hS3 q hq).2 with h' | h'
                · exact (hI2 q h').2
                · exact .inr (by omega)⟩⟩
            clear hJ3 hM3 hS3 hy hil hM02 hI2 hz2 hz1
            gi_wp2
            refine bodyPost_ret (results_none rfl _ _ _) rfl ?_
            exact HP.out
        · clear hlast
          gi_wp2_with fail
          refine hRd.mono ?_
          rintro e w3 (⟨rfl, S', hJ3, hM3, hS3⟩ | ⟨rfl, S', hJ3, hM3, hS3⟩)
          · have HR3 := Lib.hid (HN.out w3 S' hJ3 hM3 hS3)
            clear hJ3 hM3 hS3 hy
            gi_wp2
            go_roundw
            case rel => exact ⟨k + 1, i + 1, k + 1, by omega, by go_num, by go_num, HR3.out⟩
            case measure => simp [intOf]; omega
          · obtain ⟨hil, hM02, hI2, hz2, hz1⟩ := HX.out
            have HP : Hid (EachPost J Jx (lensOf data).length S0 W (.returned (.tuple #[])) w3) :=
              ⟨⟨_, rfl⟩, S', .inr ⟨i, hil, hJ3⟩, hM02.trans' hM3 (fun q hq => (hI2 q hq).2), fun q hq => ⟨(hS3 q hq).1, by
                rcases (hS3 q hq).2 with h' | h'
                · exact (hI2 q h').2
                · exact .inr (by omega)⟩⟩
            clear hJ3 hM3 hS3 hy hil hM02 hI2 hz2 hz1
            gi_wp2
            refine bodyPost_ret (results_none rfl _ _ _) rfl ?_
            exact HP.out
      · -- NO CHUNK ENDS HERE
        have hk1 : k + 1 < data.length := by
          rcases Nat.lt_or_ge (k + 1) data.length with h' | h'
          · exact h'
          · exact absurd (.inr (by omega)) hE
        have hz : endsB (hashI h x.toNat) (m + 1) = false := by
          cases hz : endsB (hashI h x.toNat) (m + 1)
          · rfl
          · exact absurd (.inl hz) hE
        have hne : ((k : Int) == (data.length : Int) - 1) = false := by simp; omega
        have HZ := Lib.hid hz
        clear hE hz
        gi_wp2_with fail
        refine ⟨trivial, (callsIn_wide.2 (Ends_calls wr c h m x.toNat hxl (by omega) HI.out.2.2.2.1)).mono ?_⟩
        rintro e w2 ⟨rfl, hC2, hM2, hz2⟩
        rw [HZ.out] at hC2 ⊢
        have hb2 := HB.out w2 hM2
        obtain ⟨hI1, hI2, hI3, hI4, hI5, hI6⟩ := HI.out
        have HN := Lib.hid (each_stay (box := box) (d := d) hk1 Hx.out HFM.out hI5 hi hI6 HZ.out hI1 HF.out hSc hSb' hSd' hI2 hI3 hcW hcl hM2 hC2)
        clear hC2 hM2 hz2 hI1 hI2 hI3 hI4 hI5 hI6
        gi_wp2
        go_roundw
        case rel => exact ⟨k + 1, i, frm, by omega, rfl, by go_num, HN.out⟩
        case measure => simp [intOf]; omega
    · obtain rfl : k = data.length := by omega
      obtain ⟨S, hJ, hSc, hSb', hSd', hSu, hM, hcl, hi, hil, hst⟩ := hR
      have HP : Hid (EachPost J Jx (lensOf data).length S0 W (.returned (.tuple #[])) wr) :=
        ⟨⟨_, rfl⟩, S, .inl (by rw [hil rfl] at hJ; exact hJ), hM, hSu⟩
      clear hJ hSu hM hil hst
      gi_wp2
      go_end0
      exact HP.out

end Go.Proofs.YtdhobpbngkainaaGreatDoor
/-
  Ours. The law of 'for c := range chunk.Each(data)': an invariant on blocks of the body's own, and one walk of the body.
-/
namespace Go.Proofs.YtdhobpbngkainaaGreatDoor
open Go.RowKit Go.Shelf

/-- What a step of the body leaves of its own blocks: S before, S' behind. -/
def Own (S S' : Nat → Prop) (A B : World) : Prop := Mods S A B ∧ ∀ k, S' k → k < B.heap.size ∧ (S k ∨ A.heap.size ≤ k)

def bodyPostE (I : Nat → (Nat → Prop) → World → Prop) (Ix : Code → Nat → (Nat → Prop) → World → Prop) (i : Nat) (S : Nat → Prop) (A : World) : Exit → Act → World → Prop
  | .normal, _, B => ∃ S', I (i + 1) S' B ∧ Own S S' A B
  | .ret, _, B => ∃ S', Ix .ret i S' B ∧ Own S S' A B
  | .exit id, _, B => ∃ S', Ix (.exit id) i S' B ∧ Own S S' A B
  | .goto t, _, B => ∃ S', Ix (.goto t) i S' B ∧ Own S S' A B
  | .panic _, _, _ => False
  | .outgrown, _, _ => False

/-- The chunk's slice as it comes to the loop. -/
def chunkArg (d off : Nat) (data : List UInt8) (i : Nat) : Value :=
  .slice (some ⟨d, off + ((lensOf data).take i).sum, none⟩) ((lensOf data).getD i 0) ((lensOf data).getD i 0)

theorem own_lt {S S' : Nat → Prop} {A B : World} (h : Own S S' A B) : ∀ k, S' k → k < B.heap.size := fun k hk => (h.2 k hk).1

/-- THE LAW. -/
theorem wpIn_each {n : Nat} {g : Operand} {p : Tmp} {assign body : Code} {Q : Exit → Act → World → Prop} {a : Act} {w : World}
    (box d off cap : Nat) (a0 : Option Addr) (data : List UInt8) (hg : a.eval g = .func (.func 123) #[] #[.pointer (some ⟨box, 0, none⟩)])
    (ha : 0 < data.length → a0 = some ⟨d, off, none⟩) (hcap : data.length ≤ cap) (hmax : data.length ≤ 140737488351232)
    (hbox : w.heap[box]? = some (.cells #[.slice a0 data.length cap] 38 (0, 0))) (hd : HasBytes w d off data) (hdw : d ≠ w.heap.size ∧ d ≠ w.heap.size + 1)
    (I : Nat → (Nat → Prop) → World → Prop) (Ix : Code → Nat → (Nat → Prop) → World → Prop) (S0 : Nat → Prop)
    (hSb : ¬ S0 box) (hSd : ¬ S0 d) (hSo : ∀ k, S0 k → k < w.heap.size) (h0 : I 0 S0 w) (hI : Framed I) (hIx : ∀ c, Framed (Ix c)) (a₁ : Nat → Act)
    (hassign : ∀ (l i : Nat) (W : World) (K : Act → World → Prop), K (a₁ i) W →
      assign.wpIn (FW.inRound l) n Tryz.prog (Exit.then K (fun _ _ _ => False)) { tmps := a.tmps.setIfInBounds p (chunkArg d off data i), defers := [] } W)
    (hbody : ∀ (l i : Nat) (S : Nat → Prop) (A : World), i < (lensOf data).length → I i S A → HasBytes A d off data → (∀ k, S k → k < A.heap.size) → ¬ S d → w.heap.size ≤ A.heap.size →
      body.wpIn (FW.inRound l) n Tryz.prog (bodyPostE I Ix i S A) (a₁ i) A)
    (hdone : ∀ (D : Nat) (S : Nat → Prop) (B : World), w.heap.size ≤ D → I (lensOf data).length S B → Own S0 S w B → ¬ S D → B.heap[D]? = some (.deferred (some [])) →
      Q .normal { a with defers := { target := .collected D, args := #[] } :: a.defers } B)
    (hstop : ∀ (D i : Nat) (c : Code) (S : Nat → Prop) (B : World), w.heap.size ≤ D → i < (lensOf data).length → Ix c i S B → Own S0 S w B → ¬ S D → B.heap[D]? = some (.deferred (some [])) →
      c.wpIn FW (n + 1 + 1) Tryz.prog Q { a with defers := { target := .collected D, args := #[] } :: a.defers } B) :
    (Code.rangeFunc g #[p] assign body).wpIn FW (n + 1 + 1) Tryz.prog Q a w := by
  refine wpIn_rangeFunc ?_
  intro fn _
  obtain ⟨rec, hrec⟩ : ∃ rec : LoopState → Option Code → Loop, rec = fun st pe => { state := st, pending := pe, fn, tmps := a.tmps, params := #[p], assign, body, defers := w.heap.size } := ⟨_, rfl⟩
  obtain ⟨W1, hW1⟩ : ∃ W1, (w.alloc (.deferred (some []))).alloc (.loop (rec .ready none)) = W1 := ⟨_, rfl⟩
  obtain ⟨L, hL⟩ : ∃ L, L = w.heap.size + 1 := ⟨_, rfl⟩
  obtain ⟨D, hD⟩ : ∃ D, D = w.heap.size := ⟨_, rfl⟩
  have hz1 : W1.heap.size = w.heap.size + 2 := by rw [← hW1]; simp
  have hL1 : W1.heap[L]? = some (.loop (rec .ready none)) := by
    rw [← hW1, hL]; have := World.alloc_heap_new (w.alloc (.deferred (some []))) (.loop (rec .ready none)); rwa [World.size_alloc] at this
  have hK1 : W1.heap[D]? = some (.deferred (some [])) := by
    rw [← hW1, hD]; exact (Below.heap_alloc _ _ _ (by simp)).trans (World.alloc_heap_new w _)
  have hs1 : Same w W1 := by rw [← hW1]; exact ((Mods.refl _ w).alloc _).alloc _
  refine ⟨L, [{ target := .collected D, args := #[] }], W1, { target := .fn (.func 123) #[.pointer (some ⟨box, 0, none⟩)], args := #[.func (.yield L) #[] #[]] }, W1, 123,
    #[.func (.yield L) #[] #[]] ++ #[.pointer (some ⟨box, 0, none⟩)], W1, ?_, ?_, ?_, ?_, (fun h => by cases h), ?_⟩
  · rw [← hW1, hrec, hL, hD]; exact run_enterLoop_outer _ _ _ _ _
  · simp only [resolve, hg]
    simp [go_sem]
  · intro f' _; trivial
  · have eg := enters_of (P := Tryz.prog) Tryz.func123 (by kernel_rfl) rfl
    simp [invoke, go_sem, eg _ W1]
  · obtain ⟨J, hJ⟩ : ∃ J : Nat → (Nat → Prop) → World → Prop, J = fun i T A => ∃ S, I i S A ∧ (∀ q, T q ↔ S q ∨ q = L ∨ q = D) ∧ ¬ S L ∧ ¬ S D ∧ A.heap[L]? = some (.loop (rec .ready none)) ∧
        A.heap[D]? = some (.deferred (some [])) ∧ (∀ k, S k → k < A.heap.size) ∧ w.heap.size ≤ A.heap.size := ⟨_, rfl⟩
    obtain ⟨Jx, hJx⟩ : ∃ Jx : Nat → (Nat → Prop) → World → Prop, Jx = fun i T A => ∃ c S, Ix c i S A ∧ (∀ q, T q ↔ S q ∨ q = L ∨ q = D) ∧ ¬ S L ∧ ¬ S D ∧ A.heap[L]? = some (.loop (rec .done (some c))) ∧
        A.heap[D]? = some (.deferred (some [])) ∧ (∀ k, S k → k < A.heap.size) ∧ w.heap.size ≤ A.heap.size := ⟨_, rfl⟩
    have hput : ∀ {S : Nat → Prop} {A : World} (o : Obj), ¬ S L → Mods (fun k => ¬ S k) A (A.putObj L o) := fun o h => (Mods.refl _ _).putObj (.inl h) o
    have hbW := lt_of_heap hbox
    refine (Each1_calls n L box d off cap a0 data J Jx W1 (fun q => S0 q ∨ q = L ∨ q = D) ha hcap hmax (hs1.at hbox id) (hd.keep hs1 id) ?_ ?_ ?_ ?_ ?_ ?_).mono ?_
    · rintro (h | h | h)
      · exact hSb h
      · omega
      · omega
    · rintro (h | h | h)
      · exact hSd h
      · omega
      · omega
    · rintro q (h | h | h)
      · have := hSo q h; omega
      · omega
      · omega
    · rw [hJ]
      exact ⟨S0, hI 0 S0 w W1 h0 hSo (hs1.mods _), fun q => Iff.rfl, fun h => by have := hSo _ h; omega, fun h => by have := hSo _ h; omega, hL1, hK1, fun k hk => by have := hSo k hk; omega, by omega⟩
    · -- FRAMED
      rw [hJ]
      rintro i T A B ⟨S, hi, hT, hSL, hSD, hl, hk, ho, hz⟩ hTo hM
      have hM' : Mods (fun k => ¬ S k) A B := hM.mono (fun q hq => .inl (fun h => hq ((hT q).2 (.inl h))))
      exact ⟨S, hI i S A B hi ho hM', hT, hSL, hSD, hM.at hl (fun h => h ((hT L).2 (.inr (.inl rfl)))), hM.at hk (fun h => h ((hT D).2 (.inr (.inr rfl)))), fun k hk' => Nat.lt_of_lt_of_le (ho k hk') hM.size, Nat.le_trans hz hM.size⟩
    · -- ONE ROUND
      rintro i T A hi hj hdA hTo hTd
      rw [hJ] at hj
      obtain ⟨S, hi', hT, hSL, hSD, hl, hk, ho, hz⟩ := hj
      have hSd' : ¬ S d := fun h => hTd ((hT d).2 (.inl h))
      have hlt := lt_of_heap hl
      have hy := run_yield (P := Tryz.prog) (args := #[chunkArg d off data i]) hl (by rw [hrec]; rfl)
      rw [hrec] at hy
      have hget : chunkArg d off data i = .slice (some ⟨d, off + ((lensOf data).take i).sum, none⟩) (lensOf data)[i] (lensOf data)[i] := by
        simp [chunkArg, List.getD_eq_getElem?_getD, hi]
      rw [← hget]
      have hy' : (Instr.yield L #[chunkArg d off data i]).run Tryz.prog A = .ok (.round L fn (a.tmps.setIfInBounds p (chunkArg d off data i)) assign body) A := by
        rw [hy]; simp
      refine ⟨fn, _, assign, body, hy', roundIn_of_wpIn trivial (hassign L i A (fun a₁' w₁ => ∃ w₂, (Instr.beginRound L).run Tryz.prog w₁ = .ok () w₂ ∧ body.wpIn (FW.inRound L) n Tryz.prog (roundPost Tryz.prog L (RoundPost J Jx i T A)) a₁' w₂) ⟨_, run_beginRound hl (by rw [hrec]), ?_⟩)⟩
      obtain ⟨A2, hA2⟩ : ∃ A2, A2 = A.putObj L (.loop { rec .ready none with state := .busy }) := ⟨_, rfl⟩
      rw [← hA2]
      have hl2 : A2.heap[L]? = some (.loop (rec .busy none)) := by rw [hA2, World.putObj_heap_same hlt, hrec]
      have hMA : Mods (fun k => ¬ S k) A A2 := by rw [hA2]; exact hput _ hSL
      have hMA' : Mods (fun k => k = L) A A2 := by rw [hA2]; exact Mods.putObj (S := fun k => k = L) (Mods.refl _ _) (r := L) (Or.inl rfl) _
      have hzA : A2.heap.size = A.heap.size := by rw [hA2]; simp
      have hk2 : A2.heap[D]? = some (.deferred (some [])) := hMA'.at hk (by omega)
      refine wpIn_mono (hbody L i S A2 hi (hI i S A A2 hi' ho hMA) (hdA.keep hMA' (by omega)) (fun q hq => by have := ho q hq; omega) hSd' (by omega)) ?_
      -- what stands at the round's end
      have fin : ∀ (jump : Option Code) (S' : Nat → Prop) (B : World), Own S S' A2 B →
          (Instr.endRound L jump).run Tryz.prog B = .ok (.bool jump.isNone) (B.putObj L (.loop (rec (if jump.isNone then .ready else .done) jump))) ∧
          ¬ S' L ∧ ¬ S' D ∧ (B.putObj L (.loop (rec (if jump.isNone then .ready else .done) jump))).heap[L]? = some (.loop (rec (if jump.isNone then .ready else .done) jump)) ∧
          (B.putObj L (.loop (rec (if jump.isNone then .ready else .done) jump))).heap[D]? = some (.deferred (some [])) ∧
          Mods T A (B.putObj L (.loop (rec (if jump.isNone then .ready else .done) jump))) ∧ w.heap.size ≤ B.heap.size ∧ (∀ k, S' k → k < B.heap.size) := fun jump S' B hO => by
        have hl3 : B.heap[L]? = some (.loop (rec .busy none)) := hO.1.at hl2 hSL
        have hk3 := hO.1.at hk2 hSD
        have hr := run_endRound (P := Tryz.prog) jump hl3
        rw [hrec] at hr ⊢
        have hSL' : ¬ S' L := fun h => by
          rcases (hO.2 L h).2 with h' | h'
          · exact hSL h'
          · omega
        have hSD' : ¬ S' D := fun h => by
          rcases (hO.2 D h).2 with h' | h'
          · exact hSD h'
          · omega
        refine ⟨hr, hSL', hSD', World.putObj_heap_same (lt_of_heap hl3), (World.putObj_heap_other (by omega)).trans hk3, ?_, by have := hO.1.size; omega, own_lt hO⟩
        refine ((hMA'.mono (fun q hq => .inl ((hT q).2 (.inr (.inl hq))))).trans (hO.1.mono (fun q hq => .inl ((hT q).2 (.inl hq))))).putObj (.inl ((hT L).2 (.inr (.inl rfl)))) _
      have own' : ∀ (jump : Option Code) (S' : Nat → Prop) (B : World), Own S S' A2 B → ∀ k, (S' k ∨ k = L ∨ k = D) → k < (B.putObj L (.loop (rec (if jump.isNone then .ready else .done) jump))).heap.size ∧ (T k ∨ A.heap.size ≤ k) := fun jump S' B hO k hk' => by
        have := hO.1.size
        have := lt_of_heap hk
        rw [World.putObj_size]
        rcases hk' with h | h | h
        · refine ⟨(hO.2 k h).1, ?_⟩
          rcases (hO.2 k h).2 with h' | h'
          · exact .inl ((hT k).2 (.inl h'))
          · exact .inr (by omega)
        · exact ⟨by omega, .inl ((hT k).2 (.inr (.inl h)))⟩
        · exact ⟨by omega, .inl ((hT k).2 (.inr (.inr h)))⟩
      have left : ∀ (c : Code) (S' : Nat → Prop) (B : World), Ix c i S' B → Own S S' A2 B → ∃ v w', (Instr.endRound L (some c)).run Tryz.prog B = .ok v w' ∧ RoundPost J Jx i T A (.returned v) w' := fun c S' B hx hO => by
        obtain ⟨hr, hSL', hSD', hl4, hk4, hM4, hz4, ho4⟩ := fin (some c) S' B hO
        refine ⟨_, _, hr, .inr ⟨rfl, fun k => S' k ∨ k = L ∨ k = D, ?_, hM4, own' (some c) S' B hO⟩⟩
        rw [hJx]
        exact ⟨c, S', hIx c i S' B _ hx ho4 (hput _ hSL'), fun q => Iff.rfl, hSL', hSD', hl4, hk4, fun k hk' => by rw [World.putObj_size]; exact ho4 k hk', by rw [World.putObj_size]; exact hz4⟩
      rintro e a3 B hp
      cases e with
      | normal =>
        obtain ⟨S', hi3, hO⟩ := hp
        obtain ⟨hr, hSL', hSD', hl4, hk4, hM4, hz4, ho4⟩ := fin none S' B hO
        refine ⟨_, _, hr, .inl ⟨rfl, fun k => S' k ∨ k = L ∨ k = D, ?_, hM4, own' none S' B hO⟩⟩
        rw [hJ]
        exact ⟨S', hI (i + 1) S' B _ hi3 ho4 (hput _ hSL'), fun q => Iff.rfl, hSL', hSD', hl4, hk4, fun k hk' => by rw [World.putObj_size]; exact ho4 k hk', by rw [World.putObj_size]; exact hz4⟩
      | ret => obtain ⟨S', hx, hO⟩ := hp; exact left _ S' B hx hO
      | exit id => obtain ⟨S', hx, hO⟩ := hp; exact left _ S' B hx hO
      | goto t => obtain ⟨S', hx, hO⟩ := hp; exact left _ S' B hx hO
      | panic ch => exact hp.elim
      | outgrown => exact hp.elim
    · -- BEHIND THE ITERATOR
      rintro e B ⟨⟨v, rfl⟩, T, hJJ, hM, hTo⟩
      have hz := hM.size
      have back : ∀ S, (∀ q, T q ↔ S q ∨ q = L ∨ q = D) → ¬ S L → ¬ S D → ∀ o, Own S0 S w (B.putObj L o) := fun S hT hSL hSD o => by
        refine ⟨((hs1.mods S0).trans' hM (fun q hq => ?_)).putObj (.inr (by omega)) o, fun k hk => ?_⟩
        · rcases hq with h | h | h
          · exact .inl h
          · exact .inr (by omega)
          · exact .inr (by omega)
        · rw [World.putObj_size]
          obtain ⟨h1, h2⟩ := hTo k ((hT k).2 (.inl hk))
          refine ⟨h1, ?_⟩
          rcases h2 with (h | h | h) | h
          · exact .inl h
          · exact absurd (h ▸ hk) hSL
          · exact absurd (h ▸ hk) hSD
          · exact .inr (by omega)
      rcases hJJ with hj | ⟨i, hiN, hx⟩
      · rw [hJ] at hj
        obtain ⟨S, hi, hT, hSL, hSD, hl, hk, ho, hzz⟩ := hj
        have hr := run_endLoop (P := Tryz.prog) hl (by rw [hrec]; simp)
        rw [hrec] at hr
        refine ⟨none, _, hr, ?_⟩
        exact hdone D S _ (by omega) (hI _ S B _ hi ho (hput _ hSL)) (back S hT hSL hSD _) hSD ((World.putObj_heap_other (by omega)).trans hk)
      · rw [hJx] at hx
        obtain ⟨c, S, hi, hT, hSL, hSD, hl, hk, ho, hzz⟩ := hx
        have hr := run_endLoop (P := Tryz.prog) hl (by rw [hrec]; simp)
        rw [hrec] at hr
        refine ⟨some c, _, hr, ?_⟩
        exact hstop D i c S _ (by omega) hiN (hIx c _ S B _ hi ho (hput _ hSL)) (back S hT hSL hSD _) hSD ((World.putObj_heap_other (by omega)).trans hk)

end Go.Proofs.YtdhobpbngkainaaGreatDoor
/-
  Ours. Drawn regions and single operations inside a fence (the rounds of a range over a function), from what is proved outside of one. No condition.
-/
namespace Go.Proofs.YtdhobpbngkainaaGreatDoor
open Go.RowKit

def noDefer (o : Oper) : Bool := match o.op with | .defer _ => false | _ => true
theorem calls_in {l n : Nat} {P : Program} {f : FuncId} {args : Array Value} {w : World} {R : Ending → World → Prop} (h : Calls P f args w R) : CallsIn (Fence.wide.inRound l) n P f args w R :=
  ⟨trivial, fun cs _ => (callsIn_wide (n := n).2 h).2 cs (room_wide _)⟩
theorem rows_in {l n : Nat} {P : Program} {r : String} {args : Array Value} {w : World} {R : Value → World → Prop} (h : Rows P r args w R) : RowsIn (Fence.wide.inRound l) n P r args w R :=
  fun c cs _ => let ⟨v, w', r, s⟩ := h c cs; ⟨v, w', r, stepsIn_wide.2 s⟩
theorem oper_in {l n : Nat} {P : Program} {o : Oper} {a : Act} {w : World} {K : Act → World → Prop} {Q : Exit → Act → World → Prop} (hd : noDefer o = true) (h : o.wp P a w K Q) : o.wpIn (Fence.wide.inRound l) n P a w K Q := by
  refine ⟨fun _ _ => trivial, ?_⟩
  have e : Oper.semAt (Fence.wide.inRound l).round a.eval o = execOp a.eval o := Oper.semAt_eq _ _ _ (fun c hc => by simp [noDefer, hc] at hd)
  rw [e]
  unfold Oper.wp at h
  generalize (execOp a.eval o).run P w = r at h ⊢
  have hdp : (Fence.wide.inRound l).depth.isSome = true → 1 ≤ n := fun hx => by simp [Fence.wide] at hx
  cases r with
  | ok x w' =>
    cases x with
    | enter f args => exact ⟨hdp, (calls_in h).mono (fun e w'' he => by cases e <;> exact he)⟩
    | row r args => exact ⟨hdp, (rows_in h).mono (fun _ _ he => he)⟩
    | value v => exact h
    | skip => exact h
    | defer d => exact h
    | _ => exact h.elim
  | halt x w' =>
    cases x with
    | panic v => exact h
    | _ => exact h.elim
theorem wpListIn_of_wp {l n : Nat} {P : Program} {ops : Array Oper} {rest : List Oper} {o : Oper} {a : Act} {w : World} {Q : Exit → Act → World → Prop} (hg : o.guard = none) (hd : noDefer o = true) (h : o.wp P a w (wpListIn (Fence.wide.inRound l) n P ops Q rest) Q) :
    wpListIn (Fence.wide.inRound l) n P ops Q (o :: rest) a w := wpListIn_plain hg fun _ hK => Oper.wpIn_mono hK (oper_in hd h)
theorem wpAny_in {l n : Nat} {P : Program} {md : Region.Mode} {ops : Array Oper} {Q : Exit → Act → World → Prop} (hn : ops.all noDefer = true) (hQ : ¬ LetsOut Q) :
    ∀ (fuel : Nat) (listed : Array Bool) (a : Act) (w : World), wpAny P md ops Q fuel listed a w → wpAnyIn (Fence.wide.inRound l) n P md ops Q fuel listed a w := by
  intro fuel
  induction fuel with
  | zero => exact fun _ _ _ h => h
  | succ fuel ih =>
    intro listed a w h
    refine ⟨h.1, fun i hi => ?_⟩
    have h2 := h.2 i hi
    unfold wpOp at h2
    unfold wpOpIn
    cases ho : ops[i]? with
    | none => rw [ho] at h2; exact ih _ _ _ h2
    | some o =>
      rw [ho] at h2
      simp only at h2 ⊢
      have hd : noDefer o = true := by
        obtain ⟨hlt, rfl⟩ := Array.getElem?_eq_some_iff.1 ho
        exact Array.all_eq_true.1 hn i hlt
      split
      · rename_i hw
        rw [if_pos hw] at h2
        rcases h2 with h2 | ⟨_, h2⟩
        · exact Oper.wpIn_mono (fun a w h => ih _ _ _ h) (oper_in hd h2)
        · exact absurd h2 hQ
      · rename_i hw
        rw [if_neg hw] at h2
        exact ⟨fun _ _ => trivial, ih _ _ _ h2⟩
/-- THE CHAIN LAW in a fence. -/
theorem wpIn_region_chain {l n : Nat} {P : Program} {Q : Exit → Act → World → Prop} {id : Nat} {ops : Array Oper} {a0 : Act} {w : World} (A : (Nat → Value) → Act) (hA : ∀ x, fillFrom x 0 ops.toList a0 = A x) (hm : P.follows .mixedOrders = true) (hn : ops.all noDefer = true) (hQ : ¬ LetsOut Q)
    (φ : Nat → Value → Prop) (St : List Value → World → Prop) (C : World → Prop) (ns : List Nat) (hC : ∀ vs w, St vs w → C w)
    (hok : eachOk a0.tmps.size 0 ops.toList [] = true) (hch : chainOk ops ns = true) (hnd : ns.Nodup) (hlt : ∀ i ∈ ns, i < ops.size) (h0 : St [] w.drew) (hsteps : chainGoals P Q ops A φ St C ns 0 ops.toList)
    (hend : ∀ x w, allPhi φ x 0 ops.size → St (ns.map x) w → Q .normal (A x) w) :
    (Code.region id ops true).wpIn (Fence.wide.inRound l) n P Q a0 w :=
  wpIn_region_any hm (wpAny_in hn hQ _ _ _ _ (any_region_chain A hA φ St C ns hC hok hch hnd hlt h0 hsteps hend))
theorem wpIn_region_chainL {l n : Nat} {P : Program} {Q : Exit → Act → World → Prop} {id : Nat} {ops : Array Oper} {a0 : Act} {w : World} (A : (Nat → Value) → Act) (hA : ∀ x, fillFrom x 0 ops.toList a0 = A x) (hm : P.follows .mixedOrders = true) (hn : ops.all noDefer = true) (hQ : ¬ LetsOut Q)
    (φ : Nat → Value → Prop) (St : List Value → World → Prop) (C : World → Prop) (ns : List Nat) (hC : ∀ vs w, vs.length < ns.length → St vs w → C w)
    (hok : eachOk a0.tmps.size 0 ops.toList [] = true) (hch : chainOk ops ns = true) (hlo : lastOk ops ns = true) (hnd : ns.Nodup) (hlt : ∀ i ∈ ns, i < ops.size) (h0 : St [] w.drew) (hsteps : chainGoals P Q ops A φ St C ns 0 ops.toList)
    (hend : ∀ x w, allPhi φ x 0 ops.size → St (ns.map x) w → Q .normal (A x) w) :
    (Code.region id ops true).wpIn (Fence.wide.inRound l) n P Q a0 w :=
  wpIn_region_any hm (wpAny_in hn hQ _ _ _ _ (any_region_chainL A hA φ St C ns hC hok hch hlo hnd hlt h0 hsteps hend))
end Go.Proofs.YtdhobpbngkainaaGreatDoor
/-
  Ours. The law of 'for c := range chunk.Each(data)' with the heap described block by block. No condition.
-/
namespace Go.Proofs.YtdhobpbngkainaaGreatDoor
open Go.RowKit Go.Shelf

def postT (J : Nat → HF → Prop) (i : Nat) (F : HF) (A : World) : Exit → Act → World → Prop
  | .normal, _, B => ∃ F', J (i + 1) F' ∧ Turns F F' A B
  | .ret, _, _ => False
  | .exit _, _, _ => False
  | .goto _, _, _ => False
  | .panic _, _, _ => False
  | .outgrown, _, _ => False
theorem postT_out {J : Nat → HF → Prop} {i : Nat} {F : HF} {A : World} : ¬ LetsOut (postT J i F A) := fun ⟨_, _, h⟩ => h
theorem wpIn_eachT {n : Nat} {g : Operand} {p : Tmp} {assign body : Code} {Q : Exit → Act → World → Prop} {a : Act} {w : World}
    (box d off cap : Nat) (a0 : Option Addr) (data : List UInt8) (hg : a.eval g = .func (.func 123) #[] #[.pointer (some ⟨box, 0, none⟩)])
    (ha : 0 < data.length → a0 = some ⟨d, off, none⟩) (hcap : data.length ≤ cap) (hmax : data.length ≤ 140737488351232)
    (hbox : w.heap[box]? = some (.cells #[.slice a0 data.length cap] 38 (0, 0))) (hd : HasBytes w d off data) (hdw : d ≠ w.heap.size ∧ d ≠ w.heap.size + 1)
    (J : Nat → HF → Prop) (F0 : HF) (h0 : J 0 F0) (hs : Sat w F0) (hSb : box ∉ dom F0) (hSd : d ∉ dom F0) (a₁ : Nat → Act)
    (hassign : ∀ (l i : Nat) (W : World) (K : Act → World → Prop), K (a₁ i) W →
      assign.wpIn (FW.inRound l) n Tryz.prog (Exit.then K (fun _ _ _ => False)) { tmps := a.tmps.setIfInBounds p (chunkArg d off data i), defers := [] } W)
    (hbody : ∀ (l i : Nat) (F : HF) (A : World), i < (lensOf data).length → J i F → Sat A F → HasBytes A d off data → d ∉ dom F → w.heap.size ≤ A.heap.size →
      body.wpIn (FW.inRound l) n Tryz.prog (postT J i F A) (a₁ i) A)
    (hdone : ∀ (D : Nat) (F : HF) (B : World), w.heap.size ≤ D → J (lensOf data).length F → Turns F0 F w B → D ∉ dom F → B.heap[D]? = some (.deferred (some [])) →
      Q .normal { a with defers := { target := .collected D, args := #[] } :: a.defers } B) :
    (Code.rangeFunc g #[p] assign body).wpIn FW (n + 1 + 1) Tryz.prog Q a w := by
  refine wpIn_each box d off cap a0 data hg ha hcap hmax hbox hd hdw (fun i S A => ∃ F, J i F ∧ Sat A F ∧ ∀ q, S q ↔ q ∈ dom F) (fun _ _ _ _ => False) (fun q => q ∈ dom F0) hSb hSd (fun k hk => hs.lt hk) ⟨F0, h0, hs, fun _ => Iff.rfl⟩
    ?_ (fun _ _ _ _ _ h => h.elim) a₁ hassign ?_ ?_ (fun _ _ _ _ _ _ _ h => h.elim)
  · rintro i S A B ⟨F, hJ, hF, hS⟩ hlt hM
    exact ⟨F, hJ, hF.frame hM (fun b hb hn => hn ((hS b).2 hb)), hS⟩
  · rintro l i S A hi ⟨F, hJ, hF, hS⟩ hdA hlt hSd' hle
    refine wpIn_mono (hbody l i F A hi hJ hF hdA (fun h => hSd' ((hS d).2 h)) hle) ?_
    intro e a3 B hp
    cases e with
    | normal =>
      obtain ⟨F', hJ', hT⟩ := hp
      refine ⟨fun q => q ∈ dom F', ⟨F', hJ', hT.sat, fun _ => Iff.rfl⟩, hT.mods.mono (fun b hb => .inl ((hS b).2 hb)), fun k hk => ⟨hT.sat.lt hk, ?_⟩⟩
      rcases hT.fresh k hk with h | h
      · exact .inl ((hS k).2 h)
      · exact .inr h
    | _ => exact hp.elim
  · rintro D S B hD ⟨F, hJ, hF, hS⟩ hO hSD hK
    exact hdone D F B hD hJ ⟨hO.1, hF, fun b hb => (hO.2 b ((hS b).2 hb)).2⟩ (fun h => hSD ((hS D).2 h)) hK
/-- Two cells are the results. -/
theorem results_cells2 {P : Program} {fn : Func} {p q : Tmp} {t1 t2 : TypeId} (h : fn.results = #[.cell p t1, .cell q t2]) (tmps : Array Value) (w : World) (b c : Nat) (u v : Value) {d1 d2 : TypeDesc}
    (hu1 : P.underlying t1 = some d1) (hd1 : oneCellDesc d1 = true) (hu2 : P.underlying t2 = some d2) (hd2 : oneCellDesc d2 = true)
    (hp : tmps.getD p undef = .pointer (some ⟨b, 0, none⟩)) (hq : tmps.getD q undef = .pointer (some ⟨c, 0, none⟩)) (hb : w.cell? ⟨b, 0, none⟩ = some u) (hc : w.cell? ⟨c, 0, none⟩ = some v) :
    (results fn tmps).run P w = .ok (.tuple #[u, v]) w := by
  have hp' : tmps[p]?.getD undef = .pointer (some ⟨b, 0, none⟩) := by simpa using hp
  have hq' : tmps[q]?.getD undef = .pointer (some ⟨c, 0, none⟩) := by simpa using hq
  have e1 : (loadVar t1 ⟨b, 0, none⟩).run P w = .ok u w := by
    cases d1 <;> simp [oneCellDesc] at hd1 <;> simp [loadVar, isAgg, underlying, hu1, Result.andThen, hb]
  have e2 : (loadVar t2 ⟨c, 0, none⟩).run P w = .ok v w := by
    cases d2 <;> simp [oneCellDesc] at hd2 <;> simp [loadVar, isAgg, underlying, hu2, Result.andThen, hc]
  simp [results, h, hp', hq', asAddr, e1, e2]
/-! ### records: a slice of slices of bytes -/
structure RecL where
  val : Value
  bytes : Bs
def recRow (v : Value) (l : List RecL) : HF := rowF 38 1 v (l.map (·.val)).length (l.map (·.val)) ++ l.flatMap fun r => bRow r.val r.bytes
def recOk (v : Value) (l : List RecL) : Prop := RowOk 1 v (l.map (·.val)).length (l.map (·.val)) ∧ ∀ r ∈ l, bOk r.val r.bytes
end Go.Proofs.YtdhobpbngkainaaGreatDoor
/-
  Ours. Sums and comparisons of ints as operations. No condition but that the sum fits.
-/
namespace Go.Proofs.YtdhobpbngkainaaGreatDoor
open Go.RowKit

theorem wrap_i64 {n : Int} (h1 : -9223372036854775808 ≤ n) (h2 : n ≤ 9223372036854775807) : IntKind.i64.wrap n = n := by
  unfold IntKind.wrap
  simp only [show IntKind.i64.bits = 64 from rfl, show IntKind.i64.signed = true from rfl, Bool.true_and, decide_eq_true_eq]
  split <;> omega
theorem run_addI {P : Program} {t : TypeId} {a b : Int} (h1 : -9223372036854775808 ≤ a + b) (h2 : a + b ≤ 9223372036854775807) (w : World) : (binOp .add t (.int .i64 a) (.int .i64 b)).run P w = .ok (.int .i64 (a + b)) w := by
  simp [binOp, Op.intArith, wrap_i64 h1 h2]
theorem run_subI {P : Program} {t : TypeId} {a b : Int} (h1 : -9223372036854775808 ≤ a - b) (h2 : a - b ≤ 9223372036854775807) (w : World) : (binOp .sub t (.int .i64 a) (.int .i64 b)).run P w = .ok (.int .i64 (a - b)) w := by
  simp [binOp, Op.intArith, wrap_i64 h1 h2]
theorem run_gtrI {P : Program} {t : TypeId} {a b : Int} (w : World) : (binOp .gtr t (.int .i64 a) (.int .i64 b)).run P w = .ok (.bool (decide (b < a))) w := by
  simp [binOp, Op.intCmp]
theorem run_lssI {P : Program} {t : TypeId} {a b : Int} (w : World) : (binOp .lss t (.int .i64 a) (.int .i64 b)).run P w = .ok (.bool (decide (a < b))) w := by
  simp [binOp, Op.intCmp]
theorem w_bin {P : Program} {o : Oper} {a : Act} {w : World} {K : Act → World → Prop} {Q : Exit → Act → World → Prop} (op : BinOp) (tx ty : TypeId) (x y : Operand) {u v r : Value} (ho : o.op = .binOp op tx x y ty) (hx : a.eval x = u) (hy : a.eval y = v)
    (h : (binOp op tx u v).run P w = .ok r w) (hs : (match op with | .shl | .shr | .eql | .neq => false | _ => true) = true) (hk : K (a.put o.dst r) w) : o.wp P a w K Q := by
  refine wp_run (v := r) (w' := w) ?_ hk
  have : execOp a.eval o = (do let v ← binOp op tx u v; pure (.value v)) := by
    unfold execOp
    rw [ho]
    cases op <;> simp [eqGuard] at hs ⊢ <;> simp [hx, hy]
  rw [this]
  simp [h]
theorem w_indexS {P : Program} {o : Oper} {a : Act} {w : World} {K : Act → World → Prop} {Q : Exit → Act → World → Prop} (t e : TypeId) (x i : Operand) (ho : o.op = .indexAddr t x i) (ht : P.underlying t = some (.slice e)) {sz : Nat} (hsz : (P.info? e).map (·.size) = some sz)
    {g off n c : Nat} {k : Int} (hx : a.eval x = .slice (some ⟨g, off, none⟩) n c) (hi : a.eval i = .int .i64 k) (h0 : 0 ≤ k) (h1 : k < n) (hk : K (a.put o.dst (.pointer (some ⟨g, off + k.toNat * sz, none⟩))) w) : o.wp P a w K Q := by
  have he : P.elem t = e := by simp [Program.elem, ht]
  obtain ⟨j, hj, hjs⟩ := Option.map_eq_some_iff.1 hsz
  refine wp_run (v := .pointer (some ⟨g, off + k.toNat * sz, none⟩)) (w' := w) ?_ hk
  have hr := run_indexAt_slice (P := P) w t ⟨g, off, none⟩ n c .i64 k (by rw [he]; exact ht)
  rw [if_pos ⟨h0, h1⟩, he] at hr
  have hso : (sizeOf e).run P w = .ok sz w := by simp [sizeOf, typeInfo, hj, hjs]
  rw [hso] at hr
  simp only [execOp, ho, hx, hi]
  simp only [Sem.run_bind, hr, Result.andThen_ok, Sem.run_pure, Addr.add_lit]
end Go.Proofs.YtdhobpbngkainaaGreatDoor
/-
  Ours. A range over a map, entry by entry, in whatever order: what is done, what is left. No condition; laws at one operation.
-/
namespace Go.Proofs.YtdhobpbngkainaaGreatDoor
open Go.RowKit Go.Maps
open Go.ChangeMaps (setBlock)

section
variable {κ : Type}
def iterO (b c : Nat) (done : List (Ent κ)) : Obj := .mapIter (some b) c (done.map (·.born)).toArray c
theorem leftE {l done : List (Ent κ)} (enc : κ → Value) (c : Nat) : (leftOf (l.map (entE enc)).toArray (done.map (·.born)).toArray).toList = (l.filter (fun e => !(done.map (·.born)).contains e.born)).map (entE enc) := by
  unfold leftOf
  rw [Array.toList_filter, List.filter_map]
  congr 1
  apply List.filter_congr
  intro e _
  simp [entE]
  exact decide_eq_decide.2 Iff.rfl
theorem left_todo {l done todo : List (Ent κ)} (hp : (done ++ todo).Perm l) (hn : (l.map (·.born)).Nodup) : (l.filter (fun e => !(done.map (·.born)).contains e.born)).Perm todo := by
  have hn2 : ((done ++ todo).map (·.born)).Nodup := (hp.map _).nodup_iff.2 hn
  refine (hp.symm.filter _).trans ?_
  rw [List.filter_append]
  have h1 : done.filter (fun e => !(done.map (·.born)).contains e.born) = [] := by
    rw [List.filter_eq_nil_iff]
    intro e he
    simp only [Bool.not_eq_true', Bool.not_eq_false, List.contains_iff_mem, Bool.not_eq_true]
    simp
    exact ⟨e, he, rfl⟩
  have h2 : todo.filter (fun e => !(done.map (·.born)).contains e.born) = todo := by
    rw [List.filter_eq_self]
    intro e he
    rw [List.map_append, List.nodup_append] at hn2
    simp only [Bool.not_eq_true']
    rw [← Bool.not_eq_true, List.contains_iff_mem]
    intro hm
    exact hn2.2.2 e.born hm e.born (List.mem_map.2 ⟨e, he, rfl⟩) rfl
  rw [h1, h2]
  exact List.Perm.refl _
theorem run_nextE {P : Program} {enc : κ → Value} {Ok : κ → Prop} {w : World} {ty : TypeId} {r b c : Nat} {l done todo : List (Ent κ)} (hr : w.heap[r]? = some (iterO b c done)) (hb : w.heap[b]? = some (mapO enc l c)) (hm : MapOk Ok l c)
    (hp : (done ++ todo).Perm l) :
    (todo = [] ∧ (Instr.next (.pointer (some ⟨r, 0, none⟩)) false ty).run P w = .ok (.tuple #[.bool false]) w) ∨
    ∃ e rest w1, todo.Perm (e :: rest) ∧ (w1 = w ∨ w1 = w.drew) ∧ (Instr.next (.pointer (some ⟨r, 0, none⟩)) false ty).run P w = .ok (.tuple #[.bool true, enc e.key, e.val]) (setBlock w1 r (iterO b c (done ++ [e]))) := by
  have hold : ∀ x ∈ (l.map (entE enc)).toArray.toList, x.born < c := by
    intro x hx
    obtain ⟨e, he, rfl⟩ := List.mem_map.1 (by simpa using hx)
    exact hm.lt e he
  have ht := left_todo hp hm.borns
  rcases run_next_at w ty r b c c _ _ c hr hb hold (Nat.le_refl _) with ⟨h0, h1⟩ | ⟨e, he, w1, h2, h3⟩
  · refine .inl ⟨?_, h1⟩
    have : (leftOf (l.map (entE enc)).toArray (done.map (·.born)).toArray).toList.length = 0 := by simpa using h0
    rw [leftE enc c, List.length_map] at this
    exact List.length_eq_zero_iff.1 (ht.length_eq ▸ this)
  · rw [leftE enc c] at he
    obtain ⟨e', he', rfl⟩ := List.mem_map.1 he
    obtain ⟨s, t, rfl⟩ := List.append_of_mem (ht.mem_iff.1 he')
    refine .inr ⟨e', s ++ t, w1, List.perm_middle, h2, ?_⟩
    rw [h3]
    simp [iterO, entE]
theorem iter_step {l done todo : List (Ent κ)} {e : Ent κ} {rest : List (Ent κ)} (hp : (done ++ todo).Perm l) (ht : todo.Perm (e :: rest)) : ((done ++ [e]) ++ rest).Perm l := by
  rw [List.append_assoc]
  exact ((ht.symm.append_left done).trans hp)
theorem run_entryE {P : Program} {enc : κ → Value} {Ok : κ → Prop} {w : World} {r b c : Nat} {l done : List (Ent κ)} {e : Ent κ} (hr : w.heap[r]? = some (iterO b c (done ++ [e]))) (hb : w.heap[b]? = some (mapO enc l c)) (hm : MapOk Ok l c) (he : e ∈ l) :
    (Instr.entry (.pointer (some ⟨r, 0, none⟩))).run P w = .ok (.tuple #[enc e.key, e.val]) w := by
  have hr' : w.heap[r]? = some (.mapIter (some b) c ((done.map (·.born)).toArray.push (entE enc e).born) c) := by rw [hr]; simp [iterO, entE]
  exact run_entry_at w r b c _ _ c (entE enc e) hr' hb (by simp; exact ⟨e, he, rfl⟩) (by simpa [List.map_map, Function.comp_def, entE] using hm.borns)
theorem w_range {P : Program} {enc : κ → Value} {w : World} {o : Oper} {a : Act} {K : Act → World → Prop} {Q : Exit → Act → World → Prop} (m : Operand) {t k ev : TypeId} (hop : o.op = .range t m) (ht : P.underlying t = some (.map k ev)) {b : Nat} {l : List (Ent κ)} {c : Nat} (hb : w.heap[b]? = some (mapO enc l c))
    (hmv : a.eval m = .map (some b)) (hK : K (a.put o.dst (.pointer (some ⟨w.heap.size, 0, none⟩))) (w.alloc (iterO b c ([] : List (Ent κ))))) : o.wp P a w K Q := by
  refine wp_run (v := .pointer (some ⟨w.heap.size, 0, none⟩)) (w' := w.alloc (iterO b c ([] : List (Ent κ)))) ?_ hK
  have := run_range_map (P := P) w t k ev b _ c ht hb
  simp [execOp, hop, hmv, this, Result.andThen, iterO]
theorem w_next {P : Program} {enc : κ → Value} {Ok : κ → Prop} {w : World} {o : Oper} {a : Act} {K : Act → World → Prop} {Q : Exit → Act → World → Prop} (it : Operand) (hop : o.op = .next it false) {r b c : Nat} {l done todo : List (Ent κ)} (hr : w.heap[r]? = some (iterO b c done)) (hb : w.heap[b]? = some (mapO enc l c)) (hm : MapOk Ok l c)
    (hp : (done ++ todo).Perm l) (hit : a.eval it = .pointer (some ⟨r, 0, none⟩)) (h0 : todo = [] → K (a.put o.dst (.tuple #[.bool false])) w)
    (h1 : ∀ e rest w', todo.Perm (e :: rest) → Mods (fun k => k = r) w w' → w'.heap[r]? = some (iterO b c (done ++ [e])) → K (a.put o.dst (.tuple #[.bool true, enc e.key, e.val])) w') : o.wp P a w K Q := by
  rcases run_nextE (P := P) (ty := o.type) hr hb hm hp with ⟨ht, h2⟩ | ⟨e, rest, w1, ht, hw1, h2⟩
  · refine wp_run (v := .tuple #[.bool false]) (w' := w) ?_ (h0 ht)
    simp [execOp, hop, hit, h2, Result.andThen]
  · refine wp_run (v := .tuple #[.bool true, enc e.key, e.val]) (w' := setBlock w1 r (iterO b c (done ++ [e]))) ?_ ?_
    · simp [execOp, hop, hit, h2, Result.andThen]
    · rcases hw1 with rfl | rfl
      · exact h1 e rest _ ht (setBlock_mods _ _ _) (setBlock_at hr)
      · exact h1 e rest _ ht (((Mods.refl (fun k => k = r) w).drew).trans' (setBlock_mods _ _ _) (fun q hq => .inl hq)) (setBlock_at (by exact hr))
theorem w_entry {P : Program} {enc : κ → Value} {Ok : κ → Prop} {w : World} {o : Oper} {a : Act} {K : Act → World → Prop} {Q : Exit → Act → World → Prop} (it : Operand) (hop : o.op = .entry it) {r b c : Nat} {l done : List (Ent κ)} {e : Ent κ} (hr : w.heap[r]? = some (iterO b c (done ++ [e]))) (hb : w.heap[b]? = some (mapO enc l c)) (hm : MapOk Ok l c) (he : e ∈ l)
    (hit : a.eval it = .pointer (some ⟨r, 0, none⟩)) (hK : K (a.put o.dst (.tuple #[enc e.key, e.val])) w) : o.wp P a w K Q := by
  refine wp_run (v := .tuple #[enc e.key, e.val]) (w' := w) ?_ hK
  simp [execOp, hop, hit, run_entryE (P := P) hr hb hm he, Result.andThen]
end
end Go.Proofs.YtdhobpbngkainaaGreatDoor
/-
  Ours. Operations with the heap described block by block: stores, map stores; the world behind is any that is like that. No condition.
-/
namespace Go.Proofs.YtdhobpbngkainaaGreatDoor
open Go.RowKit Go.Maps
open Go.ChangeMaps (setBlock)

section
variable {P : Program} {o : Oper} {a : Act} {w : World} {K : Act → World → Prop} {Q : Exit → Act → World → Prop} {F G : HF} {a0 : World}
theorem w_storeT (ty : TypeId) (x y : Operand) (ho : o.op = .store ty x y) (b : Nat) (old cells : Array Value) (t : TypeId) (hT : Turns F ((b, Is (.cells old t (0, 0))) :: G) a0 w) (hx : a.eval x = .pointer (some ⟨b, 0, none⟩)) (hy : a.eval y = .agg cells)
    (hsz : cells.size = old.size) (hi : (P.info? ty).map (·.size) = some cells.size) (h1 : cells.all (·.oneCell') = true)
    (hk : ∀ w', Turns F ((b, Is (.cells cells t (0, 0))) :: G) a0 w' → K (a.put o.dst undef) w') : o.wp P a w K Q := by
  have hb := hT.sat.headIs
  obtain ⟨q1, q2⟩ := setCells_new hb cells.toList (by simpa using hsz)
  refine wp_store_mid ty x y ho b 0 cells hx hy (there_of hb 0 _ (by omega)) hi h1 (hk _ (hT.putIs q2 (by simpa using q1)))
theorem w_store1T (ty : TypeId) (x y : Operand) (ho : o.op = .store ty x y) (b i : Nat) (C : Array Value) (t : TypeId) (v : Value) (hT : Turns F ((b, Is (.cells C t (0, 0))) :: G) a0 w) (hx : a.eval x = .pointer (some ⟨b, i, none⟩)) (hy : a.eval y = v)
    (hiC : i < C.size) (hi : (P.info? ty).map (·.size) = some 1) (h1 : v.oneCell' = true) (hvc : v.cells = #[v])
    (hk : ∀ w', Turns F ((b, Is (.cells (C.setIfInBounds i v) t (0, 0))) :: G) a0 w' → K (a.put o.dst undef) w') : o.wp P a w K Q := by
  have hb := hT.sat.headIs
  exact w_store1 x y hi ho hb (Array.getElem?_eq_getElem hiC) hx hy h1 hvc (hk _ (hT.putIs ((Mods.refl (fun k => k = b) w).set1 v) (set_same hb i v)))
theorem w_mapUpT {κ : Type} [DecidableEq κ] {k t ev : TypeId} {enc : κ → Value} {Ok : κ → Prop} (E : EncOk P k enc Ok) (m x y : Operand) (ho : o.op = .mapUpdate t m x y) (ht : P.underlying t = some (.map k ev)) (b : Nat) (l : List (Ent κ)) (c : Nat)
    (hT : Turns F ((b, Is (mapO enc l c)) :: G) a0 w) (hm : MapOk Ok l c) (key : κ) (v : Value) (hmv : a.eval m = .map (some b)) (hx : a.eval x = enc key) (hy : a.eval y = v) (hk : Ok key)
    (hK : ∀ w', Turns F ((b, Is (mapO enc (putE l c key v) (putC l c key))) :: G) a0 w' → K (a.put o.dst undef) w') : o.wp P a w K Q := by
  have hb := hT.sat.headIs
  refine w_mapUp E m x y ho ht hb hm key v hmv hx hy hk ?_
  exact hK _ (hT.putIs (setBlock_mods _ _ _) (setBlock_at hb))
theorem w_makeMapT (t : TypeId) (ho : o.op = .makeMap t none) (hT : Turns F G a0 w) (hk : ∀ n w', Turns F ((n, Is (.map #[] 0)) :: G) a0 w' → K (a.put o.dst (.map (some n))) w') : o.wp P a w K Q := by
  refine wp_run (v := .map (some w.heap.size)) (w' := w.alloc (.map #[] 0)) ?_ (hk _ _ (hT.allocIs _))
  simp [execOp, ho, run_makeMap, Result.andThen]
theorem w_lookOk {κ : Type} [DecidableEq κ] {k t ev : TypeId} {enc : κ → Value} {Ok : κ → Prop} (E : EncOk P k enc Ok) (m x : Operand) (hop : o.op = .lookup t m x true) (ht : P.underlying t = some (.map k ev)) {b : Nat} {l : List (Ent κ)} {c : Nat} (hb : w.heap[b]? = some (mapO enc l c)) (hm : MapOk Ok l c)
    {z : Value} (hz : (zeroValue ev).run P w = .ok z w) (key : κ) (hmv : a.eval m = .map (some b)) (hx : a.eval x = enc key) (hk : Ok key) (hK : K (a.put o.dst (.tuple #[(getE l key).getD z, .bool (hasE l key)])) w) : o.wp P a w K Q := by
  refine wp_run (v := .tuple #[(getE l key).getD z, .bool (hasE l key)]) (w' := w) ?_ hK
  simp [execOp, hop, hmv, hx, run_lookOk E ht hb hm hz hk, Result.andThen]
end
/-! ### the code, taken apart -/
def findReg (id : Nat) : Code → Option Code
  | .region i ops d => if i = id then some (.region i ops d) else none
  | .seq a b => match findReg id a with | some r => some r | none => findReg id b
  | .cond _ a b => match findReg id a with | some r => some r | none => findReg id b
  | .block _ c => findReg id c
  | .scope c => findReg id c
  | .loop c => findReg id c
  | .rangeFunc _ _ a b => match findReg id a with | some r => some r | none => findReg id b
  | _ => none
noncomputable def regOf (id : Nat) (f : Func) : Code := (f.body.bind (findReg id)).getD .skip
theorem infoRec : (Tryz.prog.info? 38).map (fun i => (i.zero, i.size, i.bytes)) = some (some (.slice none 0 0), 1, 24) := by kernel_rfl
theorem w_append_rec {o : Oper} {a : Act} {w a0 : World} {K : Act → World → Prop} {Q : Exit → Act → World → Prop} {F G : HF} (s x : Operand) (hop : o.op = .call { callee := .builtin .append, args := #[s, x], argTypes := #[61, 61] })
    (v : Value) (l : List Value) (hs : a.eval s = v) (hT : Turns F (rowF 38 1 v l.length l ++ G) a0 w) (hok : RowOk 1 v l.length l) (n : Nat) (u : Value) (hx : a.eval x = .slice (some ⟨n, 0, none⟩) 1 1) (hu : u.oneCell' = true)
    (hc : w.cell? ⟨n, 0, none⟩ = some u) (hb : l.length ≤ 1000000)
    (hk : ∀ v' w', RowOk 1 v' (l ++ [u]).length (l ++ [u]) → Turns F (rowF 38 1 v' (l ++ [u]).length (l ++ [u]) ++ G) a0 w' → K (a.put o.dst v') w') : o.wp Tryz.prog a w K Q := by
  obtain ⟨i0, hi0, hz1, hz2, hz3⟩ := info_parts infoRec
  refine w_append_row s x 61 38 i0 (.slice none 0 0) 1 24 hop Tryz.underlying61 hi0 hz1 hz2 hz3 rfl (by decide) v l.length l hs hT hok (some ⟨n, 0, none⟩) 1 1 hx [u] rfl (fun _ => ⟨_, rfl, fun j y hj => ?_⟩) (fun y hy => by simp at hy; subst hy; exact hu) (by unfold maxLen; omega) (by omega) (fun v' w' h1 h2 _ => ?_)
  · cases j with
    | zero => simp only [List.getElem?_cons_zero, Option.some.injEq] at hj; subst hj; rw [Addr.add_lit, Nat.zero_add]; exact hc
    | succ j => simp at hj
  · exact hk v' w' (by rw [List.length_append]; exact h1) (by rw [List.length_append]; exact h2)
end Go.Proofs.YtdhobpbngkainaaGreatDoor
