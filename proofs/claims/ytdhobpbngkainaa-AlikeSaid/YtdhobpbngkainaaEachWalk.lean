/-
  Ours. chunk.Each's iterator: the chunks come one by one, each a piece of the content; whatever the loop's body keeps in blocks of its own.
-/
import Derived.Test.YtdhobpbngkainaaCutWalk
import Derived.RangeFuncNested
import Derived.RangeFuncBound
import Derived.RangeFuncCalls
import Derived.RangeFuncLeaves
import Derived.Shelf.Abstract
import Derived.OwnWalkIn
import Derived.TacticsInMore
import Derived.LoopNIn
import Derived.LoopIn
namespace Go.Proofs.Ytdhobpbngkainaa
open Go.RowKit Go.Shelf
attribute [local go_sem] Oper.semAt_some

abbrev FW : Fence := Fence.wide

/-- What a round of a loop over chunks leaves: the blocks that the body owns, and that nothing else turned. -/
def RoundPost (J Jx : Nat → (Nat → Prop) → World → Prop) (i : Nat) (S : Nat → Prop) (A : World) (e : Ending) (B : World) : Prop :=
  (e = .returned (.bool true) ∧ ∃ S', J (i + 1) S' B ∧ Mods S A B ∧ ∀ k, S' k → k < B.heap.size ∧ (S k ∨ A.heap.size ≤ k)) ∨
  (e = .returned (.bool false) ∧ ∃ S', Jx i S' B ∧ Mods S A B ∧ ∀ k, S' k → k < B.heap.size ∧ (S k ∨ A.heap.size ≤ k))

def EachPost (J Jx : Nat → (Nat → Prop) → World → Prop) (N : Nat) (S : Nat → Prop) (W : World) (e : Ending) (B : World) : Prop :=
  (∃ v, e = .returned v) ∧ ∃ S', (J N S' B ∨ ∃ i, i < N ∧ Jx i S' B) ∧ Mods S W B ∧ ∀ k, S' k → k < B.heap.size ∧ (S k ∨ W.heap.size ≤ k)

def EachRel (J : Nat → (Nat → Prop) → World → Prop) (data : List UInt8) (S0 : Nat → Prop) (W : World) (c box d : Nat) (k : Nat) (i frm : Nat) (wr : World) : Prop :=
  ∃ S, J i S wr ∧ ¬ S c ∧ ¬ S box ∧ ¬ S d ∧ (∀ q, S q → q < wr.heap.size ∧ (S0 q ∨ W.heap.size ≤ q)) ∧ Mods S0 W wr ∧ c < wr.heap.size ∧
    i ≤ (lensOf data).length ∧ (k = data.length → i = (lensOf data).length) ∧
    (k < data.length → ∃ h n, IsCutter wr c h n ∧ n < 256 ∧ frm + n = k ∧ frm = ((lensOf data).take i).sum ∧ (lensOf data).drop i = cutsN h n (data.drop k))

theorem drop_cons_facts {l : List Nat} {i a : Nat} {r : List Nat} (h : l.drop i = a :: r) : ∃ hi : i < l.length, l[i] = a ∧ l.drop (i + 1) = r ∧ (l.take (i + 1)).sum = (l.take i).sum + a := by
  have hi : i < l.length := by
    rcases Nat.lt_or_ge i l.length with h' | h'
    · exact h'
    · rw [List.drop_of_length_le h'] at h; cases h
  have e : l[i] = a := by
    have := List.getElem?_drop (xs := l) (i := i) (j := 0)
    rw [h] at this
    simp at this
    exact (List.getElem?_eq_some_iff.1 this.symm).2
  refine ⟨hi, e, ?_, ?_⟩
  · rw [← List.drop_drop, h]; rfl
  · rw [List.take_succ_eq_append_getElem hi, List.sum_append, e]; simp

/-- Where a chunk ends behind byte k: which one it is. -/
theorem each_at_end {data : List UInt8} {k i frm m : Nat} {h : Int} {x : UInt8} (hlt : k < data.length) (hx : x = data[k]) (hfm : frm + m = k) (hfr : frm = ((lensOf data).take i).sum)
    (hdr : (lensOf data).drop i = cutsN h m (data.drop k)) (he : endsB (hashI h x.toNat) (m + 1) = true ∨ k + 1 = data.length) :
    ∃ hi : i < (lensOf data).length, (lensOf data)[i] = k + 1 - frm ∧ (lensOf data).drop (i + 1) = cutsN 0 0 (data.drop (k + 1)) ∧ k + 1 = ((lensOf data).take (i + 1)).sum := by
  have hd : data.drop k = x :: data.drop (k + 1) := by rw [hx]; exact List.drop_eq_getElem_cons hlt
  have h2 : (lensOf data).drop i = (m + 1) :: cutsN 0 0 (data.drop (k + 1)) := by
    rw [hdr, hd]
    rcases he with he | he
    · exact cutsN_yes _ _ _ _ he
    · rw [List.drop_of_length_le (by omega)]; rw [cutsN_last]; rfl
  obtain ⟨hi, h3, h4, h5⟩ := drop_cons_facts h2
  exact ⟨hi, by omega, h4, by omega⟩

section
variable {J Jx : Nat → (Nat → Prop) → World → Prop} {data : List UInt8} {S0 S : Nat → Prop} {W wr w2 w3 : World} {c box d k i frm m : Nat} {h : Int} {x : UInt8}

/-- A round has gone on. -/
theorem each_next (hlt : k < data.length) (hx : x = data[k]) (hfm : frm + m = k) (hfr : frm = ((lensOf data).take i).sum)
    (hdr : (lensOf data).drop i = cutsN h m (data.drop k)) (he : endsB (hashI h x.toNat) (m + 1) = true ∨ k + 1 = data.length)
    (hSc : ¬ S c) (hSb : ¬ S box) (hSd : ¬ S d) (hSu : ∀ q, S q → q < wr.heap.size ∧ (S0 q ∨ W.heap.size ≤ q)) (hM : Mods S0 W wr) (hcW : W.heap.size ≤ c) (hcl : c < wr.heap.size)
    (hbW : box < W.heap.size) (hdl : d < W.heap.size)
    (hM2 : Mods (· = c) wr w2) (hC2 : k + 1 < data.length → IsCutter w2 c 0 0) {S' : Nat → Prop} (hJ : J (i + 1) S' w3) (hM3 : Mods S w2 w3) (hS' : ∀ q, S' q → q < w3.heap.size ∧ (S q ∨ w2.heap.size ≤ q)) :
    EachRel J data S0 W c box d (k + 1) (i + 1) (k + 1) w3 := by
  obtain ⟨hi, h3, h4, h5⟩ := each_at_end hlt hx hfm hfr hdr he
  have z2 := hM2.size
  have z3 := hM3.size
  have z1 := hM.size
  refine ⟨S', hJ, ?_, ?_, ?_, ?_, ?_, by omega, by omega, ?_, ?_⟩
  · intro hc; rcases (hS' c hc).2 with h' | h'
    · exact hSc h'
    · omega
  · intro hc; rcases (hS' box hc).2 with h' | h'
    · exact hSb h'
    · omega
  · intro hc; rcases (hS' d hc).2 with h' | h'
    · exact hSd h'
    · omega
  · intro q hq
    refine ⟨(hS' q hq).1, ?_⟩
    rcases (hS' q hq).2 with h' | h'
    · exact (hSu q h').2
    · omega
  · refine (hM.trans' hM2 (fun q hq => ?_)).trans' hM3 (fun q hq => (hSu q hq).2)
    subst hq; exact .inr hcW
  · intro hk
    rw [show data.drop (k + 1) = [] from List.drop_of_length_le (by omega)] at h4
    simp only [cutsN] at h4
    have := List.drop_eq_nil_iff.1 h4
    omega
  · intro hk
    exact ⟨0, 0, hM3.at (hC2 hk) hSc, by omega, by omega, h5, h4⟩

/-- No chunk ends here. -/
theorem each_stay (hlt : k + 1 < data.length) (hx : x = data[k]) (hfm : frm + m = k) (hfr : frm = ((lensOf data).take i).sum) (hi : i ≤ (lensOf data).length)
    (hdr : (lensOf data).drop i = cutsN h m (data.drop k)) (he : endsB (hashI h x.toNat) (m + 1) = false)
    (hJ : J i S wr) (hfrm : ∀ i S A B, J i S A → (∀ k, S k → k < A.heap.size) → Mods (fun k => ¬ S k) A B → J i S B)
    (hSc : ¬ S c) (hSb : ¬ S box) (hSd : ¬ S d) (hSu : ∀ q, S q → q < wr.heap.size ∧ (S0 q ∨ W.heap.size ≤ q)) (hM : Mods S0 W wr) (hcW : W.heap.size ≤ c) (hcl : c < wr.heap.size)
    (hM2 : Mods (· = c) wr w2) (hC2 : IsCutter w2 c (hashI h x.toNat) (m + 1)) :
    EachRel J data S0 W c box d (k + 1) i frm w2 := by
  have z2 := hM2.size
  refine ⟨S, hfrm i S wr w2 hJ (fun q hq => (hSu q hq).1) (hM2.mono (fun q hq => .inl (by subst hq; exact hSc))), hSc, hSb, hSd, fun q hq => ⟨by have := (hSu q hq).1; omega, (hSu q hq).2⟩, ?_, by omega, hi, by omega, ?_⟩
  · refine hM.trans' hM2 (fun q hq => ?_)
    subst hq; exact .inr hcW
  · intro _
    have hd : data.drop k = x :: data.drop (k + 1) := by rw [hx]; exact List.drop_eq_getElem_cons (by omega)
    refine ⟨hashI h x.toNat, m + 1, hC2, ?_, by omega, hfr, ?_⟩
    · rcases Nat.lt_or_ge (m + 1) 256 with h' | h'
      · exact h'
      · rw [ends_256 h'] at he; cases he
    · rw [hdr, hd, cutsN_no _ _ _ _ he]
      intro hn
      have := List.drop_eq_nil_iff.1 hn
      omega
end

def EachRound (P : Program) (n l d off : Nat) (data : List UInt8) (J Jx : Nat → (Nat → Prop) → World → Prop) : Prop :=
    ∀ i S A (hi : i < (lensOf data).length), J i S A → HasBytes A d off data → (∀ k, S k → k < A.heap.size) → ¬ S d →
      YieldAt FW n P l #[.slice (some ⟨d, off + ((lensOf data).take i).sum, none⟩) (lensOf data)[i] (lensOf data)[i]] A (RoundPost J Jx i S A)
def Framed (J : Nat → (Nat → Prop) → World → Prop) : Prop := ∀ i S A B, J i S A → (∀ k, S k → k < A.heap.size) → Mods (fun k => ¬ S k) A B → J i S B

/-- One round, asked for in the walk's own spelling. -/
theorem each_yield {n l d off : Nat} {data : List UInt8} {J Jx : Nat → (Nat → Prop) → World → Prop} (hround : EachRound Try.prog n l d off data J Jx) (hfrm : Framed J)
    {k i frm m : Nat} {h : Int} {x : UInt8} (hlt : k < data.length) (hx : x = data[k]) (hfm : frm + m = k) (hfr : frm = ((lensOf data).take i).sum)
    (hdr : (lensOf data).drop i = cutsN h m (data.drop k)) (he : endsB (hashI h x.toNat) (m + 1) = true ∨ k + 1 = data.length)
    {S S0 : Nat → Prop} {W wr w2 : World} {c : Nat} (hJ : J i S wr) (hd : HasBytes W d off data) (hSu : ∀ q, S q → q < wr.heap.size ∧ (S0 q ∨ W.heap.size ≤ q)) (hM : Mods S0 W wr)
    (hSd0 : ¬ S0 d) (hSd : ¬ S d) (hSc : ¬ S c) (hM2 : Mods (· = c) wr w2) (hdc : d ≠ c) :
    YieldAt FW n Try.prog l #[.slice (some ⟨d, off + frm, none⟩) (k + 1 - frm) (k + 1 - frm)] w2 (RoundPost J Jx i S w2) ∧ i < (lensOf data).length := by
  obtain ⟨hi, h3, h4, h5⟩ := each_at_end hlt hx hfm hfr hdr he
  have := hround i S w2 hi (hfrm i S wr w2 hJ (fun q hq => (hSu q hq).1) (hM2.mono (fun q hq => .inl (by subst hq; exact hSc)))) ((hd.keep hM hSd0).keep hM2 hdc)
    (fun q hq => Nat.lt_of_lt_of_le (hSu q hq).1 hM2.size) hSd
  rw [h3, ← hfr] at this
  exact ⟨this, hi⟩

set_option maxHeartbeats 4000000 in
set_option maxRecDepth 100000 in
theorem Each1_calls (n l box d off cap : Nat) (a : Option Addr) (data : List UInt8) (J Jx : Nat → (Nat → Prop) → World → Prop) (W : World) (S0 : Nat → Prop)
    (ha : 0 < data.length → a = some ⟨d, off, none⟩) (hcap : data.length ≤ cap) (hmax : data.length ≤ 140737488351232)
    (hbox : W.heap[box]? = some (.cells #[.slice a data.length cap] 25 (0, 0))) (hd : HasBytes W d off data)
    (hSb : ¬ S0 box) (hSd : ¬ S0 d) (hSo : ∀ k, S0 k → k < W.heap.size) (h0 : J 0 S0 W) (hfrm : Framed J) (hround : EachRound Try.prog n l d off data J Jx) :
    CallsIn FW (n + 1) Try.prog 16 #[.func (.yield l) #[] #[], .pointer (some ⟨box, 0, none⟩)] W (EachPost J Jx (lensOf data).length S0 W) := by
  have hbW := lt_of_heap hbox
  refine callsIn_of_wp Try.func16 rfl trivial ?_ rfl
  simp only [Try.ntmps16, List.size_toArray, List.length_cons, List.length_nil, Nat.reduceAdd, Nat.reduceSub, Array.replicate_succ, Array.replicate_zero, List.push_toArray, List.append_toArray, List.nil_append, List.cons_append]
  gi_wp2_with fail
  refine ⟨trivial, (callsIn_wide.2 (NewCutter_calls _)).mono ?_⟩
  rintro e w1 ⟨rfl, hC1, hs1⟩
  obtain ⟨c, hcdef⟩ : ∃ c, c = W.heap.size := ⟨_, rfl⟩
  rw [← hcdef] at hC1 ⊢
  have hbox1 := cell_at (hs1.at hbox id) 0 (v := .slice a data.length cap) (by simp)
  have HC1 := Lib.hid (And.intro hC1 (And.intro hcdef (And.intro h0 (And.intro hSo (And.intro hbox hs1)))))
  clear hC1 hcdef h0 hSo hbox hs1
  have HR := Lib.hid hround
  have HF := Lib.hid hfrm
  have HD := Lib.hid hd
  clear hround hfrm hd
  gi_wp2_with fail
  gi_loopw [4, 10] (fun fr kk wr => ∃ (k i frm : Nat), k ≤ data.length ∧ fr = .int .i64 frm ∧ kk = .int .i64 k ∧ EachRel J data S0 W c box d k i frm wr)
    (fun _ kk _ => data.length - (intOf kk).toNat)
  case atStart =>
    obtain ⟨hC1, hc, h0, hSo, hbox, hs1⟩ := HC1.out
    refine ⟨0, 0, 0, by omega, rfl, rfl, S0, HF.out 0 S0 W w1 h0 hSo (hs1.mods _), ?_, hSb, hSd, fun q hq => ⟨by have := hSo q hq; have := hs1.size; omega, .inl hq⟩, hs1.mods _, ?_, by omega, ?_, ?_⟩
    · intro hq; have := hSo _ hq; omega
    · have := lt_of_heap hC1; exact this
    · intro hk
      have : data = [] := List.eq_nil_of_length_eq_zero hk.symm
      subst this; simp [lensOf, cutsN]
    · intro hk; exact ⟨0, 0, hC1, by omega, rfl, by simp, by simp [lensOf]⟩
  case round =>
    obtain ⟨k, i, frm, hk, rfl, rfl, hR⟩ := hrel
    by_cases hlt : k < data.length
    · obtain ⟨S, hJ, hSc, hSb', hSd', hSu, hM, hcl, hi, _, hst⟩ := hR
      obtain ⟨h, m, hC, hm, hfm, hfr', hdr⟩ := hst hlt
      obtain rfl := ha (by omega)
      have hbx := cell_at (hM.at HC1.out.2.2.2.2.1 hSb) 0 (v := .slice (some ⟨d, off, none⟩) data.length cap) (by simp)
      have hdk := (HD.out.keep hM hSd) k hlt
      have hdl : d < W.heap.size := World.block_lt_of_cell? W _ (HD.out k hlt)
      have hcW : W.heap.size ≤ c := by have := HC1.out.2.1; omega
      have hbx' : ∀ w2 : World, Mods (· = c) wr w2 → w2.cell? ⟨box, 0, none⟩ = some (.slice (some ⟨d, off, none⟩) data.length cap) := fun w2 h2 => by
        have e := h2.block box (by have := hM.size; omega) (by omega)
        exact (World.cell?_of_block (w := wr) e).trans hbx
      have HI := Lib.hid (And.intro hJ (And.intro hSu (And.intro hM (And.intro hC (And.intro hfr' hdr)))))
      have HB := Lib.hid hbx'
      clear hJ hSu hM hC hfr' hdr hst hbx'
      obtain ⟨x, hx⟩ : ∃ x : UInt8, x = data[k] := ⟨_, rfl⟩
      rw [← hx] at hdk
      have Hx := Lib.hid hx
      clear hx
      have hxl := x.toNat_lt
      have hfk : frm ≤ k := by omega
      have hfc : frm < cap := by omega
      have HFM := Lib.hid hfm
      clear hfm
      by_cases hE : endsB (hashI h x.toNat) (m + 1) = true ∨ k + 1 = data.length
      · -- A CHUNK ENDS BEHIND BYTE k
        obtain ⟨z, hz⟩ : ∃ z, endsB (hashI h x.toNat) (m + 1) = z := ⟨_, rfl⟩
        have HE := Lib.hid hE
        have HZ := Lib.hid hz
        clear hE hz
        gi_wp2_with fail
        refine ⟨trivial, (callsIn_wide.2 (Ends_calls wr c h m x.toNat hxl (by omega) HI.out.2.2.2.1)).mono ?_⟩
        rintro e w2 ⟨rfl, hC2, hM2, hz2⟩
        rw [HZ.out] at hC2 ⊢
        have hb2 := HB.out w2 hM2
        have hlast : z = false → ((k : Int) == (data.length : Int) - 1) = true := fun hzf => by
          rcases HE.out with h' | h'
          · rw [HZ.out, hzf] at h'; cases h'
          · simp; omega
        obtain ⟨hI1, hI2, hI3, hI4, hI5, hI6⟩ := HI.out
        obtain ⟨⟨fn, tmps, assign, body, hy, hRd⟩, hil⟩ := each_yield HR.out HF.out hlt Hx.out HFM.out hI5 hI6 HE.out hI1 HD.out hI2 hI3 hSd hSd' hSc hM2 (by omega)
        have hCz : k + 1 < data.length → IsCutter w2 c 0 0 := fun hk1 => by
          rcases HE.out with h' | h'
          · rw [HZ.out] at h'; rw [h'] at hC2; exact hC2
          · omega
        have HN := Lib.hid (fun (w3 : World) (S' : Nat → Prop) (hJ3 : J (i + 1) S' w3) (hM3 : Mods S w2 w3) (hS3 : ∀ q, S' q → q < w3.heap.size ∧ (S q ∨ w2.heap.size ≤ q)) =>
          each_next (box := box) hlt Hx.out HFM.out hI5 hI6 HE.out hSc hSb' hSd' hI2 hI3 hcW hcl hbW hdl hM2 hCz hJ3 hM3 hS3)
        have HX := Lib.hid (And.intro hil (And.intro (hI3.trans' hM2 (T := (· = c)) (fun q hq => .inr (by omega))) (And.intro hI2 (And.intro hM2.size hI3.size))))
        clear hC2 hM2 hz2 hI1 hI2 hI3 hI4 hI5 hI6 hCz hil
        cases z
        · have hl := hlast rfl
          clear hlast
          gi_wp2_with fail
          refine hRd.mono ?_
          rintro e w3 (⟨rfl, S', hJ3, hM3, hS3⟩ | ⟨rfl, S', hJ3, hM3, hS3⟩)
          · have HR3 := Lib.hid (HN.out w3 S' hJ3 hM3 hS3)
            clear hJ3 hM3 hS3 hy
            gi_wp2
            go_roundw
            case rel => exact ⟨k + 1, i + 1, k + 1, by omega, by go_num, by go_num, HR3.out⟩
            case measure => simp [intOf]; omega
          · obtain ⟨hil, hM02, hI2, hz2, hz1⟩ := HX.out
            have HP : Hid (EachPost J Jx (lensOf data).length S0 W (.returned (.tuple #[])) w3) :=
              ⟨⟨_, rfl⟩, S', .inr ⟨i, hil, hJ3⟩, hM02.trans' hM3 (fun q hq => (hI2 q hq).2), fun q hq => ⟨(hS3 q hq).1, by
                rcases (hS3 q hq).2 with h' | h'
                · exact (hI2 q h').2
                · exact .inr (by omega)⟩⟩
            clear hJ3 hM3 hS3 hy hil hM02 hI2 hz2 hz1
            gi_wp2
            refine bodyPost_ret (results_none rfl _ _ _) rfl ?_
            exact HP.out
        · clear hlast
          gi_wp2_with fail
          refine hRd.mono ?_
          rintro e w3 (⟨rfl, S', hJ3, hM3, hS3⟩ | ⟨rfl, S', hJ3, hM3, hS3⟩)
          · have HR3 := Lib.hid (HN.out w3 S' hJ3 hM3 hS3)
            clear hJ3 hM3 hS3 hy
            gi_wp2
            go_roundw
            case rel => exact ⟨k + 1, i + 1, k + 1, by omega, by go_num, by go_num, HR3.out⟩
            case measure => simp [intOf]; omega
          · obtain ⟨hil, hM02, hI2, hz2, hz1⟩ := HX.out
            have HP : Hid (EachPost J Jx (lensOf data).length S0 W (.returned (.tuple #[])) w3) :=
              ⟨⟨_, rfl⟩, S', .inr ⟨i, hil, hJ3⟩, hM02.trans' hM3 (fun q hq => (hI2 q hq).2), fun q hq => ⟨(hS3 q hq).1, by
                rcases (hS3 q hq).2 with h' | h'
                · exact (hI2 q h').2
                · exact .inr (by omega)⟩⟩
            clear hJ3 hM3 hS3 hy hil hM02 hI2 hz2 hz1
            gi_wp2
            refine bodyPost_ret (results_none rfl _ _ _) rfl ?_
            exact HP.out
      · -- NO CHUNK ENDS HERE
        have hk1 : k + 1 < data.length := by
          rcases Nat.lt_or_ge (k + 1) data.length with h' | h'
          · exact h'
          · exact absurd (.inr (by omega)) hE
        have hz : endsB (hashI h x.toNat) (m + 1) = false := by
          cases hz : endsB (hashI h x.toNat) (m + 1)
          · rfl
          · exact absurd (.inl hz) hE
        have hne : ((k : Int) == (data.length : Int) - 1) = false := by simp; omega
        have HZ := Lib.hid hz
        clear hE hz
        gi_wp2_with fail
        refine ⟨trivial, (callsIn_wide.2 (Ends_calls wr c h m x.toNat hxl (by omega) HI.out.2.2.2.1)).mono ?_⟩
        rintro e w2 ⟨rfl, hC2, hM2, hz2⟩
        rw [HZ.out] at hC2 ⊢
        have hb2 := HB.out w2 hM2
        obtain ⟨hI1, hI2, hI3, hI4, hI5, hI6⟩ := HI.out
        have HN := Lib.hid (each_stay (box := box) (d := d) hk1 Hx.out HFM.out hI5 hi hI6 HZ.out hI1 HF.out hSc hSb' hSd' hI2 hI3 hcW hcl hM2 hC2)
        clear hC2 hM2 hz2 hI1 hI2 hI3 hI4 hI5 hI6
        gi_wp2
        go_roundw
        case rel => exact ⟨k + 1, i, frm, by omega, rfl, by go_num, HN.out⟩
        case measure => simp [intOf]; omega
    · obtain rfl : k = data.length := by omega
      obtain ⟨S, hJ, hSc, hSb', hSd', hSu, hM, hcl, hi, hil, hst⟩ := hR
      have HP : Hid (EachPost J Jx (lensOf data).length S0 W (.returned (.tuple #[])) wr) :=
        ⟨⟨_, rfl⟩, S, .inl (by rw [hil rfl] at hJ; exact hJ), hM, hSu⟩
      clear hJ hSu hM hil hst
      gi_wp2
      go_end0
      exact HP.out

end Go.Proofs.Ytdhobpbngkainaa
