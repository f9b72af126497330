/-
  Ours. The law of 'for c := range chunk.Each(data)': an invariant on blocks of the body's own, and one walk of the body.
-/
import Derived.Test.YtdhobpbngkainaaEachWalk
namespace Go.Proofs.Ytdhobpbngkainaa
open Go.RowKit Go.Shelf

/-- What a step of the body leaves of its own blocks: S before, S' behind. -/
def Own (S S' : Nat → Prop) (A B : World) : Prop := Mods S A B ∧ ∀ k, S' k → k < B.heap.size ∧ (S k ∨ A.heap.size ≤ k)

def bodyPostE (I : Nat → (Nat → Prop) → World → Prop) (Ix : Code → Nat → (Nat → Prop) → World → Prop) (i : Nat) (S : Nat → Prop) (A : World) : Exit → Act → World → Prop
  | .normal, _, B => ∃ S', I (i + 1) S' B ∧ Own S S' A B
  | .ret, _, B => ∃ S', Ix .ret i S' B ∧ Own S S' A B
  | .exit id, _, B => ∃ S', Ix (.exit id) i S' B ∧ Own S S' A B
  | .goto t, _, B => ∃ S', Ix (.goto t) i S' B ∧ Own S S' A B
  | .panic _, _, _ => False
  | .outgrown, _, _ => False

/-- The chunk's slice as it comes to the loop. -/
def chunkArg (d off : Nat) (data : List UInt8) (i : Nat) : Value :=
  .slice (some ⟨d, off + ((lensOf data).take i).sum, none⟩) ((lensOf data).getD i 0) ((lensOf data).getD i 0)

theorem own_lt {S S' : Nat → Prop} {A B : World} (h : Own S S' A B) : ∀ k, S' k → k < B.heap.size := fun k hk => (h.2 k hk).1

/-- THE LAW. -/
theorem wpIn_each {n : Nat} {g : Operand} {p : Tmp} {assign body : Code} {Q : Exit → Act → World → Prop} {a : Act} {w : World}
    (box d off cap : Nat) (a0 : Option Addr) (data : List UInt8) (hg : a.eval g = .func (.func 16) #[] #[.pointer (some ⟨box, 0, none⟩)])
    (ha : 0 < data.length → a0 = some ⟨d, off, none⟩) (hcap : data.length ≤ cap) (hmax : data.length ≤ 140737488351232)
    (hbox : w.heap[box]? = some (.cells #[.slice a0 data.length cap] 25 (0, 0))) (hd : HasBytes w d off data) (hdw : d ≠ w.heap.size ∧ d ≠ w.heap.size + 1)
    (I : Nat → (Nat → Prop) → World → Prop) (Ix : Code → Nat → (Nat → Prop) → World → Prop) (S0 : Nat → Prop)
    (hSb : ¬ S0 box) (hSd : ¬ S0 d) (hSo : ∀ k, S0 k → k < w.heap.size) (h0 : I 0 S0 w) (hI : Framed I) (hIx : ∀ c, Framed (Ix c)) (a₁ : Nat → Act)
    (hassign : ∀ (l i : Nat) (W : World) (K : Act → World → Prop), K (a₁ i) W →
      assign.wpIn (FW.inRound l) n Try.prog (Exit.then K (fun _ _ _ => False)) { tmps := a.tmps.setIfInBounds p (chunkArg d off data i), defers := [] } W)
    (hbody : ∀ (l i : Nat) (S : Nat → Prop) (A : World), i < (lensOf data).length → I i S A → HasBytes A d off data → (∀ k, S k → k < A.heap.size) → ¬ S d → w.heap.size ≤ A.heap.size →
      body.wpIn (FW.inRound l) n Try.prog (bodyPostE I Ix i S A) (a₁ i) A)
    (hdone : ∀ (D : Nat) (S : Nat → Prop) (B : World), w.heap.size ≤ D → I (lensOf data).length S B → Own S0 S w B → ¬ S D → B.heap[D]? = some (.deferred (some [])) →
      Q .normal { a with defers := { target := .collected D, args := #[] } :: a.defers } B)
    (hstop : ∀ (D i : Nat) (c : Code) (S : Nat → Prop) (B : World), w.heap.size ≤ D → i < (lensOf data).length → Ix c i S B → Own S0 S w B → ¬ S D → B.heap[D]? = some (.deferred (some [])) →
      c.wpIn FW (n + 1 + 1) Try.prog Q { a with defers := { target := .collected D, args := #[] } :: a.defers } B) :
    (Code.rangeFunc g #[p] assign body).wpIn FW (n + 1 + 1) Try.prog Q a w := by
  refine wpIn_rangeFunc ?_
  intro fn _
  obtain ⟨rec, hrec⟩ : ∃ rec : LoopState → Option Code → Loop, rec = fun st pe => { state := st, pending := pe, fn, tmps := a.tmps, params := #[p], assign, body, defers := w.heap.size } := ⟨_, rfl⟩
  obtain ⟨W1, hW1⟩ : ∃ W1, (w.alloc (.deferred (some []))).alloc (.loop (rec .ready none)) = W1 := ⟨_, rfl⟩
  obtain ⟨L, hL⟩ : ∃ L, L = w.heap.size + 1 := ⟨_, rfl⟩
  obtain ⟨D, hD⟩ : ∃ D, D = w.heap.size := ⟨_, rfl⟩
  have hz1 : W1.heap.size = w.heap.size + 2 := by rw [← hW1]; simp
  have hL1 : W1.heap[L]? = some (.loop (rec .ready none)) := by
    rw [← hW1, hL]; have := World.alloc_heap_new (w.alloc (.deferred (some []))) (.loop (rec .ready none)); rwa [World.size_alloc] at this
  have hK1 : W1.heap[D]? = some (.deferred (some [])) := by
    rw [← hW1, hD]; exact (Below.heap_alloc _ _ _ (by simp)).trans (World.alloc_heap_new w _)
  have hs1 : Same w W1 := by rw [← hW1]; exact ((Mods.refl _ w).alloc _).alloc _
  refine ⟨L, [{ target := .collected D, args := #[] }], W1, { target := .fn (.func 16) #[.pointer (some ⟨box, 0, none⟩)], args := #[.func (.yield L) #[] #[]] }, W1, 16,
    #[.func (.yield L) #[] #[]] ++ #[.pointer (some ⟨box, 0, none⟩)], W1, ?_, ?_, ?_, ?_, (fun h => by cases h), ?_⟩
  · rw [← hW1, hrec, hL, hD]; exact run_enterLoop_outer _ _ _ _ _
  · simp only [resolve, hg]
    simp [go_sem]
  · intro f' _; trivial
  · have eg := enters_of (P := Try.prog) Try.func16 (by kernel_rfl) rfl
    simp [invoke, go_sem, eg _ W1]
  · obtain ⟨J, hJ⟩ : ∃ J : Nat → (Nat → Prop) → World → Prop, J = fun i T A => ∃ S, I i S A ∧ (∀ q, T q ↔ S q ∨ q = L ∨ q = D) ∧ ¬ S L ∧ ¬ S D ∧ A.heap[L]? = some (.loop (rec .ready none)) ∧
        A.heap[D]? = some (.deferred (some [])) ∧ (∀ k, S k → k < A.heap.size) ∧ w.heap.size ≤ A.heap.size := ⟨_, rfl⟩
    obtain ⟨Jx, hJx⟩ : ∃ Jx : Nat → (Nat → Prop) → World → Prop, Jx = fun i T A => ∃ c S, Ix c i S A ∧ (∀ q, T q ↔ S q ∨ q = L ∨ q = D) ∧ ¬ S L ∧ ¬ S D ∧ A.heap[L]? = some (.loop (rec .done (some c))) ∧
        A.heap[D]? = some (.deferred (some [])) ∧ (∀ k, S k → k < A.heap.size) ∧ w.heap.size ≤ A.heap.size := ⟨_, rfl⟩
    have hput : ∀ {S : Nat → Prop} {A : World} (o : Obj), ¬ S L → Mods (fun k => ¬ S k) A (A.putObj L o) := fun o h => (Mods.refl _ _).putObj (.inl h) o
    have hbW := lt_of_heap hbox
    refine (Each1_calls n L box d off cap a0 data J Jx W1 (fun q => S0 q ∨ q = L ∨ q = D) ha hcap hmax (hs1.at hbox id) (hd.keep hs1 id) ?_ ?_ ?_ ?_ ?_ ?_).mono ?_
    · rintro (h | h | h)
      · exact hSb h
      · omega
      · omega
    · rintro (h | h | h)
      · exact hSd h
      · omega
      · omega
    · rintro q (h | h | h)
      · have := hSo q h; omega
      · omega
      · omega
    · rw [hJ]
      exact ⟨S0, hI 0 S0 w W1 h0 hSo (hs1.mods _), fun q => Iff.rfl, fun h => by have := hSo _ h; omega, fun h => by have := hSo _ h; omega, hL1, hK1, fun k hk => by have := hSo k hk; omega, by omega⟩
    · -- FRAMED
      rw [hJ]
      rintro i T A B ⟨S, hi, hT, hSL, hSD, hl, hk, ho, hz⟩ hTo hM
      have hM' : Mods (fun k => ¬ S k) A B := hM.mono (fun q hq => .inl (fun h => hq ((hT q).2 (.inl h))))
      exact ⟨S, hI i S A B hi ho hM', hT, hSL, hSD, hM.at hl (fun h => h ((hT L).2 (.inr (.inl rfl)))), hM.at hk (fun h => h ((hT D).2 (.inr (.inr rfl)))), fun k hk' => Nat.lt_of_lt_of_le (ho k hk') hM.size, Nat.le_trans hz hM.size⟩
    · -- ONE ROUND
      rintro i T A hi hj hdA hTo hTd
      rw [hJ] at hj
      obtain ⟨S, hi', hT, hSL, hSD, hl, hk, ho, hz⟩ := hj
      have hSd' : ¬ S d := fun h => hTd ((hT d).2 (.inl h))
      have hlt := lt_of_heap hl
      have hy := run_yield (P := Try.prog) (args := #[chunkArg d off data i]) hl (by rw [hrec]; rfl)
      rw [hrec] at hy
      have hget : chunkArg d off data i = .slice (some ⟨d, off + ((lensOf data).take i).sum, none⟩) (lensOf data)[i] (lensOf data)[i] := by
        simp [chunkArg, List.getD_eq_getElem?_getD, hi]
      rw [← hget]
      have hy' : (Instr.yield L #[chunkArg d off data i]).run Try.prog A = .ok (.round L fn (a.tmps.setIfInBounds p (chunkArg d off data i)) assign body) A := by
        rw [hy]; simp
      refine ⟨fn, _, assign, body, hy', roundIn_of_wpIn trivial (hassign L i A (fun a₁' w₁ => ∃ w₂, (Instr.beginRound L).run Try.prog w₁ = .ok () w₂ ∧ body.wpIn (FW.inRound L) n Try.prog (roundPost Try.prog L (RoundPost J Jx i T A)) a₁' w₂) ⟨_, run_beginRound hl (by rw [hrec]), ?_⟩)⟩
      obtain ⟨A2, hA2⟩ : ∃ A2, A2 = A.putObj L (.loop { rec .ready none with state := .busy }) := ⟨_, rfl⟩
      rw [← hA2]
      have hl2 : A2.heap[L]? = some (.loop (rec .busy none)) := by rw [hA2, World.putObj_heap_same hlt, hrec]
      have hMA : Mods (fun k => ¬ S k) A A2 := by rw [hA2]; exact hput _ hSL
      have hMA' : Mods (fun k => k = L) A A2 := by rw [hA2]; exact Mods.putObj (S := fun k => k = L) (Mods.refl _ _) (r := L) (Or.inl rfl) _
      have hzA : A2.heap.size = A.heap.size := by rw [hA2]; simp
      have hk2 : A2.heap[D]? = some (.deferred (some [])) := hMA'.at hk (by omega)
      refine wpIn_mono (hbody L i S A2 hi (hI i S A A2 hi' ho hMA) (hdA.keep hMA' (by omega)) (fun q hq => by have := ho q hq; omega) hSd' (by omega)) ?_
      -- what stands at the round's end
      have fin : ∀ (jump : Option Code) (S' : Nat → Prop) (B : World), Own S S' A2 B →
          (Instr.endRound L jump).run Try.prog B = .ok (.bool jump.isNone) (B.putObj L (.loop (rec (if jump.isNone then .ready else .done) jump))) ∧
          ¬ S' L ∧ ¬ S' D ∧ (B.putObj L (.loop (rec (if jump.isNone then .ready else .done) jump))).heap[L]? = some (.loop (rec (if jump.isNone then .ready else .done) jump)) ∧
          (B.putObj L (.loop (rec (if jump.isNone then .ready else .done) jump))).heap[D]? = some (.deferred (some [])) ∧
          Mods T A (B.putObj L (.loop (rec (if jump.isNone then .ready else .done) jump))) ∧ w.heap.size ≤ B.heap.size ∧ (∀ k, S' k → k < B.heap.size) := fun jump S' B hO => by
        have hl3 : B.heap[L]? = some (.loop (rec .busy none)) := hO.1.at hl2 hSL
        have hk3 := hO.1.at hk2 hSD
        have hr := run_endRound (P := Try.prog) jump hl3
        rw [hrec] at hr ⊢
        have hSL' : ¬ S' L := fun h => by
          rcases (hO.2 L h).2 with h' | h'
          · exact hSL h'
          · omega
        have hSD' : ¬ S' D := fun h => by
          rcases (hO.2 D h).2 with h' | h'
          · exact hSD h'
          · omega
        refine ⟨hr, hSL', hSD', World.putObj_heap_same (lt_of_heap hl3), (World.putObj_heap_other (by omega)).trans hk3, ?_, by have := hO.1.size; omega, own_lt hO⟩
        refine ((hMA'.mono (fun q hq => .inl ((hT q).2 (.inr (.inl hq))))).trans (hO.1.mono (fun q hq => .inl ((hT q).2 (.inl hq))))).putObj (.inl ((hT L).2 (.inr (.inl rfl)))) _
      have own' : ∀ (jump : Option Code) (S' : Nat → Prop) (B : World), Own S S' A2 B → ∀ k, (S' k ∨ k = L ∨ k = D) → k < (B.putObj L (.loop (rec (if jump.isNone then .ready else .done) jump))).heap.size ∧ (T k ∨ A.heap.size ≤ k) := fun jump S' B hO k hk' => by
        have := hO.1.size
        have := lt_of_heap hk
        rw [World.putObj_size]
        rcases hk' with h | h | h
        · refine ⟨(hO.2 k h).1, ?_⟩
          rcases (hO.2 k h).2 with h' | h'
          · exact .inl ((hT k).2 (.inl h'))
          · exact .inr (by omega)
        · exact ⟨by omega, .inl ((hT k).2 (.inr (.inl h)))⟩
        · exact ⟨by omega, .inl ((hT k).2 (.inr (.inr h)))⟩
      have left : ∀ (c : Code) (S' : Nat → Prop) (B : World), Ix c i S' B → Own S S' A2 B → ∃ v w', (Instr.endRound L (some c)).run Try.prog B = .ok v w' ∧ RoundPost J Jx i T A (.returned v) w' := fun c S' B hx hO => by
        obtain ⟨hr, hSL', hSD', hl4, hk4, hM4, hz4, ho4⟩ := fin (some c) S' B hO
        refine ⟨_, _, hr, .inr ⟨rfl, fun k => S' k ∨ k = L ∨ k = D, ?_, hM4, own' (some c) S' B hO⟩⟩
        rw [hJx]
        exact ⟨c, S', hIx c i S' B _ hx ho4 (hput _ hSL'), fun q => Iff.rfl, hSL', hSD', hl4, hk4, fun k hk' => by rw [World.putObj_size]; exact ho4 k hk', by rw [World.putObj_size]; exact hz4⟩
      rintro e a3 B hp
      cases e with
      | normal =>
        obtain ⟨S', hi3, hO⟩ := hp
        obtain ⟨hr, hSL', hSD', hl4, hk4, hM4, hz4, ho4⟩ := fin none S' B hO
        refine ⟨_, _, hr, .inl ⟨rfl, fun k => S' k ∨ k = L ∨ k = D, ?_, hM4, own' none S' B hO⟩⟩
        rw [hJ]
        exact ⟨S', hI (i + 1) S' B _ hi3 ho4 (hput _ hSL'), fun q => Iff.rfl, hSL', hSD', hl4, hk4, fun k hk' => by rw [World.putObj_size]; exact ho4 k hk', by rw [World.putObj_size]; exact hz4⟩
      | ret => obtain ⟨S', hx, hO⟩ := hp; exact left _ S' B hx hO
      | exit id => obtain ⟨S', hx, hO⟩ := hp; exact left _ S' B hx hO
      | goto t => obtain ⟨S', hx, hO⟩ := hp; exact left _ S' B hx hO
      | panic ch => exact hp.elim
      | outgrown => exact hp.elim
    · -- BEHIND THE ITERATOR
      rintro e B ⟨⟨v, rfl⟩, T, hJJ, hM, hTo⟩
      have hz := hM.size
      have back : ∀ S, (∀ q, T q ↔ S q ∨ q = L ∨ q = D) → ¬ S L → ¬ S D → ∀ o, Own S0 S w (B.putObj L o) := fun S hT hSL hSD o => by
        refine ⟨((hs1.mods S0).trans' hM (fun q hq => ?_)).putObj (.inr (by omega)) o, fun k hk => ?_⟩
        · rcases hq with h | h | h
          · exact .inl h
          · exact .inr (by omega)
          · exact .inr (by omega)
        · rw [World.putObj_size]
          obtain ⟨h1, h2⟩ := hTo k ((hT k).2 (.inl hk))
          refine ⟨h1, ?_⟩
          rcases h2 with (h | h | h) | h
          · exact .inl h
          · exact absurd (h ▸ hk) hSL
          · exact absurd (h ▸ hk) hSD
          · exact .inr (by omega)
      rcases hJJ with hj | ⟨i, hiN, hx⟩
      · rw [hJ] at hj
        obtain ⟨S, hi, hT, hSL, hSD, hl, hk, ho, hzz⟩ := hj
        have hr := run_endLoop (P := Try.prog) hl (by rw [hrec]; simp)
        rw [hrec] at hr
        refine ⟨none, _, hr, ?_⟩
        exact hdone D S _ (by omega) (hI _ S B _ hi ho (hput _ hSL)) (back S hT hSL hSD _) hSD ((World.putObj_heap_other (by omega)).trans hk)
      · rw [hJx] at hx
        obtain ⟨c, S, hi, hT, hSL, hSD, hl, hk, ho, hzz⟩ := hx
        have hr := run_endLoop (P := Try.prog) hl (by rw [hrec]; simp)
        rw [hrec] at hr
        refine ⟨some c, _, hr, ?_⟩
        exact hstop D i c S _ (by omega) hiN (hIx c _ S B _ hi ho (hput _ hSL)) (back S hT hSL hSD _) hSD ((World.putObj_heap_other (by omega)).trans hk)

end Go.Proofs.Ytdhobpbngkainaa
