/-
  Ours. versions.Cuts: it answers the lengths of the chunks, in new memory.
-/
import Derived.Test.YtdhobpbngkainaaEachLoop
import Derived.Test.YtdhobpbngkainaaAppend
import Derived.RangeFuncBox
namespace Go.Proofs.Ytdhobpbngkainaa
open Go.RowKit Go.Shelf
attribute [local go_sem] Oper.semAt_some

theorem infoInt : (Try.prog.info? 3).map (fun i => (i.zero, i.size, i.bytes)) = some (some (.int .i64 0), 1, 8) := by kernel_rfl

def EachCallPost (a : Option Addr) (len cap : Nat) (w : World) (e : Ending) (w' : World) : Prop :=
  e = .returned (.func (.func 16) #[] #[.pointer (some ⟨w.heap.size, 0, none⟩)]) ∧ w' = w.alloc (.cells #[.slice a len cap] 25)
set_option maxHeartbeats 1000000 in
theorem Each_calls (a : Option Addr) (len cap : Nat) (w : World) : Calls Try.prog 13 #[.slice a len cap] w (EachCallPost a len cap w) := by
  go_enter Try.func13, Try.ntmps13
  go_wp2
  go_ret
  exact ⟨rfl, rfl⟩

def nat64 (n : Nat) : Value := .int .i64 n

def CutsPost (data : List UInt8) (w : World) (e : Ending) (w' : World) : Prop :=
  ∃ v, e = .returned v ∧ w'.ownsRow w.heap.size 3 1 v (lensOf data).length ((lensOf data).map nat64) ∧ Same w w'

/-- Between two rounds. -/
def CutsI (Bl : Nat) (data : List UInt8) (i : Nat) (S : Nat → Prop) (A : World) : Prop :=
  ∃ v, A.heap[Bl]? = some (.cells #[v] 27 (0, 0)) ∧ A.ownsRow 0 3 1 v i (((lensOf data).take i).map nat64) ∧ (∀ q, S q ↔ q = Bl ∨ v.ownBlock = some q) ∧ v.ownBlock ≠ some Bl

theorem cutsI_framed (Bl : Nat) (data : List UInt8) : Framed (CutsI Bl data) := by
  rintro i S A B ⟨v, hb, ho, hS, hne⟩ hlt hM
  exact ⟨v, hM.at hb (fun h => h ((hS Bl).2 (.inl rfl))), ownsRow_framed ho hM (fun g hg h => h ((hS g).2 (.inr hg))), hS, hne⟩

theorem cuts_round {Bl : Nat} {data : List UInt8} {i : Nat} {S : Nat → Prop} {A A3 : World} {v : Value} {o : Obj} {g' cap' : Nat} (hi : i < (lensOf data).length)
    (hb : A.heap[Bl]? = some (.cells #[v] 27 (0, 0))) (hS : ∀ q, S q ↔ q = Bl ∨ v.ownBlock = some q) (hne : v.ownBlock ≠ some Bl)
    (hown' : A3.ownsRow 0 3 1 (.slice (some ⟨g', 0, none⟩) (i + 1) cap') (i + 1) (((lensOf data).take i).map nat64 ++ [.int .i64 ((lensOf data).getD i 0 : Nat)]))
    (hgrow : (A.alloc o).grownBy A3 v.ownBlock) (hg : ∀ g, (Value.slice (some ⟨g', 0, none⟩) (i + 1) cap').ownBlock = some g → v.ownBlock = some g ∨ (A.alloc o).heap.size ≤ g) :
    ∃ S', CutsI Bl data (i + 1) S' (A3.setCell ⟨Bl, 0, none⟩ (.slice (some ⟨g', 0, none⟩) (i + 1) cap')) ∧ Own S S' A (A3.setCell ⟨Bl, 0, none⟩ (.slice (some ⟨g', 0, none⟩) (i + 1) cap')) := by
  have hBA := lt_of_heap hb
  have hb3 : A3.heap[Bl]? = some (.cells #[v] 27 (0, 0)) := (Mods.of_grown hgrow).at ((alloc_old hBA).trans hb) hne
  have hgg := hg g' rfl
  have hgne : g' ≠ Bl := by
    rintro rfl
    rcases hgg with h | h
    · exact hne h
    · simp at h; omega
  have hz := hgrow.size
  simp at hz
  refine ⟨fun q => q = Bl ∨ q = g', ⟨.slice (some ⟨g', 0, none⟩) (i + 1) cap', (set_same hb3 0 _).trans (by simp), ?_, fun q => ?_, ?_⟩, ?_, ?_⟩
  · have e : ((lensOf data).take (i + 1)).map nat64 = ((lensOf data).take i).map nat64 ++ [.int .i64 ((lensOf data).getD i 0 : Nat)] := by
      rw [List.take_succ_eq_append_getElem hi, List.map_append]
      simp only [List.map_cons, List.map_nil, nat64, List.getD_eq_getElem?_getD, List.getElem?_eq_getElem hi, Option.getD_some]
    rw [e]
    exact ownsRow_framed hown' ((Mods.refl (fun k => k = Bl) A3).set1 _) (fun g h => by simp [Value.ownBlock] at h; omega)
  · simp only [Value.ownBlock, Option.some.injEq]
    exact ⟨fun h => h.imp id Eq.symm, fun h => h.imp id Eq.symm⟩
  · simp only [Value.ownBlock]; intro h; exact hgne (Option.some.inj h)
  · exact (((Mods.refl S A).alloc o).grown hgrow (fun k hk => .inl ((hS k).2 (.inr hk)))).setIn ((hS Bl).2 (.inl rfl)) _
  · intro k hk
    rw [World.size_setCell]
    rcases hk with h | h
    · exact ⟨by omega, .inl ((hS k).2 (.inl h))⟩
    · subst h
      refine ⟨ownsRow_lt hown' _ rfl, ?_⟩
      rcases hgg with h | h
      · exact .inl ((hS k).2 (.inr h))
      · exact .inr (by simp at h; omega)

set_option maxHeartbeats 4000000 in
set_option maxRecDepth 100000 in
theorem Cuts_calls (d off cap : Nat) (a : Option Addr) (data : List UInt8) (w : World) (ha : 0 < data.length → a = some ⟨d, off, none⟩) (hcap : data.length ≤ cap) (hmax : data.length ≤ 1099511627776)
    (hd : HasBytes w d off data) (hdw : d ≠ w.heap.size ∧ d ≠ w.heap.size + 2 ∧ d ≠ w.heap.size + 3) :
    Calls Try.prog 9 #[.slice a data.length cap] w (CutsPost data w) := by
  refine (callsIn_wide (n := 3)).1 ?_
  refine callsIn_of_wp_marks Try.func9 rfl trivial ?_ rfl
  simp only [Try.ntmps9, List.size_toArray, List.length_cons, List.length_nil, Nat.reduceAdd, Nat.reduceSub, Array.replicate_succ, Array.replicate_zero, List.push_toArray, List.append_toArray, List.nil_append, List.cons_append]
  gi_wp2_with fail
  refine ⟨trivial, (callsIn_wide.2 (Each_calls _ _ _ _)).mono ?_⟩
  rintro e w1 ⟨rfl, rfl⟩
  gi_wp2_with fail
  have hs0 : Same w ((w.alloc (Obj.cells #[Value.slice none 0 0] 27)).alloc (Obj.cells #[Value.slice a data.length cap] 25)) := ((Mods.refl _ w).alloc _).alloc _
  have hb0 : ((w.alloc (Obj.cells #[Value.slice none 0 0] 27)).alloc (Obj.cells #[Value.slice a data.length cap] 25)).heap[w.heap.size]? = some (.cells #[.slice none 0 0] 27 (0, 0)) :=
    (alloc_old (by simp)).trans (alloc_new w _)
  have hb1 : ((w.alloc (Obj.cells #[Value.slice none 0 0] 27)).alloc (Obj.cells #[Value.slice a data.length cap] 25)).heap[w.heap.size + 1]? = some (.cells #[.slice a data.length cap] 25 (0, 0)) := by
    have := alloc_new (w.alloc (Obj.cells #[Value.slice none 0 0] 27)) (Obj.cells #[Value.slice a data.length cap] 25)
    rwa [World.size_alloc] at this
  have hz0 : ((w.alloc (Obj.cells #[Value.slice none 0 0] 27)).alloc (Obj.cells #[Value.slice a data.length cap] 25)).heap.size = w.heap.size + 2 := by simp
  generalize ((w.alloc (Obj.cells #[Value.slice none 0 0] 27)).alloc (Obj.cells #[Value.slice a data.length cap] 25)) = w1 at hs0 hb0 hb1 hz0 ⊢
  refine wpIn_each (n := 1) (w.heap.size + 1) d off cap a data rfl ha hcap (by omega) hb1 (hd.keep hs0 id) (by omega)
    (CutsI w.heap.size data) (fun _ _ _ _ => False) (fun q => q = w.heap.size) (by omega) (by omega) (by intro k hk; omega) ?start (cutsI_framed _ _) (by intro c i S A B h; exact h.elim)
    (fun i => { tmps := #[.slice a data.length cap, undef, .slice none 0 0, .pointer (some ⟨w.heap.size, 0, none⟩), chunkArg d off data i, .slice a data.length cap,
      .func (.func 16) #[] #[.pointer (some ⟨w.heap.size + 1, 0, none⟩)], chunkArg d off data i, undef, undef, undef, undef, undef, undef], defers := [] }) ?assign ?body ?done (by intro D i c S B _ _ h; exact h.elim)
  case start => exact ⟨_, hb0, by simpa using World.ownsRow_nil w1 0 3 1, fun q => by simp [Value.ownBlock], by simp [Value.ownBlock]⟩
  case assign =>
    intro l i W K hK
    gi_wp2
    exact hK
  case body =>
    rintro l i S A hi ⟨v, hb, ho, hS, hne⟩ hdA hlt hSd hle
    have hcb := cell_at hb 0 (v := v) (by simp)
    have hfb := free_at hb 0
    obtain ⟨i0, hi0, hz1, hz2, hz3⟩ := info_parts infoInt
    simp only [chunkArg]
    have hLb : i < data.length := Nat.lt_of_lt_of_le hi (lensOf_length_le data)
    have HO := Lib.hid (And.intro ho hne)
    have HR := Lib.hid (fun (A3 : World) (o : Obj) (g' cap' : Nat) => cuts_round (A3 := A3) (o := o) (g' := g') (cap' := cap') hi hb hS hne)
    have HC := Lib.hid (fun (A3 : World) (o : Obj) (hgrow : (A.alloc o).grownBy A3 v.ownBlock) => (Mods.of_grown hgrow).at ((alloc_old (lt_of_heap hb)).trans hb) hne)
    clear hS hb hdA hb0 hb1 hz0 hs0 ha ho hne
    generalize hL : (lensOf data).getD i 0 = L at HR ⊢
    clear hL
    gi_wp2_with (gi_at_builtin; refine wpListIn_append_fp _ rfl _ _ 27 rfl 3 i0 (.int .i64 0) 1 8 Try.underlying27 hi0 hz1 hz2 hz3 rfl (by decide) _ _ _ rfl (HO.out.1.alloc _) ⟨A.heap.size, 0, none⟩ 1 1 [.int .i64 L] rfl rfl (cell_one_new _ _ _) (by simp [Value.oneCell']) (by unfold maxLen; omega) (by omega) ?_; intro v' A3 hown' hgrow _ hgb; obtain ⟨g', cap', rfl⟩ := ownsRow_succ hown'; have hc3 := cell_at (HC.out A3 _ hgrow) 0 (v := v) (by simp); have hf3 := free_at (HC.out A3 _ hgrow) 0)
    exact HR.out A3 _ g' cap' hown' hgrow hgb
  case done =>
    rintro D S B hD ⟨v, hb, ho, hS, hne⟩ hO hSD hK
    have hcb := cell_at hb 0 (v := v) (by simp)
    have HO := Lib.hid (And.intro ho (And.intro hS (And.intro hO (And.intro hSD hs0))))
    clear ho hS hO hSD hs0 ha hb0 hb1
    gi_wp2
    refine ⟨by simp, .inl ⟨_, _, rfl, run_takeDeferred hK, ?_⟩⟩
    obtain ⟨ho, hS, hO, hSD, hs0⟩ := HO.out
    refine ⟨_, results_tmp rfl _ _ _, v, rfl, ?_, ?_⟩
    · rw [List.take_length] at ho
      refine ownsRow_base (ownsRow_framed ho ((Mods.refl (fun k => k = D) B).putObj (.inl rfl) _) (fun g hg h => hSD (h ▸ (hS g).2 (.inr hg)))) (fun g hg => ?_)
      rcases (hO.2 g ((hS g).2 (.inr hg))).2 with h | h
      · omega
      · have := hs0.size; omega
    · exact (hs0.trans' hO.1 (fun q hq => .inr (by omega))).putObj (.inr (by have := hs0.size; omega)) _

/-- The same, of a slice that reads as a list. -/
theorem Cuts_at (cap : Nat) (a : Option Addr) (data : List UInt8) (w : World) (h : CellsAt w a (data.map enc8)) (hcap : data.length ≤ cap) (hmax : data.length ≤ 1099511627776) :
    Calls Try.prog 9 #[.slice a data.length cap] w (CutsPost data w) := by
  by_cases hd : data = []
  · subst hd
    exact Cuts_calls (w.heap.size + 1) 0 cap a [] w (fun h => by simp at h) hcap hmax (fun j hj => by simp at hj) (by omega)
  · have hp : 0 < data.length := List.length_pos_iff.2 hd
    obtain ⟨g, off, rfl, hc⟩ := h (by simpa using hp)
    have hB : HasBytes w g off data := fun j hj => by rw [hc j (by simpa using hj)]; simp [enc8]
    have hlt : g < w.heap.size := World.block_lt_of_cell? w _ (hB 0 hp)
    exact Cuts_calls g off cap _ data w (fun _ => rfl) hcap hmax hB (by omega)

end Go.Proofs.Ytdhobpbngkainaa
