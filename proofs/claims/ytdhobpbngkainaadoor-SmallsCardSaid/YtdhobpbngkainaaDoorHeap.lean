/-
  Ours. A heap described block by block: lists of (block, what its object is like), no block twice; what a step turns of it. No condition; plain lemmas.
-/
import Derived.Test.YtdhobpbngkainaaDoorAppend
namespace Go.Proofs.YtdhobpbngkainaaDoor
open Go.RowKit

theorem enc8_one (l : List UInt8) : ∀ v ∈ l.map enc8, v.oneCell' = true := fun v hv => by
  obtain ⟨x, _, rfl⟩ := List.mem_map.1 hv; rfl

abbrev HF := List (Nat × (Obj → Prop))
def dom (F : HF) : List Nat := F.map (·.1)
@[simp] theorem dom_nil : dom [] = [] := rfl
@[simp] theorem dom_cons (p : Nat × (Obj → Prop)) (F : HF) : dom (p :: F) = p.1 :: dom F := rfl
@[simp] theorem dom_append (F G : HF) : dom (F ++ G) = dom F ++ dom G := by simp [dom]

/-- This very object. -/
def Is (x o : Obj) : Prop := o = x
theorem Is.rfl {x : Obj} : Is x x := by unfold Is; exact Eq.refl x
/-- The heap has these blocks, and they are like this. -/
structure Sat (w : World) (F : HF) : Prop where
  nodup : (dom F).Nodup
  sat : ∀ p ∈ F, ∃ o, w.heap[p.1]? = some o ∧ p.2 o

/-- A step that turns nothing but the blocks of F, behind which F' is there. -/
structure Turns (F F' : HF) (w w' : World) : Prop where
  mods : Mods (fun b => b ∈ dom F) w w'
  sat : Sat w' F'
  fresh : ∀ b ∈ dom F', b ∈ dom F ∨ w.heap.size ≤ b

theorem dom_perm {F G : HF} (h : F.Perm G) : (dom F).Perm (dom G) := h.map _
theorem Sat.lt {w : World} {F : HF} (h : Sat w F) {b : Nat} (hb : b ∈ dom F) : b < w.heap.size := by
  obtain ⟨p, hp, rfl⟩ := List.mem_map.1 hb
  obtain ⟨o, ho, _⟩ := h.sat p hp
  exact lt_of_heap ho
theorem Sat.perm {w : World} {F G : HF} (h : Sat w F) (hp : F.Perm G) : Sat w G :=
  ⟨(dom_perm hp).nodup_iff.1 h.nodup, fun p hq => h.sat p (hp.mem_iff.2 hq)⟩
theorem Sat.left {w : World} {F G : HF} (h : Sat w (F ++ G)) : Sat w F :=
  ⟨by have := h.nodup; rw [dom_append] at this; exact (List.nodup_append.1 this).1, fun p hp => h.sat p (List.mem_append_left _ hp)⟩
theorem Sat.right {w : World} {F G : HF} (h : Sat w (F ++ G)) : Sat w G :=
  ⟨by have := h.nodup; rw [dom_append] at this; exact (List.nodup_append.1 this).2.1, fun p hp => h.sat p (List.mem_append_right _ hp)⟩
theorem Sat.disj {w : World} {F G : HF} (h : Sat w (F ++ G)) {b : Nat} (hb : b ∈ dom F) : b ∉ dom G := by
  have := h.nodup; rw [dom_append] at this
  intro hg
  exact (List.nodup_append.1 this).2.2 b hb b hg rfl
theorem Sat.join {w : World} {F G : HF} (h : Sat w F) (k : Sat w G) (hd : ∀ b ∈ dom F, b ∉ dom G) : Sat w (F ++ G) :=
  ⟨by rw [dom_append]; exact List.nodup_append.2 ⟨h.nodup, k.nodup, fun a ha b hb e => hd a ha (e ▸ hb)⟩,
   fun p hp => by rcases List.mem_append.1 hp with h' | h'; exact h.sat p h'; exact k.sat p h'⟩
theorem Sat.nil (w : World) : Sat w [] := ⟨List.nodup_nil, fun p hp => by simp at hp⟩
theorem Sat.one {w : World} {b : Nat} {φ : Obj → Prop} {o : Obj} (h : w.heap[b]? = some o) (ho : φ o) : Sat w [(b, φ)] :=
  ⟨by simp [dom], fun p hp => by simp at hp; subst hp; exact ⟨o, h, ho⟩⟩
theorem Sat.frame {S : Nat → Prop} {w w' : World} {F : HF} (h : Sat w F) (hm : Mods S w w') (hS : ∀ b ∈ dom F, ¬ S b) : Sat w' F :=
  ⟨h.nodup, fun p hp => by
    obtain ⟨o, ho, hφ⟩ := h.sat p hp
    exact ⟨o, hm.at ho (hS p.1 (List.mem_map.2 ⟨p, hp, rfl⟩)), hφ⟩⟩
theorem Sat.same {w w' : World} {F : HF} (h : Sat w F) (hm : Same w w') : Sat w' F := h.frame hm (fun _ _ => id)
theorem Sat.weak {w : World} {b : Nat} {φ ψ : Obj → Prop} {F : HF} (h : Sat w ((b, φ) :: F)) (hw : ∀ o, φ o → ψ o) : Sat w ((b, ψ) :: F) :=
  ⟨h.nodup, fun p hp => by
    rcases List.mem_cons.1 hp with rfl | hp
    · obtain ⟨o, ho, hφ⟩ := h.sat (b, φ) (by simp)
      exact ⟨o, ho, hw o hφ⟩
    · exact h.sat p (List.mem_cons_of_mem _ hp)⟩
theorem Sat.head {w : World} {b : Nat} {φ : Obj → Prop} {F : HF} (h : Sat w ((b, φ) :: F)) : ∃ o, w.heap[b]? = some o ∧ φ o := h.sat (b, φ) (by simp)
theorem Sat.tail {w : World} {p : Nat × (Obj → Prop)} {F : HF} (h : Sat w (p :: F)) : Sat w F := Sat.right (F := [p]) h
theorem Sat.notMem {w : World} {b : Nat} {φ : Obj → Prop} {F : HF} (h : Sat w ((b, φ) :: F)) : b ∉ dom F := (List.nodup_cons.1 h.nodup).1
/-- The head's block is another object now, all the rest is as it was. -/
theorem Sat.put {w w' : World} {b : Nat} {φ ψ : Obj → Prop} {F : HF} {o : Obj} (h : Sat w ((b, φ) :: F)) (hm : Mods (fun k => k = b) w w') (ho : w'.heap[b]? = some o) (hψ : ψ o) : Sat w' ((b, ψ) :: F) :=
  Sat.join (F := [(b, ψ)]) (Sat.one ho hψ) (h.tail.frame hm (fun k hk e => h.notMem (e ▸ hk))) (fun k hk => by simp at hk; subst hk; exact h.notMem)

theorem Turns.refl {w : World} {F : HF} (h : Sat w F) : Turns F F w w := ⟨Mods.refl _ _, h, fun _ hb => .inl hb⟩
theorem Turns.trans {a b c : World} {F G H : HF} (h : Turns F G a b) (k : Turns G H b c) : Turns F H a c :=
  ⟨h.mods.trans' k.mods h.fresh, k.sat, fun q hq => by
    rcases k.fresh q hq with h' | h'
    · exact h.fresh q h'
    · exact .inr (Nat.le_trans h.mods.size h')⟩
theorem Turns.frame {w w' : World} {F F' : HF} (h : Turns F F' w w') {R : HF} (hs : Sat w (F ++ R)) : Turns (F ++ R) (F' ++ R) w w' :=
  ⟨h.mods.mono (fun b hb => .inl (by simp [hb])), h.sat.join (hs.right.frame h.mods (fun b hb hf => hs.disj hf hb)) (fun b hb hr => by
      rcases h.fresh b hb with h' | h'
      · exact hs.disj h' hr
      · have := hs.right.lt hr; omega),
   fun b hb => by
    rw [dom_append] at hb ⊢
    rcases List.mem_append.1 hb with h' | h'
    · rcases h.fresh b h' with h'' | h''
      · exact .inl (List.mem_append_left _ h'')
      · exact .inr h''
    · exact .inl (List.mem_append_right _ h')⟩
theorem Turns.perm {w w' : World} {F F' G G' : HF} (h : Turns F F' w w') (hp : F.Perm G) (hp' : F'.Perm G') : Turns G G' w w' :=
  ⟨h.mods.mono (fun b hb => .inl ((dom_perm hp).mem_iff.1 hb)), h.sat.perm hp', fun b hb => by
    rcases h.fresh b ((dom_perm hp').mem_iff.2 hb) with h' | h'
    · exact .inl ((dom_perm hp).mem_iff.1 h')
    · exact .inr h'⟩
/-- What is needed no more. -/
theorem Turns.left {w w' : World} {F G H : HF} (h : Turns F (G ++ H) w w') : Turns F G w w' := ⟨h.mods, h.sat.left, fun b hb => h.fresh b (by simp [hb])⟩
theorem Turns.right {w w' : World} {F G H : HF} (h : Turns F (G ++ H) w w') : Turns F H w w' := ⟨h.mods, h.sat.right, fun b hb => h.fresh b (by simp [hb])⟩
theorem Turns.same {w w' : World} {F : HF} (hs : Sat w F) (h : Same w w') : Turns F F w w' := ⟨h.mods _, hs.same h, fun _ hb => .inl hb⟩
/-- A step that is nothing but new memory, ahead or behind. -/
theorem Turns.thenSame {a b c : World} {F G : HF} (h : Turns F G a b) (k : Same b c) : Turns F G a c := h.trans (Turns.same h.sat k)
theorem Turns.sameThen {a b c : World} {F G : HF} (hs : Sat a F) (h : Same a b) (k : Turns F G b c) : Turns F G a c := (Turns.same hs h).trans k
theorem Turns.drewN {a b : World} {F G : HF} (h : Turns F G a b) (n : Nat) : Turns F G a (b.drewN n) := h.thenSame ((Mods.refl _ b).drewN n)
theorem Turns.drew {a b : World} {F G : HF} (h : Turns F G a b) : Turns F G a b.drew := h.thenSame (Mods.refl _ b).drew
theorem Turns.alloc {a b : World} {F G : HF} (h : Turns F G a b) (o : Obj) : Turns F G a (b.alloc o) := h.thenSame ((Mods.refl _ b).alloc o)
/-- A new block joins. -/
theorem Turns.allocIn {a b : World} {F G : HF} (h : Turns F G a b) {o : Obj} {φ : Obj → Prop} (ho : φ o) : Turns F ((b.heap.size, φ) :: G) a (b.alloc o) :=
  ⟨h.mods.alloc o, Sat.join (F := [(b.heap.size, φ)]) (Sat.one (alloc_new b o) ho) (h.sat.same ((Mods.refl _ b).alloc o)) (fun k hk hg => by
      simp at hk; subst hk; have := h.sat.lt hg; omega),
   fun k hk => by
    rcases List.mem_cons.1 hk with rfl | h'
    · exact .inr h.mods.size
    · exact h.fresh k h'⟩
/-- The head's block is turned. -/
theorem Turns.put {a w w' : World} {F G : HF} {b : Nat} {φ ψ : Obj → Prop} {o : Obj} (h : Turns F ((b, φ) :: G) a w) (hm : Mods (fun k => k = b) w w') (ho : w'.heap[b]? = some o) (hψ : ψ o) : Turns F ((b, ψ) :: G) a w' :=
  h.trans ⟨hm.mono (fun k hk => .inl (by simp [hk])), h.sat.put hm ho hψ, fun k hk => .inl (by simpa using hk)⟩

theorem Turns.putIs {a w w' : World} {F G : HF} {b : Nat} {φ : Obj → Prop} {o : Obj} (h : Turns F ((b, φ) :: G) a w) (hm : Mods (fun k => k = b) w w') (ho : w'.heap[b]? = some o) : Turns F ((b, Is o) :: G) a w' := h.put hm ho Is.rfl
theorem Turns.allocIs {a b : World} {F G : HF} (h : Turns F G a b) (o : Obj) : Turns F ((b.heap.size, Is o) :: G) a (b.alloc o) := h.allocIn Is.rfl
theorem Sat.headIs {w : World} {b : Nat} {o : Obj} {F : HF} (h : Sat w ((b, Is o) :: F)) : w.heap[b]? = some o := by
  obtain ⟨o', ho, hi⟩ := h.head; unfold Is at hi; subst hi; exact ho

/-! ### a slice of one's own -/
def rowF (e size : Nat) (v : Value) (n : Nat) (xs : List Value) : HF :=
  match v.ownBlock with
  | none => []
  | some g => [(g, fun o => ∃ cap cur, v = .slice (some ⟨g, 0, none⟩) n cap ∧ o = .cells cur e (0, 0) ∧ n ≤ cap ∧ cap ≤ maxLen ∧ cur.size = cap * size ∧ cur.toList.take (n * size) = xs)]
def RowOk (size : Nat) (v : Value) (n : Nat) (xs : List Value) : Prop := xs.length = n * size ∧ (v.ownBlock = none → v = .slice none 0 0 ∧ n = 0)

theorem owns_of_row {w : World} {e size n : Nat} {v : Value} {xs : List Value} (h : Sat w (rowF e size v n xs)) (k : RowOk size v n xs) : w.ownsRow 0 e size v n xs := by
  refine ⟨k.1, ?_⟩
  unfold rowF at h
  cases hv : v.ownBlock with
  | none => exact .inl (k.2 hv)
  | some g =>
    rw [hv] at h
    obtain ⟨o, ho, cap, cur, hvv, rfl, h1, h2, h3, h4⟩ := h.head
    exact .inr ⟨g, cap, cur, hvv, Nat.zero_le _, ho, h1, h2, h3, h4⟩
theorem row_of_owns {w : World} {b e size n : Nat} {v : Value} {xs : List Value} (h : w.ownsRow b e size v n xs) : Sat w (rowF e size v n xs) ∧ RowOk size v n xs := by
  rcases h.2 with ⟨rfl, rfl⟩ | ⟨g, cap, cur, rfl, hb, hg, h1, h2, h3, h4⟩
  · exact ⟨by simpa [rowF, Value.ownBlock] using Sat.nil w, h.1, fun _ => ⟨rfl, rfl⟩⟩
  · refine ⟨?_, h.1, fun hn => by simp [Value.ownBlock] at hn⟩
    simp only [rowF, Value.ownBlock]
    exact Sat.one hg ⟨cap, cur, rfl, rfl, h1, h2, h3, h4⟩
theorem dom_row (e size n : Nat) (v : Value) (xs : List Value) (b : Nat) : b ∈ dom (rowF e size v n xs) ↔ v.ownBlock = some b := by
  unfold rowF
  cases v.ownBlock with
  | none => simp
  | some g => simp [dom, eq_comm]
/-- Behind an append: the new row in the old one's place. -/
theorem Turns.grow {a w w' : World} {F G : HF} {e size n m : Nat} {v v' : Value} {xs ys : List Value} (h : Turns F (rowF e size v n xs ++ G) a w) (hown : w'.ownsRow 0 e size v' m ys) (hgrow : w.grownBy w' v.ownBlock)
    (hg : ∀ g, v'.ownBlock = some g → v.ownBlock = some g ∨ w.heap.size ≤ g) : Turns F (rowF e size v' m ys ++ G) a w' := by
  have ht : Turns (rowF e size v n xs) (rowF e size v' m ys) w w' :=
    ⟨(Mods.of_grown hgrow).mono (fun b hb => .inl ((dom_row _ _ _ _ _ _).2 hb)), (row_of_owns hown).1, fun b hb => by
      rcases hg b ((dom_row _ _ _ _ _ _).1 hb) with h' | h'
      · exact .inl ((dom_row _ _ _ _ _ _).2 h')
      · exact .inr h'⟩
  exact h.trans (ht.frame h.sat)

end Go.Proofs.YtdhobpbngkainaaDoor
