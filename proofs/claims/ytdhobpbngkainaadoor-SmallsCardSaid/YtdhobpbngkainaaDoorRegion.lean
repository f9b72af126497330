/-
  Ours. A region that draws its order, operation by operation: each one is shown once, whatever stood ahead of it. No condition; plain lemmas.
-/
import Derived.Test.YtdhobpbngkainaaDoorHeap
import Derived.Orders
namespace Go.Proofs.YtdhobpbngkainaaDoor

theorem Sat.memIs {w : World} {F : HF} (h : Sat w F) {b : Nat} {o : Obj} (hm : (b, Is o) ∈ F) : w.heap[b]? = some o := by
  obtain ⟨o', ho, hi⟩ := h.sat _ hm
  have hi : o' = o := hi
  subst hi; exact ho
/-! ### two lists of blocks with the same members -/
open Classical in
noncomputable def cnt (a : Nat × (Obj → Prop)) (F : HF) : Nat := F.countP (fun b => decide (b = a))
open Classical in
noncomputable def cnt1 (a b : Nat × (Obj → Prop)) : Nat := if b = a then 1 else 0
theorem cnt_nil (a : Nat × (Obj → Prop)) : cnt a [] = 0 := rfl
theorem cnt_cons (a b : Nat × (Obj → Prop)) (F : HF) : cnt a (b :: F) = cnt1 a b + cnt a F := by
  unfold cnt cnt1
  rw [List.countP_cons]
  by_cases h : b = a <;> simp [h, Nat.add_comm]
theorem cnt_append (a : Nat × (Obj → Prop)) (F G : HF) : cnt a (F ++ G) = cnt a F + cnt a G := List.countP_append
open Classical in
theorem perm_of_cnt {F G : HF} (h : ∀ a, cnt a F = cnt a G) : F.Perm G := by
  rw [List.perm_iff_count]
  intro a
  have := h a
  unfold cnt at this
  have e : (fun b : Nat × (Obj → Prop) => decide (b = a)) = (fun b => b == a) := by
    funext b
    by_cases hb : b = a
    · subst hb; simp
    · simp [hb]
  rw [e] at this
  exact this
theorem sub_of_cnt {G : HF} : ∀ {F : HF}, (∀ a, cnt a G ≤ cnt a F) → ∃ R, F.Perm (G ++ R) := by
  induction G with
  | nil => intro F _; exact ⟨F, List.Perm.refl _⟩
  | cons g G ih =>
    intro F h
    have hg : g ∈ F := by
      have := h g
      rw [cnt_cons] at this
      have h1 : cnt1 g g = 1 := by unfold cnt1; simp
      have h2 : 0 < cnt g F := by omega
      unfold cnt at h2
      rw [List.countP_pos_iff] at h2
      obtain ⟨b, hb, he⟩ := h2
      have he : b = g := by simpa using he
      exact he ▸ hb
    obtain ⟨s, t, rfl⟩ := List.append_of_mem hg
    obtain ⟨R, hR⟩ := ih (F := s ++ t) (fun a => by have := h a; simp only [cnt_cons, cnt_append] at this ⊢; omega)
    exact ⟨R, List.perm_middle.trans (hR.cons g)⟩
theorem Sat.sub {w : World} {F G : HF} (h : Sat w F) (hp : ∀ a, cnt a G ≤ cnt a F) : Sat w G := by
  obtain ⟨R, hR⟩ := sub_of_cnt hp
  exact (h.perm hR).left
/-- A step on a part of the blocks. -/
theorem Turns.step {a b c : World} {F0 G F F' R : HF} (h : Turns F0 G a b) (hp : G.Perm (F ++ R)) (k : Turns F F' b c) : Turns F0 (F' ++ R) a c :=
  (h.perm (List.Perm.refl _) hp).trans (k.frame (h.sat.perm hp))
theorem Turns.to {a b : World} {F G H : HF} (h : Turns F G a b) (hp : G.Perm H) : Turns F H a b := h.perm (List.Perm.refl _) hp
/-- What is needed no more goes. -/
theorem Turns.drop {a b : World} {F G H : HF} (h : Turns F G a b) (hp : ∀ x, cnt x H ≤ cnt x G) : Turns F H a b := by
  obtain ⟨R, hR⟩ := sub_of_cnt hp
  exact (h.to hR).left
/-- What is new joins. -/
theorem Turns.newIn {a b c : World} {F G H : HF} (h : Turns F G a b) (k : Turns [] H b c) : Turns F (H ++ G) a c := by
  have := k.frame (R := G) (by simpa using h.sat)
  simp only [List.nil_append] at this
  exact h.trans this
/-- The frame in which the slots of the operations hold x. -/
def fillFrom (x : Nat → Value) : Nat → List Oper → Act → Act
  | _, [], a => a
  | k, o :: r, a => fillFrom x (k + 1) r (a.put o.dst (x k))
/-- What is known of the operations that an operation waits for. -/
def depsOk (φ : Nat → Value → Prop) (x : Nat → Value) (s : Nat → Option Value) (noisy : List Nat) : List Edge → Prop
  | [] => True
  | e :: r => (if Region.binds .any e then φ e.on (x e.on) ∧ (if noisy.contains e.on then s e.on = some (x e.on) else True) else True) ∧ depsOk φ x s noisy r
def updO (s : Nat → Option Value) (i : Nat) (v : Value) : Nat → Option Value := fun k => if k = i then some v else s k
def stepGoal (P : Program) (Q : Exit → Act → World → Prop) (ops : Array Oper) (a0 : Act) (φ : Nat → Value → Prop) (J : (Nat → Option Value) → World → Prop) (noisy : List Nat) (i : Nat) (o : Oper) : Prop :=
  ∀ (x : Nat → Value) (s : Nat → Option Value) (w : World), depsOk φ x s noisy o.after.toList → (∀ k v, s k = some v → x k = v) → s i = none → J s w →
    if Region.wanted o (yielded ops (fillFrom x 0 ops.toList a0).tmps) then
      ∀ K : Act → World → Prop, (∀ v w', φ i v → J (if noisy.contains i then updO s i v else s) w' → K ((fillFrom x 0 ops.toList a0).put o.dst v) w') → o.wp P (fillFrom x 0 ops.toList a0) w K Q
    else φ i undef ∧ J (if noisy.contains i then updO s i undef else s) w
def stepsGoal (P : Program) (Q : Exit → Act → World → Prop) (ops : Array Oper) (a0 : Act) (φ : Nat → Value → Prop) (J : (Nat → Option Value) → World → Prop) (noisy : List Nat) : Nat → List Oper → Prop
  | _, [] => True
  | i, o :: r => stepGoal P Q ops a0 φ J noisy i o ∧ stepsGoal P Q ops a0 φ J noisy (i + 1) r
def allPhi (φ : Nat → Value → Prop) (x : Nat → Value) : Nat → Nat → Prop
  | _, 0 => True
  | i, n + 1 => φ i (x i) ∧ allPhi φ x (i + 1) n
def noisyS (noisy : List Nat) (x : Nat → Value) : Nat → Option Value := fun k => if noisy.contains k then some (x k) else none

/-- Each operation waits for earlier ones alone; no slot is written twice. -/
def eachOk (n : Nat) : Nat → List Oper → List Nat → Bool
  | _, [], _ => true
  | i, o :: r, ds => (o.after.toList.all fun e => !Region.binds .any e || decide (e.on < i)) &&
      (match o.dst with | some d => decide (d < n) && !ds.contains d && eachOk n (i + 1) r (d :: ds) | none => eachOk n (i + 1) r ds)

theorem put_size (a : Act) (d : Option Tmp) (v : Value) : (a.put d v).tmps.size = a.tmps.size := by
  cases d <;> simp [Act.put]
theorem put_put (a : Act) (d : Option Tmp) (v u : Value) : (a.put d v).put d u = a.put d u := by
  cases d <;> simp [Act.put]
theorem fillFrom_congr {x y : Nat → Value} : ∀ (l : List Oper) (k : Nat) (a : Act), (∀ j, k ≤ j → j < k + l.length → x j = y j) → fillFrom x k l a = fillFrom y k l a := by
  intro l
  induction l with
  | nil => intro k a _; rfl
  | cons o r ih =>
    intro k a h
    simp only [fillFrom]
    rw [h k (Nat.le_refl _) (by simp)]
    exact ih (k + 1) _ (fun j hj hj2 => h j (by omega) (by simp at hj2 ⊢; omega))
def Dsts (l : List Oper) : List Tmp := l.filterMap (·.dst)
theorem fillFrom_put {x : Nat → Value} : ∀ (l : List Oper) (k : Nat) (a : Act) (d : Option Tmp) (v : Value), (∀ t, d = some t → t ∉ Dsts l) → (fillFrom x k l a).put d v = fillFrom x k l (a.put d v) := by
  intro l
  induction l with
  | nil => intro k a d v _; rfl
  | cons o r ih =>
    intro k a d v h
    simp only [fillFrom]
    rw [ih (k + 1) _ d v (fun t ht hm => h t ht (by simp only [Dsts, List.filterMap_cons]; cases o.dst <;> simp_all [Dsts]))]
    rw [Act.put_comm a (x := o.dst) (y := d)]
    intro t ht hd
    refine h t hd ?_
    simp [Dsts, List.filterMap_cons, ht]
theorem eachOk_nodup {n : Nat} : ∀ (l : List Oper) (i : Nat) (ds : List Nat), eachOk n i l ds = true → (Dsts l).Nodup ∧ (∀ d ∈ Dsts l, d ∉ ds ∧ d < n) := by
  intro l
  induction l with
  | nil => intro i ds _; exact ⟨List.nodup_nil, fun d h => by simp [Dsts] at h⟩
  | cons o r ih =>
    intro i ds h
    simp only [eachOk, Bool.and_eq_true] at h
    obtain ⟨_, h⟩ := h
    cases hd : o.dst with
    | none =>
      rw [hd] at h
      have := ih _ _ h
      simpa [Dsts, List.filterMap_cons, hd] using this
    | some d =>
      rw [hd] at h
      simp only [Bool.and_eq_true, Bool.not_eq_true', decide_eq_true_eq] at h
      obtain ⟨⟨h1, h2⟩, h3⟩ := h
      have := ih _ _ h3
      have e : Dsts (o :: r) = d :: Dsts r := by simp [Dsts, List.filterMap_cons, hd]
      rw [e]
      refine ⟨List.nodup_cons.2 ⟨fun hm => (this.2 d hm).1 (by simp), this.1⟩, fun t ht => ?_⟩
      rcases List.mem_cons.1 ht with rfl | ht
      · exact ⟨fun hc => by simp [hc] at h2, h1⟩
      · exact ⟨fun hc => (this.2 t ht).1 (by simp [hc]), (this.2 t ht).2⟩
theorem eachOk_after {n : Nat} : ∀ (l : List Oper) (i : Nat) (ds : List Nat), eachOk n i l ds = true → ∀ (j : Nat) (o : Oper), l[j]? = some o → ∀ e ∈ o.after.toList, Region.binds .any e = true → e.on < i + j := by
  intro l
  induction l with
  | nil => intro i ds _ j o h; simp at h
  | cons o r ih =>
    intro i ds h j o' hj e he hb
    simp only [eachOk, Bool.and_eq_true, List.all_eq_true] at h
    obtain ⟨h1, h⟩ := h
    cases j with
    | zero =>
      simp only [List.getElem?_cons_zero, Option.some.injEq] at hj
      subst hj
      have := h1 e he
      simp [hb] at this
      omega
    | succ j =>
      simp only [List.getElem?_cons_succ] at hj
      have : e.on < i + 1 + j := by
        cases hd : o.dst with
        | none => rw [hd] at h; exact ih _ _ h j o' hj e he hb
        | some d =>
          rw [hd] at h
          simp only [Bool.and_eq_true] at h
          exact ih _ _ h.2 j o' hj e he hb
      omega
theorem fill_upd {x : Nat → Value} (i : Nat) (v : Value) : ∀ (l : List Oper) (k : Nat) (a : Act) (o : Oper), (Dsts l).Nodup → k ≤ i → l[i - k]? = some o →
    (fillFrom x k l a).put o.dst v = fillFrom (fun j => if j = i then v else x j) k l a := by
  intro l
  induction l with
  | nil => intro k a o _ _ h; simp at h
  | cons o' r ih =>
    intro k a o hn hk h
    simp only [fillFrom]
    rcases Nat.eq_or_lt_of_le hk with rfl | hlt
    · rw [Nat.sub_self] at h
      simp only [List.getElem?_cons_zero, Option.some.injEq] at h
      subst h
      rw [if_pos rfl, fillFrom_put _ _ _ _ _ (fun t ht hm => ?_), put_put]
      · exact fillFrom_congr _ _ _ (fun j hj _ => by rw [if_neg (by omega)])
      · have : Dsts (o' :: r) = t :: Dsts r := by simp [Dsts, List.filterMap_cons, ht]
        rw [this] at hn
        exact (List.nodup_cons.1 hn).1 hm
    · rw [if_neg (by omega)]
      have hn' : (Dsts r).Nodup := by
        cases hd : o'.dst with
        | none => simpa [Dsts, List.filterMap_cons, hd] using hn
        | some d => have e : Dsts (o' :: r) = d :: Dsts r := by simp [Dsts, List.filterMap_cons, hd]
                    rw [e] at hn; exact (List.nodup_cons.1 hn).2
      exact ih (k + 1) _ o hn' (by omega) (by rw [show i - k = (i - (k + 1)) + 1 by omega] at h; simpa using h)
theorem stepsGoal_at {P : Program} {Q : Exit → Act → World → Prop} {ops : Array Oper} {a0 : Act} {φ : Nat → Value → Prop} {J : (Nat → Option Value) → World → Prop} {noisy : List Nat} :
    ∀ (l : List Oper) (i : Nat), stepsGoal P Q ops a0 φ J noisy i l → ∀ (j : Nat) (o : Oper), l[j]? = some o → stepGoal P Q ops a0 φ J noisy (i + j) o := by
  intro l
  induction l with
  | nil => intro i _ j o h; simp at h
  | cons o' r ih =>
    intro i h j o hj
    cases j with
    | zero => simp only [List.getElem?_cons_zero, Option.some.injEq] at hj; subst hj; exact h.1
    | succ j => have := ih _ h.2 j o (by simpa using hj); rwa [Nat.add_right_comm, Nat.add_assoc] at this
theorem allPhi_of {φ : Nat → Value → Prop} {x : Nat → Value} : ∀ (n i : Nat), (∀ k, i ≤ k → k < i + n → φ k (x k)) → allPhi φ x i n := by
  intro n
  induction n with
  | zero => intro i _; trivial
  | succ n ih => intro i h; exact ⟨h i (Nat.le_refl _) (by omega), ih (i + 1) (fun k h1 h2 => h k (by omega) (by omega))⟩
theorem depsOk_of {φ : Nat → Value → Prop} {x : Nat → Value} {s : Nat → Option Value} {noisy : List Nat} : ∀ (l : List Edge), (∀ e ∈ l, Region.binds .any e = true → φ e.on (x e.on) ∧ (noisy.contains e.on = true → s e.on = some (x e.on))) → depsOk φ x s noisy l := by
  intro l
  induction l with
  | nil => intro _; trivial
  | cons e r ih =>
    intro h
    refine ⟨?_, ih (fun e' he => h e' (List.mem_cons_of_mem _ he))⟩
    split
    · rename_i hb
      obtain ⟨h1, h2⟩ := h e (by simp) hb
      refine ⟨h1, ?_⟩
      split
      · rename_i hc; exact h2 hc
      · trivial
    · trivial
theorem ready_mem {ops : Array Oper} {listed : Array Bool} {i : Nat} (h : i ∈ Region.ready .any ops listed) :
    i < ops.size ∧ listed.getD i true = false ∧ ∃ o, ops[i]? = some o ∧ ∀ e ∈ o.after.toList, Region.binds .any e = true → listed.getD e.on false = true := by
  unfold Region.ready at h
  rw [List.mem_filter] at h
  obtain ⟨h1, h2⟩ := h
  have hi : i < ops.size := by simpa using h1
  simp only [Bool.and_eq_true, Bool.not_eq_true'] at h2
  obtain ⟨h2, h3⟩ := h2
  refine ⟨hi, h2, ops[i], Array.getElem?_eq_getElem hi, fun e he hb => ?_⟩
  rw [Array.getElem?_eq_getElem hi] at h3
  simp only [Option.map_some, Option.getD_some, Array.all_eq_true_iff_forall_mem] at h3
  have := h3 e (by simpa using he)
  simpa [hb] using this
theorem ready_ne {ops : Array Oper} {listed : Array Bool} {n : Nat} (hok : eachOk n 0 ops.toList [] = true) (hs : listed.size = ops.size) {i : Nat} (hi : i < ops.size) (hl : listed.getD i true = false) : Region.ready .any ops listed ≠ [] := by
  -- the least one that is not listed is ready
  induction i using Nat.strongRecOn with
  | _ i ih =>
    by_cases hd : ∀ e ∈ (ops[i]).after.toList, Region.binds .any e = true → listed.getD e.on false = true
    · intro hnil
      have hm : i ∈ Region.ready .any ops listed := by
        unfold Region.ready
        rw [List.mem_filter]
        refine ⟨by simpa using hi, ?_⟩
        rw [Array.getElem?_eq_getElem hi]
        simp only [Bool.and_eq_true, Bool.not_eq_true', Option.map_some, Option.getD_some, Array.all_eq_true_iff_forall_mem]
        refine ⟨hl, fun e he => ?_⟩
        by_cases hb : Region.binds .any e = true
        · simp [hb, hd e (by simpa using he) hb]
        · simp [hb]
      rw [hnil] at hm
      simp at hm
    · have : ∃ e, e ∈ (ops[i]).after.toList ∧ Region.binds .any e = true ∧ ¬ listed.getD e.on false = true := by
        apply Classical.byContradiction
        intro hn
        exact hd (fun e he hb => Classical.byContradiction fun hc => hn ⟨e, he, hb, hc⟩)
      obtain ⟨e, he, hb, hc⟩ := this
      have hlt := eachOk_after ops.toList 0 [] hok i ops[i] (by simp [hi]) e he hb
      have hlt' : e.on < i := by omega
      refine ih e.on hlt' (by omega) ?_
      have hsz : e.on < listed.size := by omega
      simp only [Array.getD_eq_getD_getElem?, Array.getElem?_eq_getElem hsz, Option.getD_some] at hc ⊢
      simpa using hc
/-- How many are not listed yet. -/
def unlisted (listed : Array Bool) : Nat := listed.toList.countP (· == false)
theorem unlisted_set {listed : Array Bool} {i : Nat} (h : listed.getD i true = false) : unlisted (listed.setIfInBounds i true) + 1 = unlisted listed := by
  have hi : i < listed.size := by
    rcases Nat.lt_or_ge i listed.size with h' | h'
    · exact h'
    · simp [Array.getD_eq_getD_getElem?, Array.getElem?_eq_none h'] at h
  obtain ⟨l⟩ := listed
  simp only [Array.getD_eq_getD_getElem?] at h
  simp only [List.size_toArray] at hi
  simp only [unlisted, List.setIfInBounds_toArray]
  have he : l[i] = false := by simpa [hi] using h
  clear h
  induction l generalizing i with
  | nil => simp at hi
  | cons b r ih =>
    cases i with
    | zero => simp at he; subst he; simp [List.countP_cons]
    | succ i =>
      simp only [List.getElem_cons_succ] at he
      simp only [List.set_cons_succ, List.countP_cons]
      have := ih (i := i) (by simpa using hi) he
      omega
theorem unlisted_pos {listed : Array Bool} (h : 0 < unlisted listed) : ∃ i, i < listed.size ∧ listed.getD i true = false := by
  unfold unlisted at h
  rw [List.countP_pos_iff] at h
  obtain ⟨b, hb, hf⟩ := h
  obtain ⟨i, hi, rfl⟩ := List.mem_iff_getElem.1 hb
  refine ⟨i, by simpa using hi, ?_⟩
  simp only [Array.getD_eq_getD_getElem?]
  have hi' : i < listed.size := by simpa using hi
  rw [Array.getElem?_eq_getElem hi']
  simpa using hf
theorem unlisted_zero {listed : Array Bool} (h : unlisted listed = 0) {i : Nat} (hi : i < listed.size) : listed.getD i true = true := by
  cases hc : listed.getD i true with
  | true => rfl
  | false =>
    exfalso
    have : 0 < unlisted listed := by
      unfold unlisted
      rw [List.countP_pos_iff]
      refine ⟨listed[i], by simp, ?_⟩
      simp only [Array.getD_eq_getD_getElem?] at hc
      rw [Array.getElem?_eq_getElem hi] at hc
      simpa using hc
    omega
theorem unlisted_fresh (n : Nat) : unlisted (Array.replicate n false) = n := by
  simp [unlisted, List.countP_replicate]

def listedS (noisy : List Nat) (listed : Array Bool) (x : Nat → Value) : Nat → Option Value := fun k => if listed.getD k false = true ∧ noisy.contains k = true then some (x k) else none
theorem wpAny_each {P : Program} {Q : Exit → Act → World → Prop} {ops : Array Oper} {a0 : Act} (φ : Nat → Value → Prop) (J : (Nat → Option Value) → World → Prop) (noisy : List Nat)
    (hok : eachOk a0.tmps.size 0 ops.toList [] = true) (hsteps : stepsGoal P Q ops a0 φ J noisy 0 ops.toList)
    (hend : ∀ x w, allPhi φ x 0 ops.size → J (fun k => if k < ops.size ∧ noisy.contains k = true then some (x k) else none) w → Q .normal (fillFrom x 0 ops.toList a0) w) :
    ∀ (fuel : Nat) (listed : Array Bool) (x : Nat → Value) (w : World), listed.size = ops.size → unlisted listed = fuel → (∀ k, listed.getD k false = true → φ k (x k)) → J (listedS noisy listed x) w →
      wpAny P .any ops Q fuel listed (fillFrom x 0 ops.toList a0) w := by
  have hn := (eachOk_nodup ops.toList 0 [] hok).1
  have fin : ∀ (listed : Array Bool) (x : Nat → Value) (w : World), listed.size = ops.size → unlisted listed = 0 → (∀ k, listed.getD k false = true → φ k (x k)) → J (listedS noisy listed x) w → Q .normal (fillFrom x 0 ops.toList a0) w := by
    intro listed x w hs hu hφ hJ
    have hall : ∀ k, listed.getD k false = true ↔ k < ops.size := fun k => by
      rcases Nat.lt_or_ge k listed.size with h' | h'
      · have := unlisted_zero hu h'
        simp only [Array.getD_eq_getD_getElem?, Array.getElem?_eq_getElem h', Option.getD_some] at this ⊢
        exact ⟨fun _ => by omega, fun _ => this⟩
      · simp only [Array.getD_eq_getD_getElem?, Array.getElem?_eq_none h', Option.getD_none]
        exact ⟨fun h => Bool.noConfusion h, fun h => by omega⟩
    refine hend x w (allPhi_of _ _ (fun k _ h2 => hφ k ((hall k).2 (by omega)))) ?_
    have e : listedS noisy listed x = fun k => if k < ops.size ∧ noisy.contains k = true then some (x k) else none := by
      funext k
      unfold listedS
      simp only [hall k]
    rw [← e]; exact hJ
  intro fuel
  induction fuel with
  | zero =>
    intro listed x w hs hu hφ hJ
    refine ⟨?_, fin listed x w hs hu hφ hJ⟩
    apply Classical.byContradiction
    intro hne
    obtain ⟨i, hi⟩ := List.exists_mem_of_ne_nil _ hne
    obtain ⟨h1, h2, _⟩ := ready_mem hi
    have := unlisted_zero hu (i := i) (by omega)
    rw [this] at h2; cases h2
  | succ fuel ih =>
    intro listed x w hs hu hφ hJ
    refine ⟨fun hnil => ?_, fun i hi => ?_⟩
    · obtain ⟨i, hi, hl⟩ := unlisted_pos (listed := listed) (by omega)
      exact absurd hnil (ready_ne hok hs (by omega) hl)
    · obtain ⟨h1, h2, o, ho, hdeps⟩ := ready_mem hi
      have hlt : i < listed.size := by omega
      have hf : listed.getD i false = false := by
        simp only [Array.getD_eq_getD_getElem?, Array.getElem?_eq_getElem hlt, Option.getD_some] at h2 ⊢; exact h2
      have hol : ops.toList[i]? = some o := by simpa using ho
      have hst := stepsGoal_at ops.toList 0 hsteps i o hol
      rw [Nat.zero_add] at hst
      have hst := hst x (listedS noisy listed x) w (depsOk_of _ (fun e he hb => ⟨hφ _ (hdeps e he hb), fun hc => by unfold listedS; rw [if_pos ⟨hdeps e he hb, hc⟩]⟩)) (fun k v hk => by unfold listedS at hk; split at hk <;> simp_all) (by unfold listedS; rw [if_neg (by simp [hf])]) hJ
      have hsz' : (listed.setIfInBounds i true).size = ops.size := by simpa using hs
      have hu' : unlisted (listed.setIfInBounds i true) = fuel := by have := unlisted_set h2; omega
      have next : ∀ v w', φ i v → J (if noisy.contains i then updO (listedS noisy listed x) i v else listedS noisy listed x) w' → wpAny P .any ops Q fuel (listed.setIfInBounds i true) ((fillFrom x 0 ops.toList a0).put o.dst v) w' := by
        intro v w' hv hJ'
        rw [fill_upd i v ops.toList 0 a0 o hn (Nat.zero_le _) (by simpa using hol)]
        have hgd : ∀ k, (listed.setIfInBounds i true).getD k false = if k = i then true else listed.getD k false := fun k => by
          simp only [Array.getD_eq_getD_getElem?, Array.getElem?_setIfInBounds]
          by_cases hk : k = i
          · subst hk; simp [hlt]
          · rw [if_neg (Ne.symm hk), if_neg hk]
        refine ih _ _ w' hsz' hu' (fun k hk => ?_) ?_
        · rw [hgd k] at hk
          by_cases hki : k = i
          · subst hki; rw [if_pos rfl]; exact hv
          · rw [if_neg hki] at hk ⊢; exact hφ k hk
        · have e : listedS noisy (listed.setIfInBounds i true) (fun j => if j = i then v else x j) = (if noisy.contains i then updO (listedS noisy listed x) i v else listedS noisy listed x) := by
            funext k
            unfold listedS
            rw [hgd k]
            by_cases hki : k = i
            · subst hki
              cases hc : noisy.contains k with
              | true => simp only [if_true, and_self, updO, ↓reduceIte]
              | false => simp only [if_true, Bool.false_eq_true, and_false, if_false, ↓reduceIte, hc]
            · simp only [if_neg hki]
              cases hc : noisy.contains i with
              | true => simp only [if_true, updO, if_neg hki, ↓reduceIte]
              | false => simp only [Bool.false_eq_true, if_false, ↓reduceIte]
          rw [e]; exact hJ'
      unfold wpOp
      rw [ho]
      simp only
      split
      · rename_i hw
        rw [if_pos hw] at hst
        exact .inl (hst _ next)
      · rename_i hw
        rw [if_neg hw] at hst
        exact next undef w hst.1 hst.2
/-- A region that draws its order: a fact for each value (φ), one for the world (J; of the values of the noisy operations alone). -/
theorem wp_region_each {P : Program} {Q : Exit → Act → World → Prop} {id : Nat} {ops : Array Oper} {a0 : Act} {w : World} (hm : P.follows .mixedOrders = true) (φ : Nat → Value → Prop) (J : (Nat → Option Value) → World → Prop) (noisy : List Nat)
    (hok : eachOk a0.tmps.size 0 ops.toList [] = true) (h0 : J (fun _ => none) w.drew) (hsteps : stepsGoal P Q ops a0 φ J noisy 0 ops.toList)
    (hend : ∀ x w, allPhi φ x 0 ops.size → J (fun k => if k < ops.size ∧ noisy.contains k = true then some (x k) else none) w → Q .normal (fillFrom x 0 ops.toList a0) w) :
    (Code.region id ops true).wp P Q a0 w := by
  refine wp_region_any hm ?_
  have hx : ∃ x : Nat → Value, fillFrom x 0 ops.toList a0 = a0 := by
    -- the slots as they are
    have key : ∀ (l : List Oper) (k : Nat) (x : Nat → Value), (∀ j o d, l[j]? = some o → o.dst = some d → d < a0.tmps.size → x (k + j) = a0.tmps.getD d undef) → fillFrom x k l a0 = a0 := by
      intro l
      induction l with
      | nil => intro k x _; rfl
      | cons o r ih =>
        intro k x h
        simp only [fillFrom]
        have e : a0.put o.dst (x k) = a0 := by
          cases hd : o.dst with
          | none => rfl
          | some d =>
            simp only [Act.put]
            by_cases hlt : d < a0.tmps.size
            · have := h 0 o d (by simp) hd hlt
              rw [Nat.add_zero] at this
              rw [this]
              obtain ⟨t, df⟩ := a0
              simp only [Act.mk.injEq, and_true]
              have hlt' : d < t.size := hlt
              apply Array.ext_getElem?
              intro j
              rw [Array.getElem?_setIfInBounds]
              by_cases hj : d = j
              · subst hj; simp [hlt']
              · rw [if_neg hj]
            · obtain ⟨t, df⟩ := a0
              simp only [Act.mk.injEq, and_true]
              have hle : t.size ≤ d := Nat.le_of_not_lt hlt
              exact Array.setIfInBounds_eq_of_size_le hle
        rw [e]
        exact ih (k + 1) x (fun j o' d hj hd hl => by have := h (j + 1) o' d (by simpa using hj) hd hl; rwa [show k + (j + 1) = k + 1 + j by omega] at this)
    refine ⟨fun j => ((ops.toList[j]?).bind (·.dst)).elim undef (fun d => a0.tmps.getD d undef), key ops.toList 0 _ (fun j o d hj hd _ => ?_)⟩
    simp [hj, hd] <;> simp_all
  obtain ⟨x, hx⟩ := hx
  have h := wpAny_each (P := P) (Q := Q) φ J noisy hok hsteps hend ops.size (Array.replicate ops.size false) x w.drew (by simp) (unlisted_fresh _) (fun k hk => by
      simp only [Array.getD_eq_getD_getElem?, Array.getElem?_replicate] at hk
      split at hk <;> simp at hk) (by
      have e : listedS noisy (Array.replicate ops.size false) x = fun _ => none := by
        funext k
        unfold listedS
        rw [if_neg]
        simp only [Array.getD_eq_getD_getElem?, Array.getElem?_replicate]
        split <;> simp
      rw [e]; exact h0)
  rw [hx] at h
  exact h

/-! ### noisy operations that stand in one row -/
def depsC (φ : Nat → Value → Prop) (x : Nat → Value) : List Edge → Prop
  | [] => True
  | e :: r => (match Region.binds .any e with | true => φ e.on (x e.on) | false => True) ∧ depsC φ x r
/-- The k-th noisy operation waits for the one ahead of it. -/
def chainOk (ops : Array Oper) : List Nat → Bool
  | i :: j :: r => (match ops[j]? with | some o => o.after.any (fun e => Region.binds .any e && e.on == i) | none => false) && chainOk ops (j :: r)
  | _ => true
def valsAt (ns : List Nat) (x : Nat → Value) (j : Nat) : List Value := (ns.take j).map x
def chainGoal (P : Program) (Q : Exit → Act → World → Prop) (ops : Array Oper) (A : (Nat → Value) → Act) (φ : Nat → Value → Prop) (St : List Value → World → Prop) (C : World → Prop) (ns : List Nat) (i : Nat) (o : Oper) : Prop :=
  match ns.idxOf? i with
  | none => ∀ (x : Nat → Value) (w : World), depsC φ x o.after.toList → C w →
      if Region.wanted o (yielded ops (A x).tmps) then ∀ K : Act → World → Prop, (∀ v, φ i v → K ((A x).put o.dst v) w) → (∀ v w', φ i v → (∀ vs, St vs w → St vs w') → K ((A x).put o.dst v) w') → o.wp P (A x) w K Q
      else φ i undef
  | some j => ∀ (x : Nat → Value) (w : World), depsC φ x o.after.toList → St (valsAt ns x j) w →
      if Region.wanted o (yielded ops (A x).tmps) then ∀ K : Act → World → Prop, (∀ v w', φ i v → St (valsAt ns x j ++ [v]) w' → K ((A x).put o.dst v) w') → o.wp P (A x) w K Q
      else φ i undef ∧ St (valsAt ns x j ++ [undef]) w
def chainGoals (P : Program) (Q : Exit → Act → World → Prop) (ops : Array Oper) (A : (Nat → Value) → Act) (φ : Nat → Value → Prop) (St : List Value → World → Prop) (C : World → Prop) (ns : List Nat) : Nat → List Oper → Prop
  | _, [] => True
  | i, o :: r => chainGoal P Q ops A φ St C ns i o ∧ chainGoals P Q ops A φ St C ns (i + 1) r
theorem chain_quiet {P : Program} {Q : Exit → Act → World → Prop} {ops : Array Oper} {A : (Nat → Value) → Act} {φ : Nat → Value → Prop} {St : List Value → World → Prop} {C : World → Prop} {ns : List Nat} {i : Nat} {o : Oper}
    (hi : ns.idxOf? i = none) (hg : o.guard = none) (h : ∀ (x : Nat → Value) (w : World), depsC φ x o.after.toList → C w → ∀ K : Act → World → Prop, (∀ v, φ i v → K ((A x).put o.dst v) w) → (∀ v w', φ i v → (∀ vs, St vs w → St vs w') → K ((A x).put o.dst v) w') → o.wp P (A x) w K Q) :
    chainGoal P Q ops A φ St C ns i o := by
  unfold chainGoal
  rw [hi]
  intro x w hd hC
  rw [if_pos (by simp [Region.wanted, hg])]
  exact h x w hd hC
theorem chain_noisy {P : Program} {Q : Exit → Act → World → Prop} {ops : Array Oper} {A : (Nat → Value) → Act} {φ : Nat → Value → Prop} {St : List Value → World → Prop} {C : World → Prop} {ns : List Nat} {i : Nat} {o : Oper}
    (j : Nat) (hi : ns.idxOf? i = some j) (hg : o.guard = none) (h : ∀ (x : Nat → Value) (w : World), depsC φ x o.after.toList → St (valsAt ns x j) w → ∀ K : Act → World → Prop, (∀ v w', φ i v → St (valsAt ns x j ++ [v]) w' → K ((A x).put o.dst v) w') → o.wp P (A x) w K Q) :
    chainGoal P Q ops A φ St C ns i o := by
  unfold chainGoal
  rw [hi]
  intro x w hd hC
  rw [if_pos (by simp [Region.wanted, hg])]
  exact h x w hd hC
theorem depsC_of {φ : Nat → Value → Prop} {x : Nat → Value} {s : Nat → Option Value} {noisy : List Nat} : ∀ (l : List Edge), depsOk φ x s noisy l → depsC φ x l ∧ ∀ e ∈ l, Region.binds .any e = true → noisy.contains e.on = true → s e.on = some (x e.on) := by
  intro l
  induction l with
  | nil => intro _; exact ⟨trivial, fun e he => by simp at he⟩
  | cons e r ih =>
    intro h
    obtain ⟨h1, h2⟩ := h
    obtain ⟨i1, i2⟩ := ih h2
    refine ⟨⟨?_, i1⟩, fun e' he hb hc => ?_⟩
    · cases hb : Region.binds .any e with
      | true => rw [if_pos hb] at h1; exact h1.1
      | false => trivial
    · rcases List.mem_cons.1 he with rfl | he
      · rw [if_pos hb] at h1
        have := h1.2
        rwa [if_pos hc] at this
      · exact i2 e' he hb hc
theorem chainGoals_at {P : Program} {Q : Exit → Act → World → Prop} {ops : Array Oper} {A : (Nat → Value) → Act} {φ : Nat → Value → Prop} {St : List Value → World → Prop} {C : World → Prop} {ns : List Nat} :
    ∀ (l : List Oper) (i : Nat), chainGoals P Q ops A φ St C ns i l → ∀ (j : Nat) (o : Oper), l[j]? = some o → chainGoal P Q ops A φ St C ns (i + j) o := by
  intro l
  induction l with
  | nil => intro i _ j o h; simp at h
  | cons o' r ih =>
    intro i h j o hj
    cases j with
    | zero => simp only [List.getElem?_cons_zero, Option.some.injEq] at hj; subst hj; exact h.1
    | succ j => have := ih _ h.2 j o (by simpa using hj); rwa [Nat.add_right_comm, Nat.add_assoc] at this
theorem stepsGoal_of {P : Program} {Q : Exit → Act → World → Prop} {ops : Array Oper} {a0 : Act} {φ : Nat → Value → Prop} {J : (Nat → Option Value) → World → Prop} {noisy : List Nat} :
    ∀ (l : List Oper) (i : Nat), (∀ (j : Nat) (o : Oper), l[j]? = some o → stepGoal P Q ops a0 φ J noisy (i + j) o) → stepsGoal P Q ops a0 φ J noisy i l := by
  intro l
  induction l with
  | nil => intro i _; trivial
  | cons o r ih =>
    intro i h
    exact ⟨h 0 o rfl, ih (i + 1) (fun j o' hj => by have := h (j + 1) o' (by simpa using hj); rwa [show i + (j + 1) = i + 1 + j by omega] at this)⟩
theorem chainOk_at {ops : Array Oper} : ∀ (ns : List Nat), chainOk ops ns = true → ∀ (j a b : Nat), ns[j]? = some a → ns[j + 1]? = some b → ∃ o e, ops[b]? = some o ∧ e ∈ o.after.toList ∧ Region.binds .any e = true ∧ e.on = a := by
  intro ns
  induction ns with
  | nil => intro _ j a b h; simp at h
  | cons i r ih =>
    intro h j a b ha hb
    cases r with
    | nil => simp at hb
    | cons i' r =>
      simp only [chainOk, Bool.and_eq_true] at h
      cases j with
      | zero =>
        simp only [List.getElem?_cons_zero, Option.some.injEq, List.getElem?_cons_succ] at ha hb
        subst ha; subst hb
        cases ho : ops[i']? with
        | none => rw [ho] at h; simp at h
        | some o =>
          rw [ho] at h
          obtain ⟨h1, _⟩ := h
          obtain ⟨n, hn, hb⟩ := Array.any_eq_true.1 h1
          simp only [Bool.and_eq_true, beq_iff_eq] at hb
          exact ⟨o, o.after[n], rfl, by simp, hb.1, hb.2⟩
      | succ j => exact ih h.2 j a b (by simpa using ha) (by simpa using hb)
theorem idxOf_some {ns : List Nat} {i j : Nat} (h : ns.idxOf? i = some j) : ns[j]? = some i := by
  rw [List.idxOf?, List.findIdx?_eq_some_iff_getElem] at h
  obtain ⟨hj, h1, _⟩ := h
  rw [List.getElem?_eq_getElem hj]
  simpa using h1
theorem idxOf_none {ns : List Nat} {i : Nat} (h : ns.idxOf? i = none) : ns.contains i = false := by
  rw [List.idxOf?, List.findIdx?_eq_none_iff] at h
  cases hc : ns.contains i with
  | false => rfl
  | true =>
    rw [List.contains_iff_mem] at hc
    have := h i hc
    simp at this
theorem nodup_at {ns : List Nat} (h : ns.Nodup) {a b i : Nat} (h1 : ns[a]? = some i) (h2 : ns[b]? = some i) : a = b := by
  obtain ⟨ha, ea⟩ := List.getElem?_eq_some_iff.1 h1
  obtain ⟨hb, eb⟩ := List.getElem?_eq_some_iff.1 h2
  have := List.pairwise_iff_getElem.1 h
  rcases Nat.lt_trichotomy a b with h' | h' | h'
  · exact absurd (ea.trans eb.symm) (this a b ha hb h')
  · exact h'
  · exact absurd (eb.trans ea.symm) (this b a hb ha h')
/-- A region that draws its order, whose noisy operations (ns) stand in one row: St tells of the world behind the first so many of them, by their values; C is what holds all along. -/
theorem wp_region_chain {P : Program} {Q : Exit → Act → World → Prop} {id : Nat} {ops : Array Oper} {a0 : Act} {w : World} (A : (Nat → Value) → Act) (hA : ∀ x, fillFrom x 0 ops.toList a0 = A x) (hm : P.follows .mixedOrders = true)
    (φ : Nat → Value → Prop) (St : List Value → World → Prop) (C : World → Prop) (ns : List Nat) (hC : ∀ vs w, St vs w → C w)
    (hok : eachOk a0.tmps.size 0 ops.toList [] = true) (hch : chainOk ops ns = true) (hnd : ns.Nodup) (hlt : ∀ i ∈ ns, i < ops.size) (h0 : St [] w.drew) (hsteps : chainGoals P Q ops A φ St C ns 0 ops.toList)
    (hend : ∀ x w, allPhi φ x 0 ops.size → St (ns.map x) w → Q .normal (A x) w) :
    (Code.region id ops true).wp P Q a0 w := by
  let J : (Nat → Option Value) → World → Prop := fun s w => ∃ vs : List Value, vs.length ≤ ns.length ∧ (∀ (j i : Nat), ns[j]? = some i → s i = vs[j]?) ∧ St vs w
  refine wp_region_each hm φ J ns hok ⟨[], by simp, fun j i _ => by simp, h0⟩ (stepsGoal_of _ _ (fun i o ho => ?_)) (fun x w hφ hJ => ?_)
  · rw [Nat.zero_add]
    have hg := chainGoals_at ops.toList 0 hsteps i o ho
    rw [Nat.zero_add] at hg
    intro x s w hd hsx hs hJ
    obtain ⟨hd', hdn⟩ := depsC_of _ hd
    obtain ⟨vs, hvl, hvs, hSt⟩ := hJ
    rw [hA]
    unfold chainGoal at hg
    cases hi : ns.idxOf? i with
    | none =>
      rw [hi] at hg
      have hni := idxOf_none hi
      have hg := hg x w hd' (hC _ _ hSt)
      split
      · rename_i hw
        rw [if_pos hw] at hg
        intro K hK
        refine hg K (fun v hv => hK v w hv ?_) (fun v w' hv hst => hK v w' hv ?_)
        · rw [hni]; exact ⟨vs, hvl, hvs, hSt⟩
        · rw [hni]; exact ⟨vs, hvl, hvs, hst _ hSt⟩
      · rename_i hw
        rw [if_neg hw] at hg
        refine ⟨hg, ?_⟩
        rw [hni]; exact ⟨vs, hvl, hvs, hSt⟩
    | some j =>
      rw [hi] at hg
      have hji := idxOf_some hi
      have hjl : j < ns.length := (List.getElem?_eq_some_iff.1 hji).1
      have hci : ns.contains i = true := by rw [List.contains_iff_mem]; exact List.mem_of_getElem? hji
      -- so many values are there
      have hle : vs.length ≤ j := by
        rcases Nat.lt_or_ge j vs.length with h' | h'
        · have := hvs j i hji
          rw [hs, List.getElem?_eq_getElem h'] at this; cases this
        · exact h'
      have hge : j ≤ vs.length := by
        cases j with
        | zero => exact Nat.zero_le _
        | succ j =>
          have hj' : j < ns.length := by omega
          have ha : ns[j]? = some ns[j] := List.getElem?_eq_getElem hj'
          obtain ⟨o', e, ho', he, hb, hon⟩ := chainOk_at ns hch j _ i ha hji
          have : o' = o := by
            have h1 : ops[i]? = some o := by simpa using ho
            rw [h1] at ho'; exact (Option.some.inj ho').symm
          subst this
          have hsn := hdn e he hb (by rw [hon, List.contains_iff_mem]; exact List.getElem_mem hj')
          have := hvs j _ ha
          rw [← hon, hsn] at this
          have := (List.getElem?_eq_some_iff.1 this.symm).1
          omega
      have hlen : vs.length = j := by omega
      have hx' : vs = valsAt ns x j := by
        apply List.ext_getElem?
        intro k
        unfold valsAt
        rw [List.getElem?_map, List.getElem?_take]
        rcases Nat.lt_or_ge k j with hk | hk
        · rw [if_pos hk]
          have hkn : k < ns.length := by omega
          rw [List.getElem?_eq_getElem hkn]
          have := hvs k _ (List.getElem?_eq_getElem hkn)
          have hkv : k < vs.length := by omega
          rw [List.getElem?_eq_getElem hkv] at this ⊢
          simp [hsx _ _ this]
        · rw [if_neg (by omega), List.getElem?_eq_none (by omega)]; rfl
      rw [hx'] at hSt
      have hg := hg x w hd' hSt
      have next : ∀ v, (∀ (j' i' : Nat), ns[j']? = some i' → updO s i v i' = (valsAt ns x j ++ [v])[j']?) := by
        intro v j' i' hj'
        rw [← hx']
        have hj'l : j' < ns.length := (List.getElem?_eq_some_iff.1 hj').1
        unfold updO
        rcases Nat.lt_trichotomy j' j with h1 | h1 | h1
        · rw [if_neg (fun e => by
            subst e
            have := nodup_at hnd hj' hji
            omega), hvs j' i' hj', List.getElem?_append_left (by omega)]
        · subst h1
          rw [hji] at hj'
          simp only [Option.some.injEq] at hj'
          rw [if_pos hj'.symm, List.getElem?_append_right (by omega), hlen, Nat.sub_self]; rfl
        · rw [if_neg (fun e => by
            subst e
            have := nodup_at hnd hj' hji
            omega), hvs j' i' hj', List.getElem?_eq_none (by omega), List.getElem?_eq_none (by simp; omega)]
      have hl' : ∀ v : Value, (valsAt ns x j ++ [v]).length ≤ ns.length := fun v => by rw [← hx']; simp; omega
      split
      · rename_i hw
        rw [if_pos hw] at hg
        intro K hK
        exact hg K (fun v w' hv hst => hK v w' hv ⟨_, hl' v, next v, hst⟩)
      · rename_i hw
        rw [if_neg hw] at hg
        refine ⟨hg.1, ?_⟩
        exact ⟨_, hl' _, next _, hg.2⟩
  · rw [hA]
    refine hend x w hφ ?_
    obtain ⟨vs, hvl, hvs, hSt⟩ := hJ
    have e : vs = ns.map x := by
      apply List.ext_getElem?
      intro k
      rw [List.getElem?_map]
      rcases Nat.lt_or_ge k ns.length with hk | hk
      · have := hvs k _ (List.getElem?_eq_getElem hk)
        simp only at this
        rw [if_pos ⟨hlt _ (List.getElem_mem hk), by rw [List.contains_iff_mem]; exact List.getElem_mem hk⟩] at this
        rw [← this, List.getElem?_eq_getElem hk]; rfl
      · rw [List.getElem?_eq_none (by omega), List.getElem?_eq_none hk]; rfl
    rw [← e]; exact hSt

/-! ### one operation -/
theorem wp_run {P : Program} {o : Oper} {a : Act} {w w' : World} {v : Value} {K : Act → World → Prop} {Q : Exit → Act → World → Prop} (h : (execOp a.eval o).run P w = .ok (.value v) w') (hk : K (a.put o.dst v) w') : o.wp P a w K Q := by
  unfold Oper.wp; rw [h]; exact hk
theorem wp_calls {P : Program} {o : Oper} {a : Act} {w : World} {f : FuncId} {args : Array Value} {R : Ending → World → Prop} {K : Act → World → Prop} {Q : Exit → Act → World → Prop} (h : (execOp a.eval o).run P w = .ok (.enter f args) w)
    (hc : Calls P f args w R) (hk : ∀ e w', R e w' → ∃ v, e = .returned v ∧ K (a.put o.dst v) w') : o.wp P a w K Q := by
  unfold Oper.wp
  rw [h]
  refine hc.mono (fun e w' hr => ?_)
  obtain ⟨v, rfl, hv⟩ := hk e w' hr
  exact hv
def oneCellDesc : TypeDesc → Bool
  | .struct _ | .array _ _ => false
  | _ => true
theorem w_load {P : Program} {o : Oper} {a : Act} {w : World} {ty : TypeId} {x : Operand} {ad : Addr} {v : Value} {d : TypeDesc} {K : Act → World → Prop} {Q : Exit → Act → World → Prop} (hu : P.underlying ty = some d) (hd : oneCellDesc d = true) (ho : o.op = .load ty x) (hx : a.eval x = .pointer (some ad)) (hc : w.cell? ad = some v)
    (hk : K (a.put o.dst v) w) : o.wp P a w K Q := by
  refine wp_run ?_ hk
  unfold execOp
  simp only [ho, hx]
  cases d <;> simp [oneCellDesc] at hd <;> simp [Instr.loadAt, Instr.sureAddr, loadVar, isAgg, underlying, hu, Result.andThen, hc]
def phiL (l : List (Value → Prop)) (k : Nat) (v : Value) : Prop := (l[k]?).elim True (fun p => p v)
end Go.Proofs.YtdhobpbngkainaaDoor
