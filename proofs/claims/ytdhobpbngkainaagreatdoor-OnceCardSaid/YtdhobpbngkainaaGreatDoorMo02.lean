/-
  Ours. A region that draws its order, operation by operation: each one is shown once, whatever stood ahead of it. No condition; plain lemmas.
-/
import Derived.Test.YtdhobpbngkainaaGreatDoorMo01
import Derived.Orders
import Derived.Test.YtdhobpbngkainaaGreatDoorProg
import Derived.RegionTactic
import Derived.RangeFuncBox
namespace Go.Proofs.YtdhobpbngkainaaGreatDoor

theorem Sat.memIs {w : World} {F : HF} (h : Sat w F) {b : Nat} {o : Obj} (hm : (b, Is o) ∈ F) : w.heap[b]? = some o := by
  obtain ⟨o', ho, hi⟩ := h.sat _ hm
  have hi : o' = o := hi
  subst hi; exact ho
/-! ### two lists of blocks with the same members -/
open Classical in
noncomputable def cnt (a : Nat × (Obj → Prop)) (F : HF) : Nat := F.countP (fun b => decide (b = a))
open Classical in
noncomputable def cnt1 (a b : Nat × (Obj → Prop)) : Nat := if b = a then 1 else 0
theorem cnt_nil (a : Nat × (Obj → Prop)) : cnt a [] = 0 := rfl
theorem cnt_cons (a b : Nat × (Obj → Prop)) (F : HF) : cnt a (b :: F) = cnt1 a b + cnt a F := by
  unfold cnt cnt1
  rw [List.countP_cons]
  by_cases h : b = a <;> simp [h, Nat.add_comm]
theorem cnt_append (a : Nat × (Obj → Prop)) (F G : HF) : cnt a (F ++ G) = cnt a F + cnt a G := List.countP_append
open Classical in
theorem perm_of_cnt {F G : HF} (h : ∀ a, cnt a F = cnt a G) : F.Perm G := by
  rw [List.perm_iff_count]
  intro a
  have := h a
  unfold cnt at this
  have e : (fun b : Nat × (Obj → Prop) => decide (b = a)) = (fun b => b == a) := by
    funext b
    by_cases hb : b = a
    · subst hb; simp
    · simp [hb]
  rw [e] at this
  exact this
theorem sub_of_cnt {G : HF} : ∀ {F : HF}, (∀ a, cnt a G ≤ cnt a F) → ∃ R, F.Perm (G ++ R) := by
  induction G with
  | nil => intro F _; exact ⟨F, List.Perm.refl _⟩
  | cons g G ih =>
    intro F h
    have hg : g ∈ F := by
      have := h g
      rw [cnt_cons] at this
      have h1 : cnt1 g g = 1 := by unfold cnt1; simp
      have h2 : 0 < cnt g F := by omega
      unfold cnt at h2
      rw [List.countP_pos_iff] at h2
      obtain ⟨b, hb, he⟩ := h2
      have he : b = g := by simpa using he
      exact he ▸ hb
    obtain ⟨s, t, rfl⟩ := List.append_of_mem hg
    obtain ⟨R, hR⟩ := ih (F := s ++ t) (fun a => by have := h a; simp only [cnt_cons, cnt_append] at this ⊢; omega)
    exact ⟨R, List.perm_middle.trans (hR.cons g)⟩
theorem Sat.sub {w : World} {F G : HF} (h : Sat w F) (hp : ∀ a, cnt a G ≤ cnt a F) : Sat w G := by
  obtain ⟨R, hR⟩ := sub_of_cnt hp
  exact (h.perm hR).left
/-- A step on a part of the blocks. -/
theorem Turns.step {a b c : World} {F0 G F F' R : HF} (h : Turns F0 G a b) (hp : G.Perm (F ++ R)) (k : Turns F F' b c) : Turns F0 (F' ++ R) a c :=
  (h.perm (List.Perm.refl _) hp).trans (k.frame (h.sat.perm hp))
theorem Turns.to {a b : World} {F G H : HF} (h : Turns F G a b) (hp : G.Perm H) : Turns F H a b := h.perm (List.Perm.refl _) hp
/-- What is needed no more goes. -/
theorem Turns.drop {a b : World} {F G H : HF} (h : Turns F G a b) (hp : ∀ x, cnt x H ≤ cnt x G) : Turns F H a b := by
  obtain ⟨R, hR⟩ := sub_of_cnt hp
  exact (h.to hR).left
/-- What is new joins. -/
theorem Turns.newIn {a b c : World} {F G H : HF} (h : Turns F G a b) (k : Turns [] H b c) : Turns F (H ++ G) a c := by
  have := k.frame (R := G) (by simpa using h.sat)
  simp only [List.nil_append] at this
  exact h.trans this
/-- The frame in which the slots of the operations hold x. -/
def fillFrom (x : Nat → Value) : Nat → List Oper → Act → Act
  | _, [], a => a
  | k, o :: r, a => fillFrom x (k + 1) r (a.put o.dst (x k))
/-- What is known of the operations that an operation waits for. -/
def depsOk (φ : Nat → Value → Prop) (x : Nat → Value) (s : Nat → Option Value) (noisy : List Nat) : List Edge → Prop
  | [] => True
  | e :: r => (if Region.binds .any e then φ e.on (x e.on) ∧ (if noisy.contains e.on then s e.on = some (x e.on) else True) else True) ∧ depsOk φ x s noisy r
def updO (s : Nat → Option Value) (i : Nat) (v : Value) : Nat → Option Value := fun k => if k = i then some v else s k
def stepGoal (P : Program) (Q : Exit → Act → World → Prop) (ops : Array Oper) (a0 : Act) (φ : Nat → Value → Prop) (J : (Nat → Option Value) → World → Prop) (noisy : List Nat) (i : Nat) (o : Oper) : Prop :=
  ∀ (x : Nat → Value) (s : Nat → Option Value) (w : World), depsOk φ x s noisy o.after.toList → (∀ k v, s k = some v → x k = v) → s i = none → J s w →
    if Region.wanted o (yielded ops (fillFrom x 0 ops.toList a0).tmps) then
      ∀ K : Act → World → Prop, (∀ v w', φ i v → J (if noisy.contains i then updO s i v else s) w' → K ((fillFrom x 0 ops.toList a0).put o.dst v) w') → o.wp P (fillFrom x 0 ops.toList a0) w K Q
    else φ i undef ∧ J (if noisy.contains i then updO s i undef else s) w
def stepsGoal (P : Program) (Q : Exit → Act → World → Prop) (ops : Array Oper) (a0 : Act) (φ : Nat → Value → Prop) (J : (Nat → Option Value) → World → Prop) (noisy : List Nat) : Nat → List Oper → Prop
  | _, [] => True
  | i, o :: r => stepGoal P Q ops a0 φ J noisy i o ∧ stepsGoal P Q ops a0 φ J noisy (i + 1) r
def allPhi (φ : Nat → Value → Prop) (x : Nat → Value) : Nat → Nat → Prop
  | _, 0 => True
  | i, n + 1 => φ i (x i) ∧ allPhi φ x (i + 1) n
def noisyS (noisy : List Nat) (x : Nat → Value) : Nat → Option Value := fun k => if noisy.contains k then some (x k) else none

/-- Each operation waits for earlier ones alone; no slot is written twice. -/
def eachOk (n : Nat) : Nat → List Oper → List Nat → Bool
  | _, [], _ => true
  | i, o :: r, ds => (o.after.toList.all fun e => !Region.binds .any e || decide (e.on < i)) &&
      (match o.dst with | some d => decide (d < n) && !ds.contains d && eachOk n (i + 1) r (d :: ds) | none => eachOk n (i + 1) r ds)

theorem put_size (a : Act) (d : Option Tmp) (v : Value) : (a.put d v).tmps.size = a.tmps.size := by
  cases d <;> simp [Act.put]
theorem put_put (a : Act) (d : Option Tmp) (v u : Value) : (a.put d v).put d u = a.put d u := by
  cases d <;> simp [Act.put]
theorem fillFrom_congr {x y : Nat → Value} : ∀ (l : List Oper) (k : Nat) (a : Act), (∀ j, k ≤ j → j < k + l.length → x j = y j) → fillFrom x k l a = fillFrom y k l a := by
  intro l
  induction l with
  | nil => intro k a _; rfl
  | cons o r ih =>
    intro k a h
    simp only [fillFrom]
    rw [h k (Nat.le_refl _) (by simp)]
    exact ih (k + 1) _ (fun j hj hj2 => h j (by omega) (by simp at hj2 ⊢; omega))
def Dsts (l : List Oper) : List Tmp := l.filterMap (·.dst)
theorem fillFrom_put {x : Nat → Value} : ∀ (l : List Oper) (k : Nat) (a : Act) (d : Option Tmp) (v : Value), (∀ t, d = some t → t ∉ Dsts l) → (fillFrom x k l a).put d v = fillFrom x k l (a.put d v) := by
  intro l
  induction l with
  | nil => intro k a d v _; rfl
  | cons o r ih =>
    intro k a d v h
    simp only [fillFrom]
    rw [ih (k + 1) _ d v (fun t ht hm => h t ht (by simp only [Dsts, List.filterMap_cons]; cases o.dst <;> simp_all [Dsts]))]
    rw [Act.put_comm a (x := o.dst) (y := d)]
    intro t ht hd
    refine h t hd ?_
    simp [Dsts, List.filterMap_cons, ht]
theorem eachOk_nodup {n : Nat} : ∀ (l : List Oper) (i : Nat) (ds : List Nat), eachOk n i l ds = true → (Dsts l).Nodup ∧ (∀ d ∈ Dsts l, d ∉ ds ∧ d < n) := by
  intro l
  induction l with
  | nil => intro i ds _; exact ⟨List.nodup_nil, fun d h => by simp [Dsts] at h⟩
  | cons o r ih =>
    intro i ds h
    simp only [eachOk, Bool.and_eq_true] at h
    obtain ⟨_, h⟩ := h
    cases hd : o.dst with
    | none =>
      rw [hd] at h
      have := ih _ _ h
      simpa [Dsts, List.filterMap_cons, hd] using this
    | some d =>
      rw [hd] at h
      simp only [Bool.and_eq_true, Bool.not_eq_true', decide_eq_true_eq] at h
      obtain ⟨⟨h1, h2⟩, h3⟩ := h
      have := ih _ _ h3
      have e : Dsts (o :: r) = d :: Dsts r := by simp [Dsts, List.filterMap_cons, hd]
      rw [e]
      refine ⟨List.nodup_cons.2 ⟨fun hm => (this.2 d hm).1 (by simp), this.1⟩, fun t ht => ?_⟩
      rcases List.mem_cons.1 ht with rfl | ht
      · exact ⟨fun hc => by simp [hc] at h2, h1⟩
      · exact ⟨fun hc => (this.2 t ht).1 (by simp [hc]), (this.2 t ht).2⟩
theorem eachOk_after {n : Nat} : ∀ (l : List Oper) (i : Nat) (ds : List Nat), eachOk n i l ds = true → ∀ (j : Nat) (o : Oper), l[j]? = some o → ∀ e ∈ o.after.toList, Region.binds .any e = true → e.on < i + j := by
  intro l
  induction l with
  | nil => intro i ds _ j o h; simp at h
  | cons o r ih =>
    intro i ds h j o' hj e he hb
    simp only [eachOk, Bool.and_eq_true, List.all_eq_true] at h
    obtain ⟨h1, h⟩ := h
    cases j with
    | zero =>
      simp only [List.getElem?_cons_zero, Option.some.injEq] at hj
      subst hj
      have := h1 e he
      simp [hb] at this
      omega
    | succ j =>
      simp only [List.getElem?_cons_succ] at hj
      have : e.on < i + 1 + j := by
        cases hd : o.dst with
        | none => rw [hd] at h; exact ih _ _ h j o' hj e he hb
        | some d =>
          rw [hd] at h
          simp only [Bool.and_eq_true] at h
          exact ih _ _ h.2 j o' hj e he hb
      omega
theorem fill_upd {x : Nat → Value} (i : Nat) (v : Value) : ∀ (l : List Oper) (k : Nat) (a : Act) (o : Oper), (Dsts l).Nodup → k ≤ i → l[i - k]? = some o →
    (fillFrom x k l a).put o.dst v = fillFrom (fun j => if j = i then v else x j) k l a := by
  intro l
  induction l with
  | nil => intro k a o _ _ h; simp at h
  | cons o' r ih =>
    intro k a o hn hk h
    simp only [fillFrom]
    rcases Nat.eq_or_lt_of_le hk with rfl | hlt
    · rw [Nat.sub_self] at h
      simp only [List.getElem?_cons_zero, Option.some.injEq] at h
      subst h
      rw [if_pos rfl, fillFrom_put _ _ _ _ _ (fun t ht hm => ?_), put_put]
      · exact fillFrom_congr _ _ _ (fun j hj _ => by rw [if_neg (by omega)])
      · have : Dsts (o' :: r) = t :: Dsts r := by simp [Dsts, List.filterMap_cons, ht]
        rw [this] at hn
        exact (List.nodup_cons.1 hn).1 hm
    · rw [if_neg (by omega)]
      have hn' : (Dsts r).Nodup := by
        cases hd : o'.dst with
        | none => simpa [Dsts, List.filterMap_cons, hd] using hn
        | some d => have e : Dsts (o' :: r) = d :: Dsts r := by simp [Dsts, List.filterMap_cons, hd]
                    rw [e] at hn; exact (List.nodup_cons.1 hn).2
      exact ih (k + 1) _ o hn' (by omega) (by rw [show i - k = (i - (k + 1)) + 1 by omega] at h; simpa using h)
theorem stepsGoal_at {P : Program} {Q : Exit → Act → World → Prop} {ops : Array Oper} {a0 : Act} {φ : Nat → Value → Prop} {J : (Nat → Option Value) → World → Prop} {noisy : List Nat} :
    ∀ (l : List Oper) (i : Nat), stepsGoal P Q ops a0 φ J noisy i l → ∀ (j : Nat) (o : Oper), l[j]? = some o → stepGoal P Q ops a0 φ J noisy (i + j) o := by
  intro l
  induction l with
  | nil => intro i _ j o h; simp at h
  | cons o' r ih =>
    intro i h j o hj
    cases j with
    | zero => simp only [List.getElem?_cons_zero, Option.some.injEq] at hj; subst hj; exact h.1
    | succ j => have := ih _ h.2 j o (by simpa using hj); rwa [Nat.add_right_comm, Nat.add_assoc] at this
theorem allPhi_of {φ : Nat → Value → Prop} {x : Nat → Value} : ∀ (n i : Nat), (∀ k, i ≤ k → k < i + n → φ k (x k)) → allPhi φ x i n := by
  intro n
  induction n with
  | zero => intro i _; trivial
  | succ n ih => intro i h; exact ⟨h i (Nat.le_refl _) (by omega), ih (i + 1) (fun k h1 h2 => h k (by omega) (by omega))⟩
theorem depsOk_of {φ : Nat → Value → Prop} {x : Nat → Value} {s : Nat → Option Value} {noisy : List Nat} : ∀ (l : List Edge), (∀ e ∈ l, Region.binds .any e = true → φ e.on (x e.on) ∧ (noisy.contains e.on = true → s e.on = some (x e.on))) → depsOk φ x s noisy l := by
  intro l
  induction l with
  | nil => intro _; trivial
  | cons e r ih =>
    intro h
    refine ⟨?_, ih (fun e' he => h e' (List.mem_cons_of_mem _ he))⟩
    split
    · rename_i hb
      obtain ⟨h1, h2⟩ := h e (by simp) hb
      refine ⟨h1, ?_⟩
      split
      · rename_i hc; exact h2 hc
      · trivial
    · trivial
theorem ready_mem {ops : Array Oper} {listed : Array Bool} {i : Nat} (h : i ∈ Region.ready .any ops listed) :
    i < ops.size ∧ listed.getD i true = false ∧ ∃ o, ops[i]? = some o ∧ ∀ e ∈ o.after.toList, Region.binds .any e = true → listed.getD e.on false = true := by
  unfold Region.ready at h
  rw [List.mem_filter] at h
  obtain ⟨h1, h2⟩ := h
  have hi : i < ops.size := by simpa using h1
  simp only [Bool.and_eq_true, Bool.not_eq_true'] at h2
  obtain ⟨h2, h3⟩ := h2
  refine ⟨hi, h2, ops[i], Array.getElem?_eq_getElem hi, fun e he hb => ?_⟩
  rw [Array.getElem?_eq_getElem hi] at h3
  simp only [Option.map_some, Option.getD_some, Array.all_eq_true_iff_forall_mem] at h3
  have := h3 e (by simpa using he)
  simpa [hb] using this
theorem ready_ne {ops : Array Oper} {listed : Array Bool} {n : Nat} (hok : eachOk n 0 ops.toList [] = true) (hs : listed.size = ops.size) {i : Nat} (hi : i < ops.size) (hl : listed.getD i true = false) : Region.ready .any ops listed ≠ [] := by
  -- the least one that is not listed is ready
  induction i using Nat.strongRecOn with
  | _ i ih =>
    by_cases hd : ∀ e ∈ (ops[i]).after.toList, Region.binds .any e = true → listed.getD e.on false = true
    · intro hnil
      have hm : i ∈ Region.ready .any ops listed := by
        unfold Region.ready
        rw [List.mem_filter]
        refine ⟨by simpa using hi, ?_⟩
        rw [Array.getElem?_eq_getElem hi]
        simp only [Bool.and_eq_true, Bool.not_eq_true', Option.map_some, Option.getD_some, Array.all_eq_true_iff_forall_mem]
        refine ⟨hl, fun e he => ?_⟩
        by_cases hb : Region.binds .any e = true
        · simp [hb, hd e (by simpa using he) hb]
        · simp [hb]
      rw [hnil] at hm
      simp at hm
    · have : ∃ e, e ∈ (ops[i]).after.toList ∧ Region.binds .any e = true ∧ ¬ listed.getD e.on false = true := by
        apply Classical.byContradiction
        intro hn
        exact hd (fun e he hb => Classical.byContradiction fun hc => hn ⟨e, he, hb, hc⟩)
      obtain ⟨e, he, hb, hc⟩ := this
      have hlt := eachOk_after ops.toList 0 [] hok i ops[i] (by simp [hi]) e he hb
      have hlt' : e.on < i := by omega
      refine ih e.on hlt' (by omega) ?_
      have hsz : e.on < listed.size := by omega
      simp only [Array.getD_eq_getD_getElem?, Array.getElem?_eq_getElem hsz, Option.getD_some] at hc ⊢
      simpa using hc
/-- How many are not listed yet. -/
def unlisted (listed : Array Bool) : Nat := listed.toList.countP (· == false)
theorem unlisted_set {listed : Array Bool} {i : Nat} (h : listed.getD i true = false) : unlisted (listed.setIfInBounds i true) + 1 = unlisted listed := by
  have hi : i < listed.size := by
    rcases Nat.lt_or_ge i listed.size with h' | h'
    · exact h'
    · simp [Array.getD_eq_getD_getElem?, Array.getElem?_eq_none h'] at h
  obtain ⟨l⟩ := listed
  simp only [Array.getD_eq_getD_getElem?] at h
  simp only [List.size_toArray] at hi
  simp only [unlisted, List.setIfInBounds_toArray]
  have he : l[i] = false := by simpa [hi] using h
  clear h
  induction l generalizing i with
  | nil => simp at hi
  | cons b r ih =>
    cases i with
    | zero => simp at he; subst he; simp [List.countP_cons]
    | succ i =>
      simp only [List.getElem_cons_succ] at he
      simp only [List.set_cons_succ, List.countP_cons]
      have := ih (i := i) (by simpa using hi) he
      omega
theorem unlisted_pos {listed : Array Bool} (h : 0 < unlisted listed) : ∃ i, i < listed.size ∧ listed.getD i true = false := by
  unfold unlisted at h
  rw [List.countP_pos_iff] at h
  obtain ⟨b, hb, hf⟩ := h
  obtain ⟨i, hi, rfl⟩ := List.mem_iff_getElem.1 hb
  refine ⟨i, by simpa using hi, ?_⟩
  simp only [Array.getD_eq_getD_getElem?]
  have hi' : i < listed.size := by simpa using hi
  rw [Array.getElem?_eq_getElem hi']
  simpa using hf
theorem unlisted_zero {listed : Array Bool} (h : unlisted listed = 0) {i : Nat} (hi : i < listed.size) : listed.getD i true = true := by
  cases hc : listed.getD i true with
  | true => rfl
  | false =>
    exfalso
    have : 0 < unlisted listed := by
      unfold unlisted
      rw [List.countP_pos_iff]
      refine ⟨listed[i], by simp, ?_⟩
      simp only [Array.getD_eq_getD_getElem?] at hc
      rw [Array.getElem?_eq_getElem hi] at hc
      simpa using hc
    omega
theorem unlisted_fresh (n : Nat) : unlisted (Array.replicate n false) = n := by
  simp [unlisted, List.countP_replicate]

def listedS (noisy : List Nat) (listed : Array Bool) (x : Nat → Value) : Nat → Option Value := fun k => if listed.getD k false = true ∧ noisy.contains k = true then some (x k) else none
theorem wpAny_each {P : Program} {Q : Exit → Act → World → Prop} {ops : Array Oper} {a0 : Act} (φ : Nat → Value → Prop) (J : (Nat → Option Value) → World → Prop) (noisy : List Nat)
    (hok : eachOk a0.tmps.size 0 ops.toList [] = true) (hsteps : stepsGoal P Q ops a0 φ J noisy 0 ops.toList)
    (hend : ∀ x w, allPhi φ x 0 ops.size → J (fun k => if k < ops.size ∧ noisy.contains k = true then some (x k) else none) w → Q .normal (fillFrom x 0 ops.toList a0) w) :
    ∀ (fuel : Nat) (listed : Array Bool) (x : Nat → Value) (w : World), listed.size = ops.size → unlisted listed = fuel → (∀ k, listed.getD k false = true → φ k (x k)) → J (listedS noisy listed x) w →
      wpAny P .any ops Q fuel listed (fillFrom x 0 ops.toList a0) w := by
  have hn := (eachOk_nodup ops.toList 0 [] hok).1
  have fin : ∀ (listed : Array Bool) (x : Nat → Value) (w : World), listed.size = ops.size → unlisted listed = 0 → (∀ k, listed.getD k false = true → φ k (x k)) → J (listedS noisy listed x) w → Q .normal (fillFrom x 0 ops.toList a0) w := by
    intro listed x w hs hu hφ hJ
    have hall : ∀ k, listed.getD k false = true ↔ k < ops.size := fun k => by
      rcases Nat.lt_or_ge k listed.size with h' | h'
      · have := unlisted_zero hu h'
        simp only [Array.getD_eq_getD_getElem?, Array.getElem?_eq_getElem h', Option.getD_some] at this ⊢
        exact ⟨fun _ => by omega, fun _ => this⟩
      · simp only [Array.getD_eq_getD_getElem?, Array.getElem?_eq_none h', Option.getD_none]
        exact ⟨fun h => Bool.noConfusion h, fun h => by omega⟩
    refine hend x w (allPhi_of _ _ (fun k _ h2 => hφ k ((hall k).2 (by omega)))) ?_
    have e : listedS noisy listed x = fun k => if k < ops.size ∧ noisy.contains k = true then some (x k) else none := by
      funext k
      unfold listedS
      simp only [hall k]
    rw [← e]; exact hJ
  intro fuel
  induction fuel with
  | zero =>
    intro listed x w hs hu hφ hJ
    refine ⟨?_, fin listed x w hs hu hφ hJ⟩
    apply Classical.byContradiction
    intro hne
    obtain ⟨i, hi⟩ := List.exists_mem_of_ne_nil _ hne
    obtain ⟨h1, h2, _⟩ := ready_mem hi
    have := unlisted_zero hu (i := i) (by omega)
    rw [this] at h2; cases h2
  | succ fuel ih =>
    intro listed x w hs hu hφ hJ
    refine ⟨fun hnil => ?_, fun i hi => ?_⟩
    · obtain ⟨i, hi, hl⟩ := unlisted_pos (listed := listed) (by omega)
      exact absurd hnil (ready_ne hok hs (by omega) hl)
    · obtain ⟨h1, h2, o, ho, hdeps⟩ := ready_mem hi
      have hlt : i < listed.size := by omega
      have hf : listed.getD i false = false := by
        simp only [Array.getD_eq_getD_getElem?, Array.getElem?_eq_getElem hlt, Option.getD_some] at h2 ⊢; exact h2
      have hol : ops.toList[i]? = some o := by simpa using ho
      have hst := stepsGoal_at ops.toList 0 hsteps i o hol
      rw [Nat.zero_add] at hst
      have hst := hst x (listedS noisy listed x) w (depsOk_of _ (fun e he hb => ⟨hφ _ (hdeps e he hb), fun hc => by unfold listedS; rw [if_pos ⟨hdeps e he hb, hc⟩]⟩)) (fun k v hk => by unfold listedS at hk; split at hk <;> simp_all) (by unfold listedS; rw [if_neg (by simp [hf])]) hJ
      have hsz' : (listed.setIfInBounds i true).size = ops.size := by simpa using hs
      have hu' : unlisted (listed.setIfInBounds i true) = fuel := by have := unlisted_set h2; omega
      have next : ∀ v w', φ i v → J (if noisy.contains i then updO (listedS noisy listed x) i v else listedS noisy listed x) w' → wpAny P .any ops Q fuel (listed.setIfInBounds i true) ((fillFrom x 0 ops.toList a0).put o.dst v) w' := by
        intro v w' hv hJ'
        rw [fill_upd i v ops.toList 0 a0 o hn (Nat.zero_le _) (by simpa using hol)]
        have hgd : ∀ k, (listed.setIfInBounds i true).getD k false = if k = i then true else listed.getD k false := fun k => by
          simp only [Array.getD_eq_getD_getElem?, Array.getElem?_setIfInBounds]
          by_cases hk : k = i
          · subst hk; simp [hlt]
          · rw [if_neg (Ne.symm hk), if_neg hk]
        refine ih _ _ w' hsz' hu' (fun k hk => ?_) ?_
        · rw [hgd k] at hk
          by_cases hki : k = i
          · subst hki; rw [if_pos rfl]; exact hv
          · rw [if_neg hki] at hk ⊢; exact hφ k hk
        · have e : listedS noisy (listed.setIfInBounds i true) (fun j => if j = i then v else x j) = (if noisy.contains i then updO (listedS noisy listed x) i v else listedS noisy listed x) := by
            funext k
            unfold listedS
            rw [hgd k]
            by_cases hki : k = i
            · subst hki
              cases hc : noisy.contains k with
              | true => simp only [if_true, and_self, updO, ↓reduceIte]
              | false => simp only [if_true, Bool.false_eq_true, and_false, if_false, ↓reduceIte, hc]
            · simp only [if_neg hki]
              cases hc : noisy.contains i with
              | true => simp only [if_true, updO, if_neg hki, ↓reduceIte]
              | false => simp only [Bool.false_eq_true, if_false, ↓reduceIte]
          rw [e]; exact hJ'
      unfold wpOp
      rw [ho]
      simp only
      split
      · rename_i hw
        rw [if_pos hw] at hst
        exact .inl (hst _ next)
      · rename_i hw
        rw [if_neg hw] at hst
        exact next undef w hst.1 hst.2
/-- A region that draws its order: a fact for each value (φ), one for the world (J; of the values of the noisy operations alone). -/
theorem any_region_each {P : Program} {Q : Exit → Act → World → Prop} {ops : Array Oper} {a0 : Act} {w : World} (φ : Nat → Value → Prop) (J : (Nat → Option Value) → World → Prop) (noisy : List Nat)
    (hok : eachOk a0.tmps.size 0 ops.toList [] = true) (h0 : J (fun _ => none) w.drew) (hsteps : stepsGoal P Q ops a0 φ J noisy 0 ops.toList)
    (hend : ∀ x w, allPhi φ x 0 ops.size → J (fun k => if k < ops.size ∧ noisy.contains k = true then some (x k) else none) w → Q .normal (fillFrom x 0 ops.toList a0) w) :
    wpAny P .any ops Q ops.size (Array.replicate ops.size false) a0 w.drew := by
  have hx : ∃ x : Nat → Value, fillFrom x 0 ops.toList a0 = a0 := by
    -- the slots as they are
    have key : ∀ (l : List Oper) (k : Nat) (x : Nat → Value), (∀ j o d, l[j]? = some o → o.dst = some d → d < a0.tmps.size → x (k + j) = a0.tmps.getD d undef) → fillFrom x k l a0 = a0 := by
      intro l
      induction l with
      | nil => intro k x _; rfl
      | cons o r ih =>
        intro k x h
        simp only [fillFrom]
        have e : a0.put o.dst (x k) = a0 := by
          cases hd : o.dst with
          | none => rfl
          | some d =>
            simp only [Act.put]
            by_cases hlt : d < a0.tmps.size
            · have := h 0 o d (by simp) hd hlt
              rw [Nat.add_zero] at this
              rw [this]
              obtain ⟨t, df⟩ := a0
              simp only [Act.mk.injEq, and_true]
              have hlt' : d < t.size := hlt
              apply Array.ext_getElem?
              intro j
              rw [Array.getElem?_setIfInBounds]
              by_cases hj : d = j
              · subst hj; simp [hlt']
              · rw [if_neg hj]
            · obtain ⟨t, df⟩ := a0
              simp only [Act.mk.injEq, and_true]
              have hle : t.size ≤ d := Nat.le_of_not_lt hlt
              exact Array.setIfInBounds_eq_of_size_le hle
        rw [e]
        exact ih (k + 1) x (fun j o' d hj hd hl => by have := h (j + 1) o' d (by simpa using hj) hd hl; rwa [show k + (j + 1) = k + 1 + j by omega] at this)
    refine ⟨fun j => ((ops.toList[j]?).bind (·.dst)).elim undef (fun d => a0.tmps.getD d undef), key ops.toList 0 _ (fun j o d hj hd _ => ?_)⟩
    simp [hj, hd] <;> simp_all
  obtain ⟨x, hx⟩ := hx
  have h := wpAny_each (P := P) (Q := Q) φ J noisy hok hsteps hend ops.size (Array.replicate ops.size false) x w.drew (by simp) (unlisted_fresh _) (fun k hk => by
      simp only [Array.getD_eq_getD_getElem?, Array.getElem?_replicate] at hk
      split at hk <;> simp at hk) (by
      have e : listedS noisy (Array.replicate ops.size false) x = fun _ => none := by
        funext k
        unfold listedS
        rw [if_neg]
        simp only [Array.getD_eq_getD_getElem?, Array.getElem?_replicate]
        split <;> simp
      rw [e]; exact h0)
  rw [hx] at h
  exact h

theorem wp_region_each {P : Program} {Q : Exit → Act → World → Prop} {id : Nat} {ops : Array Oper} {a0 : Act} {w : World} (hm : P.follows .mixedOrders = true) (φ : Nat → Value → Prop) (J : (Nat → Option Value) → World → Prop) (noisy : List Nat)
    (hok : eachOk a0.tmps.size 0 ops.toList [] = true) (h0 : J (fun _ => none) w.drew) (hsteps : stepsGoal P Q ops a0 φ J noisy 0 ops.toList)
    (hend : ∀ x w, allPhi φ x 0 ops.size → J (fun k => if k < ops.size ∧ noisy.contains k = true then some (x k) else none) w → Q .normal (fillFrom x 0 ops.toList a0) w) :
    (Code.region id ops true).wp P Q a0 w :=
  wp_region_any hm (any_region_each φ J noisy hok h0 hsteps hend)

/-! ### noisy operations that stand in one row -/
def depsC (φ : Nat → Value → Prop) (x : Nat → Value) : List Edge → Prop
  | [] => True
  | e :: r => (match Region.binds .any e with | true => φ e.on (x e.on) | false => True) ∧ depsC φ x r
/-- The k-th noisy operation waits for the one ahead of it. -/
def chainOk (ops : Array Oper) : List Nat → Bool
  | i :: j :: r => (match ops[j]? with | some o => o.after.any (fun e => Region.binds .any e && e.on == i) | none => false) && chainOk ops (j :: r)
  | _ => true
def valsAt (ns : List Nat) (x : Nat → Value) (j : Nat) : List Value := (ns.take j).map x
def chainGoal (P : Program) (Q : Exit → Act → World → Prop) (ops : Array Oper) (A : (Nat → Value) → Act) (φ : Nat → Value → Prop) (St : List Value → World → Prop) (C : World → Prop) (ns : List Nat) (i : Nat) (o : Oper) : Prop :=
  match ns.idxOf? i with
  | none => ∀ (x : Nat → Value) (w : World), depsC φ x o.after.toList → C w →
      if Region.wanted o (yielded ops (A x).tmps) then ∀ K : Act → World → Prop, (∀ v, φ i v → K ((A x).put o.dst v) w) → (∀ v w', φ i v → (∀ vs, St vs w → St vs w') → K ((A x).put o.dst v) w') → o.wp P (A x) w K Q
      else φ i undef
  | some j => ∀ (x : Nat → Value) (w : World), depsC φ x o.after.toList → St (valsAt ns x j) w →
      if Region.wanted o (yielded ops (A x).tmps) then ∀ K : Act → World → Prop, (∀ v w', φ i v → St (valsAt ns x j ++ [v]) w' → K ((A x).put o.dst v) w') → o.wp P (A x) w K Q
      else φ i undef ∧ St (valsAt ns x j ++ [undef]) w
def chainGoals (P : Program) (Q : Exit → Act → World → Prop) (ops : Array Oper) (A : (Nat → Value) → Act) (φ : Nat → Value → Prop) (St : List Value → World → Prop) (C : World → Prop) (ns : List Nat) : Nat → List Oper → Prop
  | _, [] => True
  | i, o :: r => chainGoal P Q ops A φ St C ns i o ∧ chainGoals P Q ops A φ St C ns (i + 1) r
theorem chain_quiet {P : Program} {Q : Exit → Act → World → Prop} {ops : Array Oper} {A : (Nat → Value) → Act} {φ : Nat → Value → Prop} {St : List Value → World → Prop} {C : World → Prop} {ns : List Nat} {i : Nat} {o : Oper}
    (hi : ns.idxOf? i = none) (hg : o.guard = none) (h : ∀ (x : Nat → Value) (w : World), depsC φ x o.after.toList → C w → ∀ K : Act → World → Prop, (∀ v, φ i v → K ((A x).put o.dst v) w) → (∀ v w', φ i v → (∀ vs, St vs w → St vs w') → K ((A x).put o.dst v) w') → o.wp P (A x) w K Q) :
    chainGoal P Q ops A φ St C ns i o := by
  unfold chainGoal
  rw [hi]
  intro x w hd hC
  rw [if_pos (by simp [Region.wanted, hg])]
  exact h x w hd hC
theorem chain_noisy {P : Program} {Q : Exit → Act → World → Prop} {ops : Array Oper} {A : (Nat → Value) → Act} {φ : Nat → Value → Prop} {St : List Value → World → Prop} {C : World → Prop} {ns : List Nat} {i : Nat} {o : Oper}
    (j : Nat) (hi : ns.idxOf? i = some j) (hg : o.guard = none) (h : ∀ (x : Nat → Value) (w : World), depsC φ x o.after.toList → St (valsAt ns x j) w → ∀ K : Act → World → Prop, (∀ v w', φ i v → St (valsAt ns x j ++ [v]) w' → K ((A x).put o.dst v) w') → o.wp P (A x) w K Q) :
    chainGoal P Q ops A φ St C ns i o := by
  unfold chainGoal
  rw [hi]
  intro x w hd hC
  rw [if_pos (by simp [Region.wanted, hg])]
  exact h x w hd hC
theorem depsC_of {φ : Nat → Value → Prop} {x : Nat → Value} {s : Nat → Option Value} {noisy : List Nat} : ∀ (l : List Edge), depsOk φ x s noisy l → depsC φ x l ∧ ∀ e ∈ l, Region.binds .any e = true → noisy.contains e.on = true → s e.on = some (x e.on) := by
  intro l
  induction l with
  | nil => intro _; exact ⟨trivial, fun e he => by simp at he⟩
  | cons e r ih =>
    intro h
    obtain ⟨h1, h2⟩ := h
    obtain ⟨i1, i2⟩ := ih h2
    refine ⟨⟨?_, i1⟩, fun e' he hb hc => ?_⟩
    · cases hb : Region.binds .any e with
      | true => rw [if_pos hb] at h1; exact h1.1
      | false => trivial
    · rcases List.mem_cons.1 he with rfl | he
      · rw [if_pos hb] at h1
        have := h1.2
        rwa [if_pos hc] at this
      · exact i2 e' he hb hc
theorem chainGoals_at {P : Program} {Q : Exit → Act → World → Prop} {ops : Array Oper} {A : (Nat → Value) → Act} {φ : Nat → Value → Prop} {St : List Value → World → Prop} {C : World → Prop} {ns : List Nat} :
    ∀ (l : List Oper) (i : Nat), chainGoals P Q ops A φ St C ns i l → ∀ (j : Nat) (o : Oper), l[j]? = some o → chainGoal P Q ops A φ St C ns (i + j) o := by
  intro l
  induction l with
  | nil => intro i _ j o h; simp at h
  | cons o' r ih =>
    intro i h j o hj
    cases j with
    | zero => simp only [List.getElem?_cons_zero, Option.some.injEq] at hj; subst hj; exact h.1
    | succ j => have := ih _ h.2 j o (by simpa using hj); rwa [Nat.add_right_comm, Nat.add_assoc] at this
theorem stepsGoal_of {P : Program} {Q : Exit → Act → World → Prop} {ops : Array Oper} {a0 : Act} {φ : Nat → Value → Prop} {J : (Nat → Option Value) → World → Prop} {noisy : List Nat} :
    ∀ (l : List Oper) (i : Nat), (∀ (j : Nat) (o : Oper), l[j]? = some o → stepGoal P Q ops a0 φ J noisy (i + j) o) → stepsGoal P Q ops a0 φ J noisy i l := by
  intro l
  induction l with
  | nil => intro i _; trivial
  | cons o r ih =>
    intro i h
    exact ⟨h 0 o rfl, ih (i + 1) (fun j o' hj => by have := h (j + 1) o' (by simpa using hj); rwa [show i + (j + 1) = i + 1 + j by omega] at this)⟩
theorem chainOk_at {ops : Array Oper} : ∀ (ns : List Nat), chainOk ops ns = true → ∀ (j a b : Nat), ns[j]? = some a → ns[j + 1]? = some b → ∃ o e, ops[b]? = some o ∧ e ∈ o.after.toList ∧ Region.binds .any e = true ∧ e.on = a := by
  intro ns
  induction ns with
  | nil => intro _ j a b h; simp at h
  | cons i r ih =>
    intro h j a b ha hb
    cases r with
    | nil => simp at hb
    | cons i' r =>
      simp only [chainOk, Bool.and_eq_true] at h
      cases j with
      | zero =>
        simp only [List.getElem?_cons_zero, Option.some.injEq, List.getElem?_cons_succ] at ha hb
        subst ha; subst hb
        cases ho : ops[i']? with
        | none => rw [ho] at h; simp at h
        | some o =>
          rw [ho] at h
          obtain ⟨h1, _⟩ := h
          obtain ⟨n, hn, hb⟩ := Array.any_eq_true.1 h1
          simp only [Bool.and_eq_true, beq_iff_eq] at hb
          exact ⟨o, o.after[n], rfl, by simp, hb.1, hb.2⟩
      | succ j => exact ih h.2 j a b (by simpa using ha) (by simpa using hb)
theorem idxOf_some {ns : List Nat} {i j : Nat} (h : ns.idxOf? i = some j) : ns[j]? = some i := by
  rw [List.idxOf?, List.findIdx?_eq_some_iff_getElem] at h
  obtain ⟨hj, h1, _⟩ := h
  rw [List.getElem?_eq_getElem hj]
  simpa using h1
theorem idxOf_none {ns : List Nat} {i : Nat} (h : ns.idxOf? i = none) : ns.contains i = false := by
  rw [List.idxOf?, List.findIdx?_eq_none_iff] at h
  cases hc : ns.contains i with
  | false => rfl
  | true =>
    rw [List.contains_iff_mem] at hc
    have := h i hc
    simp at this
theorem nodup_at {ns : List Nat} (h : ns.Nodup) {a b i : Nat} (h1 : ns[a]? = some i) (h2 : ns[b]? = some i) : a = b := by
  obtain ⟨ha, ea⟩ := List.getElem?_eq_some_iff.1 h1
  obtain ⟨hb, eb⟩ := List.getElem?_eq_some_iff.1 h2
  have := List.pairwise_iff_getElem.1 h
  rcases Nat.lt_trichotomy a b with h' | h' | h'
  · exact absurd (ea.trans eb.symm) (this a b ha hb h')
  · exact h'
  · exact absurd (eb.trans ea.symm) (this b a hb ha h')
/-- A region that draws its order, whose noisy operations (ns) stand in one row: St tells of the world behind the first so many of them, by their values; C is what holds all along. -/
theorem any_region_chain {P : Program} {Q : Exit → Act → World → Prop} {ops : Array Oper} {a0 : Act} {w : World} (A : (Nat → Value) → Act) (hA : ∀ x, fillFrom x 0 ops.toList a0 = A x) 
    (φ : Nat → Value → Prop) (St : List Value → World → Prop) (C : World → Prop) (ns : List Nat) (hC : ∀ vs w, St vs w → C w)
    (hok : eachOk a0.tmps.size 0 ops.toList [] = true) (hch : chainOk ops ns = true) (hnd : ns.Nodup) (hlt : ∀ i ∈ ns, i < ops.size) (h0 : St [] w.drew) (hsteps : chainGoals P Q ops A φ St C ns 0 ops.toList)
    (hend : ∀ x w, allPhi φ x 0 ops.size → St (ns.map x) w → Q .normal (A x) w) :
    wpAny P .any ops Q ops.size (Array.replicate ops.size false) a0 w.drew := by
  let J : (Nat → Option Value) → World → Prop := fun s w => ∃ vs : List Value, vs.length ≤ ns.length ∧ (∀ (j i : Nat), ns[j]? = some i → s i = vs[j]?) ∧ St vs w
  refine any_region_each φ J ns hok ⟨[], by simp, fun j i _ => by simp, h0⟩ (stepsGoal_of _ _ (fun i o ho => ?_)) (fun x w hφ hJ => ?_)
  · rw [Nat.zero_add]
    have hg := chainGoals_at ops.toList 0 hsteps i o ho
    rw [Nat.zero_add] at hg
    intro x s w hd hsx hs hJ
    obtain ⟨hd', hdn⟩ := depsC_of _ hd
    obtain ⟨vs, hvl, hvs, hSt⟩ := hJ
    rw [hA]
    unfold chainGoal at hg
    cases hi : ns.idxOf? i with
    | none =>
      rw [hi] at hg
      have hni := idxOf_none hi
      have hg := hg x w hd' (hC _ _ hSt)
      split
      · rename_i hw
        rw [if_pos hw] at hg
        intro K hK
        refine hg K (fun v hv => hK v w hv ?_) (fun v w' hv hst => hK v w' hv ?_)
        · rw [hni]; exact ⟨vs, hvl, hvs, hSt⟩
        · rw [hni]; exact ⟨vs, hvl, hvs, hst _ hSt⟩
      · rename_i hw
        rw [if_neg hw] at hg
        refine ⟨hg, ?_⟩
        rw [hni]; exact ⟨vs, hvl, hvs, hSt⟩
    | some j =>
      rw [hi] at hg
      have hji := idxOf_some hi
      have hjl : j < ns.length := (List.getElem?_eq_some_iff.1 hji).1
      have hci : ns.contains i = true := by rw [List.contains_iff_mem]; exact List.mem_of_getElem? hji
      -- so many values are there
      have hle : vs.length ≤ j := by
        rcases Nat.lt_or_ge j vs.length with h' | h'
        · have := hvs j i hji
          rw [hs, List.getElem?_eq_getElem h'] at this; cases this
        · exact h'
      have hge : j ≤ vs.length := by
        cases j with
        | zero => exact Nat.zero_le _
        | succ j =>
          have hj' : j < ns.length := by omega
          have ha : ns[j]? = some ns[j] := List.getElem?_eq_getElem hj'
          obtain ⟨o', e, ho', he, hb, hon⟩ := chainOk_at ns hch j _ i ha hji
          have : o' = o := by
            have h1 : ops[i]? = some o := by simpa using ho
            rw [h1] at ho'; exact (Option.some.inj ho').symm
          subst this
          have hsn := hdn e he hb (by rw [hon, List.contains_iff_mem]; exact List.getElem_mem hj')
          have := hvs j _ ha
          rw [← hon, hsn] at this
          have := (List.getElem?_eq_some_iff.1 this.symm).1
          omega
      have hlen : vs.length = j := by omega
      have hx' : vs = valsAt ns x j := by
        apply List.ext_getElem?
        intro k
        unfold valsAt
        rw [List.getElem?_map, List.getElem?_take]
        rcases Nat.lt_or_ge k j with hk | hk
        · rw [if_pos hk]
          have hkn : k < ns.length := by omega
          rw [List.getElem?_eq_getElem hkn]
          have := hvs k _ (List.getElem?_eq_getElem hkn)
          have hkv : k < vs.length := by omega
          rw [List.getElem?_eq_getElem hkv] at this ⊢
          simp [hsx _ _ this]
        · rw [if_neg (by omega), List.getElem?_eq_none (by omega)]; rfl
      rw [hx'] at hSt
      have hg := hg x w hd' hSt
      have next : ∀ v, (∀ (j' i' : Nat), ns[j']? = some i' → updO s i v i' = (valsAt ns x j ++ [v])[j']?) := by
        intro v j' i' hj'
        rw [← hx']
        have hj'l : j' < ns.length := (List.getElem?_eq_some_iff.1 hj').1
        unfold updO
        rcases Nat.lt_trichotomy j' j with h1 | h1 | h1
        · rw [if_neg (fun e => by
            subst e
            have := nodup_at hnd hj' hji
            omega), hvs j' i' hj', List.getElem?_append_left (by omega)]
        · subst h1
          rw [hji] at hj'
          simp only [Option.some.injEq] at hj'
          rw [if_pos hj'.symm, List.getElem?_append_right (by omega), hlen, Nat.sub_self]; rfl
        · rw [if_neg (fun e => by
            subst e
            have := nodup_at hnd hj' hji
            omega), hvs j' i' hj', List.getElem?_eq_none (by omega), List.getElem?_eq_none (by simp; omega)]
      have hl' : ∀ v : Value, (valsAt ns x j ++ [v]).length ≤ ns.length := fun v => by rw [← hx']; simp; omega
      split
      · rename_i hw
        rw [if_pos hw] at hg
        intro K hK
        exact hg K (fun v w' hv hst => hK v w' hv ⟨_, hl' v, next v, hst⟩)
      · rename_i hw
        rw [if_neg hw] at hg
        refine ⟨hg.1, ?_⟩
        exact ⟨_, hl' _, next _, hg.2⟩
  · rw [hA]
    refine hend x w hφ ?_
    obtain ⟨vs, hvl, hvs, hSt⟩ := hJ
    have e : vs = ns.map x := by
      apply List.ext_getElem?
      intro k
      rw [List.getElem?_map]
      rcases Nat.lt_or_ge k ns.length with hk | hk
      · have := hvs k _ (List.getElem?_eq_getElem hk)
        simp only at this
        rw [if_pos ⟨hlt _ (List.getElem_mem hk), by rw [List.contains_iff_mem]; exact List.getElem_mem hk⟩] at this
        rw [← this, List.getElem?_eq_getElem hk]; rfl
      · rw [List.getElem?_eq_none (by omega), List.getElem?_eq_none hk]; rfl
    rw [← e]; exact hSt
theorem wp_region_chain {P : Program} {Q : Exit → Act → World → Prop} {id : Nat} {ops : Array Oper} {a0 : Act} {w : World} (A : (Nat → Value) → Act) (hA : ∀ x, fillFrom x 0 ops.toList a0 = A x) (hm : P.follows .mixedOrders = true)
    (φ : Nat → Value → Prop) (St : List Value → World → Prop) (C : World → Prop) (ns : List Nat) (hC : ∀ vs w, St vs w → C w)
    (hok : eachOk a0.tmps.size 0 ops.toList [] = true) (hch : chainOk ops ns = true) (hnd : ns.Nodup) (hlt : ∀ i ∈ ns, i < ops.size) (h0 : St [] w.drew) (hsteps : chainGoals P Q ops A φ St C ns 0 ops.toList)
    (hend : ∀ x w, allPhi φ x 0 ops.size → St (ns.map x) w → Q .normal (A x) w) :
    (Code.region id ops true).wp P Q a0 w :=
  wp_region_any hm (any_region_chain A hA φ St C ns hC hok hch hnd hlt h0 hsteps hend)

/-! ### one operation -/
theorem wp_run {P : Program} {o : Oper} {a : Act} {w w' : World} {v : Value} {K : Act → World → Prop} {Q : Exit → Act → World → Prop} (h : (execOp a.eval o).run P w = .ok (.value v) w') (hk : K (a.put o.dst v) w') : o.wp P a w K Q := by
  unfold Oper.wp; rw [h]; exact hk
theorem wp_calls {P : Program} {o : Oper} {a : Act} {w : World} {f : FuncId} {args : Array Value} {R : Ending → World → Prop} {K : Act → World → Prop} {Q : Exit → Act → World → Prop} (h : (execOp a.eval o).run P w = .ok (.enter f args) w)
    (hc : Calls P f args w R) (hk : ∀ e w', R e w' → ∃ v, e = .returned v ∧ K (a.put o.dst v) w') : o.wp P a w K Q := by
  unfold Oper.wp
  rw [h]
  refine hc.mono (fun e w' hr => ?_)
  obtain ⟨v, rfl, hv⟩ := hk e w' hr
  exact hv
def oneCellDesc : TypeDesc → Bool
  | .struct _ | .array _ _ => false
  | _ => true
theorem w_load {P : Program} {o : Oper} {a : Act} {w : World} {ty : TypeId} {x : Operand} {ad : Addr} {v : Value} {d : TypeDesc} {K : Act → World → Prop} {Q : Exit → Act → World → Prop} (hu : P.underlying ty = some d) (hd : oneCellDesc d = true) (ho : o.op = .load ty x) (hx : a.eval x = .pointer (some ad)) (hc : w.cell? ad = some v)
    (hk : K (a.put o.dst v) w) : o.wp P a w K Q := by
  refine wp_run ?_ hk
  unfold execOp
  simp only [ho, hx]
  cases d <;> simp [oneCellDesc] at hd <;> simp [Instr.loadAt, Instr.sureAddr, loadVar, isAgg, underlying, hu, Result.andThen, hc]
def phiL (l : List (Value → Prop)) (k : Nat) (v : Value) : Prop := (l[k]?).elim True (fun p => p v)
theorem depsC_get {φ : Nat → Value → Prop} {x : Nat → Value} : ∀ {l : List Edge}, depsC φ x l → ∀ (k : Nat), (l.any fun e => Region.binds .any e && e.on == k) = true → φ k (x k) := by
  intro l
  induction l with
  | nil => intro _ k h; simp at h
  | cons e r ih =>
    intro h k hk
    rw [List.any_cons, Bool.or_eq_true] at hk
    rcases hk with hk | hk
    · simp only [Bool.and_eq_true, beq_iff_eq] at hk
      have h1 := h.1
      rw [hk.1, hk.2] at h1
      exact h1
    · exact ih h.2 k hk
theorem allPhi_get {φ : Nat → Value → Prop} {x : Nat → Value} : ∀ {n i : Nat}, allPhi φ x i n → ∀ (k : Nat), i ≤ k → k < i + n → φ k (x k) := by
  intro n
  induction n with
  | zero => intro i _ k h1 h2; omega
  | succ n ih =>
    intro i h k h1 h2
    rcases Nat.eq_or_lt_of_le h1 with rfl | h3
    · exact h.1
    · exact ih h.2 k h3 (by omega)
end Go.Proofs.YtdhobpbngkainaaGreatDoor
/-
  Ours. The records in plain words: numbers of some bytes, the sum, frames, what stands at the front of bytes. No condition; no program.
-/
namespace Go.Proofs.YtdhobpbngkainaaGreatDoor

abbrev Bs := List UInt8

/-! ### the sum -/
def crcBit (c : Nat) : Nat := (c / 2) ^^^ (c % 2 * 3988292384)
def crcBits : Nat → Nat → Nat
  | 0, c => c
  | n + 1, c => crcBits n (crcBit c)
def crcByte (c : Nat) (x : UInt8) : Nat := crcBits 8 (c ^^^ x.toNat)
def crcFrom (c : Nat) (b : Bs) : Nat := b.foldl crcByte c
def sumOf (k : UInt8) (b : Bs) : Nat := 4294967295 ^^^ crcFrom (crcByte 4294967295 k) b

theorem xor_lt32 {a b : Nat} (ha : a < 4294967296) (hb : b < 4294967296) : a ^^^ b < 4294967296 := Nat.xor_lt_two_pow (n := 32) ha hb
theorem crcBit_lt {c : Nat} (h : c < 4294967296) : crcBit c < 4294967296 := by
  unfold crcBit
  refine xor_lt32 (by omega) ?_
  have : c % 2 < 2 := Nat.mod_lt _ (by omega)
  have h2 : c % 2 * 3988292384 ≤ 1 * 3988292384 := Nat.mul_le_mul_right _ (by omega)
  omega
theorem crcBits_lt (n : Nat) : ∀ {c : Nat}, c < 4294967296 → crcBits n c < 4294967296 := by
  induction n with
  | zero => intro c h; exact h
  | succ n ih => intro c h; exact ih (crcBit_lt h)
theorem crcBits_succ' (n : Nat) : ∀ c, crcBits (n + 1) c = crcBit (crcBits n c) := by
  induction n with
  | zero => intro c; rfl
  | succ n ih => intro c; rw [crcBits, ih]; rfl
theorem u8_lt32 (x : UInt8) : x.toNat < 4294967296 := by have := UInt8.toNat_lt x; omega
theorem crcByte_lt {c : Nat} (h : c < 4294967296) (x : UInt8) : crcByte c x < 4294967296 := crcBits_lt 8 (xor_lt32 h (u8_lt32 x))
theorem crcFrom_lt (b : Bs) : ∀ {c : Nat}, c < 4294967296 → crcFrom c b < 4294967296 := by
  induction b with
  | nil => intro c h; exact h
  | cons x r ih => intro c h; exact ih (crcByte_lt h x)
theorem sumOf_lt (k : UInt8) (b : Bs) : sumOf k b < 4294967296 := xor_lt32 (by omega) (crcFrom_lt b (crcByte_lt (by omega) k))

theorem xor_left_inj {a b c : Nat} (h : a ^^^ b = a ^^^ c) : b = c := by
  have := congrArg (a ^^^ ·) h
  simpa [← Nat.xor_assoc] using this
theorem crcBit_inj {a b : Nat} (ha : a < 4294967296) (hb : b < 4294967296) (h : crcBit a = crcBit b) : a = b := by
  unfold crcBit at h
  have bit : ∀ c, c < 4294967296 → ((c / 2) ^^^ (c % 2 * 3988292384)).testBit 31 = decide (c % 2 = 1) := by
    intro c hc
    rw [Nat.testBit_xor, Nat.testBit_lt_two_pow (show c / 2 < 2 ^ 31 by omega)]
    rcases Nat.mod_two_eq_zero_or_one c with h0 | h0
    · rw [h0]; decide
    · rw [h0]; decide
  have e := bit a ha
  rw [h, bit b hb] at e
  have em : a % 2 = b % 2 := by
    rcases Nat.mod_two_eq_zero_or_one a with h0 | h0 <;> rcases Nat.mod_two_eq_zero_or_one b with h1 | h1 <;> simp [h0, h1] at e ⊢
  rw [em, Nat.xor_comm (a / 2), Nat.xor_comm (b / 2)] at h
  have := xor_left_inj h
  omega
theorem crcBits_inj (n : Nat) : ∀ {a b : Nat}, a < 4294967296 → b < 4294967296 → crcBits n a = crcBits n b → a = b := by
  induction n with
  | zero => intro a b _ _ h; exact h
  | succ n ih => intro a b ha hb h; exact crcBit_inj ha hb (ih (crcBit_lt ha) (crcBit_lt hb) h)
theorem crcByte_inj_c {a b : Nat} (ha : a < 4294967296) (hb : b < 4294967296) (x : UInt8) (h : crcByte a x = crcByte b x) : a = b := by
  have := crcBits_inj 8 (xor_lt32 ha (u8_lt32 x)) (xor_lt32 hb (u8_lt32 x)) h
  rw [Nat.xor_comm a, Nat.xor_comm b] at this
  exact xor_left_inj this
theorem crcByte_inj_x {a : Nat} (ha : a < 4294967296) {x y : UInt8} (h : crcByte a x = crcByte a y) : x = y :=
  UInt8.toNat_inj.1 (xor_left_inj (crcBits_inj 8 (xor_lt32 ha (u8_lt32 x)) (xor_lt32 ha (u8_lt32 y)) h))
theorem crcFrom_inj (b : Bs) : ∀ {a c : Nat}, a < 4294967296 → c < 4294967296 → crcFrom a b = crcFrom c b → a = c := by
  induction b with
  | nil => intro a c _ _ h; exact h
  | cons x r ih => intro a c ha hc h; exact crcByte_inj_c ha hc x (ih (crcByte_lt ha x) (crcByte_lt hc x) h)
/-- One byte that is another one is told by the sum. -/
theorem sumOf_other (k : UInt8) (p r : Bs) {x y : UInt8} (h : sumOf k (p ++ x :: r) = sumOf k (p ++ y :: r)) : x = y := by
  have h0 : crcByte 4294967295 k < 4294967296 := crcByte_lt (by omega) k
  have hp := crcFrom_lt p h0
  have e := xor_left_inj h
  unfold crcFrom at e hp
  rw [List.foldl_append, List.foldl_append] at e
  exact crcByte_inj_x hp (crcFrom_inj r (crcByte_lt hp x) (crcByte_lt hp y) e)
theorem sumOf_kind (b : Bs) {k l : UInt8} (h : sumOf k b = sumOf l b) : k = l :=
  crcByte_inj_x (by omega) (crcFrom_inj b (crcByte_lt (by omega) k) (crcByte_lt (by omega) l) (xor_left_inj h))

/-! ### numbers of some bytes -/
def be : Nat → Nat → Bs
  | _, 0 => []
  | n, k + 1 => UInt8.ofNat (n / 256 ^ k) :: be n k
def beNat (b : Bs) : Nat := b.foldl (fun n x => n * 256 + x.toNat) 0
theorem be_length (n k : Nat) : (be n k).length = k := by
  induction k with
  | zero => rfl
  | succ k ih => simp [be, ih]
theorem beNat_go (b : Bs) : ∀ a, b.foldl (fun n x => n * 256 + x.toNat) a = a * 256 ^ b.length + beNat b := by
  unfold beNat
  induction b with
  | nil => intro a; simp
  | cons x r ih =>
    intro a
    simp only [List.foldl_cons, List.length_cons]
    rw [ih (a * 256 + x.toNat), ih (0 * 256 + x.toNat), Nat.pow_succ]
    rw [Nat.zero_mul, Nat.zero_add, Nat.add_mul, Nat.mul_assoc, Nat.mul_comm 256, Nat.add_assoc]
theorem beNat_cons (x : UInt8) (r : Bs) : beNat (x :: r) = x.toNat * 256 ^ r.length + beNat r := by
  have := beNat_go r x.toNat
  unfold beNat at *
  simpa using this
theorem beNat_be (n k : Nat) : beNat (be n k) = n % 256 ^ k := by
  induction k with
  | zero => simp [be, beNat, Nat.mod_one]
  | succ k ih =>
    rw [be, beNat_cons, ih, be_length, UInt8.toNat_ofNat']
    have e : n % 256 ^ (k + 1) = n % 256 ^ k + 256 ^ k * (n / 256 ^ k % 256) := by rw [Nat.pow_succ, Nat.mod_mul]
    rw [e, Nat.mul_comm, Nat.add_comm]
theorem beNat_lt (b : Bs) : beNat b < 256 ^ b.length := by
  induction b with
  | nil => simp [beNat]
  | cons x r ih =>
    rw [beNat_cons, List.length_cons, Nat.pow_succ]
    have := UInt8.toNat_lt x
    have h1 : x.toNat * 256 ^ r.length ≤ 255 * 256 ^ r.length := Nat.mul_le_mul_right _ (by omega)
    have h2 : (256 : Nat) ^ r.length * 256 = 255 * 256 ^ r.length + 256 ^ r.length := by omega
    omega
theorem beNat_snoc (b : Bs) (x : UInt8) : beNat (b ++ [x]) = beNat b * 256 + x.toNat := by simp [beNat, List.foldl_append]

/-! ### frames -/
def sizeOf' (n : Nat) : Nat := n + 9
def frame (k : UInt8) (body : Bs) : Bs := (k :: be body.length 2) ++ be (65535 - body.length % 65536) 2 ++ body ++ be (sumOf k body) 4
theorem frame_length (k : UInt8) (body : Bs) : (frame k body).length = body.length + 9 := by simp [frame, be_length]; omega

/-- What stands at the front of bytes: the kind, the body, how many bytes the record has. -/
def openR (b : Bs) : Option (UInt8 × Bs × Nat) :=
  if b.length < 9 then none
  else if b.getD 0 0 = 0 then none
  else
    let n := (b.getD 1 0).toNat * 256 + (b.getD 2 0).toNat
    if n ≠ (255 - (b.getD 3 0).toNat) * 256 + (255 - (b.getD 4 0).toNat) then none
    else if b.length < n + 9 then none
    else
      let body := (b.drop 5).take n
      if beNat ((b.drop (5 + n)).take 4) ≠ sumOf (b.getD 0 0) body then none
      else some (b.getD 0 0, body, n + 9)

theorem be2 (n : Nat) : be n 2 = [UInt8.ofNat (n / 256), UInt8.ofNat n] := by simp [be]
set_option maxRecDepth 10000 in
theorem openR_frame (k : UInt8) (body rest : Bs) (hk : k ≠ 0) (hl : body.length < 65536) : openR (frame k body ++ rest) = some (k, body, body.length + 9) := by
  have e : frame k body ++ rest = k :: UInt8.ofNat (body.length / 256) :: UInt8.ofNat body.length :: UInt8.ofNat ((65535 - body.length) / 256) :: UInt8.ofNat (65535 - body.length) :: (body ++ (be (sumOf k body) 4 ++ rest)) := by
    unfold frame
    rw [be2, be2, Nat.mod_eq_of_lt hl]
    generalize be (sumOf k body) 4 = s
    generalize 65535 - body.length = z
    simp only [List.cons_append, List.nil_append, List.append_assoc]
  have hn : (UInt8.ofNat (body.length / 256)).toNat * 256 + (UInt8.ofNat body.length).toNat = body.length := by
    rw [UInt8.toNat_ofNat', UInt8.toNat_ofNat']; omega
  have hm : (255 - (UInt8.ofNat ((65535 - body.length) / 256)).toNat) * 256 + (255 - (UInt8.ofNat (65535 - body.length)).toNat) = body.length := by
    obtain ⟨z, hz, hz2⟩ : ∃ z, 65535 - body.length = z ∧ z + body.length = 65535 := ⟨_, rfl, by omega⟩
    rw [hz, UInt8.toNat_ofNat', UInt8.toNat_ofNat']; omega
  rw [e]
  unfold openR
  simp only [List.length_cons, List.length_append, be_length, List.getD_cons_zero, List.getD_cons_succ]
  rw [if_neg (by omega), if_neg hk]
  simp only [hn, hm]
  rw [if_neg (by simp), if_neg (by omega)]
  have d1 : List.drop 5 (k :: UInt8.ofNat (body.length / 256) :: UInt8.ofNat body.length :: UInt8.ofNat ((65535 - body.length) / 256) :: UInt8.ofNat (65535 - body.length) :: (body ++ (be (sumOf k body) 4 ++ rest))) = body ++ (be (sumOf k body) 4 ++ rest) := rfl
  rw [← List.drop_drop, d1, List.take_left' rfl, List.drop_left' rfl, List.take_left' (be_length _ _), beNat_be, Nat.mod_eq_of_lt (sumOf_lt k body)]
  simp
theorem openR_some {b : Bs} {k : UInt8} {body : Bs} {n : Nat} (h : openR b = some (k, body, n)) : k ≠ 0 ∧ n = body.length + 9 ∧ n ≤ b.length ∧ body = (b.drop 5).take (n - 9) ∧ body.length < 65536 := by
  unfold openR at h
  split at h
  · cases h
  split at h
  · cases h
  simp only at h
  split at h
  · cases h
  split at h
  · cases h
  split at h
  · cases h
  rename_i h1 h2 h3 h4 h5
  simp only [Option.some.injEq, Prod.mk.injEq] at h
  obtain ⟨rfl, rfl, rfl⟩ := h
  have := UInt8.toNat_lt (b.getD 1 0)
  have := UInt8.toNat_lt (b.getD 2 0)
  have hl : ((b.drop 5).take ((b.getD 1 0).toNat * 256 + (b.getD 2 0).toNat)).length = (b.getD 1 0).toNat * 256 + (b.getD 2 0).toNat := by
    rw [List.length_take, List.length_drop, Nat.min_eq_left]; omega
  exact ⟨h2, by rw [hl], Nat.le_of_not_lt h4, by rw [Nat.add_sub_cancel], by rw [hl]; omega⟩

end Go.Proofs.YtdhobpbngkainaaGreatDoor
/-
  Ours. Rows of bytes as cells; small lemmas on slices that read as lists.
-/
namespace Go.Proofs.YtdhobpbngkainaaGreatDoor
open Go.RowKit

section
variable {α : Type} (enc : α → Value)
theorem take_succ_eq {xs ys : List α} {k : Nat} (h : xs.take k = ys.take k) (hx : k < xs.length) (hy : k < ys.length) (he : xs[k] = ys[k]) : xs.take (k + 1) = ys.take (k + 1) := by
  rw [List.take_succ_eq_append_getElem hx, List.take_succ_eq_append_getElem hy, h, he]
theorem cellsAt_map {w : World} {a : Option Addr} {xs : List α} (h : CellsAt w a (xs.map enc)) (hp : 0 < xs.length) : ∃ g off, a = some ⟨g, off, none⟩ ∧ ∀ j (h : j < xs.length), w.cell? ⟨g, off + j, none⟩ = some (enc (xs[j]'h)) := by
  obtain ⟨g, off, ha, hc⟩ := h (by simpa using hp)
  exact ⟨g, off, ha, fun j hj => by rw [hc j (by simpa using hj)]; simp⟩
end

theorem infoByte : (Tryz.prog.info? 5).map (fun i => (i.zero, i.size, i.bytes)) = some (some (.int .u8 0), 1, 1) := by kernel_rfl
/-- The cells of a row of bytes. -/
def row8 (l : List UInt8) : Array Value := (l.map enc8).toArray
theorem row8_get (l : List UInt8) (j : Nat) (h : j < l.length) : (row8 l)[j]? = some (enc8 l[j]) := by simp [row8, h]
theorem row8_set (l : List UInt8) (j : Nat) (x : UInt8) : (row8 l).setIfInBounds j (enc8 x) = row8 (l.set j x) := by
  apply Array.ext'; simp [row8, List.map_set]

end Go.Proofs.YtdhobpbngkainaaGreatDoor
/-
  Ours. record.number, record.text: they append; the sum's walk.
-/
namespace Go.Proofs.YtdhobpbngkainaaGreatDoor
open Go.RowKit

/-! ### a row of bytes of one's own -/
def bRow (v : Value) (l : Bs) : HF := rowF 5 1 v l.length (l.map enc8)
def bOk (v : Value) (l : Bs) : Prop := RowOk 1 v l.length (l.map enc8)
theorem bOwns {w : World} {v : Value} {l : Bs} (h : Sat w (bRow v l)) (k : bOk v l) : w.ownsRow 0 5 1 v l.length (l.map enc8) := owns_of_row h k
/-- What an appending call leaves: a row in the old one's place. -/
def AppPost (v : Value) (l l' : Bs) (w : World) (e : Ending) (w' : World) : Prop := ∃ v', e = .returned v' ∧ bOk v' l' ∧ Turns (bRow v l) (bRow v' l') w w'
theorem bRow_nil : bRow (.slice none 0 0) [] = [] := rfl
theorem bOk_nil : bOk (.slice none 0 0) [] := ⟨rfl, fun _ => ⟨rfl, rfl⟩⟩

/-- Numbers of some bytes, of whatever sign. -/
def beI : Int → Nat → Bs
  | _, 0 => []
  | n, k + 1 => UInt8.ofNat (n / 256 ^ k % 256).toNat :: beI n k
theorem beI_length (n : Int) (k : Nat) : (beI n k).length = k := by
  induction k with
  | zero => rfl
  | succ k ih => simp [beI, ih]
theorem beI_drop (n : Int) (k j : Nat) (h : j ≤ k) : (beI n k).drop (k - j) = beI n j := by
  induction k with
  | zero => obtain rfl : j = 0 := by omega
            rfl
  | succ k ih =>
    by_cases e : j = k + 1
    · subst e; simp
    · rw [show k + 1 - j = (k - j) + 1 by omega, beI, List.drop_succ_cons]; exact ih (by omega)
theorem beI_take_succ (n : Int) (k j : Nat) (h : j + 1 ≤ k) : (beI n k).take (k - j) = (beI n k).take (k - (j + 1)) ++ [UInt8.ofNat (n / 256 ^ j % 256).toNat] := by
  have hl : k - (j + 1) < (beI n k).length := by rw [beI_length]; omega
  rw [show k - j = (k - (j + 1)) + 1 by omega, List.take_succ_eq_append_getElem hl]
  congr 2
  have hd := beI_drop n k (j + 1) h
  rw [List.drop_eq_getElem_cons hl, beI] at hd
  exact (List.cons.inj hd).1
theorem beI_nat (n k : Nat) : beI (n : Int) k = be n k := by
  induction k with
  | zero => rfl
  | succ k ih =>
    rw [beI, be, ih]
    congr 1
    apply UInt8.toNat_inj.1
    rw [UInt8.toNat_ofNat', UInt8.toNat_ofNat']
    have : ((n : Int) / 256 ^ k % 256).toNat = n / 256 ^ k % 256 := by
      have e : ((n : Int) / 256 ^ k % 256) = ((n / 256 ^ k % 256 : Nat) : Int) := by simp
      exact (congrArg Int.toNat e).trans (Int.toNat_natCast _)
    rw [this]; omega
theorem beI_not (n : Nat) : beI (-(n : Int) - 1) 2 = be (65535 - n % 65536) 2 := by
  have e1 : ((-(n : Int) - 1) / 256 ^ 1 % 256).toNat = (65535 - n % 65536) / 256 % 256 := by omega
  have e2 : ((-(n : Int) - 1) / 256 ^ 0 % 256).toNat = (65535 - n % 65536) % 256 := by omega
  simp only [beI, be, e1, e2, Nat.pow_one, Nat.pow_zero, Nat.div_one]
  congr 1
  · apply UInt8.toNat_inj.1; rw [UInt8.toNat_ofNat', UInt8.toNat_ofNat']; omega
  · congr 1
    apply UInt8.toNat_inj.1; rw [UInt8.toNat_ofNat', UInt8.toNat_ofNat']; omega

def NumRel (v0 : Value) (l : Bs) (n : Int) (m : Nat) (w : World) (v i : Value) (wr : World) : Prop :=
  ∃ j : Nat, j ≤ m ∧ i = .int .i64 ((j : Int) - 1) ∧ bOk v (l ++ (beI n m).take (m - j)) ∧ Turns (bRow v0 l) (bRow v (l ++ (beI n m).take (m - j))) w wr

/-- A byte more in a row of one's own. -/
theorem bRow_grow {F G : HF} {a w w' : World} {v v' : Value} {l : Bs} {o : Obj} {x : UInt8} {y : Value} (hT : Turns F (bRow v l ++ G) a w) (hx : y = enc8 x)
    (hown : w'.ownsRow 0 5 1 v' (l.length + 1) (l.map enc8 ++ [y])) (hgrow : (w.alloc o).grownBy w' v.ownBlock)
    (hg : ∀ g, v'.ownBlock = some g → v.ownBlock = some g ∨ (w.alloc o).heap.size ≤ g) : bOk v' (l ++ [x]) ∧ Turns F (bRow v' (l ++ [x]) ++ G) a w' := by
  subst hx
  have e : l.map enc8 ++ [enc8 x] = (l ++ [x]).map enc8 := by simp
  have en : l.length + 1 = (l ++ [x]).length := by simp
  rw [e, en] at hown
  exact ⟨(row_of_owns hown).2, (hT.alloc o).grow hown hgrow hg⟩
theorem numRel_next {v0 v v' : Value} {l : Bs} {n : Int} {m j : Nat} {w wr w3 : World} {o : Obj} {y : Value} (h0 : 0 < j) (hj : j ≤ m) (hT : Turns (bRow v0 l) (bRow v (l ++ (beI n m).take (m - j))) w wr)
    (hown : w3.ownsRow 0 5 1 v' ((l ++ (beI n m).take (m - j)).length + 1) ((l ++ (beI n m).take (m - j)).map enc8 ++ [y])) (hy : y = .int .u8 (n / 2 ^ (8 * (j - 1)) % 256)) (hgrow : (wr.alloc o).grownBy w3 v.ownBlock)
    (hg : ∀ g, v'.ownBlock = some g → v.ownBlock = some g ∨ (wr.alloc o).heap.size ≤ g) (i : Value) (hi : i = .int .i64 ((j : Int) - 1 - 1)) : NumRel v0 l n m w v' i w3 := by
  have hx : y = enc8 (UInt8.ofNat (n / 256 ^ (j - 1) % 256).toNat) := by
    rw [hy]
    have e2 : (2 : Int) ^ (8 * (j - 1)) = 256 ^ (j - 1) := by rw [Int.pow_mul]; rfl
    rw [e2]
    generalize n / 256 ^ (j - 1) = q
    simp only [enc8, UInt8.toNat_ofNat']
    congr 1; omega
  have e : (beI n m).take (m - (j - 1)) = (beI n m).take (m - j) ++ [UInt8.ofNat (n / 256 ^ (j - 1) % 256).toNat] := by
    have := beI_take_succ n m (j - 1) (by omega)
    rwa [show j - 1 + 1 = j by omega] at this
  have hT' : Turns (bRow v0 l) (bRow v (l ++ (beI n m).take (m - j)) ++ []) w wr := by simpa using hT
  obtain ⟨h1, h2⟩ := bRow_grow hT' hx hown hgrow hg
  refine ⟨j - 1, by omega, by rw [hi]; congr 1; omega, ?_, ?_⟩
  · rw [e, ← List.append_assoc]; exact h1
  · rw [e, ← List.append_assoc]; simpa using h2

set_option maxHeartbeats 1000000 in
set_option maxRecDepth 100000 in
theorem number_calls (v : Value) (l : Bs) (n : Int) (m : Nat) (w : World) (hm : m ≤ 8) (hl : l.length ≤ 1099511627776) (hn1 : -9223372036854775808 ≤ n) (hn2 : n ≤ 9223372036854775807) (h : Sat w (bRow v l)) (hv : bOk v l) :
    Calls Tryz.prog 127 #[v, .int .i64 n, .int .i64 m] w (AppPost v l (l ++ beI n m) w) := by
  have H := Lib.hid (And.intro h hv)
  clear h hv
  go_enter Tryz.func127, Tryz.ntmps127
  go_wp2
  go_loopw [0, 7] (fun v' i wr => NumRel v l n m w v' i wr) (fun _ i _ => (intOf i + 1).toNat)
  case atStart => exact ⟨m, Nat.le_refl _, rfl, by simpa using H.out.2, by simpa using Turns.refl H.out.1⟩
  case round =>
    obtain ⟨j, hj, rfl, hok, hT⟩ := hrel
    by_cases hlt : 0 < j
    · obtain ⟨i0, hi0, hz1, hz2, hz3⟩ := info_parts infoByte
      have HT := Lib.hid (And.intro hok hT)
      have hown := bOwns hT.sat hok
      have HO := Lib.hid hown
      have HI := Lib.hid (And.intro hi0 (And.intro hz1 (And.intro hz2 hz3)))
      clear hok hT hown hi0 hz1 hz2 hz3
      go_wp2_with (refine wpList_append_fp _ rfl _ _ 38 rfl 5 i0 (.int .u8 0) 1 1 Tryz.underlying38 HI.out.1 HI.out.2.1 HI.out.2.2.1 HI.out.2.2.2 rfl (by decide) _ _ _ rfl (HO.out.alloc _) ⟨wr.heap.size, 0, none⟩ 1 1 [_] rfl rfl (cell_one_new _ _ _) (by simp [Value.oneCell']) (by unfold maxLen; simp; omega) (by simp; omega) ?_; intro v' w3 hown' hgrow _ hgb)
      exact ⟨numRel_next hlt hj HT.out.2 hown' rfl hgrow hgb _ rfl, by simp [intOf]; omega⟩
    · obtain rfl : j = 0 := by omega
      have HT := Lib.hid (And.intro hok hT)
      clear hok hT
      go_wp2
      go_ret
      obtain ⟨hok, hT⟩ := HT.out
      rw [Nat.sub_zero, List.take_of_length_le (by rw [beI_length]; omega)] at hok hT
      exact ⟨_, rfl, hok, hT⟩
end Go.Proofs.YtdhobpbngkainaaGreatDoor
/-
  Ours. record.Sum answers the sum of a kind and bytes.
-/
namespace Go.Proofs.YtdhobpbngkainaaGreatDoor
open Go.RowKit

theorem bits_xor32 (a b : Nat) (ha : a < 4294967296) (hb : b < 4294967296) : bits BinOp.xor IntKind.u32 (a : Int) (b : Int) = ((a ^^^ b : Nat) : Int) := by
  have e1 : (BitVec.ofInt 32 (a : Int)).toNat = a := by rw [BitVec.ofInt_natCast, BitVec.toNat_ofNat]; exact Nat.mod_eq_of_lt (by omega)
  have e2 : (BitVec.ofInt 32 (b : Int)).toNat = b := by rw [BitVec.ofInt_natCast, BitVec.toNat_ofNat]; exact Nat.mod_eq_of_lt (by omega)
  show IntKind.u32.wrap ((BitVec.ofInt 32 (a : Int) ^^^ BitVec.ofInt 32 (b : Int)).toNat : Int) = _
  rw [BitVec.toNat_xor, e1, e2, IntKind.wrap_u32]
  have := xor_lt32 ha hb
  omega
theorem bits_and1 (a : Nat) (ha : a < 4294967296) : bits BinOp.and IntKind.u32 (a : Int) 1 = ((a % 2 : Nat) : Int) := by
  have e1 : (BitVec.ofInt 32 (a : Int)).toNat = a := by rw [BitVec.ofInt_natCast, BitVec.toNat_ofNat]; exact Nat.mod_eq_of_lt (by omega)
  show IntKind.u32.wrap ((BitVec.ofInt 32 (a : Int) &&& BitVec.ofInt 32 (1 : Int)).toNat : Int) = _
  rw [BitVec.toNat_and, e1, show (BitVec.ofInt 32 (1 : Int)).toNat = 1 from rfl, Nat.and_one_is_mod, IntKind.wrap_u32]
  omega

def CrcCell (w : World) (b : Nat) (c : Nat) : Prop := w.heap[b]? = some (.cells #[.int .u32 c] 116 (0, 0))
def AddPost (b c : Nat) (x : UInt8) (w : World) (e : Ending) (w' : World) : Prop := e = .returned (.tuple #[]) ∧ CrcCell w' b (crcByte c x) ∧ Mods (fun k => k = b) w w'
theorem crcBits_next (k c : Nat) : crcBits (k + 1) c = (crcBits k c / 2) ^^^ (crcBits k c % 2 * 3988292384) := by rw [crcBits_succ']; rfl

theorem crc_close {wr : World} {b q : Nat} (h : CrcCell wr b q) (hq : q < 4294967296) : CrcCell (wr.setCell ⟨b, 0, none⟩ (.int .u32 (bits BinOp.xor IntKind.u32 ((q : Int) / 2) ((q : Int) % 2 * 3988292384)))) b ((q / 2) ^^^ (q % 2 * 3988292384)) := by
  have hm : q % 2 < 2 := Nat.mod_lt _ (by omega)
  have h2 := bits_xor32 (q / 2) (q % 2 * 3988292384) (by omega) (by omega)
  have e : ((q : Int) % 2 * 3988292384) = ((q % 2 * 3988292384 : Nat) : Int) := by omega
  have e2 : ((q : Int) / 2) = ((q / 2 : Nat) : Int) := by omega
  rw [e, e2, h2]
  exact set_same h 0 _

set_option maxHeartbeats 1000000 in
set_option maxRecDepth 100000 in
theorem Sum1_calls (b c : Nat) (x : UInt8) (w : World) (hc : c < 4294967296) (h : CrcCell w b c) : Calls Tryz.prog 150 #[.int .u8 x.toNat, .pointer (some ⟨b, 0, none⟩)] w (AddPost b c x w) := by
  have h0 := cell_at h 0 (v := .int .u32 c) (by simp)
  have f0 := free_at h 0
  have hx := bits_xor32 c x.toNat hc (u8_lt32 x)
  have hx2 := u8_lt32 x
  have hx3 := UInt8.toNat_lt x
  have H := Lib.hid h
  clear h
  go_enter Tryz.func150, Tryz.ntmps150
  go_wp2
  clear hx h0 f0
  go_loopw [7] (fun i wr => ∃ k : Nat, k ≤ 8 ∧ i = .int .i64 k ∧ CrcCell wr b (crcBits k (c ^^^ x.toNat)) ∧ Mods (fun k => k = b) w wr) (fun i _ => 8 - (intOf i).toNat)
  case atStart => exact ⟨0, by omega, rfl, set_same H.out 0 _, (Mods.refl (fun k => k = b) w).set1 _⟩
  case round =>
    obtain ⟨k, hk, rfl, hcell, hM⟩ := hrel
    by_cases hlt : k < 8
    · have hlt32 := crcBits_lt k (xor_lt32 hc hx2)
      have hnx := crcBits_next k (c ^^^ x.toNat)
      have hc0 := cell_at hcell 0 (v := .int .u32 (crcBits k (c ^^^ x.toNat))) (by simp)
      have hf0 := free_at hcell 0
      have HC := Lib.hid (And.intro hcell hM)
      have HN := Lib.hid hnx
      clear hcell hM hnx
      generalize crcBits k (c ^^^ x.toNat) = q at *
      have h1 := bits_and1 q hlt32
      have hm : q % 2 < 2 := Nat.mod_lt _ (by omega)
      go_wp2
      exact ⟨⟨k + 1, by omega, by go_num, by rw [HN.out]; exact crc_close HC.out.1 hlt32, HC.out.2.set1 _⟩, by simp [intOf]; omega⟩
    · obtain rfl : k = 8 := by omega
      have HC := Lib.hid (And.intro hcell hM)
      clear hcell hM
      go_wp2
      go_end0
      exact ⟨rfl, HC.out.1, HC.out.2⟩
def SumPost (k : UInt8) (l : Bs) (w : World) (e : Ending) (w' : World) : Prop := e = .returned (.int .u32 (sumOf k l)) ∧ Same w w'
def SumRel (k : UInt8) (l : Bs) (w : World) (i : Value) (wr : World) : Prop :=
  ∃ j : Nat, j ≤ l.length ∧ i = .int .i64 j ∧ CrcCell wr w.heap.size (crcFrom (crcByte 4294967295 k) (l.take j)) ∧ Same w wr
theorem crcFrom_take {c : Nat} {l : Bs} {j : Nat} (h : j < l.length) : crcFrom c (l.take (j + 1)) = crcByte (crcFrom c (l.take j)) l[j] := by
  unfold crcFrom; rw [List.take_succ_eq_append_getElem h, List.foldl_append]; rfl
theorem sum_end {k : UInt8} {l : Bs} : bits BinOp.xor IntKind.u32 IntKind.u32.max ((crcFrom (crcByte 4294967295 k) l : Nat) : Int) = (sumOf k l : Nat) := by
  have := bits_xor32 4294967295 (crcFrom (crcByte 4294967295 k) l) (by omega) (crcFrom_lt l (crcByte_lt (by omega) k))
  exact this
set_option maxHeartbeats 1000000 in
set_option maxRecDepth 100000 in
theorem Sum_calls (a : Option Addr) (cap : Nat) (k : UInt8) (l : Bs) (w : World) (h : CellsAt w a (l.map enc8)) (hl : l.length ≤ 1099511627776) : Calls Tryz.prog 128 #[.int .u8 k.toNat, .slice a l.length cap] w (SumPost k l w) := by
  have H := Lib.hid h
  have hk := UInt8.toNat_lt k
  have HS := Lib.hid (fun (w1 : World) (hc : CrcCell w1 w.heap.size 4294967295) => Sum1_calls w.heap.size 4294967295 k w1 (by omega) hc)
  clear h
  go_enter Tryz.func128, Tryz.ntmps128
  go_wp2_with fail
  refine (HS.out _ (alloc_new w _)).mono ?_
  rintro e w1 ⟨rfl, hc1, hM1⟩
  have HM := Lib.hid (show SumRel k l w (.int .i64 0) w1 from ⟨0, Nat.zero_le _, rfl, by simpa [crcFrom] using hc1, ((Mods.refl _ w).alloc _).trans' hM1 (fun i hi => .inr (by omega))⟩)
  clear hc1 hM1 HS
  go_wp2_with fail
  go_loopw [15] (fun i wr => SumRel k l w i wr) (fun i _ => l.length - (intOf i).toNat)
  case atStart => exact HM.out
  case round =>
    obtain ⟨j, hj, rfl, hcell, hs⟩ := hrel
    by_cases hlt : j < l.length
    · obtain ⟨g, off, rfl, hc⟩ := (H.out.keep hs (fun _ _ _ => id)) (by simp; omega)
      have hcj := hc j (by simpa using hlt)
      simp only [List.getElem_map] at hcj
      unfold enc8 at hcj
      have hlt32 : crcFrom (crcByte 4294967295 k) (l.take j) < 4294967296 := crcFrom_lt _ (crcByte_lt (by omega) k)
      have HC := Lib.hid (Sum1_calls w.heap.size _ l[j] wr hlt32 hcell)
      have HT := Lib.hid (And.intro (crcFrom_take (c := crcByte 4294967295 k) hlt) hs)
      clear hc hcell hs HM H
      go_wp2_with fail
      refine HC.out.mono ?_
      rintro e w2 ⟨rfl, hc2, hM2⟩
      have HF := Lib.hid (And.intro hc2 (HT.out.2.trans' hM2 (fun i hi => .inr (by omega))))
      clear hc2 hM2 hcj HC
      go_wp2_with fail
      exact ⟨⟨j + 1, by omega, by go_num, by rw [HT.out.1]; exact HF.out.1, HF.out.2⟩, by simp [intOf]; omega⟩
    · obtain rfl : j = l.length := by omega
      rw [List.take_length] at hcell
      have hc0 := cell_at hcell 0 (v := .int .u32 (crcFrom (crcByte 4294967295 k) l)) (by simp)
      have hse := sum_end (k := k) (l := l)
      have HF := Lib.hid hs
      clear hs hcell HM H
      go_wp2_with fail
      go_ret
      exact ⟨rfl, HF.out⟩
end Go.Proofs.YtdhobpbngkainaaGreatDoor
