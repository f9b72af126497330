/-
  Ours. Maps, entry by entry: look-up, store, entry, delete; over any key type of which the reader can read the keys.
-/
import Derived.Test.YtdhobpbngkainaaGreatDoorMo03
import Derived.Maps.Keyed
import Derived.Test.YtdhobpbngkainaaGreatDoorMo07
import Derived.Maps.OwnOps
import Derived.LaidEqlPtr
namespace Go.Proofs.YtdhobpbngkainaaGreatDoor
open Go.RowKit Go.Maps

structure Ent (κ : Type) where
  key : κ
  val : Value
  born : Nat
section
variable {κ : Type} [DecidableEq κ]
set_option linter.unusedSectionVars false
def entE (enc : κ → Value) (e : Ent κ) : MapEntry := ⟨enc e.key, e.val, e.born⟩
def mapO (enc : κ → Value) (l : List (Ent κ)) (c : Nat) : Obj := .map (l.map (entE enc)).toArray c
def getE (l : List (Ent κ)) (k : κ) : Option Value := (l.find? (fun e => decide (e.key = k))).map (·.val)
def hasE (l : List (Ent κ)) (k : κ) : Bool := l.any (fun e => decide (e.key = k))
def setE (l : List (Ent κ)) (k : κ) (v : Value) : List (Ent κ) := l.map (fun e => if e.key = k then { e with val := v } else e)
def putE (l : List (Ent κ)) (c : Nat) (k : κ) (v : Value) : List (Ent κ) := if hasE l k then setE l k v else l ++ [⟨k, v, c⟩]
def putC (l : List (Ent κ)) (c : Nat) (k : κ) : Nat := if hasE l k then c else c + 1
def delE (l : List (Ent κ)) (k : κ) : List (Ent κ) := l.filter (fun e => !decide (e.key = k))
structure MapOk (Ok : κ → Prop) (l : List (Ent κ)) (c : Nat) : Prop where
  nodup : (l.map (·.key)).Nodup
  borns : (l.map (·.born)).Nodup
  lt : ∀ e ∈ l, e.born < c
  ok : ∀ e ∈ l, Ok e.key
structure EncOk (P : Program) (k : TypeId) (enc : κ → Value) (Ok : κ → Prop) : Prop where
  keyed : Keyed P k
  inj : ∀ a b, enc a = enc b → a = b
  key : ∀ a, Ok a → ∃ l, keyOf P k (enc a) = some l

theorem getE_some {l : List (Ent κ)} {k : κ} {v : Value} (h : getE l k = some v) : ∃ e ∈ l, e.key = k ∧ e.val = v := by
  unfold getE at h
  cases hf : l.find? (fun e => decide (e.key = k)) with
  | none => rw [hf] at h; simp at h
  | some e =>
    rw [hf] at h
    have h1 := List.find?_some hf
    exact ⟨e, List.mem_of_find?_eq_some hf, by simpa using h1, by simpa using h⟩
theorem getE_none {l : List (Ent κ)} {k : κ} : getE l k = none ↔ ∀ e ∈ l, e.key ≠ k := by
  unfold getE
  simp
theorem hasE_iff {l : List (Ent κ)} {k : κ} : hasE l k = true ↔ ∃ e ∈ l, e.key = k := by simp [hasE]
theorem hasE_get {l : List (Ent κ)} {k : κ} : hasE l k = (getE l k).isSome := by
  cases h : getE l k with
  | none => rw [getE_none] at h; simp [hasE]; exact h
  | some v => obtain ⟨e, h1, h2, _⟩ := getE_some h; simp [hasE]; exact ⟨e, h1, h2⟩
theorem nodup_key {l : List (Ent κ)} (h : (l.map (·.key)).Nodup) {i j : Nat} {a b : Ent κ} (ha : l[i]? = some a) (hb : l[j]? = some b) (hk : a.key = b.key) : i = j := by
  obtain ⟨hi, rfl⟩ := List.getElem?_eq_some_iff.1 ha
  obtain ⟨hj, rfl⟩ := List.getElem?_eq_some_iff.1 hb
  have hp := List.pairwise_iff_getElem.1 h
  rcases Nat.lt_trichotomy i j with hl | hl | hl
  · exact absurd (by rw [List.getElem_map, List.getElem_map]; exact hk) (hp i j (by simpa using hi) (by simpa using hj) hl)
  · exact hl
  · exact absurd (by rw [List.getElem_map, List.getElem_map]; exact hk.symm) (hp j i (by simpa using hj) (by simpa using hi) hl)
theorem getE_mem {l : List (Ent κ)} (h : (l.map (·.key)).Nodup) {e : Ent κ} (he : e ∈ l) : getE l e.key = some e.val := by
  cases hg : getE l e.key with
  | none => exact absurd rfl (getE_none.1 hg e he)
  | some v =>
    obtain ⟨e', h1, h2, h3⟩ := getE_some hg
    obtain ⟨i, hi⟩ := List.mem_iff_getElem?.1 he
    obtain ⟨j, hj⟩ := List.mem_iff_getElem?.1 h1
    have := nodup_key h hj hi h2
    subst this
    rw [hi] at hj
    cases hj
    rw [← h3]

/-- Either there is none, or it is this one. -/
theorem find_ent {P : Program} {k : TypeId} {enc : κ → Value} {Ok : κ → Prop} (E : EncOk P k enc Ok) {l : List (Ent κ)} {c : Nat} (hm : MapOk Ok l c) {x : κ} (hx : Ok x) (w : World) :
    ((Instr.findKey k (enc x) (l.map (entE enc))).run P w = .ok none w ∧ ∀ e ∈ l, e.key ≠ x) ∨
    ∃ i e, (Instr.findKey k (enc x) (l.map (entE enc))).run P w = .ok (some (i, e.val)) w ∧ l[i]? = some e ∧ e.key = x := by
  obtain ⟨lx, hlx⟩ := E.key x hx
  rcases E.keyed.find w hlx (l.map (entE enc)) (fun e he => by
    obtain ⟨e', h1, rfl⟩ := List.mem_map.1 he
    exact E.key e'.key (hm.ok e' h1)) with ⟨h1, h2⟩ | ⟨j, e, h1, h2, h3⟩
  · exact .inl ⟨h1, fun e he hk => h2 (entE enc e) (List.mem_map.2 ⟨e, he, rfl⟩) (by rw [← hk]; rfl)⟩
  · rw [List.getElem?_map] at h2
    cases hl : l[j]? with
    | none => rw [hl] at h2; simp at h2
    | some e' =>
      rw [hl] at h2
      simp only [Option.map_some, Option.some.injEq] at h2
      subst h2
      exact .inr ⟨j, e', h1, hl, E.inj _ _ h3⟩
variable {P : Program} {k t ev : TypeId} {enc : κ → Value} {Ok : κ → Prop}

theorem run_look (E : EncOk P k enc Ok) (ht : P.underlying t = some (.map k ev)) {w : World} {b : Nat} {l : List (Ent κ)} {c : Nat} (hb : w.heap[b]? = some (mapO enc l c)) (hm : MapOk Ok l c) {z : Value} (hz : (zeroValue ev).run P w = .ok z w) {x : κ} (hx : Ok x) :
    (Instr.lookup t (.map (some b)) (enc x) false).run P w = .ok ((getE l x).getD z) w := by
  obtain ⟨lx, hlx⟩ := E.key x hx
  rcases find_ent E hm hx w with ⟨h1, h2⟩ | ⟨i, e, h1, h2, h3⟩
  · rw [getE_none.2 h2]
    simp [Instr.lookup, run_underlying ht, MapKept.run_getObj_map hb, E.keyed.check w _ hlx, h1, hz, Result.andThen]
  · subst h3
    rw [getE_mem hm.nodup (List.mem_of_getElem? h2)]
    simp [Instr.lookup, run_underlying ht, MapKept.run_getObj_map hb, E.keyed.check w _ hlx, h1, Result.andThen]
theorem run_lookOk (E : EncOk P k enc Ok) (ht : P.underlying t = some (.map k ev)) {w : World} {b : Nat} {l : List (Ent κ)} {c : Nat} (hb : w.heap[b]? = some (mapO enc l c)) (hm : MapOk Ok l c) {z : Value} (hz : (zeroValue ev).run P w = .ok z w) {x : κ} (hx : Ok x) :
    (Instr.lookup t (.map (some b)) (enc x) true).run P w = .ok (.tuple #[(getE l x).getD z, .bool (hasE l x)]) w := by
  obtain ⟨lx, hlx⟩ := E.key x hx
  rw [hasE_get]
  rcases find_ent E hm hx w with ⟨h1, h2⟩ | ⟨i, e, h1, h2, h3⟩
  · rw [getE_none.2 h2]
    simp [Instr.lookup, run_underlying ht, MapKept.run_getObj_map hb, E.keyed.check w _ hlx, h1, hz, Result.andThen]
  · subst h3
    rw [getE_mem hm.nodup (List.mem_of_getElem? h2)]
    simp [Instr.lookup, run_underlying ht, MapKept.run_getObj_map hb, E.keyed.check w _ hlx, h1, Result.andThen]
open Go.ChangeMaps (setBlock modify_eq_set)
theorem setE_at {l : List (Ent κ)} (h : (l.map (·.key)).Nodup) {i : Nat} {e : Ent κ} (hi : l[i]? = some e) (v : Value) : l.set i { e with val := v } = setE l e.key v := by
  apply List.ext_getElem?
  intro j
  unfold setE
  rw [List.getElem?_set, List.getElem?_map]
  by_cases hj : i = j
  · subst hj
    obtain ⟨hlt, he⟩ := List.getElem?_eq_some_iff.1 hi
    simp [hi, hlt, he]
  · rw [if_neg hj]
    cases hl : l[j]? with
    | none => rfl
    | some e' =>
      have : e'.key ≠ e.key := fun hk => hj (nodup_key h hi hl hk.symm)
      simp [this]
theorem run_mapUp (E : EncOk P k enc Ok) (ht : P.underlying t = some (.map k ev)) {w : World} {b : Nat} {l : List (Ent κ)} {c : Nat} (hb : w.heap[b]? = some (mapO enc l c)) (hm : MapOk Ok l c) {x : κ} (hx : Ok x) (v : Value) :
    (Instr.mapUpdate t (.map (some b)) (enc x) v).run P w = .ok () (setBlock w b (mapO enc (putE l c x v) (putC l c x))) := by
  obtain ⟨lx, hlx⟩ := E.key x hx
  unfold putE putC
  rcases find_ent E hm hx w with ⟨h1, h2⟩ | ⟨i, e, h1, h2, h3⟩
  · have hh : hasE l x = false := by rw [hasE_get, getE_none.2 h2]; rfl
    simp [hh, Instr.mapUpdate, run_underlying ht, MapKept.run_getObj_map hb, E.keyed.check w false hlx, h1, MapKept.run_setObj_map _ hb, Result.andThen, setBlock, mapO, entE]
  · subst h3
    have hh : hasE l e.key = true := hasE_iff.2 ⟨e, List.mem_of_getElem? h2, rfl⟩
    have hj : (l.map (entE enc)).toArray[i]? = some (entE enc e) := by simp [h2]
    have hlist : (l.map (entE enc)).modify i (fun e' => { e' with key := enc e.key, val := v }) = (setE l e.key v).map (entE enc) := by
      rw [modify_eq_set _ _ _ (entE enc e) (by simp [h2]), ← setE_at hm.nodup h2 v, List.map_set]
      rfl
    simp [hh, Instr.mapUpdate, run_underlying ht, MapKept.run_getObj_map hb, E.keyed.check w false hlx, h1, h2, entE, E.keyed.stays w hlx, MapKept.run_setObj_map _ hb, Result.andThen, setBlock, mapO]
    rw [← hlist]
theorem run_del {ty : TypeId} (E : EncOk P k enc Ok) (ht : P.underlying t = some (.map k ev)) {w : World} {b : Nat} {l : List (Ent κ)} {c : Nat} (hb : w.heap[b]? = some (mapO enc l c)) (hm : MapOk Ok l c) {x : κ} (hx : Ok x) :
    (Builtin.delete_ #[t, k] ty #[.map (some b), enc x]).run P w = .ok (.tuple #[]) (setBlock w b (mapO enc (delE l x) c)) := by
  obtain ⟨lx, hlx⟩ := E.key x hx
  unfold delE
  rcases find_ent E hm hx w with ⟨h1, h2⟩ | ⟨i, e, h1, h2, h3⟩
  · have : l.filter (fun e => !decide (e.key = x)) = l := List.filter_eq_self.2 (fun e he => by simp [h2 e he])
    rw [this]
    simp [Builtin.delete_, run_underlying ht, MapKept.run_getObj_map hb, E.keyed.check w _ hlx, h1, MapKept.run_setObj_map _ hb, Result.andThen, setBlock, mapO]
  · subst h3
    have hil : i < l.length := (List.getElem?_eq_some_iff.1 h2).1
    have hlist : (l.map (entE enc)).eraseIdx i = (l.filter (fun e' => !decide (e'.key = e.key))).map (entE enc) := by
      have e1 : l.filter (fun e' => !decide (e'.key = e.key)) = l.eraseIdx i := by
        have := ChangeMaps.filter_eq_eraseIdx (fun e' : Ent κ => decide (e'.key = e.key)) l i e h2 (by simp) (by
          refine (List.pairwise_map.1 hm.nodup).imp ?_
          intro a b hab hk
          simp only [decide_eq_true_eq] at hk
          exact hab (hk.1.trans hk.2.symm))
        exact this
      rw [e1, ChangeMaps.map_eraseIdx]
    simp [Builtin.delete_, run_underlying ht, MapKept.run_getObj_map hb, E.keyed.check w _ hlx, h1, MapKept.run_setObj_map _ hb, Result.andThen, setBlock, mapO]
    rw [← hlist]
theorem asInt_run (P : Program) (w : World) (k : IntKind) (n : Int) : (asInt (.int k n)).run P w = .ok n w := rfl
def midE (l : List (Ent κ)) (c : Nat) (k : κ) (z : Value) : List (Ent κ) := if hasE l k then l else l ++ [⟨k, z, c⟩]
theorem findIdx_born {l : List (Ent κ)} (h : (l.map (·.born)).Nodup) (enc : κ → Value) {i : Nat} {e : Ent κ} (hi : l[i]? = some e) : (l.map (entE enc)).findIdx? (fun e' => (e'.born : Int) == (e.born : Int)) = some i := by
  obtain ⟨hlt, he⟩ := List.getElem?_eq_some_iff.1 hi
  rw [List.findIdx?_eq_some_iff_getElem]
  refine ⟨by simpa using hlt, by simp [entE, he], ?_⟩
  intro j hj
  simp only [List.getElem_map, entE, beq_iff_eq, Int.natCast_inj]
  intro hb
  have hp := List.pairwise_iff_getElem.1 h j i (by simp; omega) (by simpa using hlt) hj
  exact hp (by simp [hb, he])
/-- The stamp of the entry that is found or made. -/
def bornE (l : List (Ent κ)) (c : Nat) (k : κ) : Nat := match l.find? (fun e => decide (e.key = k)) with | some e => e.born | none => c
theorem bornE_none {l : List (Ent κ)} {c : Nat} {k : κ} (h : ∀ e ∈ l, e.key ≠ k) : bornE l c k = c := by
  unfold bornE
  have : l.find? (fun e => decide (e.key = k)) = none := by rw [List.find?_eq_none]; intro e he; simpa using h e he
  rw [this]
theorem bornE_some {l : List (Ent κ)} {c : Nat} (h : (l.map (·.key)).Nodup) {i : Nat} {e : Ent κ} (hi : l[i]? = some e) : bornE l c e.key = e.born := by
  unfold bornE
  cases hf : l.find? (fun e' => decide (e'.key = e.key)) with
  | none => rw [List.find?_eq_none] at hf; exact absurd (hf e (List.mem_of_getElem? hi)) (by simp)
  | some e' =>
    obtain ⟨j, hj⟩ := List.mem_iff_getElem?.1 (List.mem_of_find?_eq_some hf)
    have hk : e'.key = e.key := by simpa using List.find?_some hf
    have := nodup_key h hj hi hk
    subst this
    rw [hi] at hj
    cases hj
    rfl
/-- The entry is found or made; what is stored into it then. -/
theorem run_mapEn (E : EncOk P k enc Ok) (ht : P.underlying t = some (.map k ev)) {w : World} {b : Nat} {l : List (Ent κ)} {c : Nat} (hb : w.heap[b]? = some (mapO enc l c)) (hm : MapOk Ok l c) {z : Value} (hz : (zeroValue ev).run P w = .ok z w) {x : κ} (hx : Ok x) :
    (Instr.mapEntry t (.map (some b)) (enc x)).run P w = .ok (.tuple #[(getE l x).getD z, .int .i64 (bornE l c x)]) (setBlock w b (mapO enc (midE l c x z) (putC l c x))) ∧
      ∀ (W : World) (v : Value), W.heap[b]? = some (mapO enc (midE l c x z) (putC l c x)) → (Instr.entryStore t (.map (some b)) (.int .i64 (bornE l c x)) v).run P W = .ok () (setBlock W b (mapO enc (putE l c x v) (putC l c x))) := by
  obtain ⟨lx, hlx⟩ := E.key x hx
  unfold putE putC midE
  rcases find_ent E hm hx w with ⟨h1, h2⟩ | ⟨i, e, h1, h2, h3⟩
  · have hh : hasE l x = false := by rw [hasE_get, getE_none.2 h2]; rfl
    rw [getE_none.2 h2, bornE_none h2]
    refine ⟨?_, ?_⟩
    · simp [hh, Instr.mapEntry, run_underlying ht, MapKept.run_getObj_map hb, E.keyed.check w false hlx, h1, hz, MapKept.run_setObj_map _ hb, Result.andThen, setBlock, mapO, entE, goInt]
    · intro W v hW
      simp only [hh] at hW ⊢
      have hn : ((l ++ [(⟨x, z, c⟩ : Ent κ)]).map (·.born)).Nodup := by
        rw [List.map_append, List.nodup_append]
        refine ⟨hm.borns, by simp, ?_⟩
        intro a ha b hb
        obtain ⟨e, he, rfl⟩ := List.mem_map.1 ha
        simp only [List.map_cons, List.map_nil, List.mem_singleton] at hb
        have := hm.lt e he
        omega
      have hf := findIdx_born hn enc (i := l.length) (e := ⟨x, z, c⟩) (by simp)
      have hf2 : ((l ++ [(⟨x, z, c⟩ : Ent κ)]).map (entE enc)).toArray.findIdx? (fun e' => (e'.born : Int) == (c : Int)) = some l.length := by simpa using hf
      have hmod : ((l ++ [(⟨x, z, c⟩ : Ent κ)]).map (entE enc)).modify l.length (fun e' => { e' with val := v }) = (l ++ [(⟨x, v, c⟩ : Ent κ)]).map (entE enc) := by
        rw [modify_eq_set _ _ _ (entE enc ⟨x, z, c⟩) (by simp)]
        simp [entE]
      have hW2 : W.heap[b]? = some (.map ((l ++ [(⟨x, z, c⟩ : Ent κ)]).map (entE enc)).toArray (c + 1)) := hW
      unfold mapO
      simp only [Bool.false_eq_true, if_false]
      rw [← hmod]
      unfold Instr.entryStore
      simp only [Sem.run_bind, MapKept.run_getObj_map hW2, Result.andThen, asInt_run, hf2]
      rw [MapKept.run_setObj_map _ hW2]
      simp [setBlock]
  · subst h3
    have hh : hasE l e.key = true := hasE_iff.2 ⟨e, List.mem_of_getElem? h2, rfl⟩
    rw [getE_mem hm.nodup (List.mem_of_getElem? h2), bornE_some hm.nodup h2]
    refine ⟨?_, ?_⟩
    · have hlist : (l.map (entE enc)).modify i (fun e' => { e' with key := enc e.key }) = l.map (entE enc) := by
        rw [modify_eq_set _ _ _ (entE enc e) (by simp [h2])]
        have : ({ entE enc e with key := enc e.key } : MapEntry) = entE enc e := rfl
        rw [this]
        apply List.ext_getElem?
        intro j
        rw [List.getElem?_set]
        by_cases hj : i = j
        · subst hj
          obtain ⟨hlt, he⟩ := List.getElem?_eq_some_iff.1 h2
          simp [hlt, he]
        · simp [hj]
      simp [hh, Instr.mapEntry, run_underlying ht, MapKept.run_getObj_map hb, E.keyed.check w false hlx, h1, h2, entE, E.keyed.stays w hlx, MapKept.run_setObj_map _ hb, Result.andThen, setBlock, mapO, goInt]
      rw [hlist]
    · intro W v hW
      simp only [hh, if_true] at hW ⊢
      have hf := findIdx_born hm.borns enc h2
      have hf2 : (l.map (entE enc)).toArray.findIdx? (fun e' => (e'.born : Int) == (e.born : Int)) = some i := by simpa using hf
      have hmod : (l.map (entE enc)).modify i (fun e' => { e' with val := v }) = (setE l e.key v).map (entE enc) := by
        rw [modify_eq_set _ _ _ (entE enc e) (by simp [h2]), ← setE_at hm.nodup h2 v, List.map_set]
        rfl
      have hW2 : W.heap[b]? = some (.map (l.map (entE enc)).toArray c) := hW
      unfold mapO
      rw [← hmod]
      unfold Instr.entryStore
      simp only [Sem.run_bind, MapKept.run_getObj_map hW2, Result.andThen, asInt_run, hf2]
      rw [MapKept.run_setObj_map _ hW2]
      simp [setBlock]

/-! What a store leaves. -/
theorem putE_keys {l : List (Ent κ)} {c : Nat} {x : κ} {v : Value} : (putE l c x v).map (·.key) = if hasE l x then l.map (·.key) else l.map (·.key) ++ [x] := by
  unfold putE
  split
  · unfold setE; rw [List.map_map]; apply List.map_congr_left; intro e _; simp only [Function.comp]; split <;> rfl
  · simp
theorem MapOk.put {l : List (Ent κ)} {c : Nat} (h : MapOk Ok l c) {x : κ} (hx : Ok x) (v : Value) : MapOk Ok (putE l c x v) (putC l c x) := by
  unfold putE putC
  cases hh : hasE l x with
  | true =>
    simp only [if_true]
    have hb : (setE l x v).map (·.born) = l.map (·.born) := by
      unfold setE; rw [List.map_map]; apply List.map_congr_left; intro e _; simp only [Function.comp]; split <;> rfl
    have hk : (setE l x v).map (·.key) = l.map (·.key) := by
      unfold setE; rw [List.map_map]; apply List.map_congr_left; intro e _; simp only [Function.comp]; split <;> rfl
    refine ⟨hk ▸ h.nodup, hb ▸ h.borns, ?_, ?_⟩
    · intro e he
      obtain ⟨e', h1, rfl⟩ := List.mem_map.1 he
      have := h.lt e' h1
      split <;> exact this
    · intro e he
      obtain ⟨e', h1, rfl⟩ := List.mem_map.1 he
      have := h.ok e' h1
      split <;> exact this
  | false =>
    simp only [Bool.false_eq_true, if_false]
    have hn : ∀ e ∈ l, e.key ≠ x := fun e he hk => by
      have := hasE_iff.2 ⟨e, he, hk⟩
      rw [hh] at this
      cases this
    refine ⟨?_, ?_, ?_, ?_⟩
    · rw [List.map_append, List.nodup_append]
      refine ⟨h.nodup, by simp, ?_⟩
      intro a ha b hb
      obtain ⟨e, he, rfl⟩ := List.mem_map.1 ha
      simp only [List.map_cons, List.map_nil, List.mem_singleton] at hb
      exact hb ▸ hn e he
    · rw [List.map_append, List.nodup_append]
      refine ⟨h.borns, by simp, ?_⟩
      intro a ha b hb
      obtain ⟨e, he, rfl⟩ := List.mem_map.1 ha
      simp only [List.map_cons, List.map_nil, List.mem_singleton] at hb
      have := h.lt e he
      omega
    · intro e he
      rcases List.mem_append.1 he with h' | h'
      · have := h.lt e h'; omega
      · simp only [List.mem_singleton] at h'; subst h'; simp
    · intro e he
      rcases List.mem_append.1 he with h' | h'
      · exact h.ok e h'
      · simp only [List.mem_singleton] at h'; subst h'; exact hx
theorem MapOk.del {l : List (Ent κ)} {c : Nat} (h : MapOk Ok l c) (x : κ) : MapOk Ok (delE l x) c :=
  ⟨h.nodup.sublist (List.filter_sublist.map _), h.borns.sublist (List.filter_sublist.map _), fun e he => h.lt e (List.mem_filter.1 he).1, fun e he => h.ok e (List.mem_filter.1 he).1⟩
theorem getE_append {l m : List (Ent κ)} {k : κ} : getE (l ++ m) k = (getE l k).or (getE m k) := by
  unfold getE
  rw [List.find?_append]
  cases l.find? (fun e => decide (e.key = k)) <;> simp
theorem getE_putE {l : List (Ent κ)} {c : Nat} {x y : κ} {v : Value} : getE (putE l c x v) y = if y = x then some v else getE l y := by
  unfold putE
  cases hh : hasE l x with
  | true =>
    simp only [if_true]
    have : ∀ l : List (Ent κ), getE (setE l x v) y = if y = x then (getE l x).map (fun _ => v) else getE l y := by
      intro l
      induction l with
      | nil => simp [getE, setE]
      | cons e r ih =>
        simp only [getE, setE, List.map_cons, List.find?_cons] at ih ⊢
        by_cases h1 : e.key = x
        · by_cases h2 : y = x
          · subst h2; simp [h1]
          · simp only [h1, if_true, h2, if_false]
            have h3 : decide (x = y) = false := by simp; exact fun h => h2 h.symm
            rw [h3]
            simp only [h2, if_false] at ih
            exact ih
        · simp only [h1, if_false]
          by_cases h4 : e.key = y
          · have h2 : ¬ y = x := fun h => h1 (h4.trans h)
            simp [h4, h2]
          · simp only [h4, decide_false]
            rw [ih]
    rw [this]
    rw [hasE_get] at hh
    by_cases h2 : y = x
    · subst h2
      rw [if_pos rfl, if_pos rfl]
      cases hg : getE l y with
      | none => rw [hg] at hh; cases hh
      | some u => rfl
    · rw [if_neg h2, if_neg h2]
  | false =>
    simp only [Bool.false_eq_true, if_false]
    rw [getE_append]
    have hn : getE l x = none := by rw [hasE_get] at hh; cases hg : getE l x <;> simp_all
    by_cases h2 : y = x
    · subst h2; rw [hn]; simp [getE]
    · rw [if_neg h2]
      have : getE [(⟨x, v, c⟩ : Ent κ)] y = none := getE_none.2 (by simp; exact fun h => h2 h.symm)
      rw [this]; simp
theorem getE_delE {l : List (Ent κ)} {x y : κ} : getE (delE l x) y = if y = x then none else getE l y := by
  unfold delE
  induction l with
  | nil => simp [getE]
  | cons e r ih =>
    simp only [getE, List.filter_cons, List.find?_cons] at ih ⊢
    by_cases h1 : e.key = x
    · simp only [h1, decide_true, Bool.not_true, Bool.false_eq_true, if_false]
      rw [ih]
      by_cases h2 : y = x
      · simp [h2]
      · have : decide (x = y) = false := by simp; exact fun h => h2 h.symm
        simp [h2, this]
    · simp only [h1, decide_false, Bool.not_false, if_true, List.find?_cons]
      by_cases h4 : e.key = y
      · have h2 : ¬ y = x := fun h => h1 (h4.trans h)
        simp [h4, h2]
      · simp only [h4, decide_false]; exact ih
theorem setBlock_mods (w : World) (b : Nat) (o : Obj) : Mods (fun k => k = b) w (setBlock w b o) := by
  have := (Mods.refl (fun k => k = b) w).putObj (r := b) (.inl rfl) o
  exact this
theorem setBlock_at {w : World} {b : Nat} {o o' : Obj} (h : w.heap[b]? = some o) : (setBlock w b o').heap[b]? = some o' := by
  have := lt_of_heap h
  simp [setBlock, this]
end
/-! ### maps whose values are described -/
structure GE (γ : Type) where
  key : Bs
  born : Nat
  val : Value
  g : γ
def entG {γ : Type} (p : GE γ) : Ent Bs := ⟨p.key, p.val, p.born⟩
def rowsG {γ : Type} (R : Value → γ → HF) (ps : List (GE γ)) : HF := ps.flatMap (fun p => R p.val p.g)
def gOf {γ : Type} (d : γ) (ps : List (GE γ)) (l : Bs) : γ := match ps.find? (fun p => decide (p.key = l)) with | some p => p.g | none => d
def valOf {γ : Type} (z : Value) (ps : List (GE γ)) (l : Bs) : Value := match ps.find? (fun p => decide (p.key = l)) with | some p => p.val | none => z
def hasG {γ : Type} (ps : List (GE γ)) (l : Bs) : Bool := ps.any (fun p => decide (p.key = l))
def othersG {γ : Type} (ps : List (GE γ)) (l : Bs) : List (GE γ) := ps.filter (fun p => !decide (p.key = l))
def setG {γ : Type} (ps : List (GE γ)) (c : Nat) (l : Bs) (v : Value) (g : γ) : List (GE γ) :=
  if hasG ps l then ps.map (fun p => if p.key = l then { p with val := v, g := g } else p) else ps ++ [⟨l, c, v, g⟩]
theorem getE_valOf {γ : Type} (z : Value) (ps : List (GE γ)) (l : Bs) : (getE (ps.map entG) l).getD z = valOf z ps l := by
  unfold valOf
  induction ps with
  | nil => rfl
  | cons p r ih =>
    unfold getE at ih ⊢
    simp only [List.map_cons, List.find?_cons]
    by_cases h : p.key = l
    · simp [entG, h]
    · simp only [entG, h, decide_false]
      exact ih
theorem hasE_ent {γ : Type} (ps : List (GE γ)) (l : Bs) : hasE (ps.map entG) l = hasG ps l := by
  unfold hasE hasG
  rw [List.any_map]; rfl
theorem setG_ent {γ : Type} (ps : List (GE γ)) (c : Nat) (l : Bs) (v : Value) (g : γ) : (setG ps c l v g).map entG = putE (ps.map entG) c l v := by
  unfold setG putE
  rw [hasE_ent]
  split
  · unfold setE
    rw [List.map_map, List.map_map]
    apply List.map_congr_left
    intro p _
    simp only [Function.comp]
    by_cases h : p.key = l
    · simp [h, entG]
    · rw [if_neg h, if_neg (by exact h)]
  · simp [entG]
theorem delG_ent {γ : Type} (ps : List (GE γ)) (l : Bs) : (othersG ps l).map entG = delE (ps.map entG) l := by
  unfold othersG delE
  rw [List.filter_map]; rfl
theorem rows_perm {γ : Type} (R : Value → γ → HF) {a b : List (GE γ)} (h : a.Perm b) : (rowsG R a).Perm (rowsG R b) := h.flatMap_right _
/-- What lies under one key, and all else. -/
theorem rows_split {γ : Type} (R : Value → γ → HF) (z : Value) (d : γ) (hR : R z d = []) : ∀ (ps : List (GE γ)) (l : Bs), (ps.map (·.key)).Nodup → (rowsG R ps).Perm (R (valOf z ps l) (gOf d ps l) ++ rowsG R (othersG ps l)) := by
  intro ps l
  induction ps with
  | nil => intro _; simp [rowsG, valOf, gOf, othersG, hR]
  | cons p r ih =>
    intro hn
    simp only [List.map_cons, List.nodup_cons] at hn
    obtain ⟨h1, h2⟩ := hn
    have ih := ih h2
    simp only [rowsG, valOf, gOf, othersG, List.flatMap_cons, List.find?_cons, List.filter_cons] at ih ⊢
    by_cases h : p.key = l
    · have hf : r.filter (fun p => !decide (p.key = l)) = r := List.filter_eq_self.2 (fun q hq => by
        simp only [Bool.not_eq_true', decide_eq_false_iff_not]
        intro hk
        exact h1 (List.mem_map.2 ⟨q, hq, hk.trans h.symm⟩))
      simp only [h, decide_true, Bool.not_true, Bool.false_eq_true, if_false, hf]
      exact List.Perm.refl _
    · simp only [h, decide_false, Bool.not_false, if_true, List.flatMap_cons]
      refine (List.Perm.append_left _ ih).trans ?_
      rw [← List.append_assoc, ← List.append_assoc]
      exact List.Perm.append_right _ List.perm_append_comm
theorem rows_set {γ : Type} (R : Value → γ → HF) : ∀ (ps : List (GE γ)) (c : Nat) (l : Bs) (v : Value) (g : γ), (ps.map (·.key)).Nodup → (rowsG R (setG ps c l v g)).Perm (R v g ++ rowsG R (othersG ps l)) := by
  intro ps c l v g hn
  unfold setG
  split
  · rename_i hh
    have key : ∀ (ps : List (GE γ)), (ps.map (·.key)).Nodup → hasG ps l = true → (rowsG R (ps.map (fun p => if p.key = l then { p with val := v, g := g } else p))).Perm (R v g ++ rowsG R (othersG ps l)) := by
      intro ps
      induction ps with
      | nil => intro _ h; simp [hasG] at h
      | cons p r ih =>
        intro hn hh
        simp only [List.map_cons, List.nodup_cons] at hn
        obtain ⟨h1, h2⟩ := hn
        by_cases h : p.key = l
        · have hne : ∀ q ∈ r, q.key ≠ l := fun q hq hk => h1 (List.mem_map.2 ⟨q, hq, hk.trans h.symm⟩)
          have hf : r.filter (fun p => !decide (p.key = l)) = r := List.filter_eq_self.2 (fun q hq => by simp [hne q hq])
          have hm : r.map (fun p => if p.key = l then { p with val := v, g := g } else p) = r := by
            conv => rhs; rw [← List.map_id r]
            exact List.map_congr_left (fun q hq => by simp [hne q hq])
          simp only [rowsG, othersG, List.map_cons, List.flatMap_cons, List.filter_cons, h, if_true, decide_true, Bool.not_true, Bool.false_eq_true, if_false, hf, hm]
          exact List.Perm.refl _
        · have hh2 : hasG r l = true := by simpa [hasG, h] using hh
          have ih := ih h2 hh2
          simp only [rowsG, othersG, List.map_cons, List.flatMap_cons, List.filter_cons, h, if_false, decide_false, Bool.not_false, if_true] at ih ⊢
          refine (List.Perm.append_left _ ih).trans ?_
          rw [← List.append_assoc, ← List.append_assoc]
          exact List.Perm.append_right _ List.perm_append_comm
    exact key ps hn hh
  · rename_i hh
    have hf : othersG ps l = ps := List.filter_eq_self.2 (fun q hq => by
      simp only [Bool.not_eq_true', decide_eq_false_iff_not]
      intro hk
      apply hh
      simp only [hasG, List.any_eq_true, decide_eq_true_eq]
      exact ⟨q, hq, hk⟩)
    rw [hf]
    unfold rowsG
    rw [List.flatMap_append]
    simpa using List.perm_append_comm
theorem ent_keys {γ : Type} (ps : List (GE γ)) : (ps.map entG).map (·.key) = ps.map (·.key) := by rw [List.map_map]; rfl
theorem setG_mem {γ : Type} {ps : List (GE γ)} {c : Nat} {l : Bs} {v : Value} {g : γ} {p : GE γ} (h : p ∈ setG ps c l v g) : (p ∈ ps ∧ p.key ≠ l) ∨ (p.key = l ∧ p.val = v ∧ p.g = g) := by
  unfold setG at h
  split at h
  · obtain ⟨q, hq, rfl⟩ := List.mem_map.1 h
    by_cases hk : q.key = l
    · exact .inr (by simp [hk])
    · rw [if_neg hk]; exact .inl ⟨hq, hk⟩
  · rename_i hh
    rcases List.mem_append.1 h with h' | h'
    · refine .inl ⟨h', fun hk => hh ?_⟩
      simp only [hasG, List.any_eq_true, decide_eq_true_eq]
      exact ⟨p, h', hk⟩
    · simp only [List.mem_singleton] at h'; subst h'; exact .inr ⟨rfl, rfl, rfl⟩
theorem gOf_setG {γ : Type} (d : γ) (ps : List (GE γ)) (c : Nat) (l m : Bs) (v : Value) (g : γ) : gOf d (setG ps c l v g) m = if m = l then g else gOf d ps m := by
  unfold setG
  split
  · rename_i hh
    have key : ∀ ps : List (GE γ), gOf d (ps.map (fun p => if p.key = l then { p with val := v, g := g } else p)) m = if m = l ∧ hasG ps l = true then g else gOf d ps m := by
      intro ps
      unfold gOf
      induction ps with
      | nil => simp [hasG]
      | cons p r ih =>
        simp only [List.map_cons, List.find?_cons]
        by_cases h : p.key = l
        · by_cases h2 : m = l
          · subst h2; simp [h, hasG]
          · have h3 : ¬ l = m := fun e => h2 e.symm
            simp only [h, if_true, h3, decide_false, h2, false_and, if_false]
            simpa [h2] using ih
        · by_cases h4 : p.key = m
          · have h2 : ¬ m = l := fun e => h (h4.trans e)
            simp [h, h4, h2]
          · simp only [h, if_false, h4, decide_false]
            rw [ih]
            simp [hasG, h]
    rw [key, hh]; simp
  · rename_i hh
    unfold gOf
    rw [List.find?_append]
    by_cases h : m = l
    · subst h
      have hn : ps.find? (fun p => decide (p.key = m)) = none := by
        rw [List.find?_eq_none]
        intro q hq hk
        apply hh
        simp only [hasG, List.any_eq_true]
        exact ⟨q, hq, hk⟩
      simp [hn]
    · have h2 : ¬ l = m := fun e => h e.symm
      simp only [List.find?_cons, h2, decide_false, List.find?_nil, Option.or_none, h, if_false]
end Go.Proofs.YtdhobpbngkainaaGreatDoor
/-
  Ours. begin: a call that speaks of paths; find.
-/
namespace Go.Proofs.YtdhobpbngkainaaGreatDoor
open Go.RowKit

abbrev errV (n : Int) : Value := .iface 49 (.int .i64 n)
def BeginPost (X : ArchL) (ps : List Bs) (w : World) (e : Ending) (w' : World) : Prop := e = .returned (if X.closed then errV 9 else if ps.all isPathB then .nilIface else errV 1) ∧ Same w w'
def BeginRel (ps : List Bs) (w : World) (i : Value) (wr : World) : Prop := ∃ k : Nat, k ≤ ps.length ∧ i = .int .i64 k ∧ Same w wr ∧ ∀ j (h : j < ps.length), j < k → isPathB ps[j] = true
set_option maxHeartbeats 1000000 in
set_option maxRecDepth 100000 in
theorem begin_calls (a : Nat) (X : ArchL) (ad : Option Addr) (cap : Nat) (ps : List Bs) (w : World) (h : w.heap[a]? = some (archO X)) (hp : CellsAt w ad (ps.map str)) (hl : ps.length ≤ 1000000) :
    Calls Tryz.prog 75 #[.pointer (some ⟨a, 0, none⟩), .slice ad ps.length cap] w (BeginPost X ps w) := by
  have a10 : w.cell? ⟨a, 10, none⟩ = some (.bool X.closed) := cell_at h 10 rfl
  have hal := lt_of_heap h
  obtain ⟨cl, hcl⟩ : ∃ cl, cl = X.closed := ⟨_, rfl⟩
  rw [← hcl] at a10
  have HC := Lib.hid (And.intro hcl (And.intro hp h))
  clear hcl hp h
  cases cl with
  | true =>
    go_enter Tryz.func75, Tryz.ntmps75
    go_wp2_with fail
    exact bodyPost_ret (results_tmp rfl _ _ _) rfl ⟨by rw [← HC.out.1]; rfl, Mods.refl _ _⟩
  | false =>
    go_enter Tryz.func75, Tryz.ntmps75
    go_wp2_with fail
    go_loopw [14] (fun v wr => BeginRel ps w v wr) (fun v _ => ps.length - (intOf v).toNat)
    case atStart => exact ⟨0, Nat.zero_le _, rfl, Mods.refl _ _, fun j h hj => by omega⟩
    case round =>
      obtain ⟨k, hk, rfl, hs, hall⟩ := hrel
      have HR := Lib.hid (And.intro hs hall)
      clear hs hall
      by_cases hlt : k < ps.length
      · obtain ⟨g, off, hg, hcell⟩ := HC.out.2.1.keep HR.out.1 (fun _ _ _ => id) (by simpa using (by omega : 0 < ps.length))
        subst hg
        have hck : wr.cell? ⟨g, off + k, none⟩ = some (str ps[k]) := by
          rw [hcell k (by simpa using hlt)]; simp
        have HP := Lib.hid (fun W => isPath_calls ps[k] W)
        obtain ⟨p, hpe⟩ : ∃ p, p = ps[k] := ⟨_, rfl⟩
        rw [← hpe] at hck HP
        have HPE := Lib.hid hpe
        clear hpe hcell
        go_wp2_with fail
        refine (HP.out _).mono ?_
        rintro e w1 ⟨rfl, hs1⟩
        obtain ⟨b, hb⟩ : ∃ b, b = isPathB p := ⟨_, rfl⟩
        rw [← hb]
        have HB := Lib.hid (And.intro hb hs1)
        clear hb hs1
        cases b with
        | true =>
          go_wp2_with fail
          go_roundw
          case rel => exact ⟨k + 1, by omega, by go_num, HR.out.1.trans HB.out.2, fun j h hj => by
            rcases Nat.lt_or_ge j k with h' | h'
            · exact HR.out.2 j h h'
            · obtain rfl : j = k := by omega
              rw [← HPE.out]; exact HB.out.1.symm⟩
          case measure => simp [intOf]; omega
        | false =>
          go_wp2_with fail
          refine bodyPost_ret (results_tmp rfl _ _ _) rfl ⟨?_, HR.out.1.trans HB.out.2⟩
          rw [← HC.out.1, if_neg (by simp), if_neg]
          · rfl
          · intro hh
            have := List.all_eq_true.1 hh p (HPE.out ▸ List.getElem_mem hlt)
            rw [← HB.out.1] at this
            cases this
      · obtain rfl : k = ps.length := by omega
        go_wp2_with fail
        refine bodyPost_end (results_tmp rfl _ _ _) rfl ⟨?_, HR.out.1⟩
        rw [← HC.out.1, if_neg (by simp), if_pos]
        · rfl
        refine List.all_eq_true.2 (fun p hp => ?_)
        obtain ⟨j, hj, rfl⟩ := List.mem_iff_getElem.1 hp
        exact HR.out.2 j hj hj
end Go.Proofs.YtdhobpbngkainaaGreatDoor
/-
  Ours. How an archive's content lies: versions, paths, tags, chunks.
-/
namespace Go.Proofs.YtdhobpbngkainaaGreatDoor
open Go.RowKit Go.Maps

structure VerL where
  blk : Nat
  num : Nat
  size : Nat
  cv : Value
  chs : List (Nat × Nat)
  held : Int
def verCells (V : VerL) : Array Value := #[.int .i64 V.num, .int .i64 V.size, V.cv, .int .i64 V.held]
def verO (V : VerL) : Obj := .cells (verCells V) 152 (0, 0)
def placeV (p : Nat × Nat) : List Value := [.int .i64 p.1, .int .i64 p.2]
def placesV (l : List (Nat × Nat)) : List Value := l.flatMap placeV
def placeRow (v : Value) (l : List (Nat × Nat)) : HF := rowF 161 2 v l.length (placesV l)
def placeOk (v : Value) (l : List (Nat × Nat)) : Prop := RowOk 2 v l.length (placesV l)
def verF (V : VerL) : HF := (V.blk, Is (verO V)) :: placeRow V.cv V.chs
def ptrV (V : VerL) : Value := .pointer (some ⟨V.blk, 0, none⟩)
abbrev PathL := GE (List VerL)
def ptrRow (v : Value) (l : List VerL) : HF := rowF 149 1 v l.length (l.map ptrV)
def ptrOk (v : Value) (l : List VerL) : Prop := RowOk 1 v l.length (l.map ptrV)
def pathR (v : Value) (g : List VerL) : HF := ptrRow v g ++ g.flatMap verF
def pathOk (p : PathL) : Prop := ptrOk p.val p.g ∧ ∀ V ∈ p.g, placeOk V.cv V.chs
def pathsF (pm : Nat) (ps : List PathL) (c : Nat) : HF := (pm, Is (mapO str (ps.map entG) c)) :: rowsG pathR ps
def OkS (l : Bs) : Prop := l.length ≤ 1000000
structure PathsOk (ps : List PathL) (c : Nat) : Prop where
  map : MapOk OkS (ps.map entG) c
  rows : ∀ p ∈ ps, pathOk p
theorem str_inj : ∀ a b : Bs, str a = str b → a = b := fun a b h => by
  simp only [str, Value.string.injEq, ByteArray.mk.injEq] at h
  simpa using congrArg Array.toList h
theorem strEnc : EncOk Tryz.prog 9 str OkS where
  keyed := string_keyed Tryz.underlying9
  inj := str_inj
  key := fun a h => ⟨_, Go.WideMaps.keyOf_string_mk Tryz.underlying9 (by
    simp only [ByteArray.size]
    unfold OkS at h
    unfold maxLen
    simp
    omega)⟩
def versOf (ps : List PathL) (l : Bs) : List VerL := gOf [] ps l
theorem Sat.flat {α : Type} {w : World} {f : α → HF} : ∀ {l : List α}, Sat w (l.flatMap f) → ∀ {x : α}, x ∈ l → Sat w (f x)
  | [], _, _, hx => by simp at hx
  | a :: r, h, x, hx => by
    rw [List.flatMap_cons] at h
    rcases List.mem_cons.1 hx with rfl | hx
    · exact h.left
    · exact Sat.flat h.right hx
/-- A path's slice, as it is read. -/
theorem path_cells {w : World} {pm c : Nat} {ps : List PathL} (h : Sat w (pathsF pm ps c)) (hok : PathsOk ps c) (l : Bs) :
    ∃ sl cap, valOf (.slice none 0 0) ps l = .slice sl (versOf ps l).length cap ∧ (versOf ps l).length ≤ cap ∧ cap ≤ 9223372036854775807 ∧ CellsAt w sl ((versOf ps l).map ptrV) ∧ (∀ V ∈ versOf ps l, w.heap[V.blk]? = some (verO V)) ∧ (dom ((versOf ps l).flatMap verF)).Nodup := by
  unfold versOf valOf gOf
  cases hf : ps.find? (fun p => decide (p.key = l)) with
  | none => exact ⟨none, 0, rfl, Nat.le_refl _, by omega, fun h => by simp at h, fun V hV => by simp at hV, List.nodup_nil⟩
  | some p =>
    have hm := List.mem_of_find?_eq_some hf
    have hp : Sat w (pathR p.val p.g) := Sat.flat (f := fun p : PathL => pathR p.val p.g) h.tail hm
    have hok2 := hok.rows p hm
    obtain ⟨sl, cap, e1, e2, e3, e5, e4, _⟩ := own_cells2 (owns_of_row hp.left hok2.1)
    refine ⟨sl, cap, by simpa using e1, e3, e5, e4, fun V hV => ?_, ?_⟩
    · have : Sat w (verF V) := Sat.flat hp.right hV
      exact this.headIs
    · exact hp.right.nodup
def findV : List VerL → Int → Option VerL
  | [], _ => none
  | v :: r, n => if (v.num : Int) = n ∨ (n = 0 ∧ r = []) then some v else findV r n
def FindPost (X : ArchL) (ps : List PathL) (l : Bs) (n : Int) (w : World) (e : Ending) (w' : World) : Prop :=
  e = .returned (if X.closed then .tuple #[.pointer none, errV 9] else if isPathB l then (match findV (versOf ps l) n with | some V => .tuple #[ptrV V, .nilIface] | none => .tuple #[.pointer none, errV 3]) else .tuple #[.pointer none, errV 1]) ∧ Same w w'
theorem blk_inj : ∀ {vs : List VerL}, (dom (vs.flatMap verF)).Nodup → ∀ {i j : Nat} (hi : i < vs.length) (hj : j < vs.length), vs[i].blk = vs[j].blk ↔ i = j := by
  have key : ∀ {vs : List VerL}, (dom (vs.flatMap verF)).Nodup → ∀ {i j : Nat} (hj : j < vs.length) (hij : i < j), vs[i].blk ≠ vs[j].blk := by
    intro vs
    induction vs with
    | nil => intro _ i j hj; simp at hj
    | cons v r ih =>
      intro h i j hj hij e
      rw [List.flatMap_cons, dom_append, List.nodup_append] at h
      cases j with
      | zero => omega
      | succ j =>
        cases i with
        | zero =>
          simp only [List.getElem_cons_zero, List.getElem_cons_succ] at e
          have h1 : v.blk ∈ dom (verF v) := by simp [verF]
          have hjr : j < r.length := by simpa using hj
          have h2 : v.blk ∈ dom (r.flatMap verF) := by
            rw [e]
            refine List.mem_map.2 ⟨(r[j].blk, Is (verO r[j])), List.mem_flatMap.2 ⟨r[j], List.getElem_mem hjr, by simp [verF]⟩, rfl⟩
          exact h.2.2 _ h1 _ h2 rfl
        | succ i =>
          simp only [List.getElem_cons_succ] at e
          exact ih h.2.1 (by simpa using hj) (by omega) e
  intro vs h i j hi hj
  refine ⟨fun e => ?_, fun e => by subst e; rfl⟩
  rcases Nat.lt_trichotomy i j with hl | hl | hl
  · exact absurd e (key h hj hl)
  · exact hl
  · exact absurd e.symm (key h hi hl)
theorem eql_ptr {w : World} {U V : VerL} (hu : w.heap[U.blk]? = some (verO U)) (hv : w.heap[V.blk]? = some (verO V)) :
    (binOp .eql 149 (.pointer (some ⟨U.blk, 0, none⟩)) (.pointer (some ⟨V.blk, 0, none⟩))).run Tryz.prog w = .ok (.bool (decide (U.blk = V.blk))) w := by
  have hs : (Tryz.prog.info? 152).map (·.size) = some 4 := by kernel_rfl
  obtain ⟨j, hj, hsz⟩ := Option.map_eq_some_iff.1 hs
  by_cases h : U.blk = V.blk
  · rw [← h, decide_eq_true rfl]
    exact run_eql_ptr_same w _ Tryz.underlying149 hj
  · rw [decide_eq_false h]
    exact run_eql_ptr_other w Tryz.underlying149 hj (by rw [hsz]; decide) (fun e => h (congrArg Addr.block e)) hu hv
theorem wpList_look {κ : Type} [DecidableEq κ] {P : Program} {k t ev : TypeId} {enc : κ → Value} {Ok : κ → Prop} (E : EncOk P k enc Ok) {w : World} {ops : Array Oper} {rest : List Oper} {o : Oper} {a : Act} {Q : Exit → Act → World → Prop}
    (hg : o.guard = none) (m x : Operand) (hop : o.op = .lookup t m x false) (ht : P.underlying t = some (.map k ev)) {b : Nat} {l : List (Ent κ)} {c : Nat} (hb : w.heap[b]? = some (mapO enc l c)) (hm : MapOk Ok l c) {z : Value} (hz : (zeroValue ev).run P w = .ok z w)
    (key : κ) (hmv : a.eval m = .map (some b)) (hx : a.eval x = enc key) (hk : Ok key) (hK : wpList P ops Q rest (a.put o.dst ((getE l key).getD z)) w) : wpList P ops Q (o :: rest) a w := by
  refine wpList_of_wp hg (wp_run (v := (getE l key).getD z) (w' := w) ?_ hK)
  simp [execOp, hop, hmv, hx, run_look E ht hb hm hz hk, Result.andThen]
theorem zeroSlice (w : World) : (zeroValue 153).run Tryz.prog w = .ok (.slice none 0 0) w := by kernel_rfl
def FindRel (vs : List VerL) (n : Int) (w : World) (i : Value) (wr : World) : Prop := ∃ k : Nat, k ≤ vs.length ∧ i = .int .i64 k ∧ Same w wr ∧ findV vs n = findV (vs.drop k) n
set_option maxHeartbeats 1000000 in
set_option maxRecDepth 100000 in
theorem find_calls (a : Nat) (X : ArchL) (ps : List PathL) (c : Nat) (l : Bs) (n : Int) (w : World) (h : w.heap[a]? = some (archO X)) (hp : Sat w (pathsF X.pm ps c)) (hok : PathsOk ps c) :
    Calls Tryz.prog 85 #[.pointer (some ⟨a, 0, none⟩), str l, .int .i64 n] w (FindPost X ps l n w) := by
  have hal := lt_of_heap h
  have HB := Lib.hid (fun W (hW : Same w W) (hc : W.cell? ⟨w.heap.size, 0, none⟩ = some (str l)) => begin_calls a X (some ⟨w.heap.size, 0, none⟩) 1 [l] W (hW.at h id) (fun _ => ⟨_, _, rfl, fun j hj => by
    obtain rfl : j = 0 := by simp at hj; omega
    exact hc⟩) (by simp))
  have HC := Lib.hid (And.intro h (And.intro hp hok))
  clear h hp hok
  go_enter Tryz.func85, Tryz.ntmps85
  go_wp2_with fail
  refine (HB.out _ ((Mods.refl _ w).alloc _) (cell_at (alloc_new w _) 0 rfl)).mono ?_
  rintro e w1 ⟨rfl, hs1⟩
  have hs2 : Same w w1 := ((Mods.refl _ w).alloc _).trans hs1
  obtain ⟨cl, hcl⟩ : ∃ cl, cl = X.closed := ⟨_, rfl⟩
  obtain ⟨pb, hpb⟩ : ∃ pb, pb = isPathB l := ⟨_, rfl⟩
  have e1 : ([l].all isPathB) = pb := by simp [hpb]
  rw [e1, ← hcl]
  have HD := Lib.hid (And.intro hcl (And.intro hpb hs2))
  clear hcl hpb hs2 hs1 e1
  cases cl with
  | true =>
    simp only [if_true]
    go_wp2_with fail
    refine bodyPost_ret (results_tmp2 rfl _ _ _) rfl ⟨?_, HD.out.2.2⟩
    rw [← HD.out.1]; rfl
  | false =>
    cases pb with
    | false =>
      simp only [Bool.false_eq_true, if_false]
      go_wp2_with fail
      refine bodyPost_ret (results_tmp2 rfl _ _ _) rfl ⟨?_, HD.out.2.2⟩
      rw [← HD.out.1, ← HD.out.2.1]; rfl
    | true =>
      obtain ⟨sl, cap, hl1, hl2, hl6, hl3, hl4, hl5⟩ := path_cells (HC.out.2.1.same HD.out.2.2) HC.out.2.2 l
      have b0 : w1.cell? ⟨a, 0, none⟩ = some (.map (some X.pm)) := cell_at (HD.out.2.2.at HC.out.1 id) 0 rfl
      have hal1 : a < w1.heap.size := Nat.lt_of_lt_of_le hal HD.out.2.2.size
      obtain ⟨vs, hvs⟩ : ∃ vs, vs = versOf ps l := ⟨_, rfl⟩
      rw [← hvs] at hl1 hl2 hl3 hl4 hl5
      have HG := Lib.hid (And.intro hl1 (And.intro hl3 (And.intro hl4 (And.intro hl5 hvs))))
      clear hl1 hl3 hl4 hl5 hvs
      have hmo := (HC.out.2.1.same HD.out.2.2).headIs
      have HM := Lib.hid hmo
      clear hmo
      have hlen : OkS l := by
        have := HD.out.2.1
        unfold isPathB at this
        have h2 := this.symm
        simp only [Bool.and_eq_true, decide_eq_true_eq] at h2
        unfold OkS; have := h2.1.2; omega
      have HL := Lib.hid hlen
      clear hlen
      simp only [Bool.false_eq_true, if_false, if_true]
      go_wp2_with (at_lookup; refine wpList_look strEnc rfl _ _ rfl Tryz.underlying119 HM.out HC.out.2.2.map (zeroSlice _) l rfl rfl HL.out ?_; rw [getE_valOf, HG.out.1])
      go_loopw [28] (fun v wr => FindRel vs n w1 v wr) (fun v _ => vs.length - (intOf v).toNat)
      case atStart => exact ⟨0, Nat.zero_le _, rfl, Mods.refl _ _, rfl⟩
      case round =>
        obtain ⟨k, hk, rfl, hs, hfi⟩ := hrel
        have HR := Lib.hid (And.intro hs hfi)
        clear hs hfi
        by_cases hlt : k < vs.length
        · obtain ⟨g, off, hg, hcell⟩ := HG.out.2.1.keep HR.out.1 (fun _ _ _ => id) (by simpa using (by omega : 0 < vs.length))
          subst hg
          obtain ⟨V, hV⟩ : ∃ V, V = vs[k] := ⟨_, rfl⟩
          obtain ⟨z, hz⟩ : ∃ z, vs.length = z + 1 := ⟨vs.length - 1, by omega⟩
          obtain ⟨Z, hZ⟩ : ∃ Z, Z = vs[z] := ⟨_, rfl⟩
          have hw : wrap64 ((vs.length : Int) - 1) = (z : Int) := by rw [IntWalk.wrap64_in _ (by omega)]; omega
          have hzl : (z : Int) < (vs.length : Int) := by omega
          have hz1 : z < vs.length := by omega
          have hz2 : ¬ vs.length ≤ z := by omega
          have hck : wr.cell? ⟨g, off + k, none⟩ = some (ptrV V) := by rw [hcell k (by simpa using hlt)]; simp [hV]
          have hcz : wr.cell? ⟨g, off + (vs.length - 1), none⟩ = some (ptrV Z) := by rw [show vs.length - 1 = z by omega, hcell z (by simp; omega)]; simp [hZ]
          have hvo := HR.out.1.at (HG.out.2.2.1 V (hV ▸ List.getElem_mem hlt)) id
          have v0 : wr.cell? ⟨V.blk, 0, none⟩ = some (.int .i64 V.num) := cell_at hvo 0 rfl
          have hdr : vs.drop k = V :: vs.drop (k + 1) := by rw [hV]; exact List.drop_eq_getElem_cons hlt
          have hzk : V.blk = Z.blk ↔ k = z := by
            rw [hV, hZ]
            exact blk_inj HG.out.2.2.2.1 hlt hz1
          have hpe := eql_ptr hvo (HR.out.1.at (HG.out.2.2.1 Z (hZ ▸ List.getElem_mem hz1)) id)
          have HV := Lib.hid (And.intro hdr (And.intro hzk hz))
          clear hcell hvo hdr hzk hV hZ hz
          unfold ptrV at hck hcz
          by_cases c1 : (V.num : Int) = n
          · go_wp2_with fail
            refine bodyPost_ret (results_tmp2 rfl _ _ _) rfl ⟨?_, HD.out.2.2.trans HR.out.1⟩
            rw [← HD.out.1, ← HD.out.2.1, ← HG.out.2.2.2.2, HR.out.2, HV.out.1]
            simp only [findV, c1, true_or, if_true]
            rfl
          · by_cases c2 : n = 0
            · subst c2
              by_cases c3 : V.blk = Z.blk
              · rw [decide_eq_true c3] at hpe
                have C3 := Lib.hid c3
                clear c3
                go_wp2_with fail
                refine bodyPost_ret (results_tmp2 rfl _ _ _) rfl ⟨?_, HD.out.2.2.trans HR.out.1⟩
                have hlast : vs.drop (k + 1) = [] := List.drop_of_length_le (by have := HV.out.2.1.1 C3.out; have := HV.out.2.2; omega)
                rw [← HD.out.1, ← HD.out.2.1, ← HG.out.2.2.2.2, HR.out.2, HV.out.1, hlast]
                simp only [findV, and_self, or_true, if_true]
                rfl
              · rw [decide_eq_false c3] at hpe
                have hrel : FindRel vs 0 w1 (.int .i64 ((k : Int) + 1)) wr := by
                  refine ⟨k + 1, by omega, by go_num, HR.out.1, ?_⟩
                  rw [HR.out.2, HV.out.1]
                  have : ¬ vs.drop (k + 1) = [] := fun h => c3 (HV.out.2.1.2 (by have := congrArg List.length h; rw [List.length_drop] at this; have h3 := HV.out.2.2; simp only [List.length_nil] at this; omega))
                  simp only [findV, c1, this, and_false, or_false, if_false]
                have HREL := Lib.hid hrel
                clear hrel
                go_wp2_with fail
                go_roundw
                case rel => exact HREL.out
                case measure => simp [intOf]; omega
            · have hrel : FindRel vs n w1 (.int .i64 ((k : Int) + 1)) wr := by
                refine ⟨k + 1, by omega, by go_num, HR.out.1, ?_⟩
                rw [HR.out.2, HV.out.1]
                simp [findV, c1, c2]
              have HREL := Lib.hid hrel
              clear hrel
              go_wp2_with fail
              go_roundw
              case rel => exact HREL.out
              case measure => simp [intOf]; omega
        · obtain rfl : k = vs.length := by omega
          go_wp2_with fail
          refine bodyPost_ret (results_tmp2 rfl _ _ _) rfl ⟨?_, HD.out.2.2.trans HR.out.1⟩
          rw [← HD.out.1, ← HD.out.2.1, ← HG.out.2.2.2.2, HR.out.2]
          simp [findV]
end Go.Proofs.YtdhobpbngkainaaGreatDoor
/-
  Ours. append of a string; record.text.
-/
namespace Go.Proofs.YtdhobpbngkainaaGreatDoor
open Go.RowKit

theorem str_size (l : Bs) : (⟨l.toArray⟩ : ByteArray).size = l.length := by simp [ByteArray.size]
theorem str_cells (l : Bs) (size : Nat) : (Builtin.firstCells size l.length (str l)) = pure (l.map enc8).toArray := by
  simp only [str, Builtin.firstCells]
  congr 1
  have : (⟨l.toArray⟩ : ByteArray).extract 0 l.length = ⟨l.toArray⟩ := by
    apply ByteArray.ext
    simp
  rw [this]
  simp [enc8]
section
variable {P : Program} (w : World)
theorem run_append_str (t u ty e : TypeId) (i : TypeInfo) (z : Value) (bytes : Nat) (ht : P.underlying t = some (.slice e)) (hu : P.underlying u = some .string) (hi : P.info? e = some i) (hz : i.zero = some z)
    (hsize : i.size = 1) (hby : i.bytes = bytes) (hzs : z.cells.size = 1)
    (v : Value) (n : Nat) (xs : List Value) (hown : w.ownsRow 0 e 1 v n xs) (r : Bs)
    (h63 : n + r.length ≤ maxLen) (hbytes : (n + r.length) * bytes ≤ 140737488355328) :
    ∃ v' w', (Builtin.append_ #[t, u] ty #[v, str r]).run P w = .ok v' w' ∧ w'.ownsRow 0 e 1 v' (n + r.length) (xs ++ r.map enc8) ∧ w.grownBy w' v.ownBlock ∧ (∀ g, v'.ownBlock = some g → v.ownBlock = some g ∨ w.heap.size ≤ g) ∧ (v' = .slice none 0 0 ↔ v = .slice none 0 0 ∧ r.length = 0) := by
  have hl : (r.map enc8).length = r.length * i.size := by simp [hsize]
  subst hby
  have hsmall : n + r.length ≤ 9223372036854775807 := by simp only [maxLen] at h63; omega
  have hlen : (xs ++ r.map enc8).length = (n + r.length) * 1 := by rw [List.length_append, hown.1]; simp
  have hsz := str_size r
  have hfc := str_cells r i.size
  have grown : ∀ (old : Nat), old < n + r.length → ∀ (row : Option Nat),
      (w.drew.alloc (.cells (xs.toArray ++ (r.map enc8).toArray ++ Builtin.zeroCells z.cells (grownCap w (n + r.length) old e - (n + r.length))) e)).ownsRow 0 e 1
        (.slice (some ⟨w.heap.size, 0, none⟩) (n + r.length) (grownCap w (n + r.length) old e)) (n + r.length) (xs ++ r.map enc8) ∧
      w.grownBy (w.drew.alloc (.cells (xs.toArray ++ (r.map enc8).toArray ++ Builtin.zeroCells z.cells (grownCap w (n + r.length) old e - (n + r.length))) e)) row := by
    intro old ho row
    have hge := grownCap_ge w (n + r.length) old e
    have hcm : grownCap w (n + r.length) old e ≤ maxLen := grownCap_le_maxLen w (n + r.length) old e h63
    refine ⟨⟨hlen, .inr ⟨w.heap.size, _, _, rfl, Nat.zero_le _, World.alloc_heap_new w.drew _, hge, hcm, ?_, ?_⟩⟩, ⟨rfl, rfl, rfl, by simp, fun k hk _ => alloc_old (w := w.drew) hk⟩⟩
    · simp only [Array.size_append, List.size_toArray, size_zeroCells, hzs, hown.1, List.length_map]
      omega
    · simp only [Array.toList_append, List.append_assoc]
      rw [← List.append_assoc, ← hlen]
      exact List.take_left
  rcases hown.2 with ⟨rfl, rfl⟩ | ⟨g, cap, cur, rfl, hbg, hg, hnc, hcm, hcs, htake⟩
  · have hx : xs = [] := List.eq_nil_of_length_eq_zero (by simpa using hown.1)
    subst hx
    by_cases hm : r.length = 0
    · obtain rfl : r = [] := List.eq_nil_of_length_eq_zero hm
      refine ⟨.slice none 0 0, w, ?_, World.ownsRow_nil w 0 e 1, ⟨rfl, rfl, rfl, Nat.le_refl _, fun _ _ _ => rfl⟩, fun g h => .inl h, by simp⟩
      simp [Builtin.append_, run_underlying ht, run_underlying hu, sizeOf, typeInfo, hi, Builtin.lenOf, str, Builtin.firstCells, storeCells]
      try rfl
    · have hn : r.length ≠ 0 := hm
      have h63' : ¬ (9223372036854775807 < (r.length : Int)) := by omega
      have h48' : ¬ (281474976710656 < Builtin.nextslicecap r.length 0 * i.bytes) := by rw [nextslicecap_zero (by omega)]; simp only [Nat.zero_add] at hbytes; omega
      have hr : (Builtin.append_ #[t, u] ty #[.slice none 0 0, str r]).run P w = .ok (.slice (some ⟨w.heap.size, 0, none⟩) r.length (grownCap w r.length 0 e)) (w.drew.alloc (.cells ((r.map enc8).toArray ++ Builtin.zeroCells z.cells (grownCap w r.length 0 e - r.length)) e)) := by
        unfold str at hfc ⊢
        simp [Builtin.append_, run_underlying ht, run_underlying hu, sizeOf, typeInfo, zeroValue, hi, hz, Builtin.lenOf, hsz, hn, h63', h48', Question.forced, run_firstCells_none, hfc, newRow, grownCap]
      have hgr := grown 0 (by omega) (Value.ownBlock (.slice none 0 0))
      simp only [Nat.zero_add, List.nil_append, Array.empty_append] at hgr ⊢
      exact ⟨_, _, hr, hgr.1, hgr.2, fun g hg => by simp [Value.ownBlock] at hg; exact .inr (by omega), by simp [hm]⟩
  · by_cases hroom : n + r.length ≤ cap
    · have hfit : n * i.size + (r.map enc8).length ≤ cur.size := by rw [hl, hcs, hsize]; omega
      have hst := run_storeCells_at P g (n * i.size) e (r.map enc8) 0 cur w hg (by simpa using hfit) (enc8_one r)
      simp only [Nat.add_zero] at hst
      have hr : (Builtin.append_ #[t, u] ty #[.slice (some ⟨g, 0, none⟩) n cap, str r]).run P w = .ok (.slice (some ⟨g, 0, none⟩) (n + r.length) cap) (w.setRow g (cur.toList.take (n * i.size) ++ r.map enc8 ++ cur.toList.drop (n * i.size + (r.map enc8).length)).toArray) := by
        unfold str at hfc ⊢
        simp [Builtin.append_, run_underlying ht, run_underlying hu, sizeOf, typeInfo, hi, Builtin.lenOf, hsz, hroom, hfc, Addr.add_lit]
        simp only [List.append_assoc, List.length_map] at hst
        rw [hst]; rfl
      rw [hsize] at hr
      refine ⟨_, _, hr, ⟨hlen, .inr ⟨g, cap, _, rfl, hbg, setRow_heap w g cur _ e _ hg, hroom, hcm, ?_, ?_⟩⟩, ⟨rfl, rfl, rfl, by simp, fun k _ hk => setRow_other w g k _ (fun e => hk (by simp [Value.ownBlock, e]))⟩, fun g' hg' => .inl hg', by simp⟩
      · simp only [List.size_toArray, List.length_append, List.length_take, List.length_drop, Array.length_toList, List.length_map]
        omega
      · rw [htake, ← hlen]
        exact List.take_left
    · have holds : ∀ j u, xs[j]? = some u → w.cell? ((⟨g, 0, none⟩ : Addr).add j) = some u := hown.cells (g := g) rfl
      have hn : ¬ (n + r.length ≤ cap) := hroom
      have h63' : ¬ (9223372036854775807 < ((n : Int) + (r.length : Int))) := by omega
      have h48' : ¬ (281474976710656 < Builtin.nextslicecap (n + r.length) cap * i.bytes) := by have := growslice_fits (need := n + r.length) (old := cap) (by omega) hbytes; omega
      have hfo := run_firstCells_some (P := P) w.drew i.size n ⟨g, 0, none⟩ n cap xs (by rw [hown.1, hsize]) (by simpa using holds)
      have hr : (Builtin.append_ #[t, u] ty #[.slice (some ⟨g, 0, none⟩) n cap, str r]).run P w = .ok (.slice (some ⟨w.heap.size, 0, none⟩) (n + r.length) (grownCap w (n + r.length) cap e)) (w.drew.alloc (.cells (xs.toArray ++ (r.map enc8).toArray ++ Builtin.zeroCells z.cells (grownCap w (n + r.length) cap e - (n + r.length))) e)) := by
        unfold str at hfc ⊢
        simp [Builtin.append_, run_underlying ht, run_underlying hu, sizeOf, typeInfo, zeroValue, hi, hz, Builtin.lenOf, hsz, hn, h63', h48', Question.forced, hfc, hfo, newRow, grownCap]
        try (congr 2; apply Array.ext'; simp [List.append_assoc])
      have hgr := grown cap (by omega) (Value.ownBlock (.slice (some ⟨g, 0, none⟩) n cap))
      exact ⟨_, _, hr, hgr.1, hgr.2, fun g hg => by simp [Value.ownBlock] at hg; exact .inr (by omega), by simp⟩
end
theorem w_append_s {o : Oper} {a : Act} {w a0 : World} {K : Act → World → Prop} {Q : Exit → Act → World → Prop} {F G : HF} (s x : Operand) (hop : o.op = .call { callee := .builtin .append, args := #[s, x], argTypes := #[38, 9] })
    (v : Value) (l : Bs) (hs : a.eval s = v) (hT : Turns F (bRow v l ++ G) a0 w) (hok : bOk v l) (r : Bs) (hx : a.eval x = str r) (hb : l.length + r.length ≤ 137438953472)
    (hk : ∀ av cv w', bOk (.slice av (l ++ r).length cv) (l ++ r) → Turns F (bRow (.slice av (l ++ r).length cv) (l ++ r) ++ G) a0 w' → K (a.put o.dst (.slice av (l ++ r).length cv)) w') : o.wp Tryz.prog a w K Q := by
  obtain ⟨i0, hi0, hz1, hz2, hz3⟩ := info_parts infoByte
  obtain ⟨v', w', hr, r1, r2, r3, r4⟩ := run_append_str (P := Tryz.prog) w 38 9 o.type 5 i0 (.int .u8 0) 1 Tryz.underlying38 Tryz.underlying9 hi0 hz1 hz2 hz3 rfl v l.length (l.map enc8) (bOwns hT.sat.left hok) r (by unfold maxLen; omega) (by omega)
  have hh := bRow_appends hT rfl r1 r2 r3
  unfold Oper.wp execOp
  simp only [hop, resolve, invoke, builtin, Sem.run_bind, Sem.run_pure, Result.andThen_ok, List.map_toArray, List.map_cons, List.map_nil, hs, hx, hr]
  obtain ⟨av, cv, rfl, -, -, -, -⟩ := own_cells' (bOwns hh.2.sat.left hh.1)
  exact hk av cv w' hh.1 hh.2
def textB (s : Bs) : Bs := UInt8.ofNat s.length :: s
set_option maxHeartbeats 1000000 in
set_option maxRecDepth 100000 in
theorem text_calls (v : Value) (l s : Bs) (w : World) (h : Sat w (bRow v l)) (hok : bOk v l) (hl : l.length ≤ 1000000) (hs : s.length ≤ 255) :
    Calls Tryz.prog 218 #[v, str s] w (AppPost v l (l ++ textB s) w) := by
  have hsz := str_size s
  have HC := Lib.hid (And.intro h (And.intro hok (And.intro hl hs)))
  have e1 : (s.length : Int) % 256 = s.length := by omega
  clear h hok
  go_enter Tryz.func218, Tryz.ntmps218
  have hT0 : Turns (bRow v l) (bRow v l ++ []) w (w.alloc (.cells #[.int .u8 s.length] 5)) := by rw [List.append_nil]; exact (Turns.refl HC.out.1).alloc _
  have hc0 : CellsAt (w.alloc (.cells #[.int .u8 s.length] 5)) (some ⟨w.heap.size, 0, none⟩) (([UInt8.ofNat s.length] : Bs).map enc8) := fun _ => ⟨_, _, rfl, fun j hj => by
    obtain rfl : j = 0 := by simp at hj; omega
    rw [cell_at (alloc_new w _) 0 rfl]
    simp [enc8]; omega⟩
  have HT := Lib.hid (And.intro hT0 hc0)
  clear hT0 hc0
  go_wp2_with ((at_builtin; first
    | (refine wpList_of_wp rfl ?_; refine w_append_b (.tmp 5) (.tmp 9) rfl v l rfl HT.out.1 HC.out.2.1 _ 1 1 rfl [UInt8.ofNat s.length] rfl HT.out.2 (by simp; omega) ?_; intro av cv w2 hok2 hT2 _; simp only [List.length_append, List.length_singleton] at hok2 hT2; have H2 := Lib.hid (And.intro hok2 hT2); clear hok2 hT2)
    | (refine wpList_of_wp rfl ?_; refine w_append_s (.tmp 10) (.tmp 11) rfl _ (l ++ [UInt8.ofNat s.length]) rfl H2.out.2 H2.out.1 s rfl (by simp; omega) ?_; intro av2 cv2 w3 hok3 hT3; simp only [List.length_append, List.length_singleton] at hok3 hT3; have H3 := Lib.hid (And.intro hok3 hT3); clear hok3 hT3)))
  have e2 : l ++ [UInt8.ofNat s.length] ++ s = l ++ textB s := by simp [textB]
  have H4 := H3.out
  rw [e2, List.append_nil, Nat.add_assoc, Nat.add_comm 1] at H4
  refine bodyPost_ret (results_tmp rfl _ _ _) rfl ?_
  exact ⟨_, rfl, H4.1, H4.2⟩
end Go.Proofs.YtdhobpbngkainaaGreatDoor
