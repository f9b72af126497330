/-
  Ours. record.Size, record.Frame, record.text: they make records.
-/
import Derived.Test.YtdhobpbngkainaaGreatDoorMo02
import Derived.Laws.RangeAny
import Derived.Laws.Closers25b
import Derived.RegionTactic
import Derived.BigQuiet
import Derived.Deep.QuietTactic
import Derived.Deep.RegionHeld3
import Derived.Deep.RegionWith
namespace Go.Proofs.YtdhobpbngkainaaGreatDoor
open Go.RowKit

def SizePost (n : Int) (w : World) (e : Ending) (w' : World) : Prop := e = .returned (.int .i64 (n + 9)) ∧ w = w'
theorem Size_calls (n : Int) (h0 : 0 ≤ n) (h1 : n ≤ 1099511627776) (w : World) : Calls Tryz.prog 79 #[.int .i64 n] w (SizePost n w) := by
  go_enter Tryz.func79, Tryz.ntmps79
  go_wp2
  go_ret
  exact ⟨ret_int (by omega), rfl⟩

/-- What a call leaves that makes a row of bytes. -/
def NewPost (l' : Bs) (w : World) (e : Ending) (w' : World) : Prop := ∃ v', e = .returned v' ∧ bOk v' l' ∧ Turns [] (bRow v' l') w w'
theorem Turns.news {F : HF} {w w' : World} (h : Turns [] F w w') : Same w w' := h.mods.mono (fun b hb => by simp at hb)
theorem Turns.newLe {F : HF} {w w' : World} (h : Turns [] F w w') {b : Nat} (hb : b ∈ dom F) : w.heap.size ≤ b := by
  rcases h.fresh b hb with h' | h'
  · simp at h'
  · exact h'
/-- What was there ahead of all is as it was. -/
theorem CellsAt.turns {F : HF} {w w' : World} {a : Option Addr} {xs : List Value} (h : CellsAt w a xs) (hT : Turns [] F w w') : CellsAt w' a xs := h.keep hT.news (fun _ _ _ => id)
theorem bRow_one (w : World) (k : UInt8) : Turns [] (bRow (.slice (some ⟨w.heap.size, 0, none⟩) 1 1) [k]) w (w.alloc (.cells #[.int .u8 k.toNat] 5)) ∧ bOk (.slice (some ⟨w.heap.size, 0, none⟩) 1 1) [k] := by
  refine ⟨?_, rfl, fun h => by simp [Value.ownBlock] at h⟩
  have := (Turns.refl (Sat.nil w)).allocIn (φ := fun o => ∃ cap cur, (Value.slice (some ⟨w.heap.size, 0, none⟩) 1 1) = .slice (some ⟨w.heap.size, 0, none⟩) 1 cap ∧ o = .cells cur 5 (0, 0) ∧ 1 ≤ cap ∧ cap ≤ maxLen ∧ cur.size = cap * 1 ∧ cur.toList.take (1 * 1) = [k].map enc8)
    (o := .cells #[.int .u8 k.toNat] 5) ⟨1, _, rfl, rfl, Nat.le_refl _, by unfold maxLen; omega, rfl, rfl⟩
  exact this
theorem AppPost.news {v : Value} {l l' : Bs} {w w1 w2 : World} {e : Ending} (hT : Turns [] (bRow v l) w w1) (h : AppPost v l l' w1 e w2) : NewPost l' w e w2 := by
  obtain ⟨v', he, hok, hT'⟩ := h
  exact ⟨v', he, hok, hT.trans hT'⟩
/-- A list more in a row of one's own. -/
theorem bRow_appends {F G : HF} {a w w' : World} {v v' : Value} {l s : Bs} (hT : Turns F (bRow v l ++ G) a w) {n : Nat} (hn : n = s.length)
    (hown : w'.ownsRow 0 5 1 v' (l.length + n) (l.map enc8 ++ s.map enc8)) (hgrow : w.grownBy w' v.ownBlock)
    (hg : ∀ g, v'.ownBlock = some g → v.ownBlock = some g ∨ w.heap.size ≤ g) : bOk v' (l ++ s) ∧ Turns F (bRow v' (l ++ s) ++ G) a w' := by
  subst hn
  have e : l.map enc8 ++ s.map enc8 = (l ++ s).map enc8 := by simp
  have en : l.length + s.length = (l ++ s).length := by simp
  rw [e, en] at hown
  exact ⟨(row_of_owns hown).2, hT.grow hown hgrow hg⟩

theorem bits_not64 (n : Nat) (h : n ≤ 4611686018427387904) : bits BinOp.xor IntKind.i64 (-1) (n : Int) = -(n : Int) - 1 := by
  have e1 : (BitVec.ofInt 64 (-1)) = BitVec.allOnes 64 := by decide
  have e2 : (BitVec.ofInt 64 (n : Int)).toNat = n := by rw [BitVec.ofInt_natCast, BitVec.toNat_ofNat]; exact Nat.mod_eq_of_lt (by omega)
  show IntKind.i64.wrap ((BitVec.ofInt 64 (-1) ^^^ BitVec.ofInt 64 (n : Int)).toNat : Int) = _
  rw [e1, BitVec.allOnes_xor, BitVec.toNat_not, e2]
  unfold IntKind.wrap
  simp [IntKind.bits, IntKind.signed]
  omega

set_option maxHeartbeats 2000000 in
set_option maxRecDepth 100000 in
theorem Frame_calls (k : UInt8) (a : Option Addr) (cap : Nat) (body : Bs) (w : World) (h : CellsAt w a (body.map enc8)) (hl : body.length ≤ 68719476736) :
    Calls Tryz.prog 78 #[.int .u8 k.toNat, .slice a body.length cap] w (NewPost (frame k body) w) := by
  have H := Lib.hid h
  have hbn := bits_not64 body.length (by omega)
  have hsl := sumOf_lt k body
  clear h
  go_enter Tryz.func78, Tryz.ntmps78
  go_wp2_with fail
  obtain ⟨hT1, hok1⟩ := bRow_one w k
  have H1 := Lib.hid (And.intro hT1 hok1)
  clear hT1 hok1
  refine (number_calls _ [k] body.length 2 _ (by omega) (by simp) (by omega) (by omega) H1.out.1.sat H1.out.2).mono ?_
  rintro e w2 hp
  obtain ⟨v2, rfl, hok2, hT2⟩ := AppPost.news H1.out.1 hp
  have H2 := Lib.hid (And.intro hT2 hok2)
  clear hT2 hok2 hp H1
  go_wp2_with fail
  refine (number_calls v2 _ (-(body.length : Int) - 1) 2 w2 (by omega) (by simp [beI_length]) (by omega) (by omega) H2.out.1.sat H2.out.2).mono ?_
  rintro e w3 hp
  obtain ⟨v3, rfl, hok3, hT3⟩ := AppPost.news H2.out.1 hp
  have hown3 := bOwns hT3.sat hok3
  obtain ⟨i0, hi0, hz1, hz2, hz3⟩ := info_parts infoByte
  have H3 := Lib.hid (And.intro hT3 (And.intro hown3 (H.out.turns hT3)))
  have HI := Lib.hid (And.intro hi0 (And.intro hz1 (And.intro hz2 hz3)))
  clear hT3 hok3 hp H2 hown3 hi0 hz1 hz2 hz3
  have hb : (body.map enc8).length = body.length := by simp
  have HB := Lib.hid hb
  clear hb
  go_wp2_with (refine wpList_append_src _ rfl (.tmp 15) (.tmp 16) 38 rfl 5 i0 (.int .u8 0) 1 Tryz.underlying38 HI.out.1 HI.out.2.1 HI.out.2.2.1 HI.out.2.2.2 rfl _ _ _ rfl H3.out.2.1 a body.length cap (body.map enc8) rfl HB.out H3.out.2.2 (enc8_one body) (by unfold maxLen; simp [beI_length]; omega) (by simp [beI_length]; omega) ?_; intro v4 w4 hown4 hgrow4 hg4)
  obtain ⟨hok4, hT4⟩ := bRow_appends (F := []) (G := []) (v := v3) (by simpa using H3.out.1) rfl hown4 hgrow4 hg4
  rw [List.append_nil] at hT4
  have H4 := Lib.hid (And.intro hT4 (And.intro hok4 (H.out.turns hT4)))
  clear hT4 hok4 hown4 hgrow4 hg4
  refine (Sum_calls a cap k body w4 H4.out.2.2 (by omega)).mono ?_
  rintro e w5 ⟨rfl, hs5⟩
  have hT5 := H4.out.1.thenSame hs5
  have H5 := Lib.hid hT5
  clear hs5 hT5
  go_wp2_with fail
  refine (number_calls v4 _ (sumOf k body : Nat) 4 w5 (by omega) (by simp [beI_length]; omega) (by omega) (by omega) H5.out.sat H4.out.2.1).mono ?_
  rintro e w6 hp
  obtain ⟨v6, rfl, hok6, hT6⟩ := AppPost.news H5.out hp
  have H6 := Lib.hid (And.intro hok6 hT6)
  clear hok6 hT6 hp
  go_wp2_with fail
  go_ret
  have e : [k] ++ beI body.length 2 ++ beI (-(body.length : Int) - 1) 2 ++ body ++ beI (sumOf k body : Nat) 4 = frame k body := by
    rw [beI_nat, beI_nat, beI_not]; simp [frame]
  rw [← e]
  exact ⟨v6, rfl, H6.out⟩
end Go.Proofs.YtdhobpbngkainaaGreatDoor
/-
  Ours. One operation at a time, said with Turns: append onto a row of one's own. No condition; plain lemmas.
-/
namespace Go.Proofs.YtdhobpbngkainaaGreatDoor
open Go.RowKit

theorem own_cells' {w : World} {b e n : Nat} {v : Value} {xs : List Value} (h : w.ownsRow b e 1 v n xs) : ∃ a cap, v = .slice a n cap ∧ xs.length = n ∧ n ≤ cap ∧ CellsAt w a xs ∧ ∀ x, a = some x → v.ownBlock = some x.block := by
  have hl : xs.length = n := by simpa using h.1
  rcases h.2 with ⟨rfl, rfl⟩ | ⟨g, cap, cur, rfl, hb, hg, hnc, hcm, hcs, htk⟩
  · exact ⟨none, 0, rfl, hl, Nat.le_refl _, fun hp => by omega, fun x hx => by cases hx⟩
  · refine ⟨_, cap, rfl, hl, hnc, fun _ => ⟨g, 0, rfl, fun j hj => ?_⟩, fun x hx => by simp at hx; subst hx; rfl⟩
    rw [Nat.zero_add]
    refine cell_at hg j ?_
    have : (cur.toList.take (n * 1))[j]? = some xs[j] := by rw [htk]; simp [hj]
    rw [List.getElem?_take] at this
    split at this
    · simpa using this
    · cases this
/-- append at any source, rows of elements of any size. -/
theorem run_append_any {P : Program} {w : World} (t ty e : TypeId) (i : TypeInfo) (z : Value) (size bytes : Nat) (ht : P.underlying t = some (.slice e)) (hi : P.info? e = some i) (hz : i.zero = some z)
    (hsize : i.size = size) (hby : i.bytes = bytes) (hzs : z.cells.size = size) (hs0 : 0 < size)
    (v : Value) (n : Nat) (xs : List Value) (hown : w.ownsRow 0 e size v n xs) (sa : Option Addr) (m c : Nat) (news : List Value) (hnl : news.length = m * size) (hnews : 0 < m → ∃ ad, sa = some ad ∧ ∀ j u, news[j]? = some u → w.cell? (ad.add j) = some u)
    (h1 : ∀ u ∈ news, u.oneCell' = true) (h63 : n + m ≤ maxLen) (hbytes : (n + m) * bytes ≤ 140737488355328) :
    ∃ v' w', (Builtin.append_ #[t, t] ty #[v, .slice sa m c]).run P w = .ok v' w' ∧ w'.ownsRow 0 e size v' (n + m) (xs ++ news) ∧ w.grownBy w' v.ownBlock ∧ (∀ g, v'.ownBlock = some g → v.ownBlock = some g ∨ w.heap.size ≤ g) ∧ (v' = .slice none 0 0 ↔ v = .slice none 0 0 ∧ m = 0) := by
  rcases Nat.eq_zero_or_pos m with rfl | hp
  · obtain rfl : news = [] := List.eq_nil_of_length_eq_zero (by omega)
    exact ⟨v, w, run_append_src0 (P := P) w t ty e i size ht hi v n xs hown sa c, by simpa using hown, ⟨rfl, rfl, rfl, Nat.le_refl _, fun _ _ _ => rfl⟩, fun g h => .inl h, by simp⟩
  · obtain ⟨ad, rfl, hc⟩ := hnews hp
    obtain ⟨v', w', r, r1, r2, r3, r4⟩ := run_append_fp (P := P) w t ty e i z size bytes ht hi hz hsize hby hzs hs0 v n xs hown ad m c news hnl hc h1 h63 hbytes
    exact ⟨v', w', r, r1, r2, r4, r3⟩
theorem w_append_row {P : Program} {o : Oper} {a : Act} {w a0 : World} {K : Act → World → Prop} {Q : Exit → Act → World → Prop} {F G : HF} (s x : Operand) (t e : TypeId) (i : TypeInfo) (z : Value) (size bytes : Nat)
    (hop : o.op = .call { callee := .builtin .append, args := #[s, x], argTypes := #[t, t] }) (ht : P.underlying t = some (.slice e)) (hi : P.info? e = some i) (hz : i.zero = some z) (hsize : i.size = size) (hby : i.bytes = bytes) (hzs : z.cells.size = size) (hs0 : 0 < size)
    (v : Value) (n : Nat) (xs : List Value) (hs : a.eval s = v) (hT : Turns F (rowF e size v n xs ++ G) a0 w) (hok : RowOk size v n xs) (sa : Option Addr) (m c : Nat) (hx : a.eval x = .slice sa m c) (news : List Value) (hnl : news.length = m * size)
    (hnews : 0 < m → ∃ ad, sa = some ad ∧ ∀ j u, news[j]? = some u → w.cell? (ad.add j) = some u) (h1 : ∀ u ∈ news, u.oneCell' = true) (h63 : n + m ≤ maxLen) (hbytes : (n + m) * bytes ≤ 140737488355328)
    (hk : ∀ v' w', RowOk size v' (n + m) (xs ++ news) → Turns F (rowF e size v' (n + m) (xs ++ news) ++ G) a0 w' → (v' = .slice none 0 0 ↔ v = .slice none 0 0 ∧ m = 0) → K (a.put o.dst v') w') : o.wp P a w K Q := by
  obtain ⟨v', w', hr, r1, r2, r3, r4⟩ := run_append_any (P := P) t o.type e i z size bytes ht hi hz hsize hby hzs hs0 v n xs (owns_of_row hT.sat.left hok) sa m c news hnl hnews h1 h63 hbytes
  unfold Oper.wp execOp
  simp only [hop, resolve, invoke, builtin, Sem.run_bind, Sem.run_pure, Result.andThen_ok, List.map_toArray, List.map_cons, List.map_nil, hs, hx, hr]
  exact hk v' w' (row_of_owns r1).2 (hT.grow r1 r2 r3) r4
theorem w_append_b {o : Oper} {a : Act} {w a0 : World} {K : Act → World → Prop} {Q : Exit → Act → World → Prop} {F G : HF} (s x : Operand) (hop : o.op = .call { callee := .builtin .append, args := #[s, x], argTypes := #[38, 38] })
    (v : Value) (l : Bs) (hs : a.eval s = v) (hT : Turns F (bRow v l ++ G) a0 w) (hok : bOk v l) (sa : Option Addr) (m c : Nat) (hx : a.eval x = .slice sa m c) (r : Bs) (hm : m = r.length) (hc : CellsAt w sa (r.map enc8)) (hb : l.length + r.length ≤ 137438953472)
    (hk : ∀ av cv w', bOk (.slice av (l ++ r).length cv) (l ++ r) → Turns F (bRow (.slice av (l ++ r).length cv) (l ++ r) ++ G) a0 w' → (av = none → v = .slice none 0 0 ∧ m = 0) → K (a.put o.dst (.slice av (l ++ r).length cv)) w') : o.wp Tryz.prog a w K Q := by
  obtain ⟨i0, hi0, hz1, hz2, hz3⟩ := info_parts infoByte
  refine w_append_row s x 38 5 i0 (.int .u8 0) 1 1 hop Tryz.underlying38 hi0 hz1 hz2 hz3 rfl (by decide) v l.length (l.map enc8) hs hT hok sa m c hx (r.map enc8) (by simp [hm]) (fun hp => ?_) (enc8_one _) (by unfold maxLen; omega) (by omega) (fun v' w' h1 h2 h3 => ?_)
  · obtain ⟨g, off, e, hcc⟩ := hc (by simp; omega)
    exact ⟨_, e, fun j u hu => by obtain ⟨hj, rfl⟩ := List.getElem?_eq_some_iff.1 hu; rw [Addr.add_lit]; exact hcc j hj⟩
  · have k1 : bOk v' (l ++ r) := by unfold bOk; rw [List.length_append, List.map_append, ← hm]; exact h1
    have k2 : Turns F (bRow v' (l ++ r) ++ G) a0 w' := by unfold bRow; rw [List.length_append, List.map_append, ← hm]; exact h2
    obtain ⟨av, cv, rfl, -, -, -, -⟩ := own_cells' (bOwns k2.sat.left k1)
    exact hk av cv w' k1 k2 (fun hn => by
      subst hn
      refine h3.1 ?_
      have := k1.2 rfl
      exact this.1)
theorem wpList_of_wp {P : Program} {ops : Array Oper} {rest : List Oper} {o : Oper} {a : Act} {w : World} {Q : Exit → Act → World → Prop} (hg : o.guard = none) (h : o.wp P a w (wpList P ops Q rest) Q) : wpList P ops Q (o :: rest) a w := by
  unfold wpList
  rw [if_pos (by simp [Region.wanted, hg])]
  exact .inl h
/-- What there was before stands. -/
theorem Turns.old {F G : HF} {a w : World} (h : Turns F G a w) {b : Nat} {o : Obj} (hb : a.heap[b]? = some o) (hn : b ∉ dom F) : w.heap[b]? = some o := h.mods.at hb hn
theorem CellsAt.turnsOld {F G : HF} {w w' : World} {a : Option Addr} {xs : List Value} (h : CellsAt w a xs) (hT : Turns F G w w') (hn : ∀ x, a = some x → x.block ∉ dom F) : CellsAt w' a xs := h.keep hT.mods (fun g off e => hn ⟨g, off, none⟩ e)
end Go.Proofs.YtdhobpbngkainaaGreatDoor
/-
  Ours. isPath.
-/
namespace Go.Proofs.YtdhobpbngkainaaGreatDoor
open Go.RowKit

abbrev str (l : List UInt8) : Value := .string ⟨l.toArray⟩
def plainB (c : UInt8) : Bool := (97 ≤ c.toNat && c.toNat ≤ 122) || (48 ≤ c.toNat && c.toNat ≤ 57) || c.toNat == 46 || c.toNat == 45 || c.toNat == 95
def plainN (x : Nat) : Bool := (decide (97 ≤ x) && decide (x ≤ 122)) || (decide (48 ≤ x) && decide (x ≤ 57)) || x == 46 || x == 45 || x == 95
theorem plainB_N (c : UInt8) : plainB c = plainN c.toNat := rfl
def pathGo : Nat → List UInt8 → Bool
  | m, [] => decide (0 < m)
  | m, c :: r => if c.toNat = 47 ∧ 0 < m then pathGo 0 r else if plainB c then pathGo (m + 1) r else false
def isPathB (l : List UInt8) : Bool := decide (l ≠ []) && decide (l.length ≤ 20) && pathGo 0 l

theorem run_next_any {P : Program} (w : World) (s : ByteArray) (pos : Nat) (ty : TypeId) (h : pos < s.size) :
    (Instr.next (.pointer (some ⟨w.heap.size, 0, none⟩)) true ty).run P (w.iter s pos) =
      .ok (.tuple #[.bool true, .int .i64 pos, .int .i32 ((Utf8.decode s pos).1 : Nat)]) (w.iter s (pos + (Utf8.decode s pos).2)) := by
  simp only [Instr.next, getObj, setObj, Sem.run_bind, Sem.run, World.iter_heap, Result.andThen, h, if_true, World.iter_set]
  simp [goInt, Sem.run, World.iter_heap, World.iter_set]
theorem decode_high (s : ByteArray) (pos : Nat) (h : pos < s.size) (ha : ¬ (s[pos]'h).toNat < 128) : 128 ≤ (Utf8.decode s pos).1 := by
  have e : s.get! (pos + 0) = s[pos]'h := by
    show s.get! pos = _
    simp [ByteArray.get!, getElem!_pos, h]
    rfl
  unfold Utf8.decode
  simp only [e]
  rw [if_neg ha]
  split
  · split
    · simp only; omega
    · simp [Utf8.runeError]
  split
  · split
    · rename_i h1; simp only [Bool.and_eq_true, decide_eq_true_eq, ge_iff_le] at h1; simp only; omega
    · simp [Utf8.runeError]
  split
  · split
    · rename_i h1; simp only [Bool.and_eq_true, decide_eq_true_eq, ge_iff_le] at h1; simp only; omega
    · simp [Utf8.runeError]
  · simp [Utf8.runeError]
def IsPathPost (b : Bool) (w : World) (e : Ending) (w' : World) : Prop := e = .returned (.bool b) ∧ Same w w'
set_option maxHeartbeats 400000 in
set_option maxRecDepth 100000 in
theorem isPath_empty (s : ByteArray) (w : World) (h : s.toList = []) : Calls Tryz.prog 122 #[.string s] w (IsPathPost false w) := by
  have h2 : s.toList.isEmpty = true := by rw [h]; rfl
  go_enter Tryz.func122, Tryz.ntmps122
  go_wp2_with fail
  exact bodyPost_ret (results_tmp rfl _ _ _) rfl ⟨rfl, Mods.refl _ _⟩
set_option maxHeartbeats 400000 in
set_option maxRecDepth 100000 in
theorem isPath_long (s : ByteArray) (w : World) (h : ¬ s.toList = []) (hl : ¬ (s.size : Int) ≤ 20) : Calls Tryz.prog 122 #[.string s] w (IsPathPost false w) := by
  have h2 : s.toList.isEmpty = false := by cases h' : s.toList; exact absurd h' h; rfl
  have h3 : (20 : Int) < (s.size : Int) := by omega
  go_enter Tryz.func122, Tryz.ntmps122
  go_wp2_with fail
  exact bodyPost_ret (results_tmp rfl _ _ _) rfl ⟨rfl, Mods.refl _ _⟩
theorem iter_same {w a : World} (h : Same a w) (s : ByteArray) (p : Nat) : Same a (w.iter s p) := h.alloc _
def PathRel (s : ByteArray) (w : World) (B : Bool) (v : Value) (wr : World) : Prop :=
  ∃ k m : Nat, k ≤ s.size ∧ m ≤ k ∧ v = .int .i64 m ∧ wr = w.iter s k ∧ pathGo m (s.data.toList.drop k) = B
set_option maxHeartbeats 4000000 in
set_option maxRecDepth 100000 in
theorem isPath_run (s : ByteArray) (w : World) (h : ¬ s.toList = []) (hl : (s.size : Int) ≤ 20) : Calls Tryz.prog 122 #[.string s] w (IsPathPost (pathGo 0 s.data.toList) w) := by
  have h2 : s.toList.isEmpty = false := by cases h' : s.toList; exact absurd h' h; rfl
  have h3 : ¬ (20 : Int) < (s.size : Int) := by omega
  go_enter Tryz.func122, Tryz.ntmps122
  go_wp2_with fail
  go_loopw [3] (fun v wr => PathRel s w (pathGo 0 s.data.toList) v wr) (fun _ wr => s.size - wr.iterPos w.heap.size)
  case atStart => exact ⟨0, 0, Nat.zero_le _, Nat.le_refl _, rfl, rfl, by simp⟩
  case round =>
    obtain ⟨k, m, hk, hm, rfl, rfl, hB⟩ := hrel
    have HB := Lib.hid hB
    clear hB h h2 h3
    by_cases hlt : k < s.size
    · have hnx := fun ty => run_next_any (P := Tryz.prog) w s k ty hlt
      have hsl : s.data.toList.length = s.size := by simp
      have hdr : s.data.toList.drop k = s[k] :: s.data.toList.drop (k + 1) := by
        rw [List.drop_eq_getElem_cons (by omega)]; rfl
      have HD := Lib.hid hdr
      clear hdr
      by_cases ha : s[k].toNat < 128
      · have hdc := decode_ascii s k hlt ha
        obtain ⟨x, hx⟩ : ∃ x, s[k].toNat = x := ⟨_, rfl⟩
        simp only [hdc, hx] at hnx
        have HX := Lib.hid hx
        rw [hx] at ha
        clear hdc hx hsl
        have hB2 : (if x = 47 ∧ 0 < m then pathGo 0 (s.data.toList.drop (k + 1)) else if plainN x then pathGo (m + 1) (s.data.toList.drop (k + 1)) else false) = pathGo 0 s.data.toList := by
          have := HB.out
          rw [HD.out, pathGo, HX.out, plainB_N, HX.out] at this
          exact this
        have HB2 := Lib.hid hB2
        clear hB2 HB
        have hm1 : (m : Int) ≤ 9223372036854775806 := by omega
        by_cases c1 : x = 47
        · subst c1
          by_cases hm0 : 0 < m
          · have HB3 := Lib.hid HB2.out
            have hm2 : (0 : Int) < (m : Int) := by omega
            go_wp2_with fail
            go_roundw
            case rel => exact ⟨k + 1, 0, by omega, by omega, rfl, rfl, by have := HB3.out; rwa [if_pos ⟨rfl, hm0⟩] at this⟩
            case measure => simp; omega
          · obtain rfl : m = 0 := by omega
            have HB3 := Lib.hid HB2.out
            go_wp2_with fail
            refine bodyPost_ret (results_tmp rfl _ _ _) rfl ⟨?_, iter_same (Mods.refl _ w) _ _⟩
            have := HB3.out
            rw [if_neg (by omega), if_neg (by decide)] at this
            rw [← this]; rfl
        · by_cases c2 : plainN x = true
          · have HC2 := Lib.hid c2
            have hne : ¬ (x : Int) = 47 := by omega
            have hp : (97 ≤ x ∧ x ≤ 122) ∨ (48 ≤ x ∧ x ≤ 57) ∨ x = 46 ∨ x = 45 ∨ x = 95 := by
              unfold plainN at c2
              simp only [Bool.or_eq_true, Bool.and_eq_true, decide_eq_true_eq, beq_iff_eq] at c2
              omega
            clear c2
            rcases hp with hp | hp | hp | hp | hp
            all_goals first | subst hp | (obtain ⟨hp1, hp2⟩ := hp; have hp3 : (x : Int) ≤ 122 := by omega)
            all_goals go_wp2_with fail
            all_goals
              go_roundw
              case rel => exact ⟨k + 1, m + 1, by omega, by omega, by go_num, rfl, by have := HB2.out; rwa [if_neg (by omega), if_pos HC2.out] at this⟩
              case measure => simp; omega
          · have HC2 := Lib.hid c2
            have hp : ¬ (97 ≤ x ∧ x ≤ 122) ∧ ¬ (48 ≤ x ∧ x ≤ 57) ∧ ¬ x = 46 ∧ ¬ x = 45 ∧ ¬ x = 95 := by
              unfold plainN at c2
              simp only [Bool.or_eq_true, Bool.and_eq_true, decide_eq_true_eq, beq_iff_eq] at c2
              omega
            obtain ⟨hp1, hp2, hp3, hp4, hp5⟩ := hp
            clear c2
            go_wp2_with fail
            go_ways
            all_goals
              refine bodyPost_ret (results_tmp rfl _ _ _) rfl ⟨?_, iter_same (Mods.refl _ w) _ _⟩
              have := HB2.out
              rw [if_neg (by omega), if_neg HC2.out] at this
              rw [← this]; rfl
      · have hdc := decode_high s k hlt ha
        generalize hc : (Utf8.decode s k).1 = c at hdc hnx
        have hB2 : false = pathGo 0 s.data.toList := by
          have := HB.out
          rw [HD.out] at this
          simp only [pathGo] at this
          rw [if_neg (fun h => ha (by omega))] at this
          have hp : plainB s[k] = false := by
            rw [plainB_N]
            unfold plainN
            generalize s[k].toNat = y at ha
            simp only [Bool.or_eq_false_iff, Bool.and_eq_false_iff, decide_eq_false_iff_not, beq_eq_false_iff_ne]
            omega
          rw [hp] at this
          exact this
        have HB2 := Lib.hid hB2
        clear hB2 HB HD ha
        have e47 : ¬ (c : Int) = 47 := by omega
        have e1 : (97 : Int) ≤ c := by omega
        have e2 : ¬ (c : Int) ≤ 122 := by omega
        have e3 : (48 : Int) ≤ c := by omega
        have e4 : ¬ (c : Int) ≤ 57 := by omega
        have e5 : ¬ (c : Int) = 46 := by omega
        have e6 : ¬ (c : Int) = 45 := by omega
        have e7 : ¬ (c : Int) = 95 := by omega
        go_wp2_with fail
        go_ways
        all_goals
          refine bodyPost_ret (results_tmp rfl _ _ _) rfl ⟨?_, iter_same (Mods.refl _ w) _ _⟩
          rw [← HB2.out]; rfl
    · obtain rfl : k = s.size := by omega
      have hnx := fun ty => run_next_end (P := Tryz.prog) w s s.size ty hlt
      have hB3 : decide (0 < m) = pathGo 0 s.data.toList := by
        have := HB.out
        rw [List.drop_of_length_le (by simp)] at this
        exact this
      have HB3 := Lib.hid hB3
      clear hB3 HB
      go_wp2_with fail
      refine bodyPost_end (results_tmp rfl _ _ _) rfl ⟨?_, iter_same (Mods.refl _ w) _ _⟩
      rw [← HB3.out]
      simp
theorem isPath_calls (l : List UInt8) (w : World) : Calls Tryz.prog 122 #[str l] w (IsPathPost (isPathB l) w) := by
  unfold isPathB
  by_cases h0 : l = []
  · subst h0
    exact isPath_empty _ w ((toList_nil_iff_emptyBytes _).2 rfl)
  have hne : ¬ (⟨l.toArray⟩ : ByteArray).toList = [] := by
    intro h
    apply h0
    have := congrArg (fun b : ByteArray => b.data.toList) ((toList_nil_iff_emptyBytes _).1 h)
    simpa using this
  have hsz : (⟨l.toArray⟩ : ByteArray).size = l.length := by simp [ByteArray.size]
  by_cases h1 : l.length ≤ 20
  · have := isPath_run ⟨l.toArray⟩ w hne (by rw [hsz]; omega)
    simpa [h0, h1] using this
  · have := isPath_long ⟨l.toArray⟩ w hne (by rw [hsz]; omega)
    simpa [h0, h1] using this
end Go.Proofs.YtdhobpbngkainaaGreatDoor
/-
  Ours. record.reader: it takes bytes apart.
-/
namespace Go.Proofs.YtdhobpbngkainaaGreatDoor
open Go.RowKit

/-- The reader's block; what is still to be read. -/
def RdAt (w : World) (rb : Nat) (a : Option Addr) (n cap : Nat) (bad : Bool) : Prop := w.heap[rb]? = some (.cells #[.slice a n cap, .bool bad] 282 (0, 0))
/-- A reader of these bytes. -/
def Rd (w : World) (rb : Nat) (l : Bs) (bad : Bool) : Prop := ∃ a cap, RdAt w rb a l.length cap bad ∧ l.length ≤ cap ∧ CellsAt w a (l.map enc8) ∧ ∀ x, a = some x → x.block ≠ rb
/-- What came out. -/
def BytesPost (rb : Nat) (l : Bs) (bad : Bool) (n : Nat) (w : World) (e : Ending) (w' : World) : Prop :=
  (bad = true ∨ l.length < n → e = .returned (.slice none 0 0) ∧ Rd w' rb l true) ∧
  (bad = false → n ≤ l.length → (∃ a cap, e = .returned (.slice a n cap) ∧ n ≤ cap ∧ CellsAt w' a ((l.take n).map enc8) ∧ (∀ x, a = some x → x.block ≠ rb)) ∧ Rd w' rb (l.drop n) false) ∧
  Mods (fun k => k = rb) w w' ∧ w'.heap.size = w.heap.size

theorem cells_take {w : World} {a : Option Addr} {l : Bs} (h : CellsAt w a (l.map enc8)) (n : Nat) (hn : n ≤ l.length) : CellsAt w a ((l.take n).map enc8) := fun hp => by
  simp at hp
  obtain ⟨g, off, ha, hc⟩ := h (by simp; omega)
  refine ⟨g, off, ha, fun j hj => ?_⟩
  have hj' : j < n := by simp at hj; omega
  rw [hc j (by simp; omega)]
  simp
theorem cells_drop {w : World} {g off : Nat} {l : Bs} (h : CellsAt w (some ⟨g, off, none⟩) (l.map enc8)) (n : Nat) (hn : n ≤ l.length) : CellsAt w (some ⟨g, off + n, none⟩) ((l.drop n).map enc8) := fun hp => by
  simp at hp
  obtain ⟨g', off', ha, hc⟩ := h (by simp; omega)
  simp only [Option.some.injEq, Addr.mk.injEq, and_true] at ha
  obtain ⟨rfl, rfl⟩ := ha
  refine ⟨g, off + n, rfl, fun j hj => ?_⟩
  have hj' : n + j < l.length := by simp at hj; omega
  rw [Nat.add_assoc, hc (n + j) (by simpa using hj')]
  simp
theorem cells_dropO {w : World} {a : Option Addr} {l : Bs} (h : CellsAt w a (l.map enc8)) (n : Nat) (hn : n ≤ l.length) : CellsAt w (a.map (·.add n)) ((l.drop n).map enc8) := fun hp => by
  simp at hp
  obtain ⟨g, off, rfl, hc⟩ := h (by simp; omega)
  have := cells_drop (fun _ => ⟨g, off, rfl, hc⟩) n hn (by simpa using hp)
  simpa [Addr.add_lit] using this
theorem addO_ne {a : Option Addr} {n rb : Nat} (h : ∀ x, a = some x → x.block ≠ rb) : ∀ x, a.map (·.add n) = some x → x.block ≠ rb := fun x hx => by
  cases a with
  | none => simp at hx
  | some y =>
    simp at hx; subst hx
    have := h y rfl
    simpa [Addr.add, apply_ite Addr.block] using this
theorem cells_empty (w : World) (a : Option Addr) : CellsAt w a (([] : Bs).map enc8) := fun hp => by simp at hp
set_option maxHeartbeats 2000000 in
set_option maxRecDepth 100000 in
theorem bytes_bad (rb : Nat) (l : Bs) (bad : Bool) (n : Nat) (w : World) (h : Rd w rb l bad) (hl : l.length ≤ 1099511627776) (hn : n ≤ 1099511627776) (hb : bad = true ∨ l.length < n) :
    Calls Tryz.prog 158 #[.pointer (some ⟨rb, 0, none⟩), .int .i64 n] w (BytesPost rb l bad n w) := by
  obtain ⟨a, cap, hr, hcap, hc, hne⟩ := h
  have h0 := cell_at hr 0 (v := .slice a l.length cap) (by simp)
  have h1 := cell_at hr 1 (v := .bool bad) (by simp)
  have f1 := free_at hr 1
  have hset := set_same hr 1 (.bool true)
  have H := Lib.hid (And.intro hset (And.intro hcap (And.intro hc hne)))
  clear hset hcap hc hne hr
  rcases hb with rfl | hb
  · go_enter Tryz.func158, Tryz.ntmps158
    go_wp2
    go_ret
    obtain ⟨hset, hcap, hc, hne⟩ := H.out
    have hM : Mods (fun k => k = rb) w (w.setCell ⟨rb, 1, none⟩ (.bool true)) := (Mods.refl _ w).set1 _
    exact ⟨fun _ => ⟨rfl, a, cap, by unfold RdAt; rw [hset]; rfl, hcap, hc.keep hM (fun _ _ e => hne _ e), hne⟩, (fun h => by cases h), hM, by simp⟩
  · cases bad
    · have hg : decide (l.length < n) = true := by simpa using hb
      have hg2 : ((n : Int) ≤ (l.length : Int)) = False := by simp; omega
      go_enter Tryz.func158, Tryz.ntmps158
      go_wp2
      go_ret
      obtain ⟨hset, hcap, hc, hne⟩ := H.out
      have hM : Mods (fun k => k = rb) w (w.setCell ⟨rb, 1, none⟩ (.bool true)) := (Mods.refl _ w).set1 _
      exact ⟨fun _ => ⟨rfl, a, cap, by unfold RdAt; rw [hset]; rfl, hcap, hc.keep hM (fun _ _ e => hne _ e), hne⟩, (fun _ h => by omega), hM, by simp⟩
    · go_enter Tryz.func158, Tryz.ntmps158
      go_wp2
      go_ret
      obtain ⟨hset, hcap, hc, hne⟩ := H.out
      have hM : Mods (fun k => k = rb) w (w.setCell ⟨rb, 1, none⟩ (.bool true)) := (Mods.refl _ w).set1 _
      exact ⟨fun _ => ⟨rfl, a, cap, by unfold RdAt; rw [hset]; rfl, hcap, hc.keep hM (fun _ _ e => hne _ e), hne⟩, (fun h => by cases h), hM, by simp⟩

set_option maxHeartbeats 2000000 in
set_option maxRecDepth 100000 in
theorem bytes_good (rb : Nat) (l : Bs) (n : Nat) (w : World) (h : Rd w rb l false) (hl : l.length ≤ 1099511627776) (hn : n ≤ l.length) :
    Calls Tryz.prog 158 #[.pointer (some ⟨rb, 0, none⟩), .int .i64 n] w (BytesPost rb l false n w) := by
  obtain ⟨a, cap, hr, hcap, hc, hne⟩ := h
  have h0 := cell_at hr 0 (v := .slice a l.length cap) (by simp)
  have h1 := cell_at hr 1 (v := .bool false) (by simp)
  have f0 := free_at hr 0
  have hset := fun v => set_same hr 0 v
  have H := Lib.hid (And.intro hset (And.intro hcap (And.intro hc hne)))
  have hg : decide (l.length < n) = false := by simp; omega
  clear hset hc hne hr
  go_enter Tryz.func158, Tryz.ntmps158
  go_wp2
  all_goals
    go_ret
    obtain ⟨hset, hcap', hc, hne⟩ := H.out
  · have hln : l.length = n := by omega
    have hM : Mods (fun k => k = rb) w (w.setCell ⟨rb, 0, none⟩ (.slice a (l.length - n) 0)) := (Mods.refl _ w).set1 _
    have hd : l.drop n = [] := List.drop_of_length_le (by omega)
    refine ⟨fun h => by rcases h with h | h; cases h; omega, fun _ _ => ⟨⟨a, n, rfl, Nat.le_refl _, (cells_take hc n hn).keep hM (fun _ _ e => hne _ e), hne⟩, a, 0, ?_, ?_, by rw [hd]; exact cells_empty _ _, hne⟩, hM, by simp⟩
    · unfold RdAt; rw [hset]; simp
    · simp; omega
  · have hM : Mods (fun k => k = rb) w (w.setCell ⟨rb, 0, none⟩ (.slice (Option.map (fun x => x.add n) a) (l.length - n) (cap - n))) := (Mods.refl _ w).set1 _
    refine ⟨fun h => by rcases h with h | h; cases h; omega, fun _ _ => ⟨⟨a, cap, rfl, by omega, (cells_take hc n hn).keep hM (fun _ _ e => hne _ e), hne⟩, Option.map (fun x => x.add n) a, cap - n, ?_, ?_, (cells_dropO hc n hn).keep hM (fun _ _ e => addO_ne hne _ e), addO_ne hne⟩, hM, by simp⟩
    · unfold RdAt; rw [hset]; simp
    · simp; omega
theorem bytes_calls (rb : Nat) (l : Bs) (bad : Bool) (n : Nat) (w : World) (h : Rd w rb l bad) (hl : l.length ≤ 1099511627776) (hn : n ≤ 1099511627776) :
    Calls Tryz.prog 158 #[.pointer (some ⟨rb, 0, none⟩), .int .i64 n] w (BytesPost rb l bad n w) := by
  by_cases hb : bad = true ∨ l.length < n
  · exact bytes_bad rb l bad n w h hl hn hb
  · have hbad : bad = false := by cases bad <;> simp_all
    subst hbad
    exact bytes_good rb l n w h hl (by simp at hb; exact hb)

/-- A number of some bytes; none left: bad, 0. -/
def rdNum (l : Bs) (bad : Bool) (n : Nat) : Nat := if bad = true ∨ l.length < n then 0 else beNat (l.take n)
def rdBad (l : Bs) (bad : Bool) (n : Nat) : Bool := bad || decide (l.length < n)
def rdRest (l : Bs) (bad : Bool) (n : Nat) : Bs := if bad = true ∨ l.length < n then l else l.drop n
def NumberPost (rb : Nat) (l : Bs) (bad : Bool) (n : Nat) (w : World) (e : Ending) (w' : World) : Prop :=
  e = .returned (.int .i64 (rdNum l bad n)) ∧ Rd w' rb (rdRest l bad n) (rdBad l bad n) ∧ Mods (fun k => k = rb) w w' ∧ w'.heap.size = w.heap.size
/-- What bytes answers, in one word: a slice that reads as these bytes. -/
theorem bytesPost_one {rb : Nat} {l : Bs} {bad : Bool} {n : Nat} {w w' : World} {e : Ending} (h : BytesPost rb l bad n w e w') :
    ∃ a cap bs, e = .returned (.slice a bs.length cap) ∧ CellsAt w' a (bs.map enc8) ∧ (∀ x, a = some x → x.block ≠ rb) ∧ bs = (if bad = true ∨ l.length < n then [] else l.take n) ∧ Rd w' rb (rdRest l bad n) (rdBad l bad n) ∧ Mods (fun k => k = rb) w w' ∧ w'.heap.size = w.heap.size := by
  obtain ⟨h1, h2, h3, h4⟩ := h
  by_cases hb : bad = true ∨ l.length < n
  · obtain ⟨he, hr⟩ := h1 hb
    refine ⟨none, 0, [], he, cells_empty _ _, fun _ h => (by cases h), by rw [if_pos hb], ?_, h3, h4⟩
    have e2 : rdBad l bad n = true := by unfold rdBad; rcases hb with rfl | hb; rfl; simp [hb]
    rw [e2]; unfold rdRest; rw [if_pos hb]; exact hr
  · have hbad : bad = false := by cases bad <;> simp_all
    have hn : n ≤ l.length := by simp at hb; omega
    obtain ⟨⟨a, cap, he, hc, hca, hne⟩, hr⟩ := h2 hbad hn
    have hl : (l.take n).length = n := by simp; omega
    refine ⟨a, cap, l.take n, by rw [hl]; exact he, hca, hne, by rw [if_neg hb], ?_, h3, h4⟩
    have e2 : rdBad l bad n = false := by unfold rdBad; rw [hbad]; simp; omega
    rw [e2]; unfold rdRest; rw [if_neg hb]; exact hr
set_option maxRecDepth 100000 in
theorem bits_or64 (a b : Nat) (ha : a * 256 + b < 9223372036854775808) (hb : b < 256) : bits BinOp.or IntKind.i64 ((a : Int) * 256) (b : Int) = ((a * 256 + b : Nat) : Int) := by
  have e1 : (BitVec.ofInt 64 ((a : Int) * 256)).toNat = a * 256 := by
    rw [show ((a : Int) * 256) = ((a * 256 : Nat) : Int) by omega, BitVec.ofInt_natCast, BitVec.toNat_ofNat]; exact Nat.mod_eq_of_lt (by omega)
  have e2 : (BitVec.ofInt 64 (b : Int)).toNat = b := by rw [BitVec.ofInt_natCast, BitVec.toNat_ofNat]; exact Nat.mod_eq_of_lt (by omega)
  show IntKind.i64.wrap ((BitVec.ofInt 64 ((a : Int) * 256) ||| BitVec.ofInt 64 (b : Int)).toNat : Int) = _
  have e3 : a * 256 ||| b = a * 256 + b := by
    have := Nat.two_pow_add_eq_or_of_lt (i := 8) hb a
    rw [show (256 : Nat) = 2 ^ 8 from rfl, Nat.mul_comm]; exact this.symm
  rw [BitVec.toNat_or, e1, e2, e3]
  unfold IntKind.wrap
  simp [IntKind.bits, IntKind.signed]
  omega
set_option maxHeartbeats 2000000 in
set_option maxRecDepth 100000 in
theorem rnumber_calls (rb : Nat) (l : Bs) (bad : Bool) (n : Nat) (w : World) (h : Rd w rb l bad) (hl : l.length ≤ 1099511627776) (hn : n ≤ 7) :
    Calls Tryz.prog 139 #[.pointer (some ⟨rb, 0, none⟩), .int .i64 n] w (NumberPost rb l bad n w) := by
  have H := Lib.hid (bytes_calls rb l bad n w h hl (by omega))
  clear h
  go_enter Tryz.func139, Tryz.ntmps139
  go_wp2_with fail
  refine H.out.mono ?_
  rintro e w1 hp
  obtain ⟨a, cap, bs, rfl, hca, hne, hbs, hr, hM, hsz⟩ := bytesPost_one hp
  have hbl : bs.length ≤ 7 := by rw [hbs]; split <;> simp; omega
  have H1 := Lib.hid (And.intro hca (And.intro hbs (And.intro hr (And.intro hM hsz))))
  clear hp H hca hbs hr hM hsz hne
  go_wp2_with fail
  go_loop [5, 12] (fun v i => ∃ j : Nat, j ≤ bs.length ∧ i = .int .i64 j ∧ v = .int .i64 (beNat (bs.take j))) (fun _ i => bs.length - (intOf i).toNat)
  case atStart => exact ⟨0, Nat.zero_le _, rfl, rfl⟩
  case round =>
    obtain ⟨j, hj, rfl, rfl⟩ := hrel
    by_cases hlt : j < bs.length
    · obtain ⟨g, off, rfl, hc⟩ := H1.out.1 (by simp; omega)
      have hcj := hc j (by simpa using hlt)
      simp only [List.getElem_map] at hcj
      unfold enc8 at hcj
      have h8 := UInt8.toNat_lt bs[j]
      have hlb : beNat (bs.take j) < 281474976710656 := by
        have := beNat_lt (bs.take j)
        have h2 : (bs.take j).length ≤ 6 := by simp; omega
        have h3 : (256 : Nat) ^ (bs.take j).length ≤ 256 ^ 6 := Nat.pow_le_pow_right (by omega) h2
        omega
      have hor := bits_or64 (beNat (bs.take j)) bs[j].toNat (by omega) h8
      have hnx : beNat (bs.take (j + 1)) = beNat (bs.take j) * 256 + bs[j].toNat := by rw [List.take_succ_eq_append_getElem hlt, beNat_snoc]
      have HN := Lib.hid hnx
      clear hc hnx
      generalize bs[j].toNat = x at *
      generalize beNat (bs.take j) = q at *
      go_wp2_with fail
      exact ⟨⟨j + 1, by omega, by go_num, by rw [HN.out]; congr 1⟩, by simp [intOf]; omega⟩
    · obtain rfl : j = bs.length := by omega
      go_wp2_with fail
      go_ret
      obtain ⟨hca, hbs, hr, hM, hsz⟩ := H1.out
      refine ⟨ret_int ?_, hr, hM, hsz⟩
      rw [hbs]
      unfold rdNum
      split <;> rfl
end Go.Proofs.YtdhobpbngkainaaGreatDoor
/-
  Ours. record.Open answers what stands at the front of bytes.
-/
namespace Go.Proofs.YtdhobpbngkainaaGreatDoor
open Go.RowKit

def OpenNone (w : World) (e : Ending) (w' : World) : Prop := e = .returned (.tuple #[.int .u8 0, .slice none 0 0, .int .i64 0]) ∧ Same w w'
def OpenSome (a : Option Addr) (k : UInt8) (body : Bs) (n : Nat) (w : World) (e : Ending) (w' : World) : Prop :=
  ∃ a', e = .returned (.tuple #[.int .u8 k.toNat, .slice a' body.length body.length, .int .i64 n]) ∧ CellsAt w' a' (body.map enc8) ∧ (∀ x, a' = some x → ∃ y, a = some y ∧ x.block = y.block) ∧ Same w w'
def OpenPost (a : Option Addr) (b : Bs) (w : World) (e : Ending) (w' : World) : Prop :=
  match openR b with
  | none => OpenNone w e w'
  | some (k, body, n) => OpenSome a k body n w e w'

theorem Size_quiet (n : Int) (h0 : 0 ≤ n) (h1 : n ≤ 1099511627776) (w : World) (m : Nat) : Calls Tryz.prog 79 #[.int .i64 n] (w.drewN m) (fun e w'' => e = .returned (.int .i64 (n + 9)) ∧ ∃ m', w'' = w.drewN m') :=
  Calls.quiet_of_same ((Size_calls n h0 h1 _).mono fun e w' ⟨he, hw⟩ => ⟨he, hw.symm⟩)
set_option maxRecDepth 100000 in
theorem bits_not8 (x : Nat) (h : x < 256) : bits BinOp.xor IntKind.u8 IntKind.u8.max (x : Int) = ((255 - x : Nat) : Int) := by
  have : ∀ y : Fin 256, bits BinOp.xor IntKind.u8 IntKind.u8.max ((y.1 : Nat) : Int) = ((255 - y.1 : Nat) : Int) := by decide +kernel
  exact this ⟨x, h⟩

theorem bits_not8q (x y : Nat) (h : x < 256) (hy : 255 - x = y) : bits BinOp.xor IntKind.u8 (if IntKind.u8.signed = true then -1 else IntKind.u8.max) (x : Int) = (y : Int) := by
  subst hy; exact bits_not8 x h
set_option maxHeartbeats 2000000 in
set_option maxRecDepth 100000 in
theorem open_short (a : Option Addr) (cap : Nat) (b : Bs) (w : World) (hb : b.length < 9) : Calls Tryz.prog 97 #[.slice a b.length cap] w (OpenNone w) := by
  have hg : decide ((b.length : Int) < 9) = true := by simp; omega
  go_enter Tryz.func97, Tryz.ntmps97
  go_wp2
  go_ret3
  exact ⟨rfl, Mods.refl _ _⟩
set_option maxHeartbeats 2000000 in
set_option maxRecDepth 100000 in
theorem open_zero (g off : Nat) (cap : Nat) (b : Bs) (w : World) (hb : 9 ≤ b.length) (hl : b.length ≤ 1099511627776) (h0 : w.cell? ⟨g, off + 0, none⟩ = some (.int .u8 0)) : Calls Tryz.prog 97 #[.slice (some ⟨g, off, none⟩) b.length cap] w (OpenNone w) := by
  have hg : decide ((b.length : Int) < 9) = false := by simp; omega
  have hp : (0 : Int) < b.length := by omega
  have h0' : w.cell? ⟨g, off, none⟩ = some (.int .u8 0) := h0
  go_enter Tryz.func97, Tryz.ntmps97
  go_wp2
  go_ret3
  exact ⟨rfl, Mods.refl _ _⟩
theorem open_w1 {w : World} {g off cap r m n : Nat} {b : Bs} (hc : CellsAt w (some ⟨g, off, none⟩) (b.map enc8)) (hr : r ≤ b.length) (hcap : b.length ≤ cap) (hg : g < w.heap.size) (hn : n = b.length - r) :
    Rd ((w.drewN m).alloc (.cells #[.slice (some ⟨g, off + r, none⟩) n (cap - r), .bool false] 282)) w.heap.size (b.drop r) false ∧ Same w ((w.drewN m).alloc (.cells #[.slice (some ⟨g, off + r, none⟩) n (cap - r), .bool false] 282)) := by
  have hs : Same w ((w.drewN m).alloc (.cells #[.slice (some ⟨g, off + r, none⟩) n (cap - r), .bool false] 282)) := ((Mods.refl _ w).drewN m).alloc _
  have hl : (b.drop r).length = n := by simp; omega
  refine ⟨⟨_, cap - r, ?_, by omega, (cells_drop hc r hr).keep hs (fun _ _ _ => id), fun x hx => ?_⟩, hs⟩
  · unfold RdAt; rw [hl]; exact alloc_new (w.drewN m) _
  · simp at hx; subst hx; show g ≠ _; omega
set_option maxHeartbeats 2000000 in
set_option maxRecDepth 100000 in
theorem open_len (g off : Nat) (cap : Nat) (b : Bs) (w : World) (b0 b1 b2 b3 b4 : Nat) (hb : 9 ≤ b.length) (hl : b.length ≤ 1099511627776) (h0 : w.cell? ⟨g, off, none⟩ = some (.int .u8 b0)) (hb0 : b0 ≠ 0)
    (h1 : w.cell? ⟨g, off + 1, none⟩ = some (.int .u8 b1)) (h2 : w.cell? ⟨g, off + 2, none⟩ = some (.int .u8 b2)) (h3 : w.cell? ⟨g, off + 3, none⟩ = some (.int .u8 b3)) (h4 : w.cell? ⟨g, off + 4, none⟩ = some (.int .u8 b4))
    (l1 : b1 < 256) (l2 : b2 < 256) (l3 : b3 < 256) (l4 : b4 < 256) (hne : b1 * 256 + b2 ≠ (255 - b3) * 256 + (255 - b4)) : Calls Tryz.prog 97 #[.slice (some ⟨g, off, none⟩) b.length cap] w (OpenNone w) := by
  have hg : decide ((b.length : Int) < 9) = false := by simp; omega
  have hp : (0 : Int) < b.length := by omega
  have hp1 : (1 : Int) < b.length := by omega
  have hp2 : (2 : Int) < b.length := by omega
  have hp3 : (3 : Int) < b.length := by omega
  have hp4 : (4 : Int) < b.length := by omega
  have hz : ((b0 : Int) == 0) = false := by simp; omega
  have o1 := bits_or64 b1 b2 (by omega) l2
  obtain ⟨c3, hc3⟩ : ∃ c : Nat, 255 - b3 = c := ⟨_, rfl⟩
  obtain ⟨c4, hc4⟩ : ∃ c : Nat, 255 - b4 = c := ⟨_, rfl⟩
  have n3 := bits_not8q b3 c3 l3 hc3
  have n4 := bits_not8q b4 c4 l4 hc4
  have l3' : c3 < 256 := by omega
  have l4' : c4 < 256 := by omega
  rw [hc3, hc4] at hne
  clear hc3 hc4
  have o2 := bits_or64 c3 c4 (by omega) (by omega)
  obtain ⟨mm, hmm⟩ : ∃ mm : Nat, c3 * 256 + c4 = mm := ⟨_, rfl⟩
  rw [hmm] at o2 hne
  obtain ⟨nn, hnn⟩ : ∃ nn : Nat, b1 * 256 + b2 = nn := ⟨_, rfl⟩
  rw [hnn] at o1 hne
  have hq : ((nn : Int) != (mm : Int)) = true := by simp only [bne_iff_ne]; omega
  have HN := Lib.hid hnn
  clear hmm hnn hne
  go_enter Tryz.func97, Tryz.ntmps97
  go_wp2_with fail
  go_quiet (fail)
  go_wp2_with fail
  have k3 : (w.drewN nq).cell? ⟨g, off + 3, none⟩ = some (.int .u8 b3) := h3
  have k4 : (w.drewN nq).cell? ⟨g, off + 4, none⟩ = some (.int .u8 b4) := h4
  clear o1 h0 h1 h2 hz hp hp1 hp2
  go_quiet (fail)
  go_wp2_with fail
  go_ret3
  exact ⟨rfl, ((Mods.refl _ w).drewN _).drewN _⟩
set_option maxHeartbeats 2000000 in
set_option maxRecDepth 100000 in
theorem open_size (g off : Nat) (cap : Nat) (b : Bs) (w : World) (b0 b1 b2 b3 b4 : Nat) (hb : 9 ≤ b.length) (hl : b.length ≤ 1099511627776) (h0 : w.cell? ⟨g, off, none⟩ = some (.int .u8 b0)) (hb0 : b0 ≠ 0)
    (h1 : w.cell? ⟨g, off + 1, none⟩ = some (.int .u8 b1)) (h2 : w.cell? ⟨g, off + 2, none⟩ = some (.int .u8 b2)) (h3 : w.cell? ⟨g, off + 3, none⟩ = some (.int .u8 b3)) (h4 : w.cell? ⟨g, off + 4, none⟩ = some (.int .u8 b4))
    (l1 : b1 < 256) (l2 : b2 < 256) (l3 : b3 < 256) (l4 : b4 < 256) (hne : b1 * 256 + b2 = (255 - b3) * 256 + (255 - b4)) (hsz : b.length < b1 * 256 + b2 + 9) : Calls Tryz.prog 97 #[.slice (some ⟨g, off, none⟩) b.length cap] w (OpenNone w) := by
  have hg : decide ((b.length : Int) < 9) = false := by simp; omega
  have hp : (0 : Int) < b.length := by omega
  have hp1 : (1 : Int) < b.length := by omega
  have hp2 : (2 : Int) < b.length := by omega
  have hp3 : (3 : Int) < b.length := by omega
  have hp4 : (4 : Int) < b.length := by omega
  have hz : ((b0 : Int) == 0) = false := by simp; omega
  have o1 := bits_or64 b1 b2 (by omega) l2
  obtain ⟨c3, hc3⟩ : ∃ c : Nat, 255 - b3 = c := ⟨_, rfl⟩
  obtain ⟨c4, hc4⟩ : ∃ c : Nat, 255 - b4 = c := ⟨_, rfl⟩
  have n3 := bits_not8q b3 c3 l3 hc3
  have n4 := bits_not8q b4 c4 l4 hc4
  have l3' : c3 < 256 := by omega
  have l4' : c4 < 256 := by omega
  rw [hc3, hc4] at hne
  clear hc3 hc4
  have o2 := bits_or64 c3 c4 (by omega) (by omega)
  obtain ⟨mm, hmm⟩ : ∃ mm : Nat, c3 * 256 + c4 = mm := ⟨_, rfl⟩
  rw [hmm] at o2 hne
  obtain ⟨nn, hnn⟩ : ∃ nn : Nat, b1 * 256 + b2 = nn := ⟨_, rfl⟩
  rw [hnn] at o1 hne
  rw [hnn] at hsz
  subst hne
  have hq : ((nn : Int) != (nn : Int)) = false := by simp
  have hlt : decide ((b.length : Int) < (nn : Int) + 9) = true := by simp; omega
  have hnn16 : nn < 65536 := by omega
  have HN := Lib.hid hnn
  clear hmm hnn
  go_enter Tryz.func97, Tryz.ntmps97
  go_wp2_with fail
  go_quiet (fail)
  go_wp2_with fail
  have k3 : (w.drewN nq).cell? ⟨g, off + 3, none⟩ = some (.int .u8 b3) := h3
  have k4 : (w.drewN nq).cell? ⟨g, off + 4, none⟩ = some (.int .u8 b4) := h4
  clear o1 h0 h1 h2 hz hp hp1 hp2
  go_quiet ((go_at_call 79; exact (Size_calls _ (by omega) (by omega) _).mono (fun e w' ⟨he, hw⟩ => ⟨he, _, hw.symm⟩)))
  go_wp2_with fail
  go_ret3
  exact ⟨rfl, ((Mods.refl _ w).drewN _).drewN _⟩
set_option maxHeartbeats 2000000 in
set_option maxRecDepth 100000 in
theorem open_sum (g off : Nat) (cap : Nat) (b : Bs) (w : World) (b0 b1 b2 b3 b4 : Nat) (hb : 9 ≤ b.length) (hl : b.length ≤ 1099511627776) (h0 : w.cell? ⟨g, off, none⟩ = some (.int .u8 b0)) (hb0 : b0 ≠ 0)
    (h1 : w.cell? ⟨g, off + 1, none⟩ = some (.int .u8 b1)) (h2 : w.cell? ⟨g, off + 2, none⟩ = some (.int .u8 b2)) (h3 : w.cell? ⟨g, off + 3, none⟩ = some (.int .u8 b3)) (h4 : w.cell? ⟨g, off + 4, none⟩ = some (.int .u8 b4))
    (l1 : b1 < 256) (l2 : b2 < 256) (l3 : b3 < 256) (l4 : b4 < 256) (hne : b1 * 256 + b2 = (255 - b3) * 256 + (255 - b4)) (hsz : b1 * 256 + b2 + 9 ≤ b.length) (hcap : b.length ≤ cap) (k0 : UInt8) (hk0 : k0.toNat = b0) (hc : CellsAt w (some ⟨g, off, none⟩) (b.map enc8)) (body : Bs) (hbody : body = (b.drop 5).take (b1 * 256 + b2)) (hsum : beNat ((b.drop (5 + (b1 * 256 + b2))).take 4) ≠ sumOf k0 body) : Calls Tryz.prog 97 #[.slice (some ⟨g, off, none⟩) b.length cap] w (OpenNone w) := by
  have hg : decide ((b.length : Int) < 9) = false := by simp; omega
  have hp : (0 : Int) < b.length := by omega
  have hp1 : (1 : Int) < b.length := by omega
  have hp2 : (2 : Int) < b.length := by omega
  have hp3 : (3 : Int) < b.length := by omega
  have hp4 : (4 : Int) < b.length := by omega
  have hz : ((b0 : Int) == 0) = false := by simp; omega
  have o1 := bits_or64 b1 b2 (by omega) l2
  obtain ⟨c3, hc3⟩ : ∃ c : Nat, 255 - b3 = c := ⟨_, rfl⟩
  obtain ⟨c4, hc4⟩ : ∃ c : Nat, 255 - b4 = c := ⟨_, rfl⟩
  have n3 := bits_not8q b3 c3 l3 hc3
  have n4 := bits_not8q b4 c4 l4 hc4
  have l3' : c3 < 256 := by omega
  have l4' : c4 < 256 := by omega
  rw [hc3, hc4] at hne
  clear hc3 hc4
  have o2 := bits_or64 c3 c4 (by omega) (by omega)
  obtain ⟨mm, hmm⟩ : ∃ mm : Nat, c3 * 256 + c4 = mm := ⟨_, rfl⟩
  rw [hmm] at o2 hne
  obtain ⟨nn, hnn⟩ : ∃ nn : Nat, b1 * 256 + b2 = nn := ⟨_, rfl⟩
  rw [hnn] at o1 hne
  rw [hnn] at hsz
  subst hne
  have hq : ((nn : Int) != (nn : Int)) = false := by simp
  have hlt : decide ((b.length : Int) < (nn : Int) + 9) = false := by simp; omega
  have hnn16 : nn < 65536 := by omega
  rw [hnn] at hbody hsum
  have hgl : g < w.heap.size := World.block_lt_of_cell? w _ h0
  have hbl : body.length = nn := by rw [hbody]; simp; omega
  have hrl : (b.drop (5 + nn)).length = b.length - (5 + nn) := by simp
  have hcb := cells_take (cells_drop hc 5 (by omega)) nn (by simp; omega)
  have hcr := cells_drop hc (5 + nn) (by omega)
  rw [← hbody] at hcb
  have hr4 : rdNum (b.drop (5 + nn)) false 4 = beNat ((b.drop (5 + nn)).take 4) := by unfold rdNum; rw [if_neg (by simp; omega)]
  have hr4l : beNat ((b.drop (5 + nn)).take 4) < 4294967296 := by
    have := beNat_lt ((b.drop (5 + nn)).take 4)
    have h2 : (256 : Nat) ^ ((b.drop (5 + nn)).take 4).length ≤ 256 ^ 4 := Nat.pow_le_pow_right (by omega) (by simp; omega)
    omega
  have hsl := sumOf_lt k0 body
  have HB := Lib.hid (And.intro hcb (And.intro hcr (And.intro hr4 (And.intro hbl (And.intro hc (And.intro hrl hk0))))))
  clear hcb hcr hr4 hbl hc hbody hrl hk0
  have HN := Lib.hid hnn
  clear hmm hnn
  go_enter Tryz.func97, Tryz.ntmps97
  go_wp2_with fail
  go_quiet (fail)
  go_wp2_with fail
  have k3 : (w.drewN nq).cell? ⟨g, off + 3, none⟩ = some (.int .u8 b3) := h3
  have k4 : (w.drewN nq).cell? ⟨g, off + 4, none⟩ = some (.int .u8 b4) := h4
  clear o1 h1 h2 hz hp1 hp2
  obtain ⟨m1, rfl⟩ : ∃ m, m = nq := ⟨_, rfl⟩
  go_quiet ((go_at_call 79; exact (Size_calls _ (by omega) (by omega) _).mono (fun e w' ⟨he, hw⟩ => ⟨he, _, hw.symm⟩)))
  obtain ⟨m2, rfl⟩ : ∃ m, m = nq := ⟨_, rfl⟩
  rcases Nat.eq_zero_or_pos nn with hn0 | hn0
  · subst hn0
    simp only [Nat.add_zero] at *
    go_wp2_with fail
    obtain ⟨hrd, hs1⟩ := open_w1 (m := m1 + m2) HB.out.2.2.2.2.1 (r := 5) (by omega) hcap hgl rfl
    generalize ((w.drewN (m1 + m2)).alloc (.cells #[.slice (some ⟨g, off + 5, none⟩) (b.length - 5) (cap - 5), .bool false] 282)) = W1 at hrd hs1 ⊢
    generalize hrb : w.heap.size = rb at hrd hgl ⊢
    have hk1 : W1.cell? ⟨g, off, none⟩ = some (.int .u8 b0) := by rw [World.cell?_of_block (hs1.block g (by omega) id)]; exact h0
    have hcb1 : CellsAt W1 (some ⟨g, off, none⟩) (body.map enc8) := (by rw [List.eq_nil_of_length_eq_zero HB.out.2.2.2.1]; exact cells_empty _ _)
    have HR := Lib.hid (And.intro hrd (And.intro hs1 (And.intro hrb hcb1)))
    clear hrd hs1 hrb hcb1
    have hw4 : IntKind.u32.wrap ((beNat ((b.drop 5).take 4) : Nat) : Int) = ((beNat ((b.drop 5).take 4) : Nat) : Int) := by rw [IntKind.wrap_u32]; omega
    have hne : (((beNat ((b.drop 5).take 4) : Nat) : Int) != ((sumOf k0 body : Nat) : Int)) = true := by simp only [bne_iff_ne]; omega
    generalize beNat ((b.drop 5).take 4) = x at *
    have hp0 : 0 < b.length := by omega
    have HSum : Hid (∀ W : World, CellsAt W (some ⟨g, off, none⟩) (body.map enc8) → Calls Tryz.prog 128 #[.int .u8 b0, .slice (some ⟨g, off, none⟩) 0 0] W (SumPost k0 body W)) := Lib.hid (fun W h => by
      have := Sum_calls (some ⟨g, off, none⟩) 0 k0 body W h (by have := HB.out.2.2.2.1; omega)
      rwa [HB.out.2.2.2.1, HB.out.2.2.2.2.2.2] at this)
    have HNum := Lib.hid (fun (W : World) (h : Rd W rb (b.drop 5) false) => (show Calls Tryz.prog 139 #[.pointer (some ⟨rb, 0, none⟩), .int .i64 4] W (NumberPost rb (b.drop 5) false 4 W) from rnumber_calls rb (b.drop 5) false 4 W h (by simp; omega) (by omega)))
    go_region_held3 (fun w' => w'.cell? ⟨g, off, none⟩ = some (.int .u8 b0)) (first | exact hk1 | exact hk2 | exact hk3) (first | (go_at_call 139; refine (HNum.out _ (by exact HR.out.1)).mono ?_; rintro e w2 ⟨rfl, hr2, hM2, hz2⟩; rw [HB.out.2.2.1]; have hk2 : w2.cell? ⟨g, off, none⟩ = some (.int .u8 b0) := (World.cell?_of_block (hM2.block g (by have := HR.out.2.1.size; have := HR.out.2.2.1; show g < W1.heap.size; omega) (by omega))).trans hk1; have H2 := Lib.hid (And.intro hM2 hz2); clear hr2 hM2 hz2) | (go_at_call 128; refine (HSum.out _ (CellsAt.keep (w := W1.drew) (by exact HR.out.2.2.2) H2.out.1 (fun g' off' e => by simp at e; omega))).mono ?_; rintro e w3 ⟨rfl, hs3⟩; have hk3 : w3.cell? ⟨g, off, none⟩ = some (.int .u8 b0) := (World.cell?_of_block (hs3.block g (World.block_lt_of_cell? w2 _ hk2) id)).trans hk2; have H3 := Lib.hid hs3; clear hs3))
    go_wp2_with fail
    go_ret3
    exact ⟨rfl, (HR.out.2.1.trans' ((Mods.refl _ W1).drew.trans H2.out.1) (fun i hi => .inr (by have := HR.out.2.2.1; omega))).trans' H3.out (fun i hi => hi.elim)⟩
  · go_wp2_with fail
    obtain ⟨hrd, hs1⟩ := open_w1 (m := m1 + m2) HB.out.2.2.2.2.1 (r := 5 + nn) (by omega) hcap hgl rfl
    generalize ((w.drewN (m1 + m2)).alloc (.cells #[.slice (some ⟨g, off + (5 + nn), none⟩) (b.length - (5 + nn)) (cap - (5 + nn)), .bool false] 282)) = W1 at hrd hs1 ⊢
    generalize hrb : w.heap.size = rb at hrd hgl ⊢
    have hk1 : W1.cell? ⟨g, off, none⟩ = some (.int .u8 b0) := by rw [World.cell?_of_block (hs1.block g (by omega) id)]; exact h0
    have hcb1 : CellsAt W1 (some ⟨g, off + 5, none⟩) (body.map enc8) := HB.out.1.keep hs1 (fun _ _ _ => id)
    have HR := Lib.hid (And.intro hrd (And.intro hs1 (And.intro hrb hcb1)))
    clear hrd hs1 hrb hcb1
    have hw4 : IntKind.u32.wrap ((beNat ((b.drop (5 + nn)).take 4) : Nat) : Int) = ((beNat ((b.drop (5 + nn)).take 4) : Nat) : Int) := by rw [IntKind.wrap_u32]; omega
    have hne : (((beNat ((b.drop (5 + nn)).take 4) : Nat) : Int) != ((sumOf k0 body : Nat) : Int)) = true := by simp only [bne_iff_ne]; omega
    generalize beNat ((b.drop (5 + nn)).take 4) = x at *
    have hp0 : 0 < b.length := by omega
    have HSum : Hid (∀ W : World, CellsAt W (some ⟨g, off + 5, none⟩) (body.map enc8) → Calls Tryz.prog 128 #[.int .u8 b0, .slice (some ⟨g, off + 5, none⟩) nn nn] W (SumPost k0 body W)) := Lib.hid (fun W h => by
      have := Sum_calls (some ⟨g, off + 5, none⟩) nn k0 body W h (by have := HB.out.2.2.2.1; omega)
      rwa [HB.out.2.2.2.1, HB.out.2.2.2.2.2.2] at this)
    have HNum := Lib.hid (fun (W : World) (h : Rd W rb (b.drop (5 + nn)) false) => (show Calls Tryz.prog 139 #[.pointer (some ⟨rb, 0, none⟩), .int .i64 4] W (NumberPost rb (b.drop (5 + nn)) false 4 W) from rnumber_calls rb (b.drop (5 + nn)) false 4 W h (by simp; omega) (by omega)))
    go_region_held3 (fun w' => w'.cell? ⟨g, off, none⟩ = some (.int .u8 b0)) (first | exact hk1 | exact hk2 | exact hk3) (first | (go_at_call 139; refine (HNum.out _ (by exact HR.out.1)).mono ?_; rintro e w2 ⟨rfl, hr2, hM2, hz2⟩; rw [HB.out.2.2.1]; have hk2 : w2.cell? ⟨g, off, none⟩ = some (.int .u8 b0) := (World.cell?_of_block (hM2.block g (by have := HR.out.2.1.size; have := HR.out.2.2.1; show g < W1.heap.size; omega) (by omega))).trans hk1; have H2 := Lib.hid (And.intro hM2 hz2); clear hr2 hM2 hz2) | (go_at_call 128; refine (HSum.out _ (CellsAt.keep (w := W1.drew) (by exact HR.out.2.2.2) H2.out.1 (fun g' off' e => by simp at e; omega))).mono ?_; rintro e w3 ⟨rfl, hs3⟩; have hk3 : w3.cell? ⟨g, off, none⟩ = some (.int .u8 b0) := (World.cell?_of_block (hs3.block g (World.block_lt_of_cell? w2 _ hk2) id)).trans hk2; have H3 := Lib.hid hs3; clear hs3))
    go_wp2_with fail
    go_ret3
    exact ⟨rfl, (HR.out.2.1.trans' ((Mods.refl _ W1).drew.trans H2.out.1) (fun i hi => .inr (by have := HR.out.2.2.1; omega))).trans' H3.out (fun i hi => hi.elim)⟩
set_option maxHeartbeats 2000000 in
set_option maxRecDepth 100000 in
theorem open_ok (g off : Nat) (cap : Nat) (b : Bs) (w : World) (b0 b1 b2 b3 b4 : Nat) (hb : 9 ≤ b.length) (hl : b.length ≤ 1099511627776) (h0 : w.cell? ⟨g, off, none⟩ = some (.int .u8 b0)) (hb0 : b0 ≠ 0)
    (h1 : w.cell? ⟨g, off + 1, none⟩ = some (.int .u8 b1)) (h2 : w.cell? ⟨g, off + 2, none⟩ = some (.int .u8 b2)) (h3 : w.cell? ⟨g, off + 3, none⟩ = some (.int .u8 b3)) (h4 : w.cell? ⟨g, off + 4, none⟩ = some (.int .u8 b4))
    (l1 : b1 < 256) (l2 : b2 < 256) (l3 : b3 < 256) (l4 : b4 < 256) (hne : b1 * 256 + b2 = (255 - b3) * 256 + (255 - b4)) (hsz : b1 * 256 + b2 + 9 ≤ b.length) (hcap : b.length ≤ cap) (k0 : UInt8) (hk0 : k0.toNat = b0) (hc : CellsAt w (some ⟨g, off, none⟩) (b.map enc8)) (body : Bs) (hbody : body = (b.drop 5).take (b1 * 256 + b2)) (hsum : beNat ((b.drop (5 + (b1 * 256 + b2))).take 4) = sumOf k0 body) : Calls Tryz.prog 97 #[.slice (some ⟨g, off, none⟩) b.length cap] w (OpenSome (some ⟨g, off, none⟩) k0 body (b1 * 256 + b2 + 9) w) := by
  have hg : decide ((b.length : Int) < 9) = false := by simp; omega
  have hp : (0 : Int) < b.length := by omega
  have hp1 : (1 : Int) < b.length := by omega
  have hp2 : (2 : Int) < b.length := by omega
  have hp3 : (3 : Int) < b.length := by omega
  have hp4 : (4 : Int) < b.length := by omega
  have hz : ((b0 : Int) == 0) = false := by simp; omega
  have o1 := bits_or64 b1 b2 (by omega) l2
  obtain ⟨c3, hc3⟩ : ∃ c : Nat, 255 - b3 = c := ⟨_, rfl⟩
  obtain ⟨c4, hc4⟩ : ∃ c : Nat, 255 - b4 = c := ⟨_, rfl⟩
  have n3 := bits_not8q b3 c3 l3 hc3
  have n4 := bits_not8q b4 c4 l4 hc4
  have l3' : c3 < 256 := by omega
  have l4' : c4 < 256 := by omega
  rw [hc3, hc4] at hne
  clear hc3 hc4
  have o2 := bits_or64 c3 c4 (by omega) (by omega)
  obtain ⟨mm, hmm⟩ : ∃ mm : Nat, c3 * 256 + c4 = mm := ⟨_, rfl⟩
  rw [hmm] at o2 hne
  obtain ⟨nn, hnn⟩ : ∃ nn : Nat, b1 * 256 + b2 = nn := ⟨_, rfl⟩
  rw [hnn] at o1 hne
  rw [hnn] at hsz
  subst hne
  have hq : ((nn : Int) != (nn : Int)) = false := by simp
  have hlt : decide ((b.length : Int) < (nn : Int) + 9) = false := by simp; omega
  have hnn16 : nn < 65536 := by omega
  rw [hnn] at hbody hsum
  have hgl : g < w.heap.size := World.block_lt_of_cell? w _ h0
  have hbl : body.length = nn := by rw [hbody]; simp; omega
  have hrl : (b.drop (5 + nn)).length = b.length - (5 + nn) := by simp
  have hcb := cells_take (cells_drop hc 5 (by omega)) nn (by simp; omega)
  have hcr := cells_drop hc (5 + nn) (by omega)
  rw [← hbody] at hcb
  have hr4 : rdNum (b.drop (5 + nn)) false 4 = beNat ((b.drop (5 + nn)).take 4) := by unfold rdNum; rw [if_neg (by simp; omega)]
  have hr4l : beNat ((b.drop (5 + nn)).take 4) < 4294967296 := by
    have := beNat_lt ((b.drop (5 + nn)).take 4)
    have h2 : (256 : Nat) ^ ((b.drop (5 + nn)).take 4).length ≤ 256 ^ 4 := Nat.pow_le_pow_right (by omega) (by simp; omega)
    omega
  have hsl := sumOf_lt k0 body
  have HB := Lib.hid (And.intro hcb (And.intro hcr (And.intro hr4 (And.intro hbl (And.intro hc (And.intro hrl hk0))))))
  clear hcb hcr hr4 hbl hc hbody hrl hk0
  have HN := Lib.hid hnn
  clear hmm hnn
  go_enter Tryz.func97, Tryz.ntmps97
  go_wp2_with fail
  go_quiet (fail)
  go_wp2_with fail
  have k3 : (w.drewN nq).cell? ⟨g, off + 3, none⟩ = some (.int .u8 b3) := h3
  have k4 : (w.drewN nq).cell? ⟨g, off + 4, none⟩ = some (.int .u8 b4) := h4
  clear o1 h1 h2 hz hp1 hp2
  obtain ⟨m1, rfl⟩ : ∃ m, m = nq := ⟨_, rfl⟩
  go_quiet ((go_at_call 79; exact (Size_calls _ (by omega) (by omega) _).mono (fun e w' ⟨he, hw⟩ => ⟨he, _, hw.symm⟩)))
  obtain ⟨m2, rfl⟩ : ∃ m, m = nq := ⟨_, rfl⟩
  rcases Nat.eq_zero_or_pos nn with hn0 | hn0
  · subst hn0
    simp only [Nat.add_zero] at *
    go_wp2_with fail
    obtain ⟨hrd, hs1⟩ := open_w1 (m := m1 + m2) HB.out.2.2.2.2.1 (r := 5) (by omega) hcap hgl rfl
    generalize ((w.drewN (m1 + m2)).alloc (.cells #[.slice (some ⟨g, off + 5, none⟩) (b.length - 5) (cap - 5), .bool false] 282)) = W1 at hrd hs1 ⊢
    generalize hrb : w.heap.size = rb at hrd hgl ⊢
    have hk1 : W1.cell? ⟨g, off, none⟩ = some (.int .u8 b0) := by rw [World.cell?_of_block (hs1.block g (by omega) id)]; exact h0
    have hcb1 : CellsAt W1 (some ⟨g, off, none⟩) (body.map enc8) := (by rw [List.eq_nil_of_length_eq_zero HB.out.2.2.2.1]; exact cells_empty _ _)
    have HR := Lib.hid (And.intro hrd (And.intro hs1 (And.intro hrb hcb1)))
    clear hrd hs1 hrb hcb1
    have hw4 : IntKind.u32.wrap ((beNat ((b.drop 5).take 4) : Nat) : Int) = ((beNat ((b.drop 5).take 4) : Nat) : Int) := by rw [IntKind.wrap_u32]; omega
    have hne : (((beNat ((b.drop 5).take 4) : Nat) : Int) != ((sumOf k0 body : Nat) : Int)) = false := by rw [hsum]; simp
    clear hsum
    generalize beNat ((b.drop 5).take 4) = x at *
    have hp0 : 0 < b.length := by omega
    have HSum : Hid (∀ W : World, CellsAt W (some ⟨g, off, none⟩) (body.map enc8) → Calls Tryz.prog 128 #[.int .u8 b0, .slice (some ⟨g, off, none⟩) 0 0] W (SumPost k0 body W)) := Lib.hid (fun W h => by
      have := Sum_calls (some ⟨g, off, none⟩) 0 k0 body W h (by have := HB.out.2.2.2.1; omega)
      rwa [HB.out.2.2.2.1, HB.out.2.2.2.2.2.2] at this)
    have HNum := Lib.hid (fun (W : World) (h : Rd W rb (b.drop 5) false) => (show Calls Tryz.prog 139 #[.pointer (some ⟨rb, 0, none⟩), .int .i64 4] W (NumberPost rb (b.drop 5) false 4 W) from rnumber_calls rb (b.drop 5) false 4 W h (by simp; omega) (by omega)))
    go_region_held3 (fun w' => w'.cell? ⟨g, off, none⟩ = some (.int .u8 b0)) (first | exact hk1 | exact hk2 | exact hk3) (first | (go_at_call 139; refine (HNum.out _ (by exact HR.out.1)).mono ?_; rintro e w2 ⟨rfl, hr2, hM2, hz2⟩; rw [HB.out.2.2.1]; have hk2 : w2.cell? ⟨g, off, none⟩ = some (.int .u8 b0) := (World.cell?_of_block (hM2.block g (by have := HR.out.2.1.size; have := HR.out.2.2.1; show g < W1.heap.size; omega) (by omega))).trans hk1; have H2 := Lib.hid (And.intro hM2 hz2); clear hr2 hM2 hz2) | (go_at_call 128; refine (HSum.out _ (CellsAt.keep (w := W1.drew) (by exact HR.out.2.2.2) H2.out.1 (fun g' off' e => by simp at e; omega))).mono ?_; rintro e w3 ⟨rfl, hs3⟩; have hk3 : w3.cell? ⟨g, off, none⟩ = some (.int .u8 b0) := (World.cell?_of_block (hs3.block g (World.block_lt_of_cell? w2 _ hk2) id)).trans hk2; have H3 := Lib.hid hs3; clear hs3))
    go_wp2_with fail
    have hsame : Same w w3 := (HR.out.2.1.trans' ((Mods.refl _ W1).drew.trans H2.out.1) (fun i hi => .inr (by have := HR.out.2.2.1; omega))).trans' H3.out (fun i hi => hi.elim)
    have hcb3 : CellsAt w3 (some ⟨g, off, none⟩) (body.map enc8) := by rw [List.eq_nil_of_length_eq_zero HB.out.2.2.2.1]; exact cells_empty _ _
    have HZ := Lib.hid (And.intro hsame hcb3)
    clear hsame hcb3 hk1 hk2
    go_quiet ((go_at_call 79; exact (Size_calls _ (by omega) (by omega) _).mono (fun e w' ⟨he, hw⟩ => ⟨he, _, hw.symm⟩)))
    go_wp2_with fail
    go_ret3
    refine ⟨some ⟨g, off, none⟩, ?_, HZ.out.2, fun x hx => ⟨_, rfl, by simp at hx; subst hx; rfl⟩, HZ.out.1.drewN _⟩
    rw [HB.out.2.2.2.1, HB.out.2.2.2.2.2.2, HN.out]
    first | rfl | (congr 3) | simp
  · go_wp2_with fail
    obtain ⟨hrd, hs1⟩ := open_w1 (m := m1 + m2) HB.out.2.2.2.2.1 (r := 5 + nn) (by omega) hcap hgl rfl
    generalize ((w.drewN (m1 + m2)).alloc (.cells #[.slice (some ⟨g, off + (5 + nn), none⟩) (b.length - (5 + nn)) (cap - (5 + nn)), .bool false] 282)) = W1 at hrd hs1 ⊢
    generalize hrb : w.heap.size = rb at hrd hgl ⊢
    have hk1 : W1.cell? ⟨g, off, none⟩ = some (.int .u8 b0) := by rw [World.cell?_of_block (hs1.block g (by omega) id)]; exact h0
    have hcb1 : CellsAt W1 (some ⟨g, off + 5, none⟩) (body.map enc8) := HB.out.1.keep hs1 (fun _ _ _ => id)
    have HR := Lib.hid (And.intro hrd (And.intro hs1 (And.intro hrb hcb1)))
    clear hrd hs1 hrb hcb1
    have hw4 : IntKind.u32.wrap ((beNat ((b.drop (5 + nn)).take 4) : Nat) : Int) = ((beNat ((b.drop (5 + nn)).take 4) : Nat) : Int) := by rw [IntKind.wrap_u32]; omega
    have hne : (((beNat ((b.drop (5 + nn)).take 4) : Nat) : Int) != ((sumOf k0 body : Nat) : Int)) = false := by rw [hsum]; simp
    clear hsum
    generalize beNat ((b.drop (5 + nn)).take 4) = x at *
    have hp0 : 0 < b.length := by omega
    have HSum : Hid (∀ W : World, CellsAt W (some ⟨g, off + 5, none⟩) (body.map enc8) → Calls Tryz.prog 128 #[.int .u8 b0, .slice (some ⟨g, off + 5, none⟩) nn nn] W (SumPost k0 body W)) := Lib.hid (fun W h => by
      have := Sum_calls (some ⟨g, off + 5, none⟩) nn k0 body W h (by have := HB.out.2.2.2.1; omega)
      rwa [HB.out.2.2.2.1, HB.out.2.2.2.2.2.2] at this)
    have HNum := Lib.hid (fun (W : World) (h : Rd W rb (b.drop (5 + nn)) false) => (show Calls Tryz.prog 139 #[.pointer (some ⟨rb, 0, none⟩), .int .i64 4] W (NumberPost rb (b.drop (5 + nn)) false 4 W) from rnumber_calls rb (b.drop (5 + nn)) false 4 W h (by simp; omega) (by omega)))
    go_region_held3 (fun w' => w'.cell? ⟨g, off, none⟩ = some (.int .u8 b0)) (first | exact hk1 | exact hk2 | exact hk3) (first | (go_at_call 139; refine (HNum.out _ (by exact HR.out.1)).mono ?_; rintro e w2 ⟨rfl, hr2, hM2, hz2⟩; rw [HB.out.2.2.1]; have hk2 : w2.cell? ⟨g, off, none⟩ = some (.int .u8 b0) := (World.cell?_of_block (hM2.block g (by have := HR.out.2.1.size; have := HR.out.2.2.1; show g < W1.heap.size; omega) (by omega))).trans hk1; have H2 := Lib.hid (And.intro hM2 hz2); clear hr2 hM2 hz2) | (go_at_call 128; refine (HSum.out _ (CellsAt.keep (w := W1.drew) (by exact HR.out.2.2.2) H2.out.1 (fun g' off' e => by simp at e; omega))).mono ?_; rintro e w3 ⟨rfl, hs3⟩; have hk3 : w3.cell? ⟨g, off, none⟩ = some (.int .u8 b0) := (World.cell?_of_block (hs3.block g (World.block_lt_of_cell? w2 _ hk2) id)).trans hk2; have H3 := Lib.hid hs3; clear hs3))
    go_wp2_with fail
    have hsame : Same w w3 := (HR.out.2.1.trans' ((Mods.refl _ W1).drew.trans H2.out.1) (fun i hi => .inr (by have := HR.out.2.2.1; omega))).trans' H3.out (fun i hi => hi.elim)
    have hcb3 : CellsAt w3 (some ⟨g, off + 5, none⟩) (body.map enc8) := HB.out.1.keep hsame (fun _ _ _ => id)
    have HZ := Lib.hid (And.intro hsame hcb3)
    clear hsame hcb3 hk1 hk2
    go_quiet ((go_at_call 79; exact (Size_calls _ (by omega) (by omega) _).mono (fun e w' ⟨he, hw⟩ => ⟨he, _, hw.symm⟩)))
    go_wp2_with fail
    go_ret3
    refine ⟨some ⟨g, off + 5, none⟩, ?_, HZ.out.2, fun x hx => ⟨_, rfl, by simp at hx; subst hx; rfl⟩, HZ.out.1.drewN _⟩
    rw [HB.out.2.2.2.1, HB.out.2.2.2.2.2.2, HN.out]
    first | rfl | (congr 3) | simp

theorem recOpen_calls (a : Option Addr) (cap : Nat) (b : Bs) (w : World) (h : CellsAt w a (b.map enc8)) (hl : b.length ≤ 1099511627776) (hcap : b.length ≤ cap) :
    Calls Tryz.prog 97 #[.slice a b.length cap] w (OpenPost a b w) := by
  have key : ∀ {R R' : Ending → World → Prop}, (∀ e w', R e w' → R' e w') → Calls Tryz.prog 97 #[.slice a b.length cap] w R → Calls Tryz.prog 97 #[.slice a b.length cap] w R' := fun hR hc => hc.mono hR
  by_cases h9 : b.length < 9
  · have e : openR b = none := by unfold openR; rw [if_pos h9]
    exact (open_short a cap b w h9).mono fun e' w' hp => by unfold OpenPost; rw [e]; exact hp
  obtain ⟨g, off, rfl, hc⟩ := h (by simp; omega)
  have cell : ∀ j (hj : j < b.length), w.cell? ⟨g, off + j, none⟩ = some (.int .u8 (b.getD j 0).toNat) := fun j hj => by
    rw [hc j (by simpa using hj)]; simp [enc8, List.getD_eq_getElem?_getD, hj]
  by_cases hz : b.getD 0 0 = 0
  · have e : openR b = none := by unfold openR; rw [if_neg h9, if_pos hz]
    refine (open_zero g off cap b w (by omega) hl ?_).mono fun e' w' hp => by unfold OpenPost; rw [e]; exact hp
    rw [cell 0 (by omega), hz]; rfl
  have hz' : (b.getD 0 0).toNat ≠ 0 := fun e => hz (UInt8.toNat_inj.1 (by simpa using e))
  have c0 := cell 0 (by omega)
  have c1 := cell 1 (by omega)
  have c2 := cell 2 (by omega)
  have c3 := cell 3 (by omega)
  have c4 := cell 4 (by omega)
  have l1 := UInt8.toNat_lt (b.getD 1 0)
  have l2 := UInt8.toNat_lt (b.getD 2 0)
  have l3 := UInt8.toNat_lt (b.getD 3 0)
  have l4 := UInt8.toNat_lt (b.getD 4 0)
  by_cases hne : (b.getD 1 0).toNat * 256 + (b.getD 2 0).toNat ≠ (255 - (b.getD 3 0).toNat) * 256 + (255 - (b.getD 4 0).toNat)
  · have e : openR b = none := by unfold openR; rw [if_neg h9, if_neg hz]; simp only; rw [if_pos hne]
    exact (open_len g off cap b w _ _ _ _ _ (by omega) hl c0 hz' c1 c2 c3 c4 l1 l2 l3 l4 hne).mono fun e' w' hp => by unfold OpenPost; rw [e]; exact hp
  by_cases hsz : b.length < (b.getD 1 0).toNat * 256 + (b.getD 2 0).toNat + 9
  · have e : openR b = none := by unfold openR; rw [if_neg h9, if_neg hz]; simp only; rw [if_neg hne, if_pos hsz]
    exact (open_size g off cap b w _ _ _ _ _ (by omega) hl c0 hz' c1 c2 c3 c4 l1 l2 l3 l4 (by simpa using hne) hsz).mono fun e' w' hp => by unfold OpenPost; rw [e]; exact hp
  by_cases hsum : beNat ((b.drop (5 + ((b.getD 1 0).toNat * 256 + (b.getD 2 0).toNat))).take 4) ≠ sumOf (b.getD 0 0) ((b.drop 5).take ((b.getD 1 0).toNat * 256 + (b.getD 2 0).toNat))
  · have e : openR b = none := by unfold openR; rw [if_neg h9, if_neg hz]; simp only; rw [if_neg hne, if_neg hsz, if_pos hsum]
    exact (open_sum g off cap b w _ _ _ _ _ (by omega) hl c0 hz' c1 c2 c3 c4 l1 l2 l3 l4 (by simpa using hne) (by omega) hcap _ rfl h _ rfl hsum).mono fun e' w' hp => by unfold OpenPost; rw [e]; exact hp
  · have e : openR b = some (b.getD 0 0, (b.drop 5).take ((b.getD 1 0).toNat * 256 + (b.getD 2 0).toNat), (b.getD 1 0).toNat * 256 + (b.getD 2 0).toNat + 9) := by unfold openR; rw [if_neg h9, if_neg hz]; simp only; rw [if_neg hne, if_neg hsz, if_neg hsum]
    exact (open_ok g off cap b w _ _ _ _ _ (by omega) hl c0 hz' c1 c2 c3 c4 l1 l2 l3 l4 (by simpa using hne) (by omega) hcap _ rfl h _ rfl (by simpa using hsum)).mono fun e' w' hp => by unfold OpenPost; rw [e]; exact hp
end Go.Proofs.YtdhobpbngkainaaGreatDoor
