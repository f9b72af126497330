/-
  Ours. The statements' world: a device, an archive on it, the document's; it is opened.
-/
import Derived.Test.YtdhobpbngkainaaGreatDoorMo16
import Derived.Test.YtdhobpbngkainaaGreatDoorMo01
import Derived.Test.YtdhobpbngkainaaGreatDoorMo11
import Derived.Test.YtdhobpbngkainaaGreatDoorMo07
import Derived.Test.YtdhobpbngkainaaGreatDoorProg
import Derived.Test.YtdhobpbngkainaaGreatDoorMo02
import Derived.RegionTactic
import Derived.Test.YtdhobpbngkainaaGreatDoorMo10
import Derived.ProofKit
import Derived.OpenShut
import Derived.ShutString
import Derived.ChangeOld
namespace Go.Proofs.YtdhobpbngkainaaGreatDoor
open Go.RowKit Go.Maps

structure WorldL where
  blk : Nat
  d : Nat
  a : Option Nat
  r : Nat
  out : Value
  want : Value
  most : Value
def ptrO : Option Nat → Value
  | none => .pointer none
  | some b => .pointer (some ⟨b, 0, none⟩)
def worldCells (U : WorldL) : Array Value := #[.pointer (some ⟨U.d, 0, none⟩), ptrO U.a, .pointer (some ⟨U.r, 0, none⟩), U.out, U.want, U.most]
def worldO (U : WorldL) : Obj := .cells (worldCells U) 63 (0, 0)
def WOpenPost (Φ : AS → Prop) (U : WorldL) (R : RefL) (L : DevL) (q : Int) (w : World) (e : Ending) (w' : World) : Prop :=
  ∃ S b' vv' tv', e = .returned (.bool true) ∧ Φ S ∧ RefOk { R with blk := b', vv := vv', tv := tv', quota := clip0 q, closed := false } ∧
    Turns ((U.blk, Is (worldO U)) :: (refF R ++ devF U.d L)) ((U.blk, Is (worldO { U with a := some S.a, r := b' })) :: (arF S ++ (refF { R with blk := b', vv := vv', tv := tv', quota := clip0 q, closed := false } ++ refF R))) w w'
set_option maxHeartbeats 4000000 in
set_option maxRecDepth 100000 in
theorem wopen_calls (Φ : AS → Prop) (U : WorldL) (R : RefL) (L : DevL) (q : Int) (w : World) (hr : U.r = R.blk) (h : Sat w ((U.blk, Is (worldO U)) :: (refF R ++ devF U.d L))) (hok : RefOk R) (h1 : ∀ v ∈ R.vs, v.cv.oneCell' = true) (hl : R.vs.length ≤ 1000000 ∧ R.ts.length ≤ 1000000) (hE : ErrLaid w) (h0 : 0 ∉ dom ((U.blk, Is (worldO U)) :: (refF R ++ devF U.d L)))
    (hO : ∀ W, Sat W (devF U.d L) → Calls Tryz.prog 22 #[.pointer (some ⟨U.d, 0, none⟩), .int .i64 q] W (fun e W' => ∃ S, e = .returned (.tuple #[.pointer (some ⟨S.a, 0, none⟩), .nilIface]) ∧ Φ S ∧ Turns (devF U.d L) (arF S) W W')) :
    Calls Tryz.prog 74 #[.pointer (some ⟨U.blk, 0, none⟩), .int .i64 q] w (WOpenPost Φ U R L q w) := by
  have c0 : w.cell? ⟨U.blk, 0, none⟩ = some (.pointer (some ⟨U.d, 0, none⟩)) := cell_at h.headIs 0 rfl
  have HO := Lib.hid (hO w h.tail.right)
  have HH := Lib.hid (And.intro h (And.intro hok (And.intro h1 (And.intro hl (And.intro hE (And.intro h0 hr))))))
  clear h hok h1 hl hE h0 hO hr
  go_enter Tryz.func74, Tryz.ntmps74
  go_wp2_with fail
  refine HO.out.mono ?_
  rintro e w1 ⟨S, rfl, hΦ, hT⟩
  have hT1 : Turns ((U.blk, Is (worldO U)) :: (refF R ++ devF U.d L)) ((U.blk, Is (worldO U)) :: (arF S ++ refF R)) w w1 := by
    exact ((Turns.refl HH.out.1).step (R := (U.blk, Is (worldO U)) :: refF R) (perm_of_cnt fun _ => by simp only [cnt_cons, cnt_append, cnt_nil] <;> omega) hT).to (perm_of_cnt fun _ => by simp only [cnt_cons, cnt_append, cnt_nil] <;> omega)
  have HT1 := Lib.hid (Tell_calls .nilIface 0 w1 (HH.out.2.2.2.2.1.keep hT1.mods HH.out.2.2.2.2.2.1) (.inl ⟨rfl, rfl⟩))
  have H1 := Lib.hid (And.intro hΦ hT1)
  clear hΦ hT hT1
  go_wp2_with fail
  refine HT1.out.mono ?_
  rintro e w2 ⟨rfl, hs2⟩
  have hT2 := H1.out.2.thenSame hs2
  have HT2 := Lib.hid hT2
  clear hs2 hT2
  have hne : ∀ W, (binOp .eql 32 (.pointer (some ⟨S.a, 0, none⟩)) (.pointer none)).run Tryz.prog W = .ok (.bool false) W := fun W => by kernel_rfl
  go_wp2_with ((refine wpList_of_wp rfl (w_store1T 32 (.tmp 28) (.tmp 26) rfl U.blk 1 (worldCells U) 63 (.pointer (some ⟨S.a, 0, none⟩)) HT2.out rfl rfl (by simp [worldCells]) (by kernel_rfl) rfl rfl ?_); intro w3 hT3; have c2 : w3.cell? ⟨U.blk, 2, none⟩ = some (.pointer (some ⟨U.r, 0, none⟩)) := cell_at hT3.sat.headIs 2 rfl; have HT3 := Lib.hid hT3; clear hT3; simp only [Act.put]))
  have hrb : U.r = R.blk := HH.out.2.2.2.2.2.2
  rw [hrb] at c2 ⊢
  refine (RefCopy_calls R w3 HT3.out.sat.tail.right HH.out.2.1 HH.out.2.2.1 HH.out.2.2.2.1).mono ?_
  rintro e w4 ⟨b', vv', tv', rfl, hok4, hT4⟩
  obtain ⟨R2, hR2⟩ : ∃ R2 : RefL, R2 = { R with blk := b', vv := vv', tv := tv', closed := false } := ⟨_, rfl⟩
  rw [← hR2] at hok4 hT4
  have hb2 : R2.blk = b' := by rw [hR2]
  have hT5 : Turns ((U.blk, Is (worldO U)) :: (refF R ++ devF U.d L)) ((U.blk, Is (.cells ((worldCells U).setIfInBounds 1 (.pointer (some ⟨S.a, 0, none⟩))) 63 (0, 0))) :: (arF S ++ (refF R2 ++ refF R))) w w4 :=
    (HT3.out.step (R := (U.blk, Is (.cells ((worldCells U).setIfInBounds 1 (.pointer (some ⟨S.a, 0, none⟩))) 63 (0, 0))) :: arF S) (perm_of_cnt fun _ => by simp only [cnt_cons, cnt_append, cnt_nil] <;> omega) hT4).to (perm_of_cnt fun _ => by simp only [cnt_cons, cnt_append, cnt_nil] <;> omega)
  have HT5 := Lib.hid (And.intro hok4 (And.intro hR2 hT5))
  clear hok4 hR2 hT4 hT5
  subst hb2
  go_wp2_with (first
    | (refine wpList_of_wp rfl (w_store1T 56 (.tmp 36) (.tmp 34) rfl U.blk 2 ((worldCells U).setIfInBounds 1 (.pointer (some ⟨S.a, 0, none⟩))) 63 (.pointer (some ⟨R2.blk, 0, none⟩)) HT5.out.2.2 rfl rfl (by simp [worldCells]) (by kernel_rfl) rfl rfl ?_); intro w5 hT6; have d2 : w5.cell? ⟨U.blk, 2, none⟩ = some (.pointer (some ⟨R2.blk, 0, none⟩)) := cell_at hT6.sat.headIs 2 rfl; have HT6 := Lib.hid hT6; clear hT6; simp only [Act.put])
    | (refine wpList_of_wp rfl (w_store1T 3 (.tmp 43) (.tmp 41) rfl R2.blk 2 (refCells R2) 60 (.int .i64 q) (HT6.out.to (H := (R2.blk, Is (refO R2)) :: ((U.blk, Is (.cells (((worldCells U).setIfInBounds 1 (.pointer (some ⟨S.a, 0, none⟩))).setIfInBounds 2 (.pointer (some ⟨R2.blk, 0, none⟩))) 63 (0, 0))) :: (arF S ++ (rvRow R2.vv R2.vs ++ (rtRow R2.tv R2.ts ++ refF R))))) (by unfold refF; exact (perm_of_cnt fun _ => by simp only [cnt_cons, cnt_append, cnt_nil] <;> omega))) rfl rfl (by simp [refCells]) (by kernel_rfl) rfl rfl ?_); intro w6 hT7; have d3 : w6.cell? ⟨U.blk, 2, none⟩ = some (.pointer (some ⟨R2.blk, 0, none⟩)) := cell_at (hT7.sat.memIs (b := U.blk) (o := .cells (((worldCells U).setIfInBounds 1 (.pointer (some ⟨S.a, 0, none⟩))).setIfInBounds 2 (.pointer (some ⟨R2.blk, 0, none⟩))) 63 (0, 0)) (by simp)) 2 rfl; have HT7 := Lib.hid hT7; clear hT7; simp only [Act.put])
    | (refine wpList_of_wp rfl (w_store1T 3 (.tmp 51) (.const (.int .i64 0)) rfl R2.blk 2 ((refCells R2).setIfInBounds 2 (.int .i64 q)) 60 (.int .i64 0) HT7.out rfl rfl (by simp [refCells]) (by kernel_rfl) rfl rfl ?_); intro w7 hT8; have HT8 := Lib.hid hT8; clear hT8; simp only [Act.put]))
  · rename_i hq
    have e1 : R2.vv = vv' := by rw [HT5.out.2.1]
    have e2 : R2.vs = R.vs := by rw [HT5.out.2.1]
    have e3 : R2.tv = tv' := by rw [HT5.out.2.1]
    have e4 : R2.ts = R.ts := by rw [HT5.out.2.1]
    have e5 : R2.closed = false := by rw [HT5.out.2.1]
    have eC : ((refCells R2).setIfInBounds 2 (.int .i64 q)).setIfInBounds 2 (.int .i64 0) = refCells { R with blk := R2.blk, vv := vv', tv := tv', quota := clip0 q, closed := false } := by
      have hc : clip0 q = 0 := by unfold clip0; split <;> omega
      unfold refCells
      rw [e1, e3, e5, hc]
      rfl
    have eW : ((worldCells U).setIfInBounds 1 (.pointer (some ⟨S.a, 0, none⟩))).setIfInBounds 2 (.pointer (some ⟨R2.blk, 0, none⟩)) = worldCells { U with a := some S.a, r := R2.blk } := rfl
    have hT9 := HT8.out
    rw [eC, eW, e1, e2, e3, e4] at hT9
    have hok5 := HT5.out.1
    refine bodyPost_ret (results_tmp rfl _ _ _) rfl ⟨S, R2.blk, vv', tv', rfl, H1.out.1, ⟨by have := hok5.vs; rw [e1, e2] at this; exact this, by have := hok5.ts; rw [e3, e4] at this; exact this⟩, ?_⟩
    exact hT9.to (by unfold refF refO worldO; exact (perm_of_cnt fun _ => by simp only [cnt_cons, cnt_append, cnt_nil] <;> omega))
  · rename_i hq
    have e1 : R2.vv = vv' := by rw [HT5.out.2.1]
    have e2 : R2.vs = R.vs := by rw [HT5.out.2.1]
    have e3 : R2.tv = tv' := by rw [HT5.out.2.1]
    have e4 : R2.ts = R.ts := by rw [HT5.out.2.1]
    have e5 : R2.closed = false := by rw [HT5.out.2.1]
    have eC : (refCells R2).setIfInBounds 2 (.int .i64 q) = refCells { R with blk := R2.blk, vv := vv', tv := tv', quota := clip0 q, closed := false } := by
      have hc : clip0 q = q := by unfold clip0; split <;> omega
      unfold refCells
      rw [e1, e3, e5, hc]
      rfl
    have eW : ((worldCells U).setIfInBounds 1 (.pointer (some ⟨S.a, 0, none⟩))).setIfInBounds 2 (.pointer (some ⟨R2.blk, 0, none⟩)) = worldCells { U with a := some S.a, r := R2.blk } := rfl
    have hT9 := HT7.out
    rw [eC, eW, e1, e2, e3, e4] at hT9
    have hok5 := HT5.out.1
    refine bodyPost_ret (results_tmp rfl _ _ _) rfl ⟨S, R2.blk, vv', tv', rfl, H1.out.1, ⟨by have := hok5.vs; rw [e1, e2] at this; exact this, by have := hok5.ts; rw [e3, e4] at this; exact this⟩, ?_⟩
    exact hT9.to (by unfold refF refO worldO; exact (perm_of_cnt fun _ => by simp only [cnt_cons, cnt_append, cnt_nil] <;> omega))
end Go.Proofs.YtdhobpbngkainaaGreatDoor
/-
  Ours. Plain: what a half has behind a Cut. No condition but that it fits.
-/
namespace Go.Proofs.YtdhobpbngkainaaGreatDoor
open Go.RowKit

theorem putAt_seq {l s x : Bs} {a : Nat} (h : a ≤ l.length) : putAt (putAt l a s) (a + s.length) x = putAt l a (s ++ x) := by
  have h1 : (l.take a ++ s).length = a + s.length := by rw [List.length_append, List.length_take]; omega
  have e0 : putAt l a s = (l.take a ++ s) ++ l.drop (a + s.length) := rfl
  have e1 : (putAt l a s).take (a + s.length) = l.take a ++ s := by rw [e0]; exact List.take_left' h1
  have e2 : (putAt l a s).drop (a + s.length + x.length) = l.drop (a + (s.length + x.length)) := by
    have h2 : (putAt l a s).drop (a + s.length) = l.drop (a + s.length) := by rw [e0]; exact List.drop_left' h1
    rw [← List.drop_drop, h2, List.drop_drop, Nat.add_assoc]
  show (putAt l a s).take (a + s.length) ++ x ++ (putAt l a s).drop (a + s.length + x.length) = l.take a ++ (s ++ x) ++ l.drop (a + (s ++ x).length)
  rw [e1, e2, List.length_append, List.append_assoc (l.take a)]
def cutRow (t : Bs) : Nat → Bs
  | 0 => []
  | m + 1 => cutRow t m ++ (if m = 0 then t else zeros 128)
theorem cutRow_length {t : Bs} (ht : t.length = 128) : ∀ m, (cutRow t m).length = 128 * m
  | 0 => rfl
  | m + 1 => by
    rw [cutRow, List.length_append, cutRow_length ht m]
    split
    · omega
    · simp [zeros]; omega
theorem cutRow_eq {t : Bs} (ht : t.length = 128) : ∀ m, cutRow t (m + 1) = t ++ zeros (128 * m)
  | 0 => by simp [cutRow, zeros]
  | m + 1 => by
    rw [cutRow, cutRow_eq ht m, if_neg (by omega), List.append_assoc, zeros_append]
    congr 2
theorem cutTo_eq {l t : Bs} {first q : Nat} (ht : t.length = 128) (h : 128 * (first + q) ≤ l.length) : ∀ m, cutTo l first q t m = putAt l (128 * (first + q)) (cutRow t m)
  | 0 => by simp [cutTo, cutRow, putAt]
  | m + 1 => by
    rw [cutTo, cutTo_eq ht h m, cutRow]
    have := putAt_seq (l := l) (s := cutRow t m) (x := if m = 0 then t else zeros 128) h
    rw [cutRow_length ht, ← Nat.mul_add] at this
    exact this
/-- Behind a Cut the half has what stood ahead of the end, and zeros. -/
theorem cut_data {l ws : Bs} {first count end_ : Nat} (hl : 128 * (first + count) ≤ l.length) (hw : (halfOf l first count).take end_ = ws.take end_) (hwl : ws.length = 128 * count) (he : end_ ≤ 128 * count) :
    DataAt (cutTo l first (end_ / 128) ((ws.take end_).drop (128 * (end_ / 128)) ++ zeros (128 - end_ % 128)) (count - end_ / 128)) first count (ws.take end_) ∧
    ∀ f2 c2, (f2 + c2 ≤ first ∨ first + count ≤ f2) → halfOf (cutTo l first (end_ / 128) ((ws.take end_).drop (128 * (end_ / 128)) ++ zeros (128 - end_ % 128)) (count - end_ / 128)) f2 c2 = halfOf l f2 c2 := by
  have hdl : (ws.take end_).length = end_ := by rw [List.length_take]; omega
  obtain ⟨t, ht⟩ : ∃ t, t = (ws.take end_).drop (128 * (end_ / 128)) ++ zeros (128 - end_ % 128) := ⟨_, rfl⟩
  have htl : t.length = 128 := by rw [ht, List.length_append, List.length_drop, hdl, zeros_length]; omega
  rw [← ht, cutTo_eq htl (by omega)]
  have hrl := cutRow_length htl (count - end_ / 128)
  have hhl : (halfOf l first count).length = 128 * count := by unfold halfOf; rw [List.length_take, List.length_drop]; omega
  refine ⟨⟨?_, by rw [hdl]; exact he⟩, fun f2 c2 hd => half_other (by omega) (by omega) hd⟩
  rw [half_put (by omega) (by omega), hdl]
  rcases Nat.lt_or_ge (end_ / 128) count with hlt | hge
  · obtain ⟨m, hm⟩ : ∃ m, count - end_ / 128 = m + 1 := ⟨count - end_ / 128 - 1, by omega⟩
    rw [hm, cutRow_eq htl]
    unfold putAt
    have e1 : (halfOf l first count).take (128 * (end_ / 128)) = (ws.take end_).take (128 * (end_ / 128)) := by
      rw [← hw, List.take_take, Nat.min_eq_left (by omega)]
    rw [e1, ht, List.append_assoc ((ws.take end_).drop _), zeros_append, ← List.append_assoc, List.take_append_drop, List.drop_of_length_le (by rw [hhl]; simp only [List.length_append, List.length_drop, hdl, zeros_length]; omega), List.append_nil]
    congr 2
    omega
  · have h0 : count - end_ / 128 = 0 := by omega
    have he2 : end_ = 128 * count := by omega
    rw [h0]
    simp only [cutRow, putAt, List.append_nil, List.length_nil, Nat.add_zero, List.take_append_drop]
    rw [← hw, List.take_of_length_le (by omega), he2]
    simp [zeros]
end Go.Proofs.YtdhobpbngkainaaGreatDoor
/-
  Ours. An archive over an empty device, as it begins; the statements' begin.
-/
namespace Go.Proofs.YtdhobpbngkainaaGreatDoor
open Go.RowKit Go.Maps

theorem sec_put {l s : Bs} {o k : Nat} (h : 128 * (k + 1) ≤ o) (hl : o ≤ l.length) : secOf (putAt l o s) k = secOf l k := by
  unfold secOf putAt
  have h1 : (l.take o).length = o := by rw [List.length_take]; omega
  rw [List.append_assoc, List.drop_append_of_le_length (by omega), List.take_append_of_le_length (by rw [List.length_drop, h1]; omega), List.drop_take, List.take_take, Nat.min_eq_left (by omega)]
def startS (a pm tm cm d ab ch : Nat) (q : Int) (L : DevL) : AS where
  a := a
  X := ⟨pm, tm, cm, 0, 0, 0, d, ab, 1, clip0 q, false, .nilIface⟩
  A := ⟨2 + halfN L.n, halfN L.n, 0, zeros 128, ch, []⟩
  L := L
  ps := []
  pc := 0
  cs := []
  cc := 0
  ts := []
  tc := 0
  data := []
  K := []
theorem start_dat {L L' : DevL} (hL : DevOk L) (hn : 16 ≤ L.n) (hnow : L'.now = putAt (cutTo L.now (2 + halfN L.n) 0 (zeros 128) (halfN L.n)) 128 (useSec 1 0)) : DataAt L'.now (2 + halfN L.n) (halfN L.n) [] := by
  have hh : 2 + halfN L.n + halfN L.n ≤ L.n := by unfold halfN; omega
  have hll := hL.nowL
  have h1 := cut_data (l := L.now) (ws := zeros (128 * halfN L.n)) (first := 2 + halfN L.n) (count := halfN L.n) (end_ := 0) (by omega) rfl (zeros_length _) (by omega)
  simp only [List.take_zero, Nat.zero_div, Nat.mul_zero, List.drop_nil, List.nil_append, Nat.zero_mod, Nat.sub_zero] at h1
  have hcl : (cutTo L.now (2 + halfN L.n) 0 (zeros 128) (halfN L.n)).length = 128 * L.n := cutTo_length hll (zeros_length _) _ (by omega)
  have h2 := half_other (l := cutTo L.now (2 + halfN L.n) 0 (zeros 128) (halfN L.n)) (s := useSec 1 0) (first := 1) (count := 1) (q := 0) (f2 := 2 + halfN L.n) (c2 := halfN L.n) (by rw [useSec_length]; omega) (by rw [hcl]; omega) (by omega)
  refine ⟨?_, by simp⟩
  rw [hnow, h2]
  exact h1.1.1
theorem start_ok {L L' : DevL} (hL : DevOk L) (hL' : DevOk L') (hn : 16 ≤ L.n) (hn2 : L.n ≤ 1073741824) (hnn : L'.n = L.n) (hnow : L'.now = putAt (cutTo L.now (2 + halfN L.n) 0 (zeros 128) (halfN L.n)) 128 (useSec 1 0)) (a pm tm cm d ab ch : Nat) (q : Int) :
    ArOk (startS a pm tm cm d ab ch q L') where
  dev := hL'
  n16 := by show 16 ≤ L'.n; omega
  nmax := by show L'.n ≤ _; omega
  area := ⟨zeros_length _, by show ([] : List (Nat × Nat × Nat)).length ≤ 2; simp, fun s hs => by cases hs⟩
  first := by show 2 + halfN L'.n = 2 + 1 % 2 * halfN L'.n; omega
  count := rfl
  end_ := rfl
  tail := by show zeros 128 = tailOf []; unfold tailOf lastOf; simp
  dat := by
    show DataAt L'.now (2 + halfN L'.n) (halfN L'.n) []
    rw [hnn]; exact start_dat hL hn hnow
  paths := ⟨⟨List.nodup_nil, List.nodup_nil, (fun e he => by cases he), (fun e he => by cases he)⟩, (fun p hp => by cases hp)⟩
  tags := ⟨⟨List.nodup_nil, List.nodup_nil, (fun e he => by cases he), (fun e he => by cases he)⟩, (fun p hp => by cases hp)⟩
  chunks := ⟨⟨List.nodup_nil, List.nodup_nil, (fun e he => by cases he), (fun e he => by cases he)⟩, (fun p hp => by cases hp)⟩
  kin := fun k => List.Perm.refl _
  kat := fun e he => by cases he
  vers := fun p hp => by cases hp
  some := fun p hp => by cases hp
  sound := rfl
  ep := by show (1 : Nat) < 4294967296; omega
theorem start_b {L' : DevL} (hch : L'.chs = []) (a pm tm cm d ab ch : Nat) (q : Int) (hq : q ≤ 9223372036854775807) : ArB (startS a pm tm cm d ab ch q L') 0 where
  K := by simp [startS]
  np := by simp [startS]
  nt := by simp [startS]
  vers := fun p hp => by cases hp
  tags := fun p hp => by cases hp
  used := by simp [startS]
  sc := by simp [startS]
  sb := by simp [startS]
  quota := by show (clip0 q).natAbs ≤ _; unfold clip0; split <;> omega
  chs := by show L'.chs.length ≤ _; rw [hch]; simp
/-- What Open leaves over an empty device. -/
def StartIs (n : Nat) (q : Int) (d : Nat) (S : AS) : Prop :=
  ArOk S ∧ ArB S 0 ∧ S.X.closed = false ∧ S.X.quota = clip0 q ∧ S.X.used = 0 ∧ S.X.sc = 0 ∧ S.X.sb = 0 ∧ S.ps = [] ∧ S.ts = [] ∧ S.K = [] ∧ S.data = [] ∧ S.L.n = n ∧ S.X.d = d ∧ S.X.ep = 1 ∧ S.L.chs = [] ∧ secOf S.L.now 1 = useSec 1 0 ∧ secOf S.L.now 0 = zeros 128
theorem Open_start (d : Nat) (L : DevL) (q : Int) (w : World) (h : Sat w (devF d L)) (hL : DevOk L) (hn : 16 ≤ L.n) (hn2 : L.n ≤ 1073741824) (hch : L.chs.length ≤ 137438953472) (hz : ∀ k, k < 2 → secOf L.now k = zeros 128) (hq : q ≤ 9223372036854775807) :
    Calls Tryz.prog 22 #[.pointer (some ⟨d, 0, none⟩), .int .i64 q] w (fun e w' => ∃ S, e = .returned (.tuple #[.pointer (some ⟨S.a, 0, none⟩), .nilIface]) ∧ StartIs L.n q d S ∧ Turns (devF d L) (arF S) w w') := by
  refine (Open_empty d L q w h hL hn hn2 hch hz).mono ?_
  rintro e w' ⟨a, ab, pm, tm, cm, ch, L', rfl, hT, hL', hLn, hnow, _, hchs⟩
  have hh : 2 + halfN L.n + halfN L.n ≤ L.n := by unfold halfN; omega
  have hcl : (cutTo L.now (2 + halfN L.n) 0 (zeros 128) (halfN L.n)).length = 128 * L.n := cutTo_length hL.nowL (zeros_length _) _ (by omega)
  refine ⟨startS a pm tm cm d ab ch q L', rfl, ⟨start_ok hL hL' hn hn2 hLn hnow a pm tm cm d ab ch q, start_b hchs a pm tm cm d ab ch q hq, rfl, rfl, rfl, rfl, rfl, rfl, rfl, rfl, rfl, hLn, rfl, rfl, hchs, ?_, ?_⟩, ?_⟩
  · show secOf L'.now 1 = _
    rw [hnow]
    unfold secOf putAt
    have h1 : ((cutTo L.now (2 + halfN L.n) 0 (zeros 128) (halfN L.n)).take 128).length = 128 * 1 := by rw [List.length_take, hcl]; omega
    rw [List.append_assoc, List.drop_left' h1, List.take_left' (useSec_length _ _)]
  · show secOf L'.now 0 = _
    rw [hnow, sec_put (by omega) (by rw [hcl]; omega), cutTo_eq (zeros_length _) (by rw [hL.nowL]; omega), sec_put (by omega) (by rw [hL.nowL]; omega)]
    exact hz 0 (by omega)
  · refine hT.to ?_
    unfold arF startS pathsF tagsF chunksF rowsG
    rw [← hLn]
    simp only [List.map_nil, mapO, List.flatMap_nil]
    exact (perm_of_cnt fun _ => by simp only [cnt_cons, cnt_append, cnt_nil] <;> omega)
def RefFresh (q : Int) (R : RefL) : Prop := RefOk R ∧ R.vs = [] ∧ R.ts = [] ∧ R.quota = clip0 q ∧ R.closed = false
def BeginWPost (n : Nat) (q : Int) (w : World) (e : Ending) (w' : World) : Prop :=
  ∃ (U : WorldL) (S : AS) (R : RefL), e = .returned (.tuple #[.pointer (some ⟨U.blk, 0, none⟩), .bool true]) ∧ StartIs n q U.d S ∧ U.a = some S.a ∧ U.r = R.blk ∧ RefFresh q R ∧ U.out = .slice none 0 0 ∧ U.want = .slice none 0 0 ∧ U.most = .slice none 0 0 ∧
    Turns [] ((U.blk, Is (worldO U)) :: (arF S ++ refF R)) w w'
set_option maxHeartbeats 4000000 in
set_option maxRecDepth 100000 in
theorem beginw_calls (n : Nat) (q : Int) (w : World) (hn : 16 ≤ n) (hn2 : n ≤ 1073741824) (hE : ErrLaid w) (hq : q ≤ 9223372036854775807) :
    Calls Tryz.prog 24 #[.int .i64 n, .int .i64 q] w (BeginWPost n q w) := by
  have HN := Lib.hid (NewDevice_calls n (by omega) w)
  have HE := Lib.hid hE
  clear hE
  go_enter Tryz.func24, Tryz.ntmps24
  go_wp2_with fail
  refine HN.out.mono ?_
  rintro e w1 ⟨d, L, rfl, hT, hL, hLn, hnow, hch⟩
  have H1 := Lib.hid (And.intro hT (And.intro hL (And.intro hnow hch)))
  clear hT hL hnow hch
  go_wp2_with fail
  obtain ⟨U, hU⟩ : ∃ U : WorldL, U = ⟨w1.heap.size + 1, d, none, w1.heap.size, .slice none 0 0, .slice none 0 0, .slice none 0 0⟩ := ⟨_, rfl⟩
  obtain ⟨R, hR⟩ : ∃ R : RefL, R = ⟨w1.heap.size, .slice none 0 0, [], .slice none 0 0, [], 0, false⟩ := ⟨_, rfl⟩
  have hUb : U.blk = w1.heap.size + 1 := by rw [hU]
  have hUd : U.d = d := by rw [hU]
  have hRo : refO R = .cells #[.slice none 0 0, .slice none 0 0, .int .i64 0, .bool false] 60 (0, 0) := by rw [hR]; rfl
  have hUo : worldO U = .cells #[.pointer (some ⟨d, 0, none⟩), .pointer none, .pointer (some ⟨w1.heap.size, 0, none⟩), .slice none 0 0, .slice none 0 0, .slice none 0 0] 63 (0, 0) := by rw [hU]; rfl
  have hT2 : Turns [] ((U.blk, Is (worldO U)) :: (refF R ++ devF U.d L)) w ((w1.alloc (.cells #[.slice none 0 0, .slice none 0 0, .int .i64 0, .bool false] 60)).alloc (.cells #[.pointer (some ⟨d, 0, none⟩), .pointer none, .pointer (some ⟨w1.heap.size, 0, none⟩), .slice none 0 0, .slice none 0 0, .slice none 0 0] 63)) := by
    have h := (H1.out.1.allocIs (refO R)).allocIs (worldO U)
    rw [World.size_alloc, ← hUb] at h
    rw [hUd, ← hRo, ← hUo]
    have h2 : Turns [] ((U.blk, Is (worldO U)) :: (refF R ++ devF d L)) w ((w1.alloc (refO R)).alloc (worldO U)) := by
      refine h.to ?_
      rw [hR]
      unfold refF rvRow rtRow
      simp only [rowF, Value.ownBlock]
      exact (perm_of_cnt fun _ => by simp only [cnt_cons, cnt_append, cnt_nil] <;> omega)
    exact h2
  have h0 : 0 ∉ dom ((U.blk, Is (worldO U)) :: (refF R ++ devF U.d L)) := fun h => by
    have h3 := hT2.newLe h
    have h4 := World.block_lt_of_cell? w _ HE.out
    simp only at h4
    omega
  have HW := Lib.hid (wopen_calls (StartIs n q U.d) U R L q _ (by rw [hU, hR]) hT2.sat (by rw [hR]; exact ⟨⟨rfl, fun _ => ⟨rfl, rfl⟩⟩, ⟨rfl, fun _ => ⟨rfl, rfl⟩⟩⟩) (by rw [hR]; intro v hv; cases hv) (by rw [hR]; simp) (HE.out.keep hT2.mods (fun h => by simp at h)) h0
    (fun W hW => by
      have := Open_start U.d L q W hW H1.out.2.1 (by omega) (by omega) (by rw [H1.out.2.2.2]; simp) (fun k hk => by rw [H1.out.2.2.1]; simp only [secOf, zeros, List.drop_replicate, List.take_replicate]; congr 1; omega) hq
      rw [hLn] at this
      exact this))
  rw [hUb] at HW
  have HT2 := Lib.hid (And.intro hT2 (And.intro hU hR))
  clear hT2 h0 hU hR hUb hUd hRo hUo
  refine HW.out.mono ?_
  rintro e w2 ⟨S, b', vv', tv', rfl, hΦ, hok, hT3⟩
  have HT3 := Lib.hid (And.intro hΦ (And.intro hok hT3))
  clear hΦ hok hT3
  go_wp2_with fail
  have eb : U.blk = w1.heap.size + 1 := by rw [HT2.out.2.1]
  have eR : R.vs = [] ∧ R.ts = [] := by rw [HT2.out.2.2]; exact ⟨rfl, rfl⟩
  have eU : U.out = .slice none 0 0 ∧ U.want = .slice none 0 0 ∧ U.most = .slice none 0 0 := by rw [HT2.out.2.1]; exact ⟨rfl, rfl, rfl⟩
  refine bodyPost_ret (results_tmp2 rfl _ _ _) rfl ⟨{ U with a := some S.a, r := b' }, S, { R with blk := b', vv := vv', tv := tv', quota := clip0 q, closed := false }, by rw [← eb]; rfl, HT3.out.1, rfl, rfl, ⟨HT3.out.2.1, eR.1, eR.2, rfl, rfl⟩, eU.1, eU.2.1, eU.2.2, ?_⟩
  exact (HT2.out.1.trans HT3.out.2.2).drop (fun _ => by simp only [cnt_cons, cnt_append, cnt_nil] <;> omega)
end Go.Proofs.YtdhobpbngkainaaGreatDoor
/-
  Ours. Plain: what a Put of a content that is there leaves; what comes of it again and again. No condition.
-/
namespace Go.Proofs.YtdhobpbngkainaaGreatDoor
open Go.RowKit Go.Maps

theorem sum_16 : ∀ (l : List Nat), (∀ i (h : i < l.length), i + 1 < l.length → 16 ≤ l[i]) → 16 * (l.length - 1) ≤ l.sum
  | [], _ => by simp
  | [a], _ => by simp
  | a :: b :: r, h => by
    have h1 := h 0 (by simp) (by simp)
    have h2 := sum_16 (b :: r) (fun i hi hj => by have := h (i + 1) (by simpa using hi) (by simpa using hj); simpa using this)
    simp only [List.length_cons, List.sum_cons, List.getElem_cons_zero] at h1 h2 ⊢
    omega
theorem lens_count (D : Bs) : (lensOf D).length ≤ D.length / 16 + 1 := by
  have h := sum_16 (lensOf D) (fun i hi hj => (lensOf_bounds D i hi).2.2 hj)
  rw [lensOf_sum] at h
  omega
theorem chunksFrom_flat : ∀ (l : List Nat) (d : Bs), (chunksFrom l d).flatten = d.take l.sum
  | [], d => by simp [chunksFrom]
  | n :: r, d => by
    simp only [chunksFrom, List.flatten_cons, List.sum_cons, chunksFrom_flat r]
    rw [List.take_add]
theorem chunksOf_flat (D : Bs) : (chunksOf D).flatten = D := by
  unfold chunksOf
  rw [chunksFrom_flat, lensOf_sum, List.take_length]
theorem contV_zip {S : AS} (hok : ArOk S) : ∀ {l : List Bs} {m : List (Nat × Nat)}, m.length = l.length → (∀ e ∈ l.zip m, e ∈ S.K) → m.flatMap (bodyAt S.K) = l.flatten
  | [], [], _, _ => rfl
  | c :: l, q :: m, h, hz => by
    rw [List.flatMap_cons, List.flatten_cons, body_at hok (hz (c, q) (by simp)), contV_zip hok (by simpa using h) (fun e he => hz e (by simp [he]))]
theorem contV_of {S : AS} (hok : ArOk S) {D : Bs} {V : VerL} (hl : V.chs.length = (chunksOf D).length) (hz : ∀ e ∈ (chunksOf D).zip V.chs, e ∈ S.K) : contV S V = D := by
  unfold contV
  rw [contV_zip hok hl hz, chunksOf_flat]
theorem freshOf_none (has : List Bs) : ∀ (l acc : List Bs), (∀ c ∈ l, c ∈ has) → freshOf has acc l = acc
  | [], _, _ => rfl
  | c :: l, acc, h => by
    simp only [freshOf]
    rw [if_pos (.inl (h c (by simp)))]
    exact freshOf_none has l acc (fun x hx => h x (by simp [hx]))
theorem freshOf_acc (has : List Bs) : ∀ (l acc : List Bs), ∀ c ∈ acc, c ∈ freshOf has acc l
  | [], _, c, h => h
  | x :: l, acc, c, h => by
    simp only [freshOf]
    split
    · exact freshOf_acc has l acc c h
    · exact freshOf_acc has l _ c (by simp [h])
theorem fresh_pos {S : AS} {D : Bs} (hK : S.K = []) (hD : D ≠ []) : 1 ≤ ((freshS S D).map List.length).sum := by
  have hl : 0 < (lensOf D).length := by
    have := cutsN_ne (h := 0) (n := 0) hD
    exact List.length_pos_iff.2 this
  have hb := (lensOf_bounds D 0 hl).1
  have hc : 0 < (chunksOf D).length := by rw [chunksOf_len]; exact hl
  obtain ⟨c, r, hcr⟩ : ∃ c r, chunksOf D = c :: r := by
    cases h : chunksOf D with
    | nil => rw [h] at hc; simp at hc
    | cons c r => exact ⟨c, r, rfl⟩
  have hcl : c.length = (lensOf D)[0] := by
    have h1 : (chunksOf D)[0] = (D.drop ((lensOf D).take 0).sum).take (lensOf D)[0] := chunksFrom_at _ _ _ hl
    have h2 : (chunksOf D)[0] = c := by simp [hcr]
    have h3 := take_sum_le (lensOf D) 0 hl
    rw [lensOf_sum] at h3
    rw [← h2, h1, List.length_take, List.length_drop]
    simp only [List.take_zero, List.sum_nil] at h3 ⊢
    omega
  have hm : c ∈ freshS S D := by
    unfold freshS
    rw [hK, hcr]
    simp only [List.map_nil, freshOf, List.not_mem_nil, or_self, if_false, List.nil_append]
    exact freshOf_acc _ _ _ c (by simp)
  have : c.length ≤ ((freshS S D).map List.length).sum := by
    have key : ∀ l : List Bs, c ∈ l → c.length ≤ (l.map List.length).sum := by
      intro l
      induction l with
      | nil => intro h; simp at h
      | cons x r ih =>
        intro h
        rcases List.mem_cons.1 h with rfl | h
        · simp
        · have := ih h; simp; omega
    exact key _ hm
  omega
theorem zip_mem_left {α β : Type} : ∀ {l : List α} {m : List β}, l.length = m.length → ∀ a ∈ l, ∃ b ∈ m, (a, b) ∈ l.zip m
  | [], [], _, a, ha => by simp at ha
  | a :: l, x :: m, h, b, hb => by
    rcases List.mem_cons.1 hb with rfl | hb
    · exact ⟨x, by simp, by simp⟩
    · obtain ⟨a', h1, h2⟩ := zip_mem_left (by simpa using h) b hb
      exact ⟨a', by simp [h1], by simp [h2]⟩
def firstP : Bs := [102, 105, 114, 115, 116]
theorem firstP_path : isPathB firstP = true := by decide
structure OnceSt (D : Bs) (V : VerL) (sc sb : Int) (i : Nat) (S : AS) : Prop where
  ok : ArOk S
  b : ArB S (5000 + 2 * i)
  closed : S.X.closed = false
  quota : S.X.quota = 1099511627776
  used : S.X.used ≤ 4000 * (i + 1)
  sc : S.X.sc = sc
  sb : S.X.sb = sb
  has : ∀ c ∈ chunksOf D, c ∈ S.K.map (·.1)
  nch : V.chs.length = (chunksOf D).length
  vk : ∀ e ∈ (chunksOf D).zip V.chs, e ∈ S.K
  num : V.num = 1
  vers : ∃ r, versOf S.ps firstP = V :: r
  room : S.data.length ≤ 10000 + 1100 * i
  n : S.L.n = 20000
/-- What a Put of the content answers, once it is there. -/
theorem once_put {D : Bs} {V : VerL} {sc sb : Int} {i : Nat} {S : AS} (h : OnceSt D V sc sb i S) (hi : i ≤ 100) (hD : D.length ≤ 4000) {p : Bs} {w w' : World} {e : Ending} (hp : PutPost S p D (5000 + 2 * i) w e w') :
    ∃ (n k : Int) (ev : Value) (S' : AS), e = .returned (.tuple #[.int .i64 n, ev]) ∧ ErrIs w' ev k ∧ (k = 0 ∨ k = 1) ∧ (∀ b, ev ≠ .iface 106 (.pointer b)) ∧ OnceSt D V sc sb (i + 1) S' ∧ S'.a = S.a ∧ Turns (arF S) (arF S') w w' := by
  have hst : OnceSt D V sc sb (i + 1) S := { h with
    b := by
      have hb := h.b
      exact { K := by have := hb.K; omega, np := by have := hb.np; omega, nt := by have := hb.nt; omega, vers := fun p hp => by
                obtain ⟨k1, k2, k3⟩ := hb.vers p hp
                exact ⟨k1, by omega, fun U hU => by have := k3 U hU; omega⟩
              tags := fun p hp => by obtain ⟨k1, k2, k3⟩ := hb.tags p hp; exact ⟨k1, k2, by omega⟩
              used := by have := hb.used; omega, sc := by have := hb.sc; omega, sb := by have := hb.sb; omega, quota := hb.quota, chs := by have := hb.chs; omega }
    used := by have := h.used; omega
    room := by have := h.room; omega }
  have hfr : freshS S D = [] := freshOf_none _ _ _ h.has
  have hcc := lens_count D
  rcases hp with ⟨n, rfl, hT, hc⟩ | ⟨hc, hl, hDl, hq, hp⟩
  · rcases hc with ⟨h1, _⟩ | ⟨_, _, rfl⟩ | ⟨_, _, h1, _⟩ | ⟨_, _, _, h1, _⟩
    · rw [h.closed] at h1; cases h1
    · exact ⟨0, 1, errV 1, S, rfl, .inr (.inl rfl), .inr rfl, fun b hb => (by unfold errV at hb; simp at hb), hst, rfl, hT⟩
    · omega
    · have := h.used; have := h.quota; omega
  · have hll : p.length ≤ 20 := by
      unfold isPathB at hl
      simp only [Bool.and_eq_true, decide_eq_true_eq] at hl
      exact hl.1.2
    rcases hp with ⟨sp, chs, rfl, hA, hT, hfull, hnc⟩ | ⟨S', V', rfl, hst', hok', hB', hT⟩
    · exfalso
      rw [hfr, frameV_len, hnc, chunksOf_len] at hfull
      have h1 := h.room
      have h2 : S.A.count = 9999 := by rw [h.ok.count, h.n]; rfl
      rw [h2] at hfull
      simp only [frames, List.map_nil, List.flatten_nil, List.length_nil] at hfull
      omega
    · refine ⟨_, 0, .nilIface, S', rfl, .inl ⟨rfl, rfl⟩, .inl rfl, fun b hb => (by simp at hb), ?_, hst'.a, hT⟩
      have hKs : S'.K = S.K := by rw [hst'.K, hfr]; simp [placed]
      exact {
        ok := hok'
        b := hB' _ (by rw [hfr]; simp; omega) (by rw [chunksOf_len]; omega)
        closed := by rw [hst'.closed]; exact h.closed
        quota := by rw [hst'.quota]; exact h.quota
        used := by rw [hst'.used]; have := h.used; omega
        sc := by rw [hst'.sc, hfr, h.sc]; simp
        sb := by rw [hst'.sb, hfr, h.sb]; simp
        has := by rw [hKs]; exact h.has
        nch := h.nch
        vk := by rw [hKs]; exact h.vk
        num := h.num
        vers := by
          obtain ⟨r, hr⟩ := h.vers
          rw [hst'.vers]
          split
          · rename_i he; rw [← he, hr]; exact ⟨r ++ [V'], rfl⟩
          · exact ⟨r, hr⟩
        room := by
          have h1 := h.room
          rw [hst'.data, hfr, List.length_append, List.length_append, frameV_len, hst'.nchs, chunksOf_len]
          simp only [frames, List.map_nil, List.flatten_nil, List.length_nil]
          omega
        n := by rw [hst'.n]; exact h.n }
/-- What the first Put leaves. -/
theorem once_first {D : Bs} {d : Nat} {S : AS} (h : StartIs 20000 1099511627776 d S) (hD : D.length ≤ 4000) (hD0 : D ≠ []) {w w' : World} {e : Ending} (hp : PutPost S firstP D 0 w e w') :
    ∃ (V : VerL) (S' : AS), e = .returned (.tuple #[.int .i64 1, .nilIface]) ∧ 1 ≤ S'.X.sb ∧ S'.X.sb ≤ D.length ∧ OnceSt D V S'.X.sc S'.X.sb 0 S' ∧ S'.a = S.a ∧ Turns (arF S) (arF S') w w' := by
  obtain ⟨hok, hB, hcl, hq, hu, hsc, hsb, hps, hts, hK, hdata, hn, hd, hep, hchs, _, _⟩ := h
  have hq2 : S.X.quota = 1099511627776 := by rw [hq]; rfl
  have hcc := lens_count D
  have hfs := freshS_sum S D
  have hfl : (freshS S D).length ≤ (lensOf D).length := by
    have := freshOf_len (S.K.map (·.1)) (chunksOf D) []
    rw [chunksOf_len] at this
    unfold freshS
    simpa using this
  have hfp := fresh_pos hK hD0
  rcases hp with ⟨n, rfl, hT, hc⟩ | ⟨hc, hl, hDl, hqq, hp⟩
  · exfalso
    rcases hc with ⟨h1, _⟩ | ⟨_, h1, _⟩ | ⟨_, _, h1, _⟩ | ⟨_, _, _, h1, _⟩
    · rw [hcl] at h1; cases h1
    · rw [firstP_path] at h1; cases h1
    · omega
    · rw [hq2, hu] at h1; omega
  · have hv0 : versOf S.ps firstP = [] := by rw [hps]; rfl
    have hln : lastNum (versOf S.ps firstP) = 0 := by rw [hv0]; rfl
    rcases hp with ⟨sp, chs, rfl, hA, hT, hfull, hnc⟩ | ⟨S', V, rfl, st, hok', hB', hT⟩
    · exfalso
      rw [frames_length, framesLen_eq, frameV_len, hnc, chunksOf_len, hdata] at hfull
      have h2 : S.A.count = 9999 := by rw [hok.count, hn]; rfl
      rw [h2] at hfull
      simp only [firstP, List.length_nil, List.length_cons] at hfull
      omega
    · refine ⟨V, S', by rw [hln]; rfl, ?_, ?_, ?_, st.a, hT⟩
      · rw [st.sb, hsb]; omega
      · rw [st.sb, hsb]; omega
      · exact {
          ok := hok'
          b := hB' _ (by omega) (by rw [chunksOf_len]; omega)
          closed := by rw [st.closed]; exact hcl
          quota := by rw [st.quota]; exact hq2
          used := by rw [st.used, hu]; omega
          sc := rfl
          sb := rfl
          has := fun c hc => by
            obtain ⟨q, _, hz⟩ := zip_mem_left st.nchs.symm c hc
            exact List.mem_map.2 ⟨(c, q), st.chs _ hz, rfl⟩
          nch := st.nchs
          vk := st.chs
          num := by rw [st.num, hln]
          vers := ⟨[], by rw [st.vers, if_pos rfl, hv0]; rfl⟩
          room := by
            rw [st.data, List.length_append, List.length_append, frames_length, framesLen_eq, frameV_len, st.nchs, chunksOf_len, hdata]
            simp only [firstP, List.length_nil, List.length_cons]
            omega
          n := by rw [st.n]; exact hn }
end Go.Proofs.YtdhobpbngkainaaGreatDoor
/-
  Ours. Once's drawn region: a Put within its loop (the text is printed by wip/genonce.py).
-/
namespace Go.Proofs.YtdhobpbngkainaaGreatDoor
open Go.RowKit Go.Maps

set_option maxHeartbeats 4000000 in
set_option maxRecDepth 100000 in
theorem once13 (F1 Z : HF) (A : World) (U : WorldL) (S : AS) (D p : Bs) (sl psl : Option Addr) (cap n pcap i g off : Nat) (V : VerL) (sc sb : Int) {Q : Exit → Act → World → Prop} {w : World} {u2 u3 u4 u6 u7 u8 u9 u10 u12 u13 u14 u15 u16 u17 u18 u19 u20 u21 u22 u23 u24 u25 u26 u27 u28 u29 u30 u31 u32 u33 u34 u35 u36 u37 u38 u39 u40 u41 u42 u43 u44 u45 u46 u47 u48 u49 u50 u51 u52 u53 u54 u55 u56 u57 u58 u59 u60 u61 u62 u63 u64 u65 u66 u67 u68 u69 u70 u71 u72 u73 u74 u75 u76 u77 u78 u79 u80 u81 u82 u83 u84 u85 u86 u87 u88 u89 u90 u91 u92 u93 u94 u95 u96 u97 u98 u99 u100 u101 u102 u103 u104 u105 u106 u107 u108 u109 u110 u111 u112 u113 u114 u115 u116 u117 u118 u119 u120 u121 u122 u123 u124 u125 u126 u127 u128 u129 u130 u131 u132 u133 u134 u135 u136 u137 u138 u139 : Value} {ds : List Deferred} (hT : Turns F1 ((U.blk, Is (worldO U)) :: (arF S ++ Z)) A w) (hUa : U.a = some S.a) (hst : OnceSt D V sc sb i S) (hi : i ≤ 100) (hin : i < n) (hpsl : psl = some ⟨g, off, none⟩) (hDl : D.length ≤ 4000) (hcap : D.length ≤ cap) (hpl : p.length ≤ 9223372036854775807)
    (hD : ∀ W G, Turns F1 G A W → CellsAt W sl (D.map enc8)) (hsl : ∀ x, sl = some x → ∀ W G, Turns F1 G A W → x.block ∉ dom G) (hps : ∀ W G, Turns F1 G A W → W.cell? ⟨g, off + i, none⟩ = some (str p))
    (hk : ∀ (y85 y86 y87 y88 y89 y90 y91 y92 y93 y94 y84 y95 y96 y8 : Value) (w' : World), (∃ (k : Int) (S' : AS), ErrIs w' y8 k ∧ (k = 0 ∨ k = 1) ∧ (∀ b, y8 ≠ .iface 106 (.pointer b)) ∧ OnceSt D V sc sb (i + 1) S' ∧ S'.a = S.a ∧ Turns F1 ((U.blk, Is (worldO U)) :: (arF S' ++ Z)) A w') → Q .normal { tmps := #[.slice sl D.length cap, .slice psl n pcap, u2, u3, u4, .pointer (some ⟨U.blk, 0, none⟩), u6, u7, y8, u9, u10, .int .i64 i, u12, u13, u14, u15, u16, u17, u18, u19, u20, u21, u22, u23, u24, u25, u26, u27, u28, u29, u30, u31, u32, u33, u34, u35, u36, u37, u38, u39, u40, u41, u42, u43, u44, u45, u46, u47, u48, u49, u50, u51, u52, u53, u54, u55, u56, u57, u58, u59, u60, u61, u62, u63, u64, u65, u66, u67, u68, u69, u70, u71, u72, u73, u74, u75, u76, u77, u78, u79, u80, u81, u82, u83, y84, y85, y86, y87, y88, y89, y90, y91, y92, y93, y94, y95, y96, u97, u98, u99, u100, u101, u102, u103, u104, u105, u106, u107, u108, u109, u110, u111, u112, u113, u114, u115, u116, u117, u118, u119, u120, u121, u122, u123, u124, u125, u126, u127, u128, u129, u130, u131, u132, u133, u134, u135, u136, u137, u138, u139], defers := ds } w') :
    (regOf 13 Tryz.f5).wp Tryz.prog Q { tmps := #[.slice sl D.length cap, .slice psl n pcap, u2, u3, u4, .pointer (some ⟨U.blk, 0, none⟩), u6, u7, u8, u9, u10, .int .i64 i, u12, u13, u14, u15, u16, u17, u18, u19, u20, u21, u22, u23, u24, u25, u26, u27, u28, u29, u30, u31, u32, u33, u34, u35, u36, u37, u38, u39, u40, u41, u42, u43, u44, u45, u46, u47, u48, u49, u50, u51, u52, u53, u54, u55, u56, u57, u58, u59, u60, u61, u62, u63, u64, u65, u66, u67, u68, u69, u70, u71, u72, u73, u74, u75, u76, u77, u78, u79, u80, u81, u82, u83, u84, u85, u86, u87, u88, u89, u90, u91, u92, u93, u94, u95, u96, u97, u98, u99, u100, u101, u102, u103, u104, u105, u106, u107, u108, u109, u110, u111, u112, u113, u114, u115, u116, u117, u118, u119, u120, u121, u122, u123, u124, u125, u126, u127, u128, u129, u130, u131, u132, u133, u134, u135, u136, u137, u138, u139], defers := ds } w := by
  have HM := Lib.hid (show Tryz.prog.follows .mixedOrders = true by kernel_rfl)
  conv => arg 2; whnf
  refine wp_region_chain (A := ?A) (hA := ?hA) HM.out (phiL [fun v => v = .pointer (some ⟨U.blk, 0, none⟩), fun v => v = .pointer (some ⟨U.blk, 0, none⟩), fun v => v = .pointer (some ⟨U.blk, 1, none⟩), fun v => v = .pointer (some ⟨S.a, 0, none⟩), fun v => v = .slice psl n pcap, fun v => v = .int .i64 i, fun v => v = .pointer (some ⟨g, off + i, none⟩), fun v => v = str p, fun v => v = .slice sl D.length cap, fun v => ∃ m ev, v = Value.tuple #[.int .i64 m, ev], fun v => ∃ m ev, v = Value.tuple #[.int .i64 m, ev], fun _ => True, fun _ => True, fun _ => True])
    (fun vs1 W => match vs1 with
    | [] => Turns F1 ((U.blk, Is (worldO U)) :: (arF S ++ Z)) A W ∧ True
    | [v] => ∃ (m k : Int) (ev : Value) (S' : AS), v = .tuple #[.int .i64 m, ev] ∧ ErrIs W ev k ∧ (k = 0 ∨ k = 1) ∧ (∀ b, ev ≠ .iface 106 (.pointer b)) ∧ OnceSt D V sc sb (i + 1) S' ∧ S'.a = S.a ∧ Turns F1 ((U.blk, Is (worldO U)) :: (arF S' ++ Z)) A W
    | [_, v] => ∃ (m k : Int) (ev : Value) (S' : AS), v = .tuple #[.int .i64 m, ev] ∧ ErrIs W ev k ∧ (k = 0 ∨ k = 1) ∧ (∀ b, ev ≠ .iface 106 (.pointer b)) ∧ OnceSt D V sc sb (i + 1) S' ∧ S'.a = S.a ∧ Turns F1 ((U.blk, Is (worldO U)) :: (arF S' ++ Z)) A W
    | [_, _, v] => ∃ (m k : Int) (ev : Value) (S' : AS), v = ev ∧ ErrIs W ev k ∧ (k = 0 ∨ k = 1) ∧ (∀ b, ev ≠ .iface 106 (.pointer b)) ∧ OnceSt D V sc sb (i + 1) S' ∧ S'.a = S.a ∧ Turns F1 ((U.blk, Is (worldO U)) :: (arF S' ++ Z)) A W
    | [_, _, _, v] => ∃ (m k : Int) (ev : Value) (S' : AS), v = ev ∧ ErrIs W ev k ∧ (k = 0 ∨ k = 1) ∧ (∀ b, ev ≠ .iface 106 (.pointer b)) ∧ OnceSt D V sc sb (i + 1) S' ∧ S'.a = S.a ∧ Turns F1 ((U.blk, Is (worldO U)) :: (arF S' ++ Z)) A W
    | _ => False)
    (fun W => W.heap[U.blk]? = some (worldO U) ∧ W.cell? ⟨g, off + i, none⟩ = some (str p)) [9, 10, 12, 13] ?hC (by kernel_rfl) (by kernel_rfl) (by decide) (by decide) ?h0 ?hs ?he
  case hA => intro x; simp only [fillFrom, Act.put, List.setIfInBounds_toArray, List.set_cons_zero, List.set_cons_succ, Nat.reduceAdd]; rfl
  case hs =>
    refine ⟨chain_quiet rfl rfl (fun x wq hd hC K hK hKw => ?_), chain_quiet rfl rfl (fun x wq hd hC K hK hKw => ?_), chain_quiet rfl rfl (fun x wq hd hC K hK hKw => ?_), chain_quiet rfl rfl (fun x wq hd hC K hK hKw => ?_), chain_quiet rfl rfl (fun x wq hd hC K hK hKw => ?_), chain_quiet rfl rfl (fun x wq hd hC K hK hKw => ?_), chain_quiet rfl rfl (fun x wq hd hC K hK hKw => ?_), chain_quiet rfl rfl (fun x wq hd hC K hK hKw => ?_), chain_quiet rfl rfl (fun x wq hd hC K hK hKw => ?_), chain_noisy 0 rfl rfl (fun x wq hd hS K hK => ?_), chain_noisy 1 rfl rfl (fun x wq hd hS K hK => ?_), chain_quiet rfl rfl (fun x wq hd hC K hK hKw => ?_), chain_noisy 2 rfl rfl (fun x wq hd hS K hK => ?_), chain_noisy 3 rfl rfl (fun x wq hd hS K hK => ?_), trivial⟩
    · exact wp_run (by kernel_rfl) (hK _ rfl)
    · have h0 : x 0 = .pointer (some ⟨U.blk, 0, none⟩) := depsC_get hd 0 (by kernel_rfl)
      exact wp_run (by rw [h0]; kernel_rfl) (hK _ rfl)
    · have h1 : x 1 = .pointer (some ⟨U.blk, 0, none⟩) := depsC_get hd 1 (by kernel_rfl)
      exact wp_run (by rw [h1]; kernel_rfl) (hK _ rfl)
    · have h2 : x 2 = .pointer (some ⟨U.blk, 1, none⟩) := depsC_get hd 2 (by kernel_rfl)
      exact w_load Tryz.underlying32 rfl rfl (by rw [h2]; rfl) (by have := cell_at hC.1 1 (v := ptrO U.a) rfl; rw [hUa] at this; exact this) (hK _ rfl)
    · exact wp_run (by kernel_rfl) (hK _ rfl)
    · exact wp_run (by kernel_rfl) (hK _ rfl)
    · have h4 : x 4 = .slice psl n pcap := depsC_get hd 4 (by kernel_rfl)
      have h5 : x 5 = .int .i64 i := depsC_get hd 5 (by kernel_rfl)
      refine w_indexS (sz := 1) 68 9 (.tmp 89) (.tmp 90) rfl Tryz.underlying68 (by kernel_rfl) (by rw [h4, hpsl]; rfl) (by rw [h5]; rfl) (by omega) (by omega) ?_
      rw [show off + ((i : Int)).toNat * 1 = off + i by omega]
      exact hK _ rfl
    · have h6 : x 6 = .pointer (some ⟨g, off + i, none⟩) := depsC_get hd 6 (by kernel_rfl)
      exact w_load Tryz.underlying9 rfl rfl (by rw [h6]; rfl) (hC.2) (hK _ rfl)
    · exact wp_run (by kernel_rfl) (hK _ rfl)
    · have h3 : x 3 = .pointer (some ⟨S.a, 0, none⟩) := depsC_get hd 3 (by kernel_rfl)
      have h7 : x 7 = str p := depsC_get hd 7 (by kernel_rfl)
      have h8 : x 8 = .slice sl D.length cap := depsC_get hd 8 (by kernel_rfl)
      refine wp_calls (by rw [h3, h7, h8]; kernel_rfl) (Put_calls S p D sl cap (5000 + 2 * i) wq hS.1.sat.tail.left hst.ok hst.b (by omega) (hD _ _ hS.1) hcap (by omega) (fun x hx hd => hsl x hx wq _ hS.1 (by rw [dom_cons, dom_append]; exact List.mem_cons_of_mem _ (List.mem_append_left _ hd))) hpl (by rw [hst.quota]; omega)) ?_
      intro e w3 hp
      obtain ⟨m, k, ev, S', rfl, hei, hk, hns, hst', ha', hT'⟩ := once_put hst hi hDl hp
      refine ⟨_, rfl, hK _ _ ⟨m, ev, rfl⟩ ⟨m, k, ev, S', rfl, hei, hk, hns, hst', ha', ?_⟩⟩
      exact ((hS.1.to (H := arF S ++ ((U.blk, Is (worldO U)) :: Z)) (perm_of_cnt fun _ => by simp only [cnt_cons, cnt_append, cnt_nil] <;> omega)).step (List.Perm.refl _) hT').to (perm_of_cnt fun _ => by simp only [cnt_cons, cnt_append, cnt_nil] <;> omega)
    · obtain ⟨m, k, ev, S', e9, h⟩ := hS
      exact wp_run (v := x 9) (w' := wq) (by kernel_rfl) (hK _ _ ⟨m, ev, e9⟩ ⟨m, k, ev, S', e9, h⟩)
    · obtain ⟨m, ev, e10⟩ : ∃ m ev, x 10 = Value.tuple #[.int .i64 m, ev] := depsC_get hd 10 (by kernel_rfl)
      exact wp_run (v := .int .i64 m) (by rw [e10]; kernel_rfl) (hK _ trivial)
    · obtain ⟨m, k, ev, S', e10, h⟩ := hS
      exact wp_run (v := ev) (w' := wq) (by rw [e10]; kernel_rfl) (hK _ _ trivial ⟨m, k, ev, S', rfl, h⟩)
    · obtain ⟨m, k, ev, S', e12, h⟩ := hS
      exact wp_run (v := ev) (w' := wq) (by rw [e12]; kernel_rfl) (hK _ _ trivial ⟨m, k, ev, S', rfl, h⟩)
  case hC =>
    intro vs1 W hS
    match vs1, hS with
    | [], ⟨hT, _⟩ => exact ⟨hT.sat.headIs, hps _ _ hT⟩
    | [_], ⟨_, _, _, _, _, _, _, _, _, _, hT⟩ => exact ⟨hT.sat.headIs, hps _ _ hT⟩
    | [_, _], ⟨_, _, _, _, _, _, _, _, _, _, hT⟩ => exact ⟨hT.sat.headIs, hps _ _ hT⟩
    | [_, _, _], ⟨_, _, _, _, _, _, _, _, _, _, hT⟩ => exact ⟨hT.sat.headIs, hps _ _ hT⟩
    | [_, _, _, _], ⟨_, _, _, _, _, _, _, _, _, _, hT⟩ => exact ⟨hT.sat.headIs, hps _ _ hT⟩
  case h0 =>
    exact ⟨hT.drew, trivial⟩
  case he =>
    intro x w3 hφ hS
    obtain ⟨m, k, ev, S', e13, h1, h2, h3, h4, h5, h6⟩ := hS
    have e13' : x 13 = ev := e13
    exact hk (x 0) (x 1) (x 2) (x 3) (x 4) (x 5) (x 6) (x 7) (x 8) (x 9) (x 10) (x 11) (x 12) (x 13) w3 ⟨k, S', by rw [e13']; exact h1, h2, by rw [e13']; exact h3, h4, h5, h6⟩
end Go.Proofs.YtdhobpbngkainaaGreatDoor
/-
  Ours. The laws' own 'same' and 'sameNumbers': they tell whether two lists are the same.
-/
namespace Go.Proofs.YtdhobpbngkainaaGreatDoor
open Go.RowKit

def SamePost (b : Bool) (w : World) (e : Ending) (w' : World) : Prop := e = .returned (.bool b) ∧ Drew w w'


set_option maxHeartbeats 1000000 in
set_option maxRecDepth 100000 in
theorem sameNumbers_calls (a1 a2 : Option Addr) (c1 c2 : Nat) (xs ys : List Int) (w : World) (h1 : CellsAt w a1 (xs.map encI)) (h2 : CellsAt w a2 (ys.map encI)) (hx : xs.length ≤ 1099511627776) (hy : ys.length ≤ 1099511627776) :
    Calls Tryz.prog 107 #[.slice a1 xs.length c1, .slice a2 ys.length c2] w (SamePost (decide (xs = ys)) w) := by
  by_cases hl : xs.length = ys.length
  · have hb : ((xs.length : Int) != (ys.length : Int)) = false := by simp; omega
    have HL := Lib.hid hl
    clear hl
    go_enter Tryz.func107, Tryz.ntmps107
    go_wp2
    go_loopw [5] (fun i wr => ∃ k : Nat, k ≤ xs.length ∧ i = .int .i64 k ∧ xs.take k = ys.take k ∧ Drew w wr) (fun i _ => xs.length - (intOf i).toNat)
    case atStart => exact ⟨0, Nat.zero_le _, rfl, rfl, Drew.refl _⟩
    case round =>
      obtain ⟨k, hk, rfl, ht, n, rfl⟩ := hrel
      have HT := Lib.hid ht
      clear ht
      by_cases hlt : k < xs.length
      · have hlt2 : k < ys.length := by have := HL.out; omega
        obtain ⟨g1, o1, rfl, hc1⟩ := cellsAt_map encI h1 (by omega)
        obtain ⟨g2, o2, rfl, hc2⟩ := cellsAt_map encI h2 (by omega)
        have k1 := hc1 k hlt
        have k2 := hc2 k hlt2
        unfold encI at k1 k2
        clear hc1 hc2 h1 h2
        obtain ⟨x, hxk⟩ : ∃ x, x = xs[k] := ⟨_, rfl⟩
        obtain ⟨y, hyk⟩ : ∃ y, y = ys[k] := ⟨_, rfl⟩
        rw [← hxk] at k1
        rw [← hyk] at k2
        have HX := Lib.hid (And.intro hxk hyk)
        clear hxk hyk
        by_cases he : x = y
        · have hq : (x != y) = false := by simp [he]
          have HE := Lib.hid he
          clear he
          go_wp2
          go_region
          go_wp2
          go_roundw
          case rel => exact ⟨k + 1, by omega, by go_num, take_succ_eq HT.out hlt hlt2 (by rw [← HX.out.1, ← HX.out.2, HE.out]), (Drew.drewN (Drew.refl w) n).drew⟩
          case measure => simp [intOf]; omega
        · have hq : (x != y) = true := by simp [he]
          have hne : decide (xs = ys) = false := by
            apply decide_eq_false
            rintro rfl
            exact he (HX.out.1.trans HX.out.2.symm)
          have HN := Lib.hid hne
          clear he hne
          go_wp2
          go_region
          go_wp2
          go_ret
          exact ⟨ret_bool HN.out.symm, (Drew.drewN (Drew.refl w) n).drew⟩
      · have hkx : k = xs.length := by omega
        have heq : decide (xs = ys) = true := by
          apply decide_eq_true
          have := HT.out
          rw [hkx, List.take_length, List.take_of_length_le (by have := HL.out; omega)] at this
          exact this
        have HN := Lib.hid heq
        clear heq hkx
        go_wp2
        go_ret
        exact ⟨ret_bool HN.out.symm, Drew.drewN (Drew.refl w) n⟩
  · have hb : ((xs.length : Int) != (ys.length : Int)) = true := by simp; omega
    have hne : decide (xs = ys) = false := by apply decide_eq_false; rintro rfl; exact hl rfl
    have HN := Lib.hid hne
    clear hne
    go_enter Tryz.func107, Tryz.ntmps107
    go_wp2
    go_ret
    exact ⟨ret_bool HN.out.symm, Drew.refl w⟩

set_option maxHeartbeats 1000000 in
set_option maxRecDepth 100000 in
theorem same_calls (a1 a2 : Option Addr) (c1 c2 : Nat) (xs ys : List UInt8) (w : World) (h1 : CellsAt w a1 (xs.map enc8)) (h2 : CellsAt w a2 (ys.map enc8)) (hx : xs.length ≤ 1099511627776) (hy : ys.length ≤ 1099511627776) :
    Calls Tryz.prog 28 #[.slice a1 xs.length c1, .slice a2 ys.length c2] w (SamePost (decide (xs = ys)) w) := by
  by_cases hl : xs.length = ys.length
  · have hb : ((xs.length : Int) != (ys.length : Int)) = false := by simp; omega
    have HL := Lib.hid hl
    clear hl
    go_enter Tryz.func28, Tryz.ntmps28
    go_wp2
    go_loopw [5] (fun i wr => ∃ k : Nat, k ≤ xs.length ∧ i = .int .i64 k ∧ xs.take k = ys.take k ∧ Drew w wr) (fun i _ => xs.length - (intOf i).toNat)
    case atStart => exact ⟨0, Nat.zero_le _, rfl, rfl, Drew.refl _⟩
    case round =>
      obtain ⟨k, hk, rfl, ht, n, rfl⟩ := hrel
      have HT := Lib.hid ht
      clear ht
      by_cases hlt : k < xs.length
      · have hlt2 : k < ys.length := by have := HL.out; omega
        obtain ⟨g1, o1, rfl, hc1⟩ := cellsAt_map enc8 h1 (by omega)
        obtain ⟨g2, o2, rfl, hc2⟩ := cellsAt_map enc8 h2 (by omega)
        have k1 := hc1 k hlt
        have k2 := hc2 k hlt2
        unfold enc8 at k1 k2
        clear hc1 hc2 h1 h2
        obtain ⟨x, hxk⟩ : ∃ x, x = xs[k] := ⟨_, rfl⟩
        obtain ⟨y, hyk⟩ : ∃ y, y = ys[k] := ⟨_, rfl⟩
        rw [← hxk] at k1
        rw [← hyk] at k2
        have HX := Lib.hid (And.intro hxk hyk)
        clear hxk hyk
        by_cases he : x = y
        · have hq : (((x.toNat : Nat) : Int) != ((y.toNat : Nat) : Int)) = false := by simp [he]
          have HE := Lib.hid he
          clear he
          go_wp2
          go_region
          go_wp2
          go_roundw
          case rel => exact ⟨k + 1, by omega, by go_num, take_succ_eq HT.out hlt hlt2 (by rw [← HX.out.1, ← HX.out.2, HE.out]), (Drew.drewN (Drew.refl w) n).drew⟩
          case measure => simp [intOf]; omega
        · have hq : (((x.toNat : Nat) : Int) != ((y.toNat : Nat) : Int)) = true := by
            simp only [bne_iff_ne]; intro h; exact he (UInt8.toNat_inj.1 (by omega))
          have hne : decide (xs = ys) = false := by
            apply decide_eq_false
            rintro rfl
            exact he (HX.out.1.trans HX.out.2.symm)
          have HN := Lib.hid hne
          clear he hne
          go_wp2
          go_region
          go_wp2
          go_ret
          exact ⟨ret_bool HN.out.symm, (Drew.drewN (Drew.refl w) n).drew⟩
      · have hkx : k = xs.length := by omega
        have heq : decide (xs = ys) = true := by
          apply decide_eq_true
          have := HT.out
          rw [hkx, List.take_length, List.take_of_length_le (by have := HL.out; omega)] at this
          exact this
        have HN := Lib.hid heq
        clear heq hkx
        go_wp2
        go_ret
        exact ⟨ret_bool HN.out.symm, Drew.drewN (Drew.refl w) n⟩
  · have hb : ((xs.length : Int) != (ys.length : Int)) = true := by simp; omega
    have hne : decide (xs = ys) = false := by apply decide_eq_false; rintro rfl; exact hl rfl
    have HN := Lib.hid hne
    clear hne
    go_enter Tryz.func28, Tryz.ntmps28
    go_wp2
    go_ret
    exact ⟨ret_bool HN.out.symm, Drew.refl w⟩

end Go.Proofs.YtdhobpbngkainaaGreatDoor
/-
  Ours. The walk of the law Once: it answers true, and nothing that was there has turned.
-/
namespace Go.Proofs.YtdhobpbngkainaaGreatDoor
open Go.RowKit Go.Maps

def OncePost (w : World) (e : Ending) (w' : World) : Prop := e = .returned (.bool true) ∧ Same w w'
def OnceRel (D : Bs) (V : VerL) (sc sb : Int) (n : Nat) (F Z : HF) (wb sa : Nat) (uo : Obj) (w : World) (i : Value) (W : World) : Prop :=
  ∃ (k : Nat) (S : AS), k ≤ n ∧ i = .int .i64 k ∧ OnceSt D V sc sb k S ∧ S.a = sa ∧ Turns F ((wb, Is uo) :: (arF S ++ Z)) w W
set_option maxHeartbeats 4000000 in
set_option maxRecDepth 100000 in
theorem Once_calls (D : Bs) (ps : List Bs) (sl psl : Option Addr) (cap pcap : Nat) (w : World) (hD : CellsAt w sl (D.map enc8)) (hcap : D.length ≤ cap) (hps : CellsAt w psl (ps.map str)) (hpl : ∀ p ∈ ps, p.length ≤ 9223372036854775807) (hE : ErrLaid w) :
    Calls Tryz.prog 5 #[.slice sl D.length cap, .slice psl ps.length pcap] w (OncePost w) := by
  have HB := Lib.hid (beginw_calls 20000 1099511627776 w (by omega) (by omega) hE (by omega))
  have HH := Lib.hid (And.intro hD (And.intro hcap (And.intro hps (And.intro hpl hE))))
  clear hD hcap hps hpl hE
  go_enter Tryz.func5, Tryz.ntmps5
  go_wp2_with fail
  all_goals first | exact bodyPost_ret (results_tmp rfl _ _ _) rfl ⟨rfl, Mods.refl _ _⟩ | skip
  have hc : (((D.length : Int) ≤ 4000 ∧ ((D.length : Int) == 0) = false) ∧ (ps.length : Int) ≤ 100) := by assumption
  have hDl : D.length ≤ 4000 := by omega
  have hD0 : D ≠ [] := fun h => by have := hc.1.2; rw [h] at this; simp at this
  have hn : ps.length ≤ 100 := by omega
  have hDm : D.length ≤ 1099511627776 := by omega
  have hsl : ∀ x, sl = some x → x.block < w.heap.size := fun x hx => by
    obtain ⟨g, off, e, hcc⟩ := HH.out.1 (by rw [List.length_map]; exact List.length_pos_iff.2 hD0)
    rw [hx] at e
    obtain rfl := Option.some.inj e
    exact World.block_lt_of_cell? w _ (hcc 0 (by rw [List.length_map]; exact List.length_pos_iff.2 hD0))
  refine HB.out.mono ?_
  rintro e w1 ⟨U, S0, R, rfl, hst0, hUa, hUr, -, -, -, -, hT1⟩
  have c1 : w1.cell? ⟨U.blk, 1, none⟩ = some (.pointer (some ⟨S0.a, 0, none⟩)) := by
    have := cell_at hT1.sat.headIs 1 (v := ptrO U.a) rfl
    rw [hUa] at this; exact this
  have hnew : ∀ W G, Turns [] G w W → ∀ x, sl = some x → x.block ∉ dom G := fun W G hG x hx h => by
    have h1 := hG.newLe h
    have h2 := hsl x hx
    omega
  have hDW : ∀ W G, Turns [] G w W → CellsAt W sl (D.map enc8) := fun W G hG => HH.out.1.turnsOld hG (fun x _ h => by simp at h)
  have hPW : ∀ W G, Turns [] G w W → CellsAt W psl (ps.map str) := fun W G hG => HH.out.2.2.1.turnsOld hG (fun x _ h => by simp at h)
  have hEW : ∀ W G, Turns [] G w W → ErrLaid W := fun W G hG => HH.out.2.2.2.2.keep hG.mods (fun h => by simp at h)
  have HW := Lib.hid (And.intro @hnew (And.intro @hDW (And.intro @hPW @hEW)))
  have HP := Lib.hid (Put_calls S0 firstP D sl cap 0 w1 hT1.sat.tail.left hst0.1 hst0.2.1 (by omega) (hDW _ _ hT1) HH.out.2.1 hDm (fun x hx hd => hnew _ _ hT1 x hx (by rw [dom_cons, dom_append]; exact List.mem_cons_of_mem _ (List.mem_append_left _ hd))) (by simp [firstP]) (by rw [hst0.2.2.2.1]; decide))
  have H1 := Lib.hid (And.intro hst0 (And.intro hUa (And.intro hT1 hD0)))
  clear hst0 hUa hUr hT1 hnew hDW hPW hEW hc hD0 hsl
  go_wp2_with fail
  refine HP.out.mono ?_
  intro e w2 hp
  obtain ⟨V, S1, rfl, hsb1, hsb2, hst1, hSa, hT⟩ := once_first H1.out.1 hDl H1.out.2.2.2 hp
  have hT2 : Turns [] ((U.blk, Is (worldO U)) :: (arF S1 ++ refF R)) w w2 := ((H1.out.2.2.1.to (H := arF S0 ++ ((U.blk, Is (worldO U)) :: refF R)) (perm_of_cnt fun _ => by simp only [cnt_cons, cnt_append, cnt_nil] <;> omega)).step (List.Perm.refl _) hT).to (perm_of_cnt fun _ => by simp only [cnt_cons, cnt_append, cnt_nil] <;> omega)
  have c2 : w2.cell? ⟨U.blk, 1, none⟩ = some (.pointer (some ⟨S1.a, 0, none⟩)) := by
    have := cell_at hT2.sat.headIs 1 (v := ptrO U.a) rfl
    rw [H1.out.2.1, ← hSa] at this; exact this
  have HS := Lib.hid (Stored_open S1.a S1.X w2 (hT2.sat.memIs (by simp [arF])) hst1.closed)
  have H2 := Lib.hid (And.intro hsb1 (And.intro hsb2 (And.intro hst1 (And.intro hSa hT2))))
  clear hp hsb1 hsb2 hst1 hSa hT hT2
  go_wp2_with fail
  refine HS.out.mono ?_
  rintro e w3 ⟨rfl, hs3⟩
  have hT3 := H2.out.2.2.2.2.thenSame hs3
  have H3 := Lib.hid hT3
  clear hs3 hT3
  go_wp2_with fail
  obtain ⟨B9, hB9⟩ : ∃ B9, B9 = w3.heap.size := ⟨_, rfl⟩
  obtain ⟨sO, hsO⟩ : ∃ sO : Obj, sO = .cells #[.int .i64 S1.X.sc, .int .i64 S1.X.sb] 74 (0, 0) := ⟨_, rfl⟩
  have hT4 : Turns [] ((U.blk, Is (worldO U)) :: (arF S1 ++ ((B9, Is sO) :: refF R))) w (w3.alloc (.cells #[.int .i64 S1.X.sc, .int .i64 S1.X.sb] 74)) := by
    rw [hB9, hsO]
    exact (H3.out.allocIs _).to (perm_of_cnt fun _ => by simp only [cnt_cons, cnt_append, cnt_nil] <;> omega)
  rw [← hB9]
  generalize w3.alloc (.cells #[.int .i64 S1.X.sc, .int .i64 S1.X.sb] 74) = w4 at hT4 ⊢
  have H4 := Lib.hid (And.intro hT4 hsO)
  clear hT4 hB9 hsO
  refine (Tell_calls .nilIface 0 w4 (HW.out.2.2.2 _ _ H4.out.1) (.inl ⟨rfl, rfl⟩)).mono ?_
  rintro e w5 ⟨rfl, hs5⟩
  have H5 := Lib.hid (H4.out.1.thenSame hs5)
  clear hs5
  go_wp2_with fail
  refine (Tell_calls .nilIface 0 w5 (HW.out.2.2.2 _ _ H5.out) (.inl ⟨rfl, rfl⟩)).mono ?_
  rintro e w6 ⟨rfl, hs6⟩
  have hT6 := H5.out.thenSame hs6
  have hb9 : w6.heap[B9]? = some (.cells #[.int .i64 S1.X.sc, .int .i64 S1.X.sb] 74 (0, 0)) := H4.out.2 ▸ hT6.sat.memIs (b := B9) (o := sO) (by simp)
  have d1 : w6.cell? ⟨B9, 1, none⟩ = some (.int .i64 S1.X.sb) := cell_at hb9 1 rfl
  have q1 : ¬ S1.X.sb < 1 := by have := H2.out.1; omega
  have q2 : ¬ (D.length : Int) < S1.X.sb := by have := H2.out.2.1; omega
  have H6 := Lib.hid hT6
  clear hs6 hT6 hb9
  go_wp2_with fail
  go_loopw [11] (fun i wr => OnceRel D V S1.X.sc S1.X.sb ps.length [] ((B9, Is sO) :: refF R) U.blk S1.a (worldO U) w i wr) (fun i _ => ps.length - (intOf i).toNat)
  case atStart => exact ⟨0, S1, Nat.zero_le _, rfl, H2.out.2.2.1, rfl, H6.out⟩
  case round =>
    obtain ⟨k, S, hk, rfl, hst, hSa, hT⟩ := hrel
    have HR := Lib.hid (And.intro hst (And.intro hSa hT))
    have HUS : Hid (U.a = some S.a) := Lib.hid (by rw [H1.out.2.1, hSa, H2.out.2.2.2.1])
    clear hst hSa hT
    by_cases hlt : k < ps.length
    · obtain ⟨g, off, hg, hcell⟩ := HH.out.2.2.1 (by rw [List.length_map]; omega)
      obtain ⟨pp, hpp⟩ : ∃ pp, pp = ps[k] := ⟨_, rfl⟩
      have HC := Lib.hid (And.intro hg (And.intro hcell hpp))
      clear hg hcell hpp
      go_wp2_with fail
      refine once13 [] ((B9, Is sO) :: refF R) w U S D pp sl psl cap ps.length pcap k g off V S1.X.sc S1.X.sb HR.out.2.2 HUS.out HR.out.1 (by omega) hlt HC.out.1 hDl HH.out.2.1 (HC.out.2.2 ▸ HH.out.2.2.2.1 _ (List.getElem_mem hlt)) (fun W G hG => HW.out.2.1 W G hG) (fun x hx W G hG => HW.out.1 W G hG x hx) (fun W G hG => ?hps) ?_
      case hps =>
        have h := HW.out.2.2.1 W G hG
        obtain ⟨g2, off2, e2, hc2⟩ := h (by rw [List.length_map]; omega)
        rw [HC.out.1] at e2
        simp only [Option.some.injEq, Addr.mk.injEq, and_true] at e2
        obtain ⟨rfl, rfl⟩ := e2
        rw [hc2 k (by rw [List.length_map]; omega), List.getElem_map, ← HC.out.2.2]
      intro _ _ _ _ _ _ _ _ _ _ _ _ _ ev w7 h7
      obtain ⟨kk, S', hei, hkk, hns, hst', hSa', hT7⟩ := h7
      have H7 := Lib.hid (And.intro hei (And.intro hst' (And.intro hSa' (And.intro hT7 hns))))
      clear hei hns hst' hSa' hT7
      go_wp2_with fail
      refine (Tell_calls ev kk w7 (HW.out.2.2.2 _ _ H7.out.2.2.2.1) H7.out.1).mono ?_
      rintro e w8 ⟨rfl, hs8⟩
      have H8 := Lib.hid (H7.out.2.2.2.1.thenSame hs8)
      clear hs8
      rcases hkk with rfl | rfl
      · go_wp2_with fail
        go_roundw
        case rel => exact ⟨k + 1, S', by omega, by go_num, H7.out.2.1, H7.out.2.2.1.trans HR.out.2.1, H8.out⟩
        case measure => simp [intOf]; omega
      · go_wp2_with fail
        go_roundw
        case rel => exact ⟨k + 1, S', by omega, by go_num, H7.out.2.1, H7.out.2.2.1.trans HR.out.2.1, H8.out⟩
        case measure => simp [intOf]; omega
    · obtain rfl : k = ps.length := by omega
      have c3 : wr.cell? ⟨U.blk, 1, none⟩ = some (.pointer (some ⟨S.a, 0, none⟩)) := by
        have := cell_at HR.out.2.2.sat.headIs 1 (v := ptrO U.a) rfl
        rw [HUS.out] at this; exact this
      have HS2 := Lib.hid (Stored_open S.a S.X wr (HR.out.2.2.sat.memIs (by simp [arF])) HR.out.1.closed)
      go_wp2_with fail
      refine HS2.out.mono ?_
      rintro e w9 ⟨rfl, hs9⟩
      have hT9 := HR.out.2.2.thenSame hs9
      have H9 := Lib.hid hT9
      have c4 : w9.cell? ⟨U.blk, 1, none⟩ = some (.pointer (some ⟨S.a, 0, none⟩)) := by
        have := cell_at hT9.sat.headIs 1 (v := ptrO U.a) rfl
        rw [HUS.out] at this; exact this
      have hbl := lt_of_heap hT9.sat.headIs
      clear hs9 hT9
      have esc : S.X.sc = S1.X.sc := HR.out.1.sc
      have esb : S.X.sb = S1.X.sb := HR.out.1.sb
      rw [esc, esb]
      clear esc esb
      go_wp2_with fail
      obtain ⟨B13, hB13⟩ : ∃ B13, B13 = w9.heap.size := ⟨_, rfl⟩
      have hT10 : Turns [] ((U.blk, Is (worldO U)) :: (arF S ++ ((B13, Is (.cells #[.int .i64 S1.X.sc, .int .i64 S1.X.sb] 74 (0, 0))) :: (B9, Is sO) :: refF R))) w (w9.alloc (.cells #[.int .i64 S1.X.sc, .int .i64 S1.X.sb] 74)) := by
        rw [hB13]
        exact (H9.out.allocIs _).to (perm_of_cnt fun _ => by simp only [cnt_cons, cnt_append, cnt_nil] <;> omega)
      rw [← hB13]
      generalize w9.alloc (.cells #[.int .i64 S1.X.sc, .int .i64 S1.X.sb] 74) = w10 at hT10 ⊢
      have H10 := Lib.hid hT10
      clear hT10 hB13
      have hfind : Found S firstP 1 V := ⟨HR.out.1.closed, firstP_path, by
        obtain ⟨r, hr⟩ := HR.out.1.vers
        rw [hr]; unfold findV
        rw [if_pos (.inl (by rw [HR.out.1.num]; rfl))]⟩
      have hcont : contV S V = D := contV_of HR.out.1.ok HR.out.1.nch HR.out.1.vk
      have HG := Lib.hid (And.intro hfind hcont)
      clear hfind hcont
      refine (Get_calls S firstP 1 (5000 + 2 * ps.length) w10 H10.out.sat.tail.left HR.out.1.ok HR.out.1.b (by omega) (by simp [firstP])).mono ?_
      intro e w11 hp
      obtain ⟨v, sp, rfl, hbo, hT⟩ : ∃ v sp, e = .returned (.tuple #[v, .nilIface]) ∧ bOk v D ∧ Turns (arF S) (bRow v D ++ arF { S with A := { S.A with spare := sp } }) w10 w11 := by
        rcases hp with ⟨k, hk, _, _⟩ | ⟨V', v, sp, hf, rfl, hbo, _, hT⟩
        · exfalso
          rcases hk with ⟨h1, _⟩ | ⟨_, h1, _⟩ | ⟨_, _, h1, _⟩
          · rw [HR.out.1.closed] at h1; cases h1
          · rw [firstP_path] at h1; cases h1
          · rw [HG.out.1.2.2] at h1; cases h1
        · have he : V' = V := by have := hf.2.2; rw [HG.out.1.2.2] at this; exact (Option.some.inj this).symm
          subst he
          rw [HG.out.2] at hbo hT
          exact ⟨v, sp, rfl, hbo, hT⟩
      have hT11 := (H10.out.to (H := arF S ++ ((U.blk, Is (worldO U)) :: ((B13, Is (.cells #[.int .i64 S1.X.sc, .int .i64 S1.X.sb] 74 (0, 0))) :: (B9, Is sO) :: refF R))) (perm_of_cnt fun _ => by simp only [cnt_cons, cnt_append, cnt_nil] <;> omega)).step (List.Perm.refl _) hT
      obtain ⟨va, vc, rfl, -, -, hvc, -⟩ := own_cells' (bOwns hT11.sat.left.left hbo)
      have HSm := Lib.hid (same_calls va sl vc cap D D w11 hvc (HW.out.2.1 _ _ hT11) hDm hDm)
      have H11 := Lib.hid (And.intro hT11 hbo)
      clear hp hbo hT hT11 hvc
      go_wp2_with fail
      refine HSm.out.mono ?_
      rintro e w12 ⟨rfl, hs12⟩
      rw [decide_eq_true trivial]
      have hT12 := H11.out.1.thenSame hs12.same
      have hb9 := hT12.sat.memIs (b := B9) (o := sO) (by simp)
      rw [H4.out.2] at hb9
      have hb13 := hT12.sat.memIs (b := B13) (o := .cells #[.int .i64 S1.X.sc, .int .i64 S1.X.sb] 74 (0, 0)) (by simp)
      have x0 : w12.cell? ⟨B9, 0, none⟩ = some (.int .i64 S1.X.sc) := cell_at hb9 0 rfl
      have x1 : w12.cell? ⟨B9, 1, none⟩ = some (.int .i64 S1.X.sb) := cell_at hb9 1 rfl
      have y0 : w12.cell? ⟨B13, 0, none⟩ = some (.int .i64 S1.X.sc) := cell_at hb13 0 rfl
      have y1 : w12.cell? ⟨B13, 1, none⟩ = some (.int .i64 S1.X.sb) := cell_at hb13 1 rfl
      have H12 := Lib.hid hT12
      clear hs12 hT12 hb9 hb13
      go_wp2_with fail
      refine (Tell_calls .nilIface 0 w12 (HW.out.2.2.2 _ _ H12.out) (.inl ⟨rfl, rfl⟩)).mono ?_
      rintro e w13 ⟨rfl, hs13⟩
      have H13 := Lib.hid (H12.out.thenSame hs13)
      clear hs13
      go_wp2_with fail
      refine (Tell_calls .nilIface 0 w13 (HW.out.2.2.2 _ _ H13.out) (.inl ⟨rfl, rfl⟩)).mono ?_
      rintro e w14 ⟨rfl, hs14⟩
      have H14 := Lib.hid (H13.out.thenSame hs14)
      clear hs14
      go_wp2_with fail
      refine bodyPost_ret (results_tmp rfl _ _ _) rfl ⟨rfl, H14.out.news⟩
end Go.Proofs.YtdhobpbngkainaaGreatDoor
/-
  Ours. A []byte that came in, read as a list of bytes.
-/
namespace Go.Proofs.YtdhobpbngkainaaGreatDoor
open Go.ChangeShapes Go.WideShapes Go.ChangeAt Go.RowKit

/-- WHAT THE WALK IS TOLD OF A SLICE OF INTEGERS THAT CAME IN (as in the kit's shell for a []byte). -/
def IsRow (k : IntKind) (w : World) (a : Option Addr) (len cap : Nat) (zs : List Int) : Prop :=
  (a = none ∧ len = 0 ∧ cap = 0 ∧ zs = []) ∨
  ∃ x, a = some x ∧ len ≤ cap ∧ cap ≤ maxLen ∧ zs.length = cap ∧ (∀ i, i < zs.length → w.cell? (x.add i) = some (.int k (zs.getD i 0))) ∧ ∀ n ∈ zs, (Lit.int k n).wf = true

theorem wf_u8 {n : Int} (h : (Lit.int .u8 n).wf = true) : 0 ≤ n ∧ n ≤ 255 := by
  have := bounds_u8 h; omega

theorem IsRow.bytes {w : World} {a : Option Addr} {len cap : Nat} {zs : List Int} (h : IsRow .u8 w a len cap zs) :
    ∃ l : List UInt8, l.length = len ∧ CellsAt w a (l.map enc8) ∧ len ≤ cap ∧ cap ≤ maxLen := by
  rcases h with ⟨rfl, rfl, rfl, rfl⟩ | ⟨x, rfl, hl, hm, hz, hcell, hwf⟩
  · exact ⟨[], rfl, fun hp => by simp at hp, by omega, by unfold maxLen; omega⟩
  · refine ⟨(zs.take len).map fun z => UInt8.ofNat z.toNat, by simp; omega, fun hp => ?_, hl, hm⟩
    have hlen : 0 < len := by simp at hp; omega
    obtain ⟨b, off, spot⟩ := x
    have h0 := hcell 0 (by omega)
    have hspot : spot = none := by simpa [Addr.add] using World.cell?_spot h0
    subst hspot
    refine ⟨b, off, rfl, fun j hj => ?_⟩
    have hj' : j < zs.length := by simp at hj; omega
    have hc := hcell j hj'
    rw [Addr.add_lit] at hc
    rw [hc]
    have hb := wf_u8 (hwf _ (List.getElem_mem hj'))
    simp only [List.getElem_map, List.getElem_take, enc8, Option.some.injEq, Value.int.injEq, true_and]
    rw [List.getD_eq_getElem?_getD, List.getElem?_eq_getElem hj']
    have e : (UInt8.ofNat zs[j].toNat).toNat = zs[j].toNat := by
      rw [UInt8.toNat_ofNat']; omega
    rw [e]
    simp; omega
end Go.Proofs.YtdhobpbngkainaaGreatDoor
