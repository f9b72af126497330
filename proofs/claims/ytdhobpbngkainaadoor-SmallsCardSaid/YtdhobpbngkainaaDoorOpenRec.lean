/-
  Ours. record.Open answers what stands at the front of bytes.
-/
import Derived.Test.YtdhobpbngkainaaDoorReader
import Derived.Deep.RegionHeld3
import Derived.Deep.RegionWith
namespace Go.Proofs.YtdhobpbngkainaaDoor
open Go.RowKit

def OpenNone (w : World) (e : Ending) (w' : World) : Prop := e = .returned (.tuple #[.int .u8 0, .slice none 0 0, .int .i64 0]) ∧ Same w w'
def OpenSome (a : Option Addr) (k : UInt8) (body : Bs) (n : Nat) (w : World) (e : Ending) (w' : World) : Prop :=
  ∃ a', e = .returned (.tuple #[.int .u8 k.toNat, .slice a' body.length body.length, .int .i64 n]) ∧ CellsAt w' a' (body.map enc8) ∧ (∀ x, a' = some x → ∃ y, a = some y ∧ x.block = y.block) ∧ Same w w'
def OpenPost (a : Option Addr) (b : Bs) (w : World) (e : Ending) (w' : World) : Prop :=
  match openR b with
  | none => OpenNone w e w'
  | some (k, body, n) => OpenSome a k body n w e w'

theorem Size_quiet (n : Int) (h0 : 0 ≤ n) (h1 : n ≤ 1099511627776) (w : World) (m : Nat) : Calls Tryd.prog 30 #[.int .i64 n] (w.drewN m) (fun e w'' => e = .returned (.int .i64 (n + 9)) ∧ ∃ m', w'' = w.drewN m') :=
  Calls.quiet_of_same ((Size_calls n h0 h1 _).mono fun e w' ⟨he, hw⟩ => ⟨he, hw.symm⟩)
set_option maxRecDepth 100000 in
theorem bits_not8 (x : Nat) (h : x < 256) : bits BinOp.xor IntKind.u8 IntKind.u8.max (x : Int) = ((255 - x : Nat) : Int) := by
  have : ∀ y : Fin 256, bits BinOp.xor IntKind.u8 IntKind.u8.max ((y.1 : Nat) : Int) = ((255 - y.1 : Nat) : Int) := by decide +kernel
  exact this ⟨x, h⟩

theorem bits_not8q (x y : Nat) (h : x < 256) (hy : 255 - x = y) : bits BinOp.xor IntKind.u8 (if IntKind.u8.signed = true then -1 else IntKind.u8.max) (x : Int) = (y : Int) := by
  subst hy; exact bits_not8 x h
set_option maxHeartbeats 2000000 in
set_option maxRecDepth 100000 in
theorem open_short (a : Option Addr) (cap : Nat) (b : Bs) (w : World) (hb : b.length < 9) : Calls Tryd.prog 17 #[.slice a b.length cap] w (OpenNone w) := by
  have hg : decide ((b.length : Int) < 9) = true := by simp; omega
  go_enter Tryd.func17, Tryd.ntmps17
  go_wp2
  go_ret3
  exact ⟨rfl, Mods.refl _ _⟩
set_option maxHeartbeats 2000000 in
set_option maxRecDepth 100000 in
theorem open_zero (g off : Nat) (cap : Nat) (b : Bs) (w : World) (hb : 9 ≤ b.length) (hl : b.length ≤ 1099511627776) (h0 : w.cell? ⟨g, off + 0, none⟩ = some (.int .u8 0)) : Calls Tryd.prog 17 #[.slice (some ⟨g, off, none⟩) b.length cap] w (OpenNone w) := by
  have hg : decide ((b.length : Int) < 9) = false := by simp; omega
  have hp : (0 : Int) < b.length := by omega
  have h0' : w.cell? ⟨g, off, none⟩ = some (.int .u8 0) := h0
  go_enter Tryd.func17, Tryd.ntmps17
  go_wp2
  go_ret3
  exact ⟨rfl, Mods.refl _ _⟩
theorem open_w1 {w : World} {g off cap r m n : Nat} {b : Bs} (hc : CellsAt w (some ⟨g, off, none⟩) (b.map enc8)) (hr : r ≤ b.length) (hcap : b.length ≤ cap) (hg : g < w.heap.size) (hn : n = b.length - r) :
    Rd ((w.drewN m).alloc (.cells #[.slice (some ⟨g, off + r, none⟩) n (cap - r), .bool false] 106)) w.heap.size (b.drop r) false ∧ Same w ((w.drewN m).alloc (.cells #[.slice (some ⟨g, off + r, none⟩) n (cap - r), .bool false] 106)) := by
  have hs : Same w ((w.drewN m).alloc (.cells #[.slice (some ⟨g, off + r, none⟩) n (cap - r), .bool false] 106)) := ((Mods.refl _ w).drewN m).alloc _
  have hl : (b.drop r).length = n := by simp; omega
  refine ⟨⟨_, cap - r, ?_, by omega, (cells_drop hc r hr).keep hs (fun _ _ _ => id), fun x hx => ?_⟩, hs⟩
  · unfold RdAt; rw [hl]; exact alloc_new (w.drewN m) _
  · simp at hx; subst hx; show g ≠ _; omega
set_option maxHeartbeats 2000000 in
set_option maxRecDepth 100000 in
theorem open_len (g off : Nat) (cap : Nat) (b : Bs) (w : World) (b0 b1 b2 b3 b4 : Nat) (hb : 9 ≤ b.length) (hl : b.length ≤ 1099511627776) (h0 : w.cell? ⟨g, off, none⟩ = some (.int .u8 b0)) (hb0 : b0 ≠ 0)
    (h1 : w.cell? ⟨g, off + 1, none⟩ = some (.int .u8 b1)) (h2 : w.cell? ⟨g, off + 2, none⟩ = some (.int .u8 b2)) (h3 : w.cell? ⟨g, off + 3, none⟩ = some (.int .u8 b3)) (h4 : w.cell? ⟨g, off + 4, none⟩ = some (.int .u8 b4))
    (l1 : b1 < 256) (l2 : b2 < 256) (l3 : b3 < 256) (l4 : b4 < 256) (hne : b1 * 256 + b2 ≠ (255 - b3) * 256 + (255 - b4)) : Calls Tryd.prog 17 #[.slice (some ⟨g, off, none⟩) b.length cap] w (OpenNone w) := by
  have hg : decide ((b.length : Int) < 9) = false := by simp; omega
  have hp : (0 : Int) < b.length := by omega
  have hp1 : (1 : Int) < b.length := by omega
  have hp2 : (2 : Int) < b.length := by omega
  have hp3 : (3 : Int) < b.length := by omega
  have hp4 : (4 : Int) < b.length := by omega
  have hz : ((b0 : Int) == 0) = false := by simp; omega
  have o1 := bits_or64 b1 b2 (by omega) l2
  obtain ⟨c3, hc3⟩ : ∃ c : Nat, 255 - b3 = c := ⟨_, rfl⟩
  obtain ⟨c4, hc4⟩ : ∃ c : Nat, 255 - b4 = c := ⟨_, rfl⟩
  have n3 := bits_not8q b3 c3 l3 hc3
  have n4 := bits_not8q b4 c4 l4 hc4
  have l3' : c3 < 256 := by omega
  have l4' : c4 < 256 := by omega
  rw [hc3, hc4] at hne
  clear hc3 hc4
  have o2 := bits_or64 c3 c4 (by omega) (by omega)
  obtain ⟨mm, hmm⟩ : ∃ mm : Nat, c3 * 256 + c4 = mm := ⟨_, rfl⟩
  rw [hmm] at o2 hne
  obtain ⟨nn, hnn⟩ : ∃ nn : Nat, b1 * 256 + b2 = nn := ⟨_, rfl⟩
  rw [hnn] at o1 hne
  have hq : ((nn : Int) != (mm : Int)) = true := by simp only [bne_iff_ne]; omega
  have HN := Lib.hid hnn
  clear hmm hnn hne
  go_enter Tryd.func17, Tryd.ntmps17
  go_wp2_with fail
  go_quiet (fail)
  go_wp2_with fail
  have k3 : (w.drewN nq).cell? ⟨g, off + 3, none⟩ = some (.int .u8 b3) := h3
  have k4 : (w.drewN nq).cell? ⟨g, off + 4, none⟩ = some (.int .u8 b4) := h4
  clear o1 h0 h1 h2 hz hp hp1 hp2
  go_quiet (fail)
  go_wp2_with fail
  go_ret3
  exact ⟨rfl, ((Mods.refl _ w).drewN _).drewN _⟩
set_option maxHeartbeats 2000000 in
set_option maxRecDepth 100000 in
theorem open_size (g off : Nat) (cap : Nat) (b : Bs) (w : World) (b0 b1 b2 b3 b4 : Nat) (hb : 9 ≤ b.length) (hl : b.length ≤ 1099511627776) (h0 : w.cell? ⟨g, off, none⟩ = some (.int .u8 b0)) (hb0 : b0 ≠ 0)
    (h1 : w.cell? ⟨g, off + 1, none⟩ = some (.int .u8 b1)) (h2 : w.cell? ⟨g, off + 2, none⟩ = some (.int .u8 b2)) (h3 : w.cell? ⟨g, off + 3, none⟩ = some (.int .u8 b3)) (h4 : w.cell? ⟨g, off + 4, none⟩ = some (.int .u8 b4))
    (l1 : b1 < 256) (l2 : b2 < 256) (l3 : b3 < 256) (l4 : b4 < 256) (hne : b1 * 256 + b2 = (255 - b3) * 256 + (255 - b4)) (hsz : b.length < b1 * 256 + b2 + 9) : Calls Tryd.prog 17 #[.slice (some ⟨g, off, none⟩) b.length cap] w (OpenNone w) := by
  have hg : decide ((b.length : Int) < 9) = false := by simp; omega
  have hp : (0 : Int) < b.length := by omega
  have hp1 : (1 : Int) < b.length := by omega
  have hp2 : (2 : Int) < b.length := by omega
  have hp3 : (3 : Int) < b.length := by omega
  have hp4 : (4 : Int) < b.length := by omega
  have hz : ((b0 : Int) == 0) = false := by simp; omega
  have o1 := bits_or64 b1 b2 (by omega) l2
  obtain ⟨c3, hc3⟩ : ∃ c : Nat, 255 - b3 = c := ⟨_, rfl⟩
  obtain ⟨c4, hc4⟩ : ∃ c : Nat, 255 - b4 = c := ⟨_, rfl⟩
  have n3 := bits_not8q b3 c3 l3 hc3
  have n4 := bits_not8q b4 c4 l4 hc4
  have l3' : c3 < 256 := by omega
  have l4' : c4 < 256 := by omega
  rw [hc3, hc4] at hne
  clear hc3 hc4
  have o2 := bits_or64 c3 c4 (by omega) (by omega)
  obtain ⟨mm, hmm⟩ : ∃ mm : Nat, c3 * 256 + c4 = mm := ⟨_, rfl⟩
  rw [hmm] at o2 hne
  obtain ⟨nn, hnn⟩ : ∃ nn : Nat, b1 * 256 + b2 = nn := ⟨_, rfl⟩
  rw [hnn] at o1 hne
  rw [hnn] at hsz
  subst hne
  have hq : ((nn : Int) != (nn : Int)) = false := by simp
  have hlt : decide ((b.length : Int) < (nn : Int) + 9) = true := by simp; omega
  have hnn16 : nn < 65536 := by omega
  have HN := Lib.hid hnn
  clear hmm hnn
  go_enter Tryd.func17, Tryd.ntmps17
  go_wp2_with fail
  go_quiet (fail)
  go_wp2_with fail
  have k3 : (w.drewN nq).cell? ⟨g, off + 3, none⟩ = some (.int .u8 b3) := h3
  have k4 : (w.drewN nq).cell? ⟨g, off + 4, none⟩ = some (.int .u8 b4) := h4
  clear o1 h0 h1 h2 hz hp hp1 hp2
  go_quiet ((go_at_call 30; exact (Size_calls _ (by omega) (by omega) _).mono (fun e w' ⟨he, hw⟩ => ⟨he, _, hw.symm⟩)))
  go_wp2_with fail
  go_ret3
  exact ⟨rfl, ((Mods.refl _ w).drewN _).drewN _⟩
set_option maxHeartbeats 2000000 in
set_option maxRecDepth 100000 in
theorem open_sum (g off : Nat) (cap : Nat) (b : Bs) (w : World) (b0 b1 b2 b3 b4 : Nat) (hb : 9 ≤ b.length) (hl : b.length ≤ 1099511627776) (h0 : w.cell? ⟨g, off, none⟩ = some (.int .u8 b0)) (hb0 : b0 ≠ 0)
    (h1 : w.cell? ⟨g, off + 1, none⟩ = some (.int .u8 b1)) (h2 : w.cell? ⟨g, off + 2, none⟩ = some (.int .u8 b2)) (h3 : w.cell? ⟨g, off + 3, none⟩ = some (.int .u8 b3)) (h4 : w.cell? ⟨g, off + 4, none⟩ = some (.int .u8 b4))
    (l1 : b1 < 256) (l2 : b2 < 256) (l3 : b3 < 256) (l4 : b4 < 256) (hne : b1 * 256 + b2 = (255 - b3) * 256 + (255 - b4)) (hsz : b1 * 256 + b2 + 9 ≤ b.length) (hcap : b.length ≤ cap) (k0 : UInt8) (hk0 : k0.toNat = b0) (hc : CellsAt w (some ⟨g, off, none⟩) (b.map enc8)) (body : Bs) (hbody : body = (b.drop 5).take (b1 * 256 + b2)) (hsum : beNat ((b.drop (5 + (b1 * 256 + b2))).take 4) ≠ sumOf k0 body) : Calls Tryd.prog 17 #[.slice (some ⟨g, off, none⟩) b.length cap] w (OpenNone w) := by
  have hg : decide ((b.length : Int) < 9) = false := by simp; omega
  have hp : (0 : Int) < b.length := by omega
  have hp1 : (1 : Int) < b.length := by omega
  have hp2 : (2 : Int) < b.length := by omega
  have hp3 : (3 : Int) < b.length := by omega
  have hp4 : (4 : Int) < b.length := by omega
  have hz : ((b0 : Int) == 0) = false := by simp; omega
  have o1 := bits_or64 b1 b2 (by omega) l2
  obtain ⟨c3, hc3⟩ : ∃ c : Nat, 255 - b3 = c := ⟨_, rfl⟩
  obtain ⟨c4, hc4⟩ : ∃ c : Nat, 255 - b4 = c := ⟨_, rfl⟩
  have n3 := bits_not8q b3 c3 l3 hc3
  have n4 := bits_not8q b4 c4 l4 hc4
  have l3' : c3 < 256 := by omega
  have l4' : c4 < 256 := by omega
  rw [hc3, hc4] at hne
  clear hc3 hc4
  have o2 := bits_or64 c3 c4 (by omega) (by omega)
  obtain ⟨mm, hmm⟩ : ∃ mm : Nat, c3 * 256 + c4 = mm := ⟨_, rfl⟩
  rw [hmm] at o2 hne
  obtain ⟨nn, hnn⟩ : ∃ nn : Nat, b1 * 256 + b2 = nn := ⟨_, rfl⟩
  rw [hnn] at o1 hne
  rw [hnn] at hsz
  subst hne
  have hq : ((nn : Int) != (nn : Int)) = false := by simp
  have hlt : decide ((b.length : Int) < (nn : Int) + 9) = false := by simp; omega
  have hnn16 : nn < 65536 := by omega
  rw [hnn] at hbody hsum
  have hgl : g < w.heap.size := World.block_lt_of_cell? w _ h0
  have hbl : body.length = nn := by rw [hbody]; simp; omega
  have hrl : (b.drop (5 + nn)).length = b.length - (5 + nn) := by simp
  have hcb := cells_take (cells_drop hc 5 (by omega)) nn (by simp; omega)
  have hcr := cells_drop hc (5 + nn) (by omega)
  rw [← hbody] at hcb
  have hr4 : rdNum (b.drop (5 + nn)) false 4 = beNat ((b.drop (5 + nn)).take 4) := by unfold rdNum; rw [if_neg (by simp; omega)]
  have hr4l : beNat ((b.drop (5 + nn)).take 4) < 4294967296 := by
    have := beNat_lt ((b.drop (5 + nn)).take 4)
    have h2 : (256 : Nat) ^ ((b.drop (5 + nn)).take 4).length ≤ 256 ^ 4 := Nat.pow_le_pow_right (by omega) (by simp; omega)
    omega
  have hsl := sumOf_lt k0 body
  have HB := Lib.hid (And.intro hcb (And.intro hcr (And.intro hr4 (And.intro hbl (And.intro hc (And.intro hrl hk0))))))
  clear hcb hcr hr4 hbl hc hbody hrl hk0
  have HN := Lib.hid hnn
  clear hmm hnn
  go_enter Tryd.func17, Tryd.ntmps17
  go_wp2_with fail
  go_quiet (fail)
  go_wp2_with fail
  have k3 : (w.drewN nq).cell? ⟨g, off + 3, none⟩ = some (.int .u8 b3) := h3
  have k4 : (w.drewN nq).cell? ⟨g, off + 4, none⟩ = some (.int .u8 b4) := h4
  clear o1 h1 h2 hz hp1 hp2
  obtain ⟨m1, rfl⟩ : ∃ m, m = nq := ⟨_, rfl⟩
  go_quiet ((go_at_call 30; exact (Size_calls _ (by omega) (by omega) _).mono (fun e w' ⟨he, hw⟩ => ⟨he, _, hw.symm⟩)))
  obtain ⟨m2, rfl⟩ : ∃ m, m = nq := ⟨_, rfl⟩
  rcases Nat.eq_zero_or_pos nn with hn0 | hn0
  · subst hn0
    simp only [Nat.add_zero] at *
    go_wp2_with fail
    obtain ⟨hrd, hs1⟩ := open_w1 (m := m1 + m2) HB.out.2.2.2.2.1 (r := 5) (by omega) hcap hgl rfl
    generalize ((w.drewN (m1 + m2)).alloc (.cells #[.slice (some ⟨g, off + 5, none⟩) (b.length - 5) (cap - 5), .bool false] 106)) = W1 at hrd hs1 ⊢
    generalize hrb : w.heap.size = rb at hrd hgl ⊢
    have hk1 : W1.cell? ⟨g, off, none⟩ = some (.int .u8 b0) := by rw [World.cell?_of_block (hs1.block g (by omega) id)]; exact h0
    have hcb1 : CellsAt W1 (some ⟨g, off, none⟩) (body.map enc8) := (by rw [List.eq_nil_of_length_eq_zero HB.out.2.2.2.1]; exact cells_empty _ _)
    have HR := Lib.hid (And.intro hrd (And.intro hs1 (And.intro hrb hcb1)))
    clear hrd hs1 hrb hcb1
    have hw4 : IntKind.u32.wrap ((beNat ((b.drop 5).take 4) : Nat) : Int) = ((beNat ((b.drop 5).take 4) : Nat) : Int) := by rw [IntKind.wrap_u32]; omega
    have hne : (((beNat ((b.drop 5).take 4) : Nat) : Int) != ((sumOf k0 body : Nat) : Int)) = true := by simp only [bne_iff_ne]; omega
    generalize beNat ((b.drop 5).take 4) = x at *
    have hp0 : 0 < b.length := by omega
    have HSum : Hid (∀ W : World, CellsAt W (some ⟨g, off, none⟩) (body.map enc8) → Calls Tryd.prog 32 #[.int .u8 b0, .slice (some ⟨g, off, none⟩) 0 0] W (SumPost k0 body W)) := Lib.hid (fun W h => by
      have := Sum_calls (some ⟨g, off, none⟩) 0 k0 body W h (by have := HB.out.2.2.2.1; omega)
      rwa [HB.out.2.2.2.1, HB.out.2.2.2.2.2.2] at this)
    have HNum := Lib.hid (fun (W : World) (h : Rd W rb (b.drop 5) false) => (show Calls Tryd.prog 31 #[.pointer (some ⟨rb, 0, none⟩), .int .i64 4] W (NumberPost rb (b.drop 5) false 4 W) from rnumber_calls rb (b.drop 5) false 4 W h (by simp; omega) (by omega)))
    go_region_held3 (fun w' => w'.cell? ⟨g, off, none⟩ = some (.int .u8 b0)) (first | exact hk1 | exact hk2 | exact hk3) (first | (go_at_call 31; refine (HNum.out _ (by exact HR.out.1)).mono ?_; rintro e w2 ⟨rfl, hr2, hM2, hz2⟩; rw [HB.out.2.2.1]; have hk2 : w2.cell? ⟨g, off, none⟩ = some (.int .u8 b0) := (World.cell?_of_block (hM2.block g (by have := HR.out.2.1.size; have := HR.out.2.2.1; show g < W1.heap.size; omega) (by omega))).trans hk1; have H2 := Lib.hid (And.intro hM2 hz2); clear hr2 hM2 hz2) | (go_at_call 32; refine (HSum.out _ (CellsAt.keep (w := W1.drew) (by exact HR.out.2.2.2) H2.out.1 (fun g' off' e => by simp at e; omega))).mono ?_; rintro e w3 ⟨rfl, hs3⟩; have hk3 : w3.cell? ⟨g, off, none⟩ = some (.int .u8 b0) := (World.cell?_of_block (hs3.block g (World.block_lt_of_cell? w2 _ hk2) id)).trans hk2; have H3 := Lib.hid hs3; clear hs3))
    go_wp2_with fail
    go_ret3
    exact ⟨rfl, (HR.out.2.1.trans' ((Mods.refl _ W1).drew.trans H2.out.1) (fun i hi => .inr (by have := HR.out.2.2.1; omega))).trans' H3.out (fun i hi => hi.elim)⟩
  · go_wp2_with fail
    obtain ⟨hrd, hs1⟩ := open_w1 (m := m1 + m2) HB.out.2.2.2.2.1 (r := 5 + nn) (by omega) hcap hgl rfl
    generalize ((w.drewN (m1 + m2)).alloc (.cells #[.slice (some ⟨g, off + (5 + nn), none⟩) (b.length - (5 + nn)) (cap - (5 + nn)), .bool false] 106)) = W1 at hrd hs1 ⊢
    generalize hrb : w.heap.size = rb at hrd hgl ⊢
    have hk1 : W1.cell? ⟨g, off, none⟩ = some (.int .u8 b0) := by rw [World.cell?_of_block (hs1.block g (by omega) id)]; exact h0
    have hcb1 : CellsAt W1 (some ⟨g, off + 5, none⟩) (body.map enc8) := HB.out.1.keep hs1 (fun _ _ _ => id)
    have HR := Lib.hid (And.intro hrd (And.intro hs1 (And.intro hrb hcb1)))
    clear hrd hs1 hrb hcb1
    have hw4 : IntKind.u32.wrap ((beNat ((b.drop (5 + nn)).take 4) : Nat) : Int) = ((beNat ((b.drop (5 + nn)).take 4) : Nat) : Int) := by rw [IntKind.wrap_u32]; omega
    have hne : (((beNat ((b.drop (5 + nn)).take 4) : Nat) : Int) != ((sumOf k0 body : Nat) : Int)) = true := by simp only [bne_iff_ne]; omega
    generalize beNat ((b.drop (5 + nn)).take 4) = x at *
    have hp0 : 0 < b.length := by omega
    have HSum : Hid (∀ W : World, CellsAt W (some ⟨g, off + 5, none⟩) (body.map enc8) → Calls Tryd.prog 32 #[.int .u8 b0, .slice (some ⟨g, off + 5, none⟩) nn nn] W (SumPost k0 body W)) := Lib.hid (fun W h => by
      have := Sum_calls (some ⟨g, off + 5, none⟩) nn k0 body W h (by have := HB.out.2.2.2.1; omega)
      rwa [HB.out.2.2.2.1, HB.out.2.2.2.2.2.2] at this)
    have HNum := Lib.hid (fun (W : World) (h : Rd W rb (b.drop (5 + nn)) false) => (show Calls Tryd.prog 31 #[.pointer (some ⟨rb, 0, none⟩), .int .i64 4] W (NumberPost rb (b.drop (5 + nn)) false 4 W) from rnumber_calls rb (b.drop (5 + nn)) false 4 W h (by simp; omega) (by omega)))
    go_region_held3 (fun w' => w'.cell? ⟨g, off, none⟩ = some (.int .u8 b0)) (first | exact hk1 | exact hk2 | exact hk3) (first | (go_at_call 31; refine (HNum.out _ (by exact HR.out.1)).mono ?_; rintro e w2 ⟨rfl, hr2, hM2, hz2⟩; rw [HB.out.2.2.1]; have hk2 : w2.cell? ⟨g, off, none⟩ = some (.int .u8 b0) := (World.cell?_of_block (hM2.block g (by have := HR.out.2.1.size; have := HR.out.2.2.1; show g < W1.heap.size; omega) (by omega))).trans hk1; have H2 := Lib.hid (And.intro hM2 hz2); clear hr2 hM2 hz2) | (go_at_call 32; refine (HSum.out _ (CellsAt.keep (w := W1.drew) (by exact HR.out.2.2.2) H2.out.1 (fun g' off' e => by simp at e; omega))).mono ?_; rintro e w3 ⟨rfl, hs3⟩; have hk3 : w3.cell? ⟨g, off, none⟩ = some (.int .u8 b0) := (World.cell?_of_block (hs3.block g (World.block_lt_of_cell? w2 _ hk2) id)).trans hk2; have H3 := Lib.hid hs3; clear hs3))
    go_wp2_with fail
    go_ret3
    exact ⟨rfl, (HR.out.2.1.trans' ((Mods.refl _ W1).drew.trans H2.out.1) (fun i hi => .inr (by have := HR.out.2.2.1; omega))).trans' H3.out (fun i hi => hi.elim)⟩
set_option maxHeartbeats 2000000 in
set_option maxRecDepth 100000 in
theorem open_ok (g off : Nat) (cap : Nat) (b : Bs) (w : World) (b0 b1 b2 b3 b4 : Nat) (hb : 9 ≤ b.length) (hl : b.length ≤ 1099511627776) (h0 : w.cell? ⟨g, off, none⟩ = some (.int .u8 b0)) (hb0 : b0 ≠ 0)
    (h1 : w.cell? ⟨g, off + 1, none⟩ = some (.int .u8 b1)) (h2 : w.cell? ⟨g, off + 2, none⟩ = some (.int .u8 b2)) (h3 : w.cell? ⟨g, off + 3, none⟩ = some (.int .u8 b3)) (h4 : w.cell? ⟨g, off + 4, none⟩ = some (.int .u8 b4))
    (l1 : b1 < 256) (l2 : b2 < 256) (l3 : b3 < 256) (l4 : b4 < 256) (hne : b1 * 256 + b2 = (255 - b3) * 256 + (255 - b4)) (hsz : b1 * 256 + b2 + 9 ≤ b.length) (hcap : b.length ≤ cap) (k0 : UInt8) (hk0 : k0.toNat = b0) (hc : CellsAt w (some ⟨g, off, none⟩) (b.map enc8)) (body : Bs) (hbody : body = (b.drop 5).take (b1 * 256 + b2)) (hsum : beNat ((b.drop (5 + (b1 * 256 + b2))).take 4) = sumOf k0 body) : Calls Tryd.prog 17 #[.slice (some ⟨g, off, none⟩) b.length cap] w (OpenSome (some ⟨g, off, none⟩) k0 body (b1 * 256 + b2 + 9) w) := by
  have hg : decide ((b.length : Int) < 9) = false := by simp; omega
  have hp : (0 : Int) < b.length := by omega
  have hp1 : (1 : Int) < b.length := by omega
  have hp2 : (2 : Int) < b.length := by omega
  have hp3 : (3 : Int) < b.length := by omega
  have hp4 : (4 : Int) < b.length := by omega
  have hz : ((b0 : Int) == 0) = false := by simp; omega
  have o1 := bits_or64 b1 b2 (by omega) l2
  obtain ⟨c3, hc3⟩ : ∃ c : Nat, 255 - b3 = c := ⟨_, rfl⟩
  obtain ⟨c4, hc4⟩ : ∃ c : Nat, 255 - b4 = c := ⟨_, rfl⟩
  have n3 := bits_not8q b3 c3 l3 hc3
  have n4 := bits_not8q b4 c4 l4 hc4
  have l3' : c3 < 256 := by omega
  have l4' : c4 < 256 := by omega
  rw [hc3, hc4] at hne
  clear hc3 hc4
  have o2 := bits_or64 c3 c4 (by omega) (by omega)
  obtain ⟨mm, hmm⟩ : ∃ mm : Nat, c3 * 256 + c4 = mm := ⟨_, rfl⟩
  rw [hmm] at o2 hne
  obtain ⟨nn, hnn⟩ : ∃ nn : Nat, b1 * 256 + b2 = nn := ⟨_, rfl⟩
  rw [hnn] at o1 hne
  rw [hnn] at hsz
  subst hne
  have hq : ((nn : Int) != (nn : Int)) = false := by simp
  have hlt : decide ((b.length : Int) < (nn : Int) + 9) = false := by simp; omega
  have hnn16 : nn < 65536 := by omega
  rw [hnn] at hbody hsum
  have hgl : g < w.heap.size := World.block_lt_of_cell? w _ h0
  have hbl : body.length = nn := by rw [hbody]; simp; omega
  have hrl : (b.drop (5 + nn)).length = b.length - (5 + nn) := by simp
  have hcb := cells_take (cells_drop hc 5 (by omega)) nn (by simp; omega)
  have hcr := cells_drop hc (5 + nn) (by omega)
  rw [← hbody] at hcb
  have hr4 : rdNum (b.drop (5 + nn)) false 4 = beNat ((b.drop (5 + nn)).take 4) := by unfold rdNum; rw [if_neg (by simp; omega)]
  have hr4l : beNat ((b.drop (5 + nn)).take 4) < 4294967296 := by
    have := beNat_lt ((b.drop (5 + nn)).take 4)
    have h2 : (256 : Nat) ^ ((b.drop (5 + nn)).take 4).length ≤ 256 ^ 4 := Nat.pow_le_pow_right (by omega) (by simp; omega)
    omega
  have hsl := sumOf_lt k0 body
  have HB := Lib.hid (And.intro hcb (And.intro hcr (And.intro hr4 (And.intro hbl (And.intro hc (And.intro hrl hk0))))))
  clear hcb hcr hr4 hbl hc hbody hrl hk0
  have HN := Lib.hid hnn
  clear hmm hnn
  go_enter Tryd.func17, Tryd.ntmps17
  go_wp2_with fail
  go_quiet (fail)
  go_wp2_with fail
  have k3 : (w.drewN nq).cell? ⟨g, off + 3, none⟩ = some (.int .u8 b3) := h3
  have k4 : (w.drewN nq).cell? ⟨g, off + 4, none⟩ = some (.int .u8 b4) := h4
  clear o1 h1 h2 hz hp1 hp2
  obtain ⟨m1, rfl⟩ : ∃ m, m = nq := ⟨_, rfl⟩
  go_quiet ((go_at_call 30; exact (Size_calls _ (by omega) (by omega) _).mono (fun e w' ⟨he, hw⟩ => ⟨he, _, hw.symm⟩)))
  obtain ⟨m2, rfl⟩ : ∃ m, m = nq := ⟨_, rfl⟩
  rcases Nat.eq_zero_or_pos nn with hn0 | hn0
  · subst hn0
    simp only [Nat.add_zero] at *
    go_wp2_with fail
    obtain ⟨hrd, hs1⟩ := open_w1 (m := m1 + m2) HB.out.2.2.2.2.1 (r := 5) (by omega) hcap hgl rfl
    generalize ((w.drewN (m1 + m2)).alloc (.cells #[.slice (some ⟨g, off + 5, none⟩) (b.length - 5) (cap - 5), .bool false] 106)) = W1 at hrd hs1 ⊢
    generalize hrb : w.heap.size = rb at hrd hgl ⊢
    have hk1 : W1.cell? ⟨g, off, none⟩ = some (.int .u8 b0) := by rw [World.cell?_of_block (hs1.block g (by omega) id)]; exact h0
    have hcb1 : CellsAt W1 (some ⟨g, off, none⟩) (body.map enc8) := (by rw [List.eq_nil_of_length_eq_zero HB.out.2.2.2.1]; exact cells_empty _ _)
    have HR := Lib.hid (And.intro hrd (And.intro hs1 (And.intro hrb hcb1)))
    clear hrd hs1 hrb hcb1
    have hw4 : IntKind.u32.wrap ((beNat ((b.drop 5).take 4) : Nat) : Int) = ((beNat ((b.drop 5).take 4) : Nat) : Int) := by rw [IntKind.wrap_u32]; omega
    have hne : (((beNat ((b.drop 5).take 4) : Nat) : Int) != ((sumOf k0 body : Nat) : Int)) = false := by rw [hsum]; simp
    clear hsum
    generalize beNat ((b.drop 5).take 4) = x at *
    have hp0 : 0 < b.length := by omega
    have HSum : Hid (∀ W : World, CellsAt W (some ⟨g, off, none⟩) (body.map enc8) → Calls Tryd.prog 32 #[.int .u8 b0, .slice (some ⟨g, off, none⟩) 0 0] W (SumPost k0 body W)) := Lib.hid (fun W h => by
      have := Sum_calls (some ⟨g, off, none⟩) 0 k0 body W h (by have := HB.out.2.2.2.1; omega)
      rwa [HB.out.2.2.2.1, HB.out.2.2.2.2.2.2] at this)
    have HNum := Lib.hid (fun (W : World) (h : Rd W rb (b.drop 5) false) => (show Calls Tryd.prog 31 #[.pointer (some ⟨rb, 0, none⟩), .int .i64 4] W (NumberPost rb (b.drop 5) false 4 W) from rnumber_calls rb (b.drop 5) false 4 W h (by simp; omega) (by omega)))
    go_region_held3 (fun w' => w'.cell? ⟨g, off, none⟩ = some (.int .u8 b0)) (first | exact hk1 | exact hk2 | exact hk3) (first | (go_at_call 31; refine (HNum.out _ (by exact HR.out.1)).mono ?_; rintro e w2 ⟨rfl, hr2, hM2, hz2⟩; rw [HB.out.2.2.1]; have hk2 : w2.cell? ⟨g, off, none⟩ = some (.int .u8 b0) := (World.cell?_of_block (hM2.block g (by have := HR.out.2.1.size; have := HR.out.2.2.1; show g < W1.heap.size; omega) (by omega))).trans hk1; have H2 := Lib.hid (And.intro hM2 hz2); clear hr2 hM2 hz2) | (go_at_call 32; refine (HSum.out _ (CellsAt.keep (w := W1.drew) (by exact HR.out.2.2.2) H2.out.1 (fun g' off' e => by simp at e; omega))).mono ?_; rintro e w3 ⟨rfl, hs3⟩; have hk3 : w3.cell? ⟨g, off, none⟩ = some (.int .u8 b0) := (World.cell?_of_block (hs3.block g (World.block_lt_of_cell? w2 _ hk2) id)).trans hk2; have H3 := Lib.hid hs3; clear hs3))
    go_wp2_with fail
    have hsame : Same w w3 := (HR.out.2.1.trans' ((Mods.refl _ W1).drew.trans H2.out.1) (fun i hi => .inr (by have := HR.out.2.2.1; omega))).trans' H3.out (fun i hi => hi.elim)
    have hcb3 : CellsAt w3 (some ⟨g, off, none⟩) (body.map enc8) := by rw [List.eq_nil_of_length_eq_zero HB.out.2.2.2.1]; exact cells_empty _ _
    have HZ := Lib.hid (And.intro hsame hcb3)
    clear hsame hcb3 hk1 hk2
    go_quiet ((go_at_call 30; exact (Size_calls _ (by omega) (by omega) _).mono (fun e w' ⟨he, hw⟩ => ⟨he, _, hw.symm⟩)))
    go_wp2_with fail
    go_ret3
    refine ⟨some ⟨g, off, none⟩, ?_, HZ.out.2, fun x hx => ⟨_, rfl, by simp at hx; subst hx; rfl⟩, HZ.out.1.drewN _⟩
    rw [HB.out.2.2.2.1, HB.out.2.2.2.2.2.2, HN.out]
    first | rfl | (congr 3) | simp
  · go_wp2_with fail
    obtain ⟨hrd, hs1⟩ := open_w1 (m := m1 + m2) HB.out.2.2.2.2.1 (r := 5 + nn) (by omega) hcap hgl rfl
    generalize ((w.drewN (m1 + m2)).alloc (.cells #[.slice (some ⟨g, off + (5 + nn), none⟩) (b.length - (5 + nn)) (cap - (5 + nn)), .bool false] 106)) = W1 at hrd hs1 ⊢
    generalize hrb : w.heap.size = rb at hrd hgl ⊢
    have hk1 : W1.cell? ⟨g, off, none⟩ = some (.int .u8 b0) := by rw [World.cell?_of_block (hs1.block g (by omega) id)]; exact h0
    have hcb1 : CellsAt W1 (some ⟨g, off + 5, none⟩) (body.map enc8) := HB.out.1.keep hs1 (fun _ _ _ => id)
    have HR := Lib.hid (And.intro hrd (And.intro hs1 (And.intro hrb hcb1)))
    clear hrd hs1 hrb hcb1
    have hw4 : IntKind.u32.wrap ((beNat ((b.drop (5 + nn)).take 4) : Nat) : Int) = ((beNat ((b.drop (5 + nn)).take 4) : Nat) : Int) := by rw [IntKind.wrap_u32]; omega
    have hne : (((beNat ((b.drop (5 + nn)).take 4) : Nat) : Int) != ((sumOf k0 body : Nat) : Int)) = false := by rw [hsum]; simp
    clear hsum
    generalize beNat ((b.drop (5 + nn)).take 4) = x at *
    have hp0 : 0 < b.length := by omega
    have HSum : Hid (∀ W : World, CellsAt W (some ⟨g, off + 5, none⟩) (body.map enc8) → Calls Tryd.prog 32 #[.int .u8 b0, .slice (some ⟨g, off + 5, none⟩) nn nn] W (SumPost k0 body W)) := Lib.hid (fun W h => by
      have := Sum_calls (some ⟨g, off + 5, none⟩) nn k0 body W h (by have := HB.out.2.2.2.1; omega)
      rwa [HB.out.2.2.2.1, HB.out.2.2.2.2.2.2] at this)
    have HNum := Lib.hid (fun (W : World) (h : Rd W rb (b.drop (5 + nn)) false) => (show Calls Tryd.prog 31 #[.pointer (some ⟨rb, 0, none⟩), .int .i64 4] W (NumberPost rb (b.drop (5 + nn)) false 4 W) from rnumber_calls rb (b.drop (5 + nn)) false 4 W h (by simp; omega) (by omega)))
    go_region_held3 (fun w' => w'.cell? ⟨g, off, none⟩ = some (.int .u8 b0)) (first | exact hk1 | exact hk2 | exact hk3) (first | (go_at_call 31; refine (HNum.out _ (by exact HR.out.1)).mono ?_; rintro e w2 ⟨rfl, hr2, hM2, hz2⟩; rw [HB.out.2.2.1]; have hk2 : w2.cell? ⟨g, off, none⟩ = some (.int .u8 b0) := (World.cell?_of_block (hM2.block g (by have := HR.out.2.1.size; have := HR.out.2.2.1; show g < W1.heap.size; omega) (by omega))).trans hk1; have H2 := Lib.hid (And.intro hM2 hz2); clear hr2 hM2 hz2) | (go_at_call 32; refine (HSum.out _ (CellsAt.keep (w := W1.drew) (by exact HR.out.2.2.2) H2.out.1 (fun g' off' e => by simp at e; omega))).mono ?_; rintro e w3 ⟨rfl, hs3⟩; have hk3 : w3.cell? ⟨g, off, none⟩ = some (.int .u8 b0) := (World.cell?_of_block (hs3.block g (World.block_lt_of_cell? w2 _ hk2) id)).trans hk2; have H3 := Lib.hid hs3; clear hs3))
    go_wp2_with fail
    have hsame : Same w w3 := (HR.out.2.1.trans' ((Mods.refl _ W1).drew.trans H2.out.1) (fun i hi => .inr (by have := HR.out.2.2.1; omega))).trans' H3.out (fun i hi => hi.elim)
    have hcb3 : CellsAt w3 (some ⟨g, off + 5, none⟩) (body.map enc8) := HB.out.1.keep hsame (fun _ _ _ => id)
    have HZ := Lib.hid (And.intro hsame hcb3)
    clear hsame hcb3 hk1 hk2
    go_quiet ((go_at_call 30; exact (Size_calls _ (by omega) (by omega) _).mono (fun e w' ⟨he, hw⟩ => ⟨he, _, hw.symm⟩)))
    go_wp2_with fail
    go_ret3
    refine ⟨some ⟨g, off + 5, none⟩, ?_, HZ.out.2, fun x hx => ⟨_, rfl, by simp at hx; subst hx; rfl⟩, HZ.out.1.drewN _⟩
    rw [HB.out.2.2.2.1, HB.out.2.2.2.2.2.2, HN.out]
    first | rfl | (congr 3) | simp

theorem recOpen_calls (a : Option Addr) (cap : Nat) (b : Bs) (w : World) (h : CellsAt w a (b.map enc8)) (hl : b.length ≤ 1099511627776) (hcap : b.length ≤ cap) :
    Calls Tryd.prog 17 #[.slice a b.length cap] w (OpenPost a b w) := by
  have key : ∀ {R R' : Ending → World → Prop}, (∀ e w', R e w' → R' e w') → Calls Tryd.prog 17 #[.slice a b.length cap] w R → Calls Tryd.prog 17 #[.slice a b.length cap] w R' := fun hR hc => hc.mono hR
  by_cases h9 : b.length < 9
  · have e : openR b = none := by unfold openR; rw [if_pos h9]
    exact (open_short a cap b w h9).mono fun e' w' hp => by unfold OpenPost; rw [e]; exact hp
  obtain ⟨g, off, rfl, hc⟩ := h (by simp; omega)
  have cell : ∀ j (hj : j < b.length), w.cell? ⟨g, off + j, none⟩ = some (.int .u8 (b.getD j 0).toNat) := fun j hj => by
    rw [hc j (by simpa using hj)]; simp [enc8, List.getD_eq_getElem?_getD, hj]
  by_cases hz : b.getD 0 0 = 0
  · have e : openR b = none := by unfold openR; rw [if_neg h9, if_pos hz]
    refine (open_zero g off cap b w (by omega) hl ?_).mono fun e' w' hp => by unfold OpenPost; rw [e]; exact hp
    rw [cell 0 (by omega), hz]; rfl
  have hz' : (b.getD 0 0).toNat ≠ 0 := fun e => hz (UInt8.toNat_inj.1 (by simpa using e))
  have c0 := cell 0 (by omega)
  have c1 := cell 1 (by omega)
  have c2 := cell 2 (by omega)
  have c3 := cell 3 (by omega)
  have c4 := cell 4 (by omega)
  have l1 := UInt8.toNat_lt (b.getD 1 0)
  have l2 := UInt8.toNat_lt (b.getD 2 0)
  have l3 := UInt8.toNat_lt (b.getD 3 0)
  have l4 := UInt8.toNat_lt (b.getD 4 0)
  by_cases hne : (b.getD 1 0).toNat * 256 + (b.getD 2 0).toNat ≠ (255 - (b.getD 3 0).toNat) * 256 + (255 - (b.getD 4 0).toNat)
  · have e : openR b = none := by unfold openR; rw [if_neg h9, if_neg hz]; simp only; rw [if_pos hne]
    exact (open_len g off cap b w _ _ _ _ _ (by omega) hl c0 hz' c1 c2 c3 c4 l1 l2 l3 l4 hne).mono fun e' w' hp => by unfold OpenPost; rw [e]; exact hp
  by_cases hsz : b.length < (b.getD 1 0).toNat * 256 + (b.getD 2 0).toNat + 9
  · have e : openR b = none := by unfold openR; rw [if_neg h9, if_neg hz]; simp only; rw [if_neg hne, if_pos hsz]
    exact (open_size g off cap b w _ _ _ _ _ (by omega) hl c0 hz' c1 c2 c3 c4 l1 l2 l3 l4 (by simpa using hne) hsz).mono fun e' w' hp => by unfold OpenPost; rw [e]; exact hp
  by_cases hsum : beNat ((b.drop (5 + ((b.getD 1 0).toNat * 256 + (b.getD 2 0).toNat))).take 4) ≠ sumOf (b.getD 0 0) ((b.drop 5).take ((b.getD 1 0).toNat * 256 + (b.getD 2 0).toNat))
  · have e : openR b = none := by unfold openR; rw [if_neg h9, if_neg hz]; simp only; rw [if_neg hne, if_neg hsz, if_pos hsum]
    exact (open_sum g off cap b w _ _ _ _ _ (by omega) hl c0 hz' c1 c2 c3 c4 l1 l2 l3 l4 (by simpa using hne) (by omega) hcap _ rfl h _ rfl hsum).mono fun e' w' hp => by unfold OpenPost; rw [e]; exact hp
  · have e : openR b = some (b.getD 0 0, (b.drop 5).take ((b.getD 1 0).toNat * 256 + (b.getD 2 0).toNat), (b.getD 1 0).toNat * 256 + (b.getD 2 0).toNat + 9) := by unfold openR; rw [if_neg h9, if_neg hz]; simp only; rw [if_neg hne, if_neg hsz, if_neg hsum]
    exact (open_ok g off cap b w _ _ _ _ _ (by omega) hl c0 hz' c1 c2 c3 c4 l1 l2 l3 l4 (by simpa using hne) (by omega) hcap _ rfl h _ rfl (by simpa using hsum)).mono fun e' w' hp => by unfold OpenPost; rw [e]; exact hp
end Go.Proofs.YtdhobpbngkainaaDoor
