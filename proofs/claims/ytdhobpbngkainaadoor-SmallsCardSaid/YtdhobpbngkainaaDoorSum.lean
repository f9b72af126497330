/-
  Ours. record.Sum answers the sum of a kind and bytes.
-/
import Derived.Test.YtdhobpbngkainaaDoorNumber
namespace Go.Proofs.YtdhobpbngkainaaDoor
open Go.RowKit

theorem bits_xor32 (a b : Nat) (ha : a < 4294967296) (hb : b < 4294967296) : bits BinOp.xor IntKind.u32 (a : Int) (b : Int) = ((a ^^^ b : Nat) : Int) := by
  have e1 : (BitVec.ofInt 32 (a : Int)).toNat = a := by rw [BitVec.ofInt_natCast, BitVec.toNat_ofNat]; exact Nat.mod_eq_of_lt (by omega)
  have e2 : (BitVec.ofInt 32 (b : Int)).toNat = b := by rw [BitVec.ofInt_natCast, BitVec.toNat_ofNat]; exact Nat.mod_eq_of_lt (by omega)
  show IntKind.u32.wrap ((BitVec.ofInt 32 (a : Int) ^^^ BitVec.ofInt 32 (b : Int)).toNat : Int) = _
  rw [BitVec.toNat_xor, e1, e2, IntKind.wrap_u32]
  have := xor_lt32 ha hb
  omega
theorem bits_and1 (a : Nat) (ha : a < 4294967296) : bits BinOp.and IntKind.u32 (a : Int) 1 = ((a % 2 : Nat) : Int) := by
  have e1 : (BitVec.ofInt 32 (a : Int)).toNat = a := by rw [BitVec.ofInt_natCast, BitVec.toNat_ofNat]; exact Nat.mod_eq_of_lt (by omega)
  show IntKind.u32.wrap ((BitVec.ofInt 32 (a : Int) &&& BitVec.ofInt 32 (1 : Int)).toNat : Int) = _
  rw [BitVec.toNat_and, e1, show (BitVec.ofInt 32 (1 : Int)).toNat = 1 from rfl, Nat.and_one_is_mod, IntKind.wrap_u32]
  omega

def CrcCell (w : World) (b : Nat) (c : Nat) : Prop := w.heap[b]? = some (.cells #[.int .u32 c] 37 (0, 0))
def AddPost (b c : Nat) (x : UInt8) (w : World) (e : Ending) (w' : World) : Prop := e = .returned (.tuple #[]) ∧ CrcCell w' b (crcByte c x) ∧ Mods (fun k => k = b) w w'
theorem crcBits_next (k c : Nat) : crcBits (k + 1) c = (crcBits k c / 2) ^^^ (crcBits k c % 2 * 3988292384) := by rw [crcBits_succ']; rfl

theorem crc_close {wr : World} {b q : Nat} (h : CrcCell wr b q) (hq : q < 4294967296) : CrcCell (wr.setCell ⟨b, 0, none⟩ (.int .u32 (bits BinOp.xor IntKind.u32 ((q : Int) / 2) ((q : Int) % 2 * 3988292384)))) b ((q / 2) ^^^ (q % 2 * 3988292384)) := by
  have hm : q % 2 < 2 := Nat.mod_lt _ (by omega)
  have h2 := bits_xor32 (q / 2) (q % 2 * 3988292384) (by omega) (by omega)
  have e : ((q : Int) % 2 * 3988292384) = ((q % 2 * 3988292384 : Nat) : Int) := by omega
  have e2 : ((q : Int) / 2) = ((q / 2 : Nat) : Int) := by omega
  rw [e, e2, h2]
  exact set_same h 0 _

set_option maxHeartbeats 1000000 in
set_option maxRecDepth 100000 in
theorem Sum1_calls (b c : Nat) (x : UInt8) (w : World) (hc : c < 4294967296) (h : CrcCell w b c) : Calls Tryd.prog 46 #[.int .u8 x.toNat, .pointer (some ⟨b, 0, none⟩)] w (AddPost b c x w) := by
  have h0 := cell_at h 0 (v := .int .u32 c) (by simp)
  have f0 := free_at h 0
  have hx := bits_xor32 c x.toNat hc (u8_lt32 x)
  have hx2 := u8_lt32 x
  have hx3 := UInt8.toNat_lt x
  have H := Lib.hid h
  clear h
  go_enter Tryd.func46, Tryd.ntmps46
  go_wp2
  clear hx h0 f0
  go_loopw [7] (fun i wr => ∃ k : Nat, k ≤ 8 ∧ i = .int .i64 k ∧ CrcCell wr b (crcBits k (c ^^^ x.toNat)) ∧ Mods (fun k => k = b) w wr) (fun i _ => 8 - (intOf i).toNat)
  case atStart => exact ⟨0, by omega, rfl, set_same H.out 0 _, (Mods.refl (fun k => k = b) w).set1 _⟩
  case round =>
    obtain ⟨k, hk, rfl, hcell, hM⟩ := hrel
    by_cases hlt : k < 8
    · have hlt32 := crcBits_lt k (xor_lt32 hc hx2)
      have hnx := crcBits_next k (c ^^^ x.toNat)
      have hc0 := cell_at hcell 0 (v := .int .u32 (crcBits k (c ^^^ x.toNat))) (by simp)
      have hf0 := free_at hcell 0
      have HC := Lib.hid (And.intro hcell hM)
      have HN := Lib.hid hnx
      clear hcell hM hnx
      generalize crcBits k (c ^^^ x.toNat) = q at *
      have h1 := bits_and1 q hlt32
      have hm : q % 2 < 2 := Nat.mod_lt _ (by omega)
      go_wp2
      exact ⟨⟨k + 1, by omega, by go_num, by rw [HN.out]; exact crc_close HC.out.1 hlt32, HC.out.2.set1 _⟩, by simp [intOf]; omega⟩
    · obtain rfl : k = 8 := by omega
      have HC := Lib.hid (And.intro hcell hM)
      clear hcell hM
      go_wp2
      go_end0
      exact ⟨rfl, HC.out.1, HC.out.2⟩
def SumPost (k : UInt8) (l : Bs) (w : World) (e : Ending) (w' : World) : Prop := e = .returned (.int .u32 (sumOf k l)) ∧ Same w w'
def SumRel (k : UInt8) (l : Bs) (w : World) (i : Value) (wr : World) : Prop :=
  ∃ j : Nat, j ≤ l.length ∧ i = .int .i64 j ∧ CrcCell wr w.heap.size (crcFrom (crcByte 4294967295 k) (l.take j)) ∧ Same w wr
theorem crcFrom_take {c : Nat} {l : Bs} {j : Nat} (h : j < l.length) : crcFrom c (l.take (j + 1)) = crcByte (crcFrom c (l.take j)) l[j] := by
  unfold crcFrom; rw [List.take_succ_eq_append_getElem h, List.foldl_append]; rfl
theorem sum_end {k : UInt8} {l : Bs} : bits BinOp.xor IntKind.u32 IntKind.u32.max ((crcFrom (crcByte 4294967295 k) l : Nat) : Int) = (sumOf k l : Nat) := by
  have := bits_xor32 4294967295 (crcFrom (crcByte 4294967295 k) l) (by omega) (crcFrom_lt l (crcByte_lt (by omega) k))
  exact this
set_option maxHeartbeats 1000000 in
set_option maxRecDepth 100000 in
theorem Sum_calls (a : Option Addr) (cap : Nat) (k : UInt8) (l : Bs) (w : World) (h : CellsAt w a (l.map enc8)) (hl : l.length ≤ 1099511627776) : Calls Tryd.prog 32 #[.int .u8 k.toNat, .slice a l.length cap] w (SumPost k l w) := by
  have H := Lib.hid h
  have hk := UInt8.toNat_lt k
  have HS := Lib.hid (fun (w1 : World) (hc : CrcCell w1 w.heap.size 4294967295) => Sum1_calls w.heap.size 4294967295 k w1 (by omega) hc)
  clear h
  go_enter Tryd.func32, Tryd.ntmps32
  go_wp2_with fail
  refine (HS.out _ (alloc_new w _)).mono ?_
  rintro e w1 ⟨rfl, hc1, hM1⟩
  have HM := Lib.hid (show SumRel k l w (.int .i64 0) w1 from ⟨0, Nat.zero_le _, rfl, by simpa [crcFrom] using hc1, ((Mods.refl _ w).alloc _).trans' hM1 (fun i hi => .inr (by omega))⟩)
  clear hc1 hM1 HS
  go_wp2_with fail
  go_loopw [15] (fun i wr => SumRel k l w i wr) (fun i _ => l.length - (intOf i).toNat)
  case atStart => exact HM.out
  case round =>
    obtain ⟨j, hj, rfl, hcell, hs⟩ := hrel
    by_cases hlt : j < l.length
    · obtain ⟨g, off, rfl, hc⟩ := (H.out.keep hs (fun _ _ _ => id)) (by simp; omega)
      have hcj := hc j (by simpa using hlt)
      simp only [List.getElem_map] at hcj
      unfold enc8 at hcj
      have hlt32 : crcFrom (crcByte 4294967295 k) (l.take j) < 4294967296 := crcFrom_lt _ (crcByte_lt (by omega) k)
      have HC := Lib.hid (Sum1_calls w.heap.size _ l[j] wr hlt32 hcell)
      have HT := Lib.hid (And.intro (crcFrom_take (c := crcByte 4294967295 k) hlt) hs)
      clear hc hcell hs HM H
      go_wp2_with fail
      refine HC.out.mono ?_
      rintro e w2 ⟨rfl, hc2, hM2⟩
      have HF := Lib.hid (And.intro hc2 (HT.out.2.trans' hM2 (fun i hi => .inr (by omega))))
      clear hc2 hM2 hcj HC
      go_wp2_with fail
      exact ⟨⟨j + 1, by omega, by go_num, by rw [HT.out.1]; exact HF.out.1, HF.out.2⟩, by simp [intOf]; omega⟩
    · obtain rfl : j = l.length := by omega
      rw [List.take_length] at hcell
      have hc0 := cell_at hcell 0 (v := .int .u32 (crcFrom (crcByte 4294967295 k) l)) (by simp)
      have hse := sum_end (k := k) (l := l)
      have HF := Lib.hid hs
      clear hs hcell HM H
      go_wp2_with fail
      go_ret
      exact ⟨rfl, HF.out⟩
end Go.Proofs.YtdhobpbngkainaaDoor
