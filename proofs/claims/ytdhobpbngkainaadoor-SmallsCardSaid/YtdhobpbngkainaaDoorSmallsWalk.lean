/-
  Ours. Smalls answers true.
-/
import Derived.Test.YtdhobpbngkainaaDoorOpenEmpty
import Derived.Test.YtdhobpbngkainaaDoorTellCall
namespace Go.Proofs.YtdhobpbngkainaaDoor
open Go.RowKit

def SmallsPost (w : World) (e : Ending) (w' : World) : Prop := e = .returned (.bool true) ∧ Same w w'
set_option maxHeartbeats 2000000 in
set_option maxRecDepth 100000 in
theorem Smalls_calls (s q : Int) (w : World) (hs0 : -9223372036854775808 ≤ s) (hs1 : s ≤ 9223372036854775807) (hL : ErrLaid w) : Calls Tryd.prog 3 #[.int .i64 s, .int .i64 q] w (SmallsPost w) := by
  obtain ⟨m, hm, hm2⟩ : ∃ m : Nat, wrap64 ((IntKind.u64.wrap s).tmod 16) = (m : Int) ∧ m < 16 := by
    have h0 : 0 ≤ IntKind.u64.wrap s := by rw [IntKind.wrap_u64]; omega
    rw [IntWalk.rem_in _ _ h0]
    have h1 : 0 ≤ IntKind.u64.wrap s % 16 ∧ IntKind.u64.wrap s % 16 < 16 := by omega
    rw [IntWalk.wrap64_in _ (by omega)]
    exact ⟨(IntKind.u64.wrap s % 16).toNat, by omega, by omega⟩
  have HL := Lib.hid hL
  have HM := Lib.hid hm
  clear hL hm
  have HN1 := Lib.hid (NewDevice_calls m (by omega) w)
  go_enter Tryd.func3, Tryd.ntmps3
  go_wp2_with fail
  rw [HM.out]
  refine HN1.out.mono ?_
  rintro e w1 ⟨d, L, rfl, hT, hL1, hn1, hnow, hch⟩
  have HO := Lib.hid (Open_small d L q w1 hT.sat (by omega))
  have H1 := Lib.hid hT.news
  clear hT hL1 hn1 hnow hch
  go_wp2_with fail
  refine HO.out.mono ?_
  rintro e w2 ⟨rfl, rfl⟩
  have HN2 := Lib.hid (NewDevice_calls 16 (by omega) w1)
  go_wp2_with fail
  refine HN2.out.mono ?_
  rintro e w2 ⟨d2, L2, rfl, hT, hL2, hn2, hnow, hch⟩
  have HO2 := Lib.hid (Open_empty d2 L2 q w2 hT.sat hL2 (by omega) (by omega) (by rw [hch]; simp) (fun k hk => by rw [hnow]; simp only [secOf, zeros, List.drop_replicate, List.take_replicate]; congr 1; omega))
  have H2 := Lib.hid (H1.out.trans hT.news)
  have HT := Lib.hid hT
  clear hT hL2 hn2 hnow hch
  go_wp2_with fail
  refine HO2.out.mono ?_
  rintro e w3 ⟨a, ab, pm, tm, cm, ch, L', rfl, hT3, -⟩
  have h3 : Same w w3 := H1.out.trans ((HT.out.trans hT3).news)
  have H3 := Lib.hid h3
  clear hT3 h3
  have HL3 := Lib.hid (HL.out.keep H3.out id)
  have HT1 := Lib.hid (Tell_calls (.iface 30 (.int .i64 12)) 12 w3 HL3.out (.inr (.inl rfl)))
  go_wp2_with fail
  refine HT1.out.mono ?_
  rintro e w4 ⟨rfl, hs4⟩
  have H4 := Lib.hid (H3.out.trans hs4)
  clear hs4
  have HT2 := Lib.hid (Tell_calls .nilIface 0 w4 (HL.out.keep H4.out id) (.inl ⟨rfl, rfl⟩))
  go_wp2_with fail
  refine HT2.out.mono ?_
  rintro e w5 ⟨rfl, hs5⟩
  have H5 := Lib.hid (H4.out.trans hs5)
  clear hs5
  go_wp2_with fail
  go_ret
  exact ⟨rfl, H5.out⟩
end Go.Proofs.YtdhobpbngkainaaDoor
