/-
  Ours. Open: over a device that is too small, and over one whose first sectors are empty.
-/
import Derived.Test.YtdhobpbngkainaaDoorFirst
namespace Go.Proofs.YtdhobpbngkainaaDoor
open Go.RowKit

def OpenSmallPost (w : World) (e : Ending) (w' : World) : Prop := e = .returned (.tuple #[.pointer none, .iface 30 (.int .i64 12)]) ∧ w = w'
set_option maxHeartbeats 1000000 in
set_option maxRecDepth 100000 in
theorem Open_small (d : Nat) (L : DevL) (q : Int) (w : World) (h : Sat w (devF d L)) (hn : L.n < 16) :
    Calls Tryd.prog 4 #[.pointer (some ⟨d, 0, none⟩), .int .i64 q] w (OpenSmallPost w) := by
  have HS := Lib.hid (Sectors_calls d L w h)
  clear h
  go_enter Tryd.func4, Tryd.ntmps4
  go_wp2_with fail
  refine HS.out.mono ?_
  rintro e w' ⟨rfl, rfl⟩
  go_wp2_with fail
  go_ret2
  exact ⟨rfl, rfl⟩
set_option maxHeartbeats 1000000 in
set_option maxRecDepth 100000 in
theorem Open_empty (d : Nat) (L : DevL) (q : Int) (w : World) (h : Sat w (devF d L)) (hL : DevOk L) (hn : 16 ≤ L.n) (hn2 : L.n ≤ 1073741824) (hch : L.chs.length ≤ 137438953472) (hz : ∀ k, k < 2 → secOf L.now k = zeros 128) :
    Calls Tryd.prog 4 #[.pointer (some ⟨d, 0, none⟩), .int .i64 q] w (FirstPost d L q w) := by
  have HS := Lib.hid (Sectors_calls d L w h)
  have hzt : zerosTo L.now 2 = true := by unfold zerosTo; exact decide_eq_true hz
  have hu := uses_none d L w h hL hn (fun k hk => by rw [hz k hk]; exact openR_zeros)
  rw [hzt] at hu
  have HU := Lib.hid hu
  have HF : Hid (∀ W, Sat W (devF d L) → Calls Tryd.prog 9 #[.pointer (some ⟨d, 0, none⟩), .int .i64 q] W (FirstPost d L q W)) := Lib.hid (fun W hW => first_calls d L q W hW hL hn hn2 hch)
  have HH := Lib.hid h
  clear h hL hn2 hch hz hzt hu
  have hn' : ¬ (L.n : Int) < 16 := by omega
  go_enter Tryd.func4, Tryd.ntmps4
  go_wp2_with fail
  refine HS.out.mono ?_
  rintro e w' ⟨rfl, rfl⟩
  go_wp2_with fail
  refine HU.out.mono ?_
  rintro e w1 ⟨rfl, hs1⟩
  have H1 := Lib.hid hs1
  clear hs1
  go_wp2_with fail
  refine (HF.out _ (HH.out.same H1.out)).mono ?_
  rintro e w2 ⟨a, ab, pm, tm, cm, ch, L', rfl, hT, hr⟩
  have H2 := Lib.hid (And.intro hT hr)
  clear hT hr
  go_wp2_with fail
  go_ret2
  exact ⟨a, ab, pm, tm, cm, ch, L', rfl, Turns.sameThen HH.out H1.out H2.out.1, H2.out.2⟩
end Go.Proofs.YtdhobpbngkainaaDoor
