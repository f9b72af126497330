/-
  Ours. The walk of the law Cut: it answers true, and nothing that was there has turned.
-/
import Derived.Test.YtdhobpbngkainaaCutsWalk
import Derived.Test.YtdhobpbngkainaaRefCuts
import Derived.Test.YtdhobpbngkainaaRoomy
namespace Go.Proofs.Ytdhobpbngkainaa
open Go.RowKit

def LawPost (w : World) (e : Ending) (w' : World) : Prop := e = .returned (.bool true) ∧ Same w w'

theorem ownsRow_cellsAt {w : World} {b e n : Nat} {v : Value} {xs : List Value} (h : w.ownsRow b e 1 v n xs) : ∃ a cap, v = .slice a n cap ∧ xs.length = n ∧ CellsAt w a xs := by
  have hl : xs.length = n := by simpa using h.1
  rcases h.2 with ⟨rfl, rfl⟩ | ⟨g, cap, cur, rfl, hb, hg, hnc, hcm, hcs, htk⟩
  · exact ⟨none, 0, rfl, hl, fun hp => by omega⟩
  · refine ⟨_, cap, rfl, hl, fun _ => ⟨g, 0, rfl, fun j hj => ?_⟩⟩
    rw [Nat.zero_add]
    refine cell_at hg j ?_
    have : (cur.toList.take (n * 1))[j]? = some xs[j] := by rw [htk]; simp [hj]
    rw [List.getElem?_take] at this
    split at this
    · simpa using this
    · cases this

set_option maxHeartbeats 1000000 in
set_option maxRecDepth 100000 in
theorem Cut_big (a : Option Addr) (len cap : Nat) (w : World) (hm : len ≤ maxLen) (h : 60000 < len) : Calls Try.prog 4 #[.slice a len cap] w (LawPost w) := by
  unfold maxLen at hm
  go_enter Try.func4, Try.ntmps4
  go_wp2
  go_ret
  exact ⟨rfl, Mods.refl _ w⟩

theorem hasBytes_row8 {w : World} {B : Nat} {l r : List UInt8} (h : w.heap[B]? = some (.cells (row8 (l ++ r)) 5 (0, 0))) : HasBytes w B 0 l := fun j hj => by
  rw [Nat.zero_add, cell_at h j (row8_get _ j (by simp; omega))]
  simp [List.getElem_append_left hj, enc8]

set_option maxHeartbeats 2000000 in
set_option maxRecDepth 100000 in
theorem Cut_walk (a : Option Addr) (cap : Nat) (l : List UInt8) (w : World) (hl : l.length ≤ 60000) (h : CellsAt w a (l.map enc8)) : Calls Try.prog 4 #[.slice a l.length cap] w (LawPost w) := by
  have H := Lib.hid h
  clear h
  go_enter Try.func4, Try.ntmps4
  go_wp2_with fail
  refine (roomy_calls a cap l w (by omega) H.out).mono ?_
  rintro e w1 ⟨rfl, hr1, hs1⟩
  have HR := Lib.hid (And.intro hr1 hs1)
  clear hr1 hs1
  go_wp2_with fail
  refine (Cuts_calls w.heap.size 0 (l.length + 2) _ l w1 (fun _ => rfl) (by omega) (by omega) (hasBytes_row8 HR.out.1) (by have := lt_of_heap HR.out.1; omega)).mono ?_
  rintro e w2 ⟨v, rfl, hv, hs2⟩
  obtain ⟨av, cv, rfl, hlen, hcv⟩ := ownsRow_cellsAt hv
  have HV := Lib.hid (And.intro hv (And.intro hs2 hlen))
  clear hv hs2 hcv hlen
  go_wp2_with fail
  refine (still_calls w.heap.size a cap l w2 (by omega) (HV.out.2.1.at HR.out.1 id) (H.out.keep (HR.out.2.trans' HV.out.2.1 (fun _ h => h.elim)) (fun _ _ _ => id))).mono ?_
  rintro e w3 ⟨rfl, hm3⟩
  have hs3 : Same w w3 := (HR.out.2.trans' HV.out.2.1 (fun _ h => h.elim)).trans' hm3 (fun i hi => .inr (by omega))
  have hv3 := ownsRow_framed HV.out.1 hm3 (fun g hg => by have := (HV.out.1.lt g hg).1; have := lt_of_heap HR.out.1; omega)
  have H3 := Lib.hid (And.intro hs3 hv3)
  clear hs3 hv3 hm3
  go_wp2_with fail
  refine (refCuts_calls a cap l w3 (H.out.keep H3.out.1 (fun _ _ _ => id)) (by omega)).mono ?_
  rintro e w4 ⟨u, rfl, hu, hs4⟩
  obtain ⟨au, cu, rfl, hlenu, hcu⟩ := ownsRow_cellsAt hu
  have hv4 := ownsRow_framed H3.out.2 hs4 (fun _ _ => id)
  obtain ⟨av', cv', hve, _, hcv⟩ := ownsRow_cellsAt hv4
  have H4 := Lib.hid (And.intro hcv (And.intro hcu (And.intro hve hs4)))
  clear hu hs4 hcu hlenu hv4 hcv hve
  have hc := sameNumbers_calls av au cv cu ((lensOf l).map fun n : Nat => (n : Int)) ((lensOf l).map fun n : Nat => (n : Int)) w4
    (by rw [List.map_map]; have e := H4.out.2.2.1; simp only [Value.slice.injEq] at e; rw [e.1]; exact H4.out.1)
    (by rw [List.map_map]; exact H4.out.2.1)
    (by rw [List.length_map]; have := lensOf_length_le l; omega) (by rw [List.length_map]; have := lensOf_length_le l; omega)
  simp only [List.length_map, decide_true] at hc
  have HC := Lib.hid hc
  clear hc
  go_wp2_with fail
  refine HC.out.mono ?_
  rintro e w5 ⟨rfl, hd5⟩
  have HL := Lib.hid ((H3.out.1.trans' H4.out.2.2.2 (fun _ h => h.elim)).trans' hd5.same (fun _ h => h.elim))
  clear hd5
  go_wp2
  go_ret
  exact ⟨rfl, HL.out⟩
end Go.Proofs.Ytdhobpbngkainaa
