/- BagPairs: the walk of the law. -/
import Derived.Test.YtcbemmlhpinjkaaGreatDoorBgKnown
import Derived.Test.YtcbemmlhpinjkaaGreatDoorBgProd
namespace Go.Proofs.Bg
open Go.RowKit

set_option maxRecDepth 100000 in
set_option maxHeartbeats 2000000 in
theorem BagPairs_any (A B : Option Addr) (n m capA capB : Nat) (a b : List It) (apart : Int) (w : World) (hA : Rd It.vs 4 w 0 A n a) (hB : Rd It.vs 4 w 0 B m b) (ht : Tab w) :
    Calls Tryz.prog 3 #[.slice A n capA, .slice B m capB, .int .i64 apart] w fun e w' => e = .returned (.bool true) ∧ Below w.heap.size w w' := by
  have HP := Lib.hid (Pair_any A B n m capA capB a b apart w hA hB)
  have HA := Lib.hid hA
  have HB := Lib.hid hB
  have HT := Lib.hid ht
  clear hA hB ht
  generalize hp : pairR a b apart = p at *
  have HPR := Lib.hid hp
  clear hp
  go_enter Tryz.func3, Tryz.ntmps3
  go_wp2_with fail
  (with_reducible refine HP.out.mono ?_)
  rintro e w1 ⟨A1, k1, rfl, hr1, hb1⟩
  have h2 := PairR_any A B n m capA capB a b apart w1 (HA.out.below hb1) (HB.out.below hb1)
  rw [HPR.out] at h2
  have HQ := Lib.hid h2
  have HR1 := Lib.hid hr1
  have HB1 := Lib.hid hb1
  clear h2 hr1 hb1
  generalize p.1.length = q at *
  generalize hp2 : p.2 = c at *
  go_wp2_with fail
  (with_reducible refine HQ.out.mono ?_)
  rintro e w2 ⟨⟨A2, q2, k2, rfl, hr2⟩, hb2⟩
  have HS := Lib.hid (Same_any A1 A2 q q2 k1 k2 p.1 p.1 w2 ((HR1.out.below hb2).low (Nat.zero_le _)) hr2)
  have HB2 := Lib.hid (bchain HB1.out hb2)
  clear hr2 hb2
  rw [hp2]
  have hdec : decide (p.1 = p.1) = true := by simp
  have HDEC := Lib.hid hdec
  clear hdec hp2
  go_wp2_with fail
  (with_reducible refine HS.out.mono ?_)
  rintro e w3 ⟨rfl, hb3⟩
  rw [HDEC.out]
  have HB3 := Lib.hid (bchain HB2.out hb3)
  have HK := Lib.hid (known_any w3 (HT.out.below HB3.out))
  clear hb3
  go_wp2_with fail
  (with_reducible refine HK.out.mono ?_)
  rintro e w4 ⟨rfl, hb4⟩
  have HB4 := Lib.hid (bchain HB3.out hb4)
  clear hb4
  go_wp2_with fail
  go_ret
  exact ⟨rfl, HB4.out⟩
end Go.Proofs.Bg
