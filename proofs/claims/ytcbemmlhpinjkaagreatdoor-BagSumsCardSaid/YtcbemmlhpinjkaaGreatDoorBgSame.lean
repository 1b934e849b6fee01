/- The reference: Same, SameEdits. -/
import Derived.BigQuiet
import Derived.Test.YtcbemmlhpinjkaaGreatDoorBgEdits
namespace Go.Proofs.Bg
open Go.RowKit

theorem It.beq_vs (x y : It) : x = y ↔ x.r.at_ = y.r.at_ ∧ x.r.key = y.r.key ∧ x.r.val = y.r.val ∧ x.n = y.n := by
  obtain ⟨⟨a, k, v⟩, n⟩ := x
  obtain ⟨⟨a', k', v'⟩, n'⟩ := y
  simp [and_assoc]

set_option maxRecDepth 100000 in
set_option maxHeartbeats 2000000 in
theorem Same_any (A B : Option Addr) (n m capA capB : Nat) (a b : List It) (w : World) (hA : Rd It.vs 4 w 0 A n a) (hB : Rd It.vs 4 w 0 B m b) :
    Calls Tryz.prog 13 #[.slice A n capA, .slice B m capB] w fun e w' => e = .returned (.bool (decide (a = b))) ∧ Below w.heap.size w w' := by
  have HA := Lib.hid hA
  have HB := Lib.hid hB
  have hle := hA.le
  have hle2 := hB.le
  clear hA hB
  cases hnm : ((n : Int) != (m : Int)) with
  | true =>
    have hne : decide (a = b) = false := by
      rw [decide_eq_false_iff_not]
      rintro rfl
      have h1 := HA.out.len
      have h2 := HB.out.len
      simp at hnm
      omega
    rw [hne]
    clear hne
    go_enter Tryz.func13, Tryz.ntmps13
    go_wp2
    go_ret
    exact ⟨rfl, Below.refl _ _⟩
  | false =>
    have hE : n = m := by simp at hnm; omega
    subst hE
    go_enter Tryz.func13, Tryz.ntmps13
    go_wp2_with fail
    go_loopw [5, 13] (fun _ i wr => ∃ k : Nat, k ≤ n ∧ i = .int .i64 k ∧ a.take k = b.take k ∧ Below w.heap.size w wr) (fun _ i _ => n - (intOf i).toNat)
    case atStart => exact ⟨0, by omega, rfl, by simp, Below.refl _ _⟩
    case round =>
      obtain ⟨k, hk, rfl, ht, hW⟩ := hrel
      have hRa := HA.out.below hW
      have hRb := HB.out.below hW
      have HW := Lib.hid hW
      have HT := Lib.hid ht
      clear hW ht
      by_cases hlt : k < n
      · obtain ⟨b1, o1, x, rfl, _, hx, c0, c1, c2, c3⟩ := hRa.it_at hlt
        obtain ⟨b2, o2, y, rfl, _, hy, d0, d1, d2, d3⟩ := hRb.it_at hlt
        have HX := Lib.hid hx
        have HY := Lib.hid hy
        have hi0 : (0 : Int) ≤ k := by omega
        have hi1 : (k : Int) < n := by omega
        clear hx hy hRa hRb
        by_cases hxy : x = y
        · subst hxy
          go_wp2_with fail
          go_quiet (fail)
          go_wp2_with fail
          exact ⟨⟨k + 1, by omega, by go_num, by rw [List.take_add_one, List.take_add_one, HX.out, HY.out, HT.out], below_drewN HW.out _⟩, by simp [intOf]; omega⟩
        · have hne : decide (a = b) = false := by
            rw [decide_eq_false_iff_not]
            rintro rfl
            rw [HX.out] at HY
            exact hxy (Option.some.inj HY.out)
          have HNE := Lib.hid hne
          have hq := fun h => hxy ((It.beq_vs x y).2 h)
          clear hne hxy
          cases e0 : (x.r.at_ == y.r.at_) with
          | false =>
            have e0' : (x.r.at_ != y.r.at_) = true := by rw [bne, e0]; rfl
            clear hq
            go_wp2_with fail
            go_quiet (fail)
            go_wp2_with fail
            go_ret
            refine ⟨ret_bool ?_, below_drewN HW.out _⟩
            rw [HNE.out]
          | true =>
            have g0 := beq_iff_eq.1 e0
            rw [← g0] at d0
            cases e1 : (x.r.key == y.r.key) with
            | false =>
              have e1' : (x.r.key != y.r.key) = true := by rw [bne, e1]; rfl
              clear hq e0 g0
              go_wp2_with fail
              go_quiet (fail)
              go_wp2_with fail
              go_ret
              refine ⟨ret_bool ?_, below_drewN HW.out _⟩
              rw [HNE.out]
            | true =>
              have g1 := beq_iff_eq.1 e1
              rw [← g1] at d1
              cases e2 : (x.r.val == y.r.val) with
              | false =>
                have e2' : (x.r.val != y.r.val) = true := by rw [bne, e2]; rfl
                clear hq e0 g0 e1 g1
                go_wp2_with fail
                go_quiet (fail)
                go_wp2_with fail
                go_ret
                refine ⟨ret_bool ?_, below_drewN HW.out _⟩
                rw [HNE.out]
              | true =>
                have g2 := beq_iff_eq.1 e2
                rw [← g2] at d2
                have e3 : (x.n == y.n) = false := by
                  cases h : (x.n == y.n) with
                  | false => rfl
                  | true => exact absurd ⟨g0, g1, g2, beq_iff_eq.1 h⟩ hq
                have e3' : (x.n != y.n) = true := by rw [bne, e3]; rfl
                clear hq e0 g0 e1 g1 e2 g2
                go_wp2_with fail
                go_quiet (fail)
                go_wp2_with fail
                go_ret
                refine ⟨ret_bool ?_, below_drewN HW.out _⟩
                rw [HNE.out]
      · have hk' : k = n := by omega
        subst hk'
        clear hRa hRb hlt
        go_wp2_with fail
        go_ret
        refine ⟨ret_bool ?_, HW.out⟩
        have h := HT.out
        rw [List.take_of_length_le (by rw [HA.out.len]; exact Nat.le_refl _), List.take_of_length_le (by rw [HB.out.len]; exact Nat.le_refl _)] at h
        simp [h]
theorem Ed.beq_vs (x y : Ed) : x = y ↔ x.d = y.d ∧ x.old.at_ = y.old.at_ ∧ x.old.key = y.old.key ∧ x.old.val = y.old.val ∧ x.new.at_ = y.new.at_ ∧ x.new.key = y.new.key ∧ x.new.val = y.new.val ∧ x.n = y.n := by
  obtain ⟨d, ⟨a, k, v⟩, ⟨a2, k2, v2⟩, n⟩ := x
  obtain ⟨d', ⟨a', k', v'⟩, ⟨a2', k2', v2'⟩, n'⟩ := y
  simp [and_assoc]

set_option maxRecDepth 100000 in
set_option maxHeartbeats 2000000 in
theorem SameEdits_any (A B : Option Addr) (n m capA capB : Nat) (a b : List Ed) (w : World) (hA : Rd Ed.vs 8 w 0 A n a) (hB : Rd Ed.vs 8 w 0 B m b) :
    Calls Tryz.prog 34 #[.slice A n capA, .slice B m capB] w fun e w' => e = .returned (.bool (decide (a = b))) ∧ Below w.heap.size w w' := by
  have HA := Lib.hid hA
  have HB := Lib.hid hB
  have hle := hA.le
  have hle2 := hB.le
  clear hA hB
  cases hnm : ((n : Int) != (m : Int)) with
  | true =>
    have hne : decide (a = b) = false := by
      rw [decide_eq_false_iff_not]
      rintro rfl
      have h1 := HA.out.len
      have h2 := HB.out.len
      simp at hnm
      omega
    rw [hne]
    clear hne
    go_enter Tryz.func34, Tryz.ntmps34
    go_wp2
    go_ret
    exact ⟨rfl, Below.refl _ _⟩
  | false =>
    have hE : n = m := by simp at hnm; omega
    subst hE
    go_enter Tryz.func34, Tryz.ntmps34
    go_wp2_with fail
    go_loopw [5, 13] (fun _ i wr => ∃ k : Nat, k ≤ n ∧ i = .int .i64 k ∧ a.take k = b.take k ∧ Below w.heap.size w wr) (fun _ i _ => n - (intOf i).toNat)
    case atStart => exact ⟨0, by omega, rfl, by simp, Below.refl _ _⟩
    case round =>
      obtain ⟨k, hk, rfl, ht, hW⟩ := hrel
      have hRa := HA.out.below hW
      have hRb := HB.out.below hW
      have HW := Lib.hid hW
      have HT := Lib.hid ht
      clear hW ht
      by_cases hlt : k < n
      · obtain ⟨b1, o1, x, rfl, hx, c0, c1, c2, c3, c4, c5, c6, c7⟩ := hRa.ed_at hlt
        obtain ⟨b2, o2, y, rfl, hy, d0, d1, d2, d3, d4, d5, d6, d7⟩ := hRb.ed_at hlt
        have HX := Lib.hid hx
        have HY := Lib.hid hy
        have hi0 : (0 : Int) ≤ k := by omega
        have hi1 : (k : Int) < n := by omega
        clear hx hy hRa hRb
        by_cases hxy : x = y
        · subst hxy
          go_wp2_with fail
          go_quiet (fail)
          go_wp2_with fail
          exact ⟨⟨k + 1, by omega, by go_num, by rw [List.take_add_one, List.take_add_one, HX.out, HY.out, HT.out], below_drewN HW.out _⟩, by simp [intOf]; omega⟩
        · have hne : decide (a = b) = false := by
            rw [decide_eq_false_iff_not]
            rintro rfl
            rw [HX.out] at HY
            exact hxy (Option.some.inj HY.out)
          have HNE := Lib.hid hne
          have hq := fun h => hxy ((Ed.beq_vs x y).2 h)
          clear hne hxy
          cases e0 : (x.d == y.d) with
          | false =>
            have e0' : (x.d != y.d) = true := by rw [bne, e0]; rfl
            clear hq 
            go_wp2_with fail
            go_quiet (fail)
            go_wp2_with fail
            go_ret
            refine ⟨ret_bool ?_, below_drewN HW.out _⟩
            rw [HNE.out]
          | true =>
            have g0 := beq_iff_eq.1 e0
            rw [← g0] at d0
            cases e1 : (x.old.at_ == y.old.at_) with
            | false =>
              have e1' : (x.old.at_ != y.old.at_) = true := by rw [bne, e1]; rfl
              clear hq e0 g0
              go_wp2_with fail
              go_quiet (fail)
              go_wp2_with fail
              go_ret
              refine ⟨ret_bool ?_, below_drewN HW.out _⟩
              rw [HNE.out]
            | true =>
              have g1 := beq_iff_eq.1 e1
              rw [← g1] at d1
              cases e2 : (x.old.key == y.old.key) with
              | false =>
                have e2' : (x.old.key != y.old.key) = true := by rw [bne, e2]; rfl
                clear hq e0 g0 e1 g1
                go_wp2_with fail
                go_quiet (fail)
                go_wp2_with fail
                go_ret
                refine ⟨ret_bool ?_, below_drewN HW.out _⟩
                rw [HNE.out]
              | true =>
                have g2 := beq_iff_eq.1 e2
                rw [← g2] at d2
                cases e3 : (x.old.val == y.old.val) with
                | false =>
                  have e3' : (x.old.val != y.old.val) = true := by rw [bne, e3]; rfl
                  clear hq e0 g0 e1 g1 e2 g2
                  go_wp2_with fail
                  go_quiet (fail)
                  go_wp2_with fail
                  go_ret
                  refine ⟨ret_bool ?_, below_drewN HW.out _⟩
                  rw [HNE.out]
                | true =>
                  have g3 := beq_iff_eq.1 e3
                  rw [← g3] at d3
                  cases e4 : (x.new.at_ == y.new.at_) with
                  | false =>
                    have e4' : (x.new.at_ != y.new.at_) = true := by rw [bne, e4]; rfl
                    clear hq e0 g0 e1 g1 e2 g2 e3 g3
                    go_wp2_with fail
                    go_quiet (fail)
                    go_wp2_with fail
                    go_ret
                    refine ⟨ret_bool ?_, below_drewN HW.out _⟩
                    rw [HNE.out]
                  | true =>
                    have g4 := beq_iff_eq.1 e4
                    rw [← g4] at d4
                    cases e5 : (x.new.key == y.new.key) with
                    | false =>
                      have e5' : (x.new.key != y.new.key) = true := by rw [bne, e5]; rfl
                      clear hq e0 g0 e1 g1 e2 g2 e3 g3 e4 g4
                      go_wp2_with fail
                      go_quiet (fail)
                      go_wp2_with fail
                      go_ret
                      refine ⟨ret_bool ?_, below_drewN HW.out _⟩
                      rw [HNE.out]
                    | true =>
                      have g5 := beq_iff_eq.1 e5
                      rw [← g5] at d5
                      cases e6 : (x.new.val == y.new.val) with
                      | false =>
                        have e6' : (x.new.val != y.new.val) = true := by rw [bne, e6]; rfl
                        clear hq e0 g0 e1 g1 e2 g2 e3 g3 e4 g4 e5 g5
                        go_wp2_with fail
                        go_quiet (fail)
                        go_wp2_with fail
                        go_ret
                        refine ⟨ret_bool ?_, below_drewN HW.out _⟩
                        rw [HNE.out]
                      | true =>
                        have g6 := beq_iff_eq.1 e6
                        rw [← g6] at d6
                        have e7 : (x.n == y.n) = false := by
                          cases h : (x.n == y.n) with
                          | false => rfl
                          | true => exact absurd ⟨g0, g1, g2, g3, g4, g5, g6, beq_iff_eq.1 h⟩ hq
                        have e7' : (x.n != y.n) = true := by rw [bne, e7]; rfl
                        clear hq e0 g0 e1 g1 e2 g2 e3 g3 e4 g4 e5 g5 e6 g6
                        go_wp2_with fail
                        go_quiet (fail)
                        go_wp2_with fail
                        go_ret
                        refine ⟨ret_bool ?_, below_drewN HW.out _⟩
                        rw [HNE.out]
      · have hk' : k = n := by omega
        subst hk'
        clear hRa hRb hlt
        go_wp2_with fail
        go_ret
        refine ⟨ret_bool ?_, HW.out⟩
        have h := HT.out
        rw [List.take_of_length_le (by rw [HA.out.len]; exact Nat.le_refl _), List.take_of_length_le (by rw [HB.out.len]; exact Nat.le_refl _)] at h
        simp [h]
end Go.Proofs.Bg
