/- Texts of our own, merged: BgLawGroup. -/
import Derived.Test.YtcbemmlhpinjkaaDoorBgMGr2
import Derived.Test.YtcbemmlhpinjkaaDoorBgMGr3

section
/- BagGroup: the walk of the law. -/
namespace Go.Proofs.Bg
open Go.RowKit

set_option maxRecDepth 100000 in
set_option maxHeartbeats 16000000 in
theorem BagGroup_any (A B D : Option Addr) (n m p capA capB capD : Nat) (a b d : List It) (w : World) (hA : Rd It.vs 4 w 0 A n a) (hB : Rd It.vs 4 w 0 B m b) (hD : Rd It.vs 4 w 0 D p d) (ht : Tab w) :
    Calls Tryd.prog 4 #[.slice A n capA, .slice B m capB, .slice D p capD] w fun e w' => e = .returned (.bool true) ∧ Below w.heap.size w w' := by
  have HA := Lib.hid hA
  have HB := Lib.hid hB
  have HD := Lib.hid hD
  have HT := Lib.hid ht
  clear hA hB hD ht
  cases g0 : bagB a with
  | false =>
    have G0 := Lib.hid g0
    clear g0
    go_enter Tryd.func4, Tryd.ntmps4
    have C := Lib.hid (Good_any A n capA a w HA.out)
    rw [G0.out] at C
    go_wp2_with fail
    (with_reducible refine C.out.mono ?_)
    rintro e w1 ⟨rfl, hb⟩
    have HS0 := Lib.hid hb
    clear hb C
    have C := Lib.hid (known_any w1 (HT.out.below HS0.out))
    go_wp2_with fail
    (with_reducible refine C.out.mono ?_)
    rintro e w2 ⟨rfl, hb⟩
    have HS1 := Lib.hid hb
    clear hb C
    go_wp2_with fail
    go_ret
    exact ⟨rfl, (bchain HS0.out HS1.out)⟩
  | true =>
    cases g1 : bagB b with
    | false =>
      have G0 := Lib.hid g0
      have G1 := Lib.hid g1
      clear g0 g1
      go_enter Tryd.func4, Tryd.ntmps4
      have C := Lib.hid (Good_any A n capA a w HA.out)
      rw [G0.out] at C
      go_wp2_with fail
      (with_reducible refine C.out.mono ?_)
      rintro e w1 ⟨rfl, hb⟩
      have HS0 := Lib.hid hb
      clear hb C
      have C := Lib.hid (Good_any B m capB b w1 (HB.out.below HS0.out))
      rw [G1.out] at C
      go_wp2_with fail
      (with_reducible refine C.out.mono ?_)
      rintro e w2 ⟨rfl, hb⟩
      have HS1 := Lib.hid hb
      clear hb C
      have C := Lib.hid (known_any w2 (HT.out.below (bchain HS0.out HS1.out)))
      go_wp2_with fail
      (with_reducible refine C.out.mono ?_)
      rintro e w3 ⟨rfl, hb⟩
      have HS2 := Lib.hid hb
      clear hb C
      go_wp2_with fail
      go_ret
      exact ⟨rfl, (bchain HS0.out (bchain HS1.out HS2.out))⟩
    | true =>
      cases g2 : bagB d with
      | false =>
        have G0 := Lib.hid g0
        have G1 := Lib.hid g1
        have G2 := Lib.hid g2
        clear g0 g1 g2
        go_enter Tryd.func4, Tryd.ntmps4
        have C := Lib.hid (Good_any A n capA a w HA.out)
        rw [G0.out] at C
        go_wp2_with fail
        (with_reducible refine C.out.mono ?_)
        rintro e w1 ⟨rfl, hb⟩
        have HS0 := Lib.hid hb
        clear hb C
        have C := Lib.hid (Good_any B m capB b w1 (HB.out.below HS0.out))
        rw [G1.out] at C
        go_wp2_with fail
        (with_reducible refine C.out.mono ?_)
        rintro e w2 ⟨rfl, hb⟩
        have HS1 := Lib.hid hb
        clear hb C
        have C := Lib.hid (Good_any D p capD d w2 (HD.out.below (bchain HS0.out HS1.out)))
        rw [G2.out] at C
        go_wp2_with fail
        (with_reducible refine C.out.mono ?_)
        rintro e w3 ⟨rfl, hb⟩
        have HS2 := Lib.hid hb
        clear hb C
        have C := Lib.hid (known_any w3 (HT.out.below (bchain HS0.out (bchain HS1.out HS2.out))))
        go_wp2_with fail
        (with_reducible refine C.out.mono ?_)
        rintro e w4 ⟨rfl, hb⟩
        have HS3 := Lib.hid hb
        clear hb C
        go_wp2_with fail
        go_ret
        exact ⟨rfl, (bchain HS0.out (bchain HS1.out (bchain HS2.out HS3.out)))⟩
      | true =>
        have F1 : Hid (addR b a = addR a b) := addR_comm b a
        have F2 : Hid ((addR a b).2 = 0 ∨ (addR a b).2 = 3) := addR_err g0 g1
        have F3 : Hid (addR a [] = (a, 0)) := addR_nil g0
        have F4 : Hid (negR a = (a.map negIt, 0)) := by show _ = _; unfold negR; rw [g0]; rfl
        have F5 : Hid (addR a (a.map negIt) = ([], 0)) := addR_neg g0
        have F6 : Hid (splitR a = ((isL a, notL a), 0)) := by show _ = _; unfold splitR; rw [g0]; rfl
        have F7 : Hid (negR (notL a) = ((notL a).map negIt, 0)) := by show _ = _; unfold negR; rw [bagB_notL g0]; rfl
        have F8 : Hid (addR (isL a) ((notL a).map negIt) = (a, 0)) := addR_split g0
        have F9 : Hid (plainB (isL a) = true) := by show _ = _; unfold plainB wholeB; rw [bagB_isL g0, whole_isL]; rfl
        have F10 : Hid (plainB (notL a) = true) := by show _ = _; unfold plainB wholeB; rw [bagB_notL g0, whole_notL]; rfl
        have F11 : Hid ((addR a b).2 = 0 → (addR b d).2 = 0 → addR (addR a b).1 d = addR a (addR b d).1) := addR_assoc
        have G0 := Lib.hid g0
        have G1 := Lib.hid g1
        have G2 := Lib.hid g2
        clear g0 g1 g2
        generalize hx : addR a b = x at *
        have HX := Lib.hid hx
        clear hx
        generalize hx : addR b d = z at *
        have HZ := Lib.hid hx
        clear hx
        obtain ⟨l1, e1⟩ := x
        obtain ⟨l7, e7⟩ := z
        dsimp only at F2 F11
        generalize isL a = li at *
        generalize hn : (notL a).map negIt = lm at *
        clear hn
        generalize notL a = ln at *
        generalize a.map negIt = la at *
        go_enter Tryd.func4, Tryd.ntmps4
        have C := Lib.hid (Good_any A n capA a w HA.out)
        rw [G0.out] at C
        go_wp2_with fail
        (with_reducible refine C.out.mono ?_)
        rintro e w1 ⟨rfl, hb⟩
        have HS0 := Lib.hid hb
        clear hb C
        have C := Lib.hid (Good_any B m capB b w1 (HB.out.below HS0.out))
        rw [G1.out] at C
        go_wp2_with fail
        (with_reducible refine C.out.mono ?_)
        rintro e w2 ⟨rfl, hb⟩
        have HS1 := Lib.hid hb
        clear hb C
        have C := Lib.hid (Good_any D p capD d w2 (HD.out.below (bchain HS0.out HS1.out)))
        rw [G2.out] at C
        go_wp2_with fail
        (with_reducible refine C.out.mono ?_)
        rintro e w3 ⟨rfl, hb⟩
        have HS2 := Lib.hid hb
        clear hb C
        have C := Lib.hid ((Add_any A B n m capA capB a b w3 (HA.out.below (bchain HS0.out (bchain HS1.out HS2.out))) (HB.out.below (bchain HS0.out (bchain HS1.out HS2.out)))).mono fun _ _ h => h.lst)
        rw [HX.out] at C
        go_wp2_with fail
        (with_reducible refine C.out.mono ?_)
        rintro e w4 ⟨⟨S1, q1, c1, rfl, hr⟩, hb⟩
        have HS3 := Lib.hid hb
        have HR1 := Lib.hid (hr.low (Nat.zero_le _))
        clear hr
        clear hb C
        have C := Lib.hid ((Add_any B A m n capB capA b a w4 (HB.out.below (bchain HS0.out (bchain HS1.out (bchain HS2.out HS3.out)))) (HA.out.below (bchain HS0.out (bchain HS1.out (bchain HS2.out HS3.out))))).mono fun _ _ h => h.lst)
        rw [F1.out] at C
        go_wp2_with fail
        (with_reducible refine C.out.mono ?_)
        rintro e w5 ⟨⟨S2, q2, c2, rfl, hr⟩, hb⟩
        have HS4 := Lib.hid hb
        have HR2 := Lib.hid (hr.low (Nat.zero_le _))
        clear hr
        clear hb C
        have hf2 := F2.out
        clear F2
        rcases hf2 with rfl | rfl
        · have HE : Hid (decide (l1 = l1) = true) := by show _ = _; simp
          have C := Lib.hid (Equal_any S1 S2 q1 q2 c1 c2 l1 l1 w5 (HR1.out.below HS4.out) HR2.out)
          rw [HE.out] at C
          go_wp2_with fail
          (with_reducible refine C.out.mono ?_)
          rintro e w6 ⟨rfl, hb⟩
          have HS5 := Lib.hid hb
          clear hb C
          clear HE
          have C := Lib.hid ((Add_any A none n 0 capA 0 a ([] : List It) w6 (HA.out.below (bchain HS0.out (bchain HS1.out (bchain HS2.out (bchain HS3.out (bchain HS4.out HS5.out)))))) (Rd.nil _ _ _)).mono fun _ _ h => h.lst)
          rw [F3.out] at C
          go_wp2_with fail
          (with_reducible refine C.out.mono ?_)
          rintro e w7 ⟨⟨S3, q3, c3, rfl, hr⟩, hb⟩
          have HS6 := Lib.hid hb
          have HR3 := Lib.hid (hr.low (Nat.zero_le _))
          clear hr
          clear hb C
          have C := Lib.hid ((Neg_any A n capA a w7 (HA.out.below (bchain HS0.out (bchain HS1.out (bchain HS2.out (bchain HS3.out (bchain HS4.out (bchain HS5.out HS6.out)))))))).mono fun _ _ h => h.lst)
          rw [F4.out] at C
          go_wp2_with fail
          (with_reducible refine C.out.mono ?_)
          rintro e w8 ⟨⟨S4, q4, c4, rfl, hr⟩, hb⟩
          have HS7 := Lib.hid hb
          have HR4 := Lib.hid (hr.low (Nat.zero_le _))
          clear hr
          clear hb C
          have C := Lib.hid ((Add_any A S4 n q4 capA c4 a la w8 (HA.out.below (bchain HS0.out (bchain HS1.out (bchain HS2.out (bchain HS3.out (bchain HS4.out (bchain HS5.out (bchain HS6.out HS7.out)))))))) HR4.out).mono fun _ _ h => h.lst)
          rw [F5.out] at C
          go_wp2_with fail
          (with_reducible refine C.out.mono ?_)
          rintro e w9 ⟨⟨S5, q5, c5, rfl, hr⟩, hb⟩
          have HS8 := Lib.hid hb
          have hq := hr.len
          simp at hq
          subst hq
          clear hr
          clear hb C
          have HE : Hid (decide (a = a) = true) := by show _ = _; simp
          have C := Lib.hid (Equal_any S3 A q3 n c3 capA a a w9 (HR3.out.below (bchain HS7.out HS8.out)) (HA.out.below (bchain HS0.out (bchain HS1.out (bchain HS2.out (bchain HS3.out (bchain HS4.out (bchain HS5.out (bchain HS6.out (bchain HS7.out HS8.out))))))))))
          rw [HE.out] at C
          go_wp2_with fail
          (with_reducible refine C.out.mono ?_)
          rintro e w10 ⟨rfl, hb⟩
          have HS9 := Lib.hid hb
          clear hb C
          clear HE
          have C := Lib.hid (Split_any A n capA a w10 (HA.out.below (bchain HS0.out (bchain HS1.out (bchain HS2.out (bchain HS3.out (bchain HS4.out (bchain HS5.out (bchain HS6.out (bchain HS7.out (bchain HS8.out HS9.out)))))))))))
          rw [F6.out] at C
          go_wp2_with fail
          (with_reducible refine C.out.mono ?_)
          rintro e w11 ⟨⟨S6, q6, c6, S7, q7, c7, rfl, hr, hr2⟩, hb⟩
          have HS10 := Lib.hid hb
          have HR6 := Lib.hid (hr.low (Nat.zero_le _))
          have HR7 := Lib.hid (hr2.low (Nat.zero_le _))
          clear hr hr2
          clear hb C
          have C := Lib.hid ((Neg_any S7 q7 c7 ln w11 HR7.out).mono fun _ _ h => h.lst)
          rw [F7.out] at C
          go_wp2_with fail
          (with_reducible refine C.out.mono ?_)
          rintro e w12 ⟨⟨S8, q8, c8, rfl, hr⟩, hb⟩
          have HS11 := Lib.hid hb
          have HR8 := Lib.hid (hr.low (Nat.zero_le _))
          clear hr
          clear hb C
          have C := Lib.hid ((Add_any S6 S8 q6 q8 c6 c8 li lm w12 (HR6.out.below HS11.out) HR8.out).mono fun _ _ h => h.lst)
          rw [F8.out] at C
          go_wp2_with fail
          (with_reducible refine C.out.mono ?_)
          rintro e w13 ⟨⟨S9, q9, c9, rfl, hr⟩, hb⟩
          have HS12 := Lib.hid hb
          have HR9 := Lib.hid (hr.low (Nat.zero_le _))
          clear hr
          clear hb C
          have C := Lib.hid (Plain_any S6 q6 c6 li w13 (HR6.out.below (bchain HS11.out HS12.out)))
          rw [F9.out] at C
          go_wp2_with fail
          (with_reducible refine C.out.mono ?_)
          rintro e w14 ⟨rfl, hb⟩
          have HS13 := Lib.hid hb
          clear hb C
          have C := Lib.hid (Plain_any S7 q7 c7 ln w14 (HR7.out.below (bchain HS11.out (bchain HS12.out HS13.out))))
          rw [F10.out] at C
          go_wp2_with fail
          (with_reducible refine C.out.mono ?_)
          rintro e w15 ⟨rfl, hb⟩
          have HS14 := Lib.hid hb
          clear hb C
          have HE : Hid (decide (a = a) = true) := by show _ = _; simp
          have C := Lib.hid (Equal_any S9 A q9 n c9 capA a a w15 (HR9.out.below (bchain HS13.out HS14.out)) (HA.out.below (bchain HS0.out (bchain HS1.out (bchain HS2.out (bchain HS3.out (bchain HS4.out (bchain HS5.out (bchain HS6.out (bchain HS7.out (bchain HS8.out (bchain HS9.out (bchain HS10.out (bchain HS11.out (bchain HS12.out (bchain HS13.out HS14.out))))))))))))))))
          rw [HE.out] at C
          go_wp2_with fail
          (with_reducible refine C.out.mono ?_)
          rintro e w16 ⟨rfl, hb⟩
          have HS15 := Lib.hid hb
          clear hb C
          clear HE
          have C := Lib.hid ((Add_any B D m p capB capD b d w16 (HB.out.below (bchain HS0.out (bchain HS1.out (bchain HS2.out (bchain HS3.out (bchain HS4.out (bchain HS5.out (bchain HS6.out (bchain HS7.out (bchain HS8.out (bchain HS9.out (bchain HS10.out (bchain HS11.out (bchain HS12.out (bchain HS13.out (bchain HS14.out HS15.out)))))))))))))))) (HD.out.below (bchain HS0.out (bchain HS1.out (bchain HS2.out (bchain HS3.out (bchain HS4.out (bchain HS5.out (bchain HS6.out (bchain HS7.out (bchain HS8.out (bchain HS9.out (bchain HS10.out (bchain HS11.out (bchain HS12.out (bchain HS13.out (bchain HS14.out HS15.out))))))))))))))))).mono fun _ _ h => h.lst)
          rw [HZ.out] at C
          go_wp2_with fail
          (with_reducible refine C.out.mono ?_)
          rintro e w17 ⟨⟨S10, q10, c10, rfl, hr⟩, hb⟩
          have HS16 := Lib.hid hb
          have HR10 := Lib.hid (hr.low (Nat.zero_le _))
          clear hr
          clear hb C
          cases h7 : (e7 != 0) with
          | true =>
            have C := Lib.hid (known_any w17 (HT.out.below (bchain HS0.out (bchain HS1.out (bchain HS2.out (bchain HS3.out (bchain HS4.out (bchain HS5.out (bchain HS6.out (bchain HS7.out (bchain HS8.out (bchain HS9.out (bchain HS10.out (bchain HS11.out (bchain HS12.out (bchain HS13.out (bchain HS14.out (bchain HS15.out HS16.out))))))))))))))))))
            go_wp2_with fail
            (with_reducible refine C.out.mono ?_)
            rintro e w18 ⟨rfl, hb⟩
            have HS17 := Lib.hid hb
            clear hb C
            go_wp2_with fail
            go_ret
            exact ⟨rfl, (bchain HS0.out (bchain HS1.out (bchain HS2.out (bchain HS3.out (bchain HS4.out (bchain HS5.out (bchain HS6.out (bchain HS7.out (bchain HS8.out (bchain HS9.out (bchain HS10.out (bchain HS11.out (bchain HS12.out (bchain HS13.out (bchain HS14.out (bchain HS15.out (bchain HS16.out HS17.out)))))))))))))))))⟩
          | false =>
            obtain rfl : e7 = 0 := by simpa using h7
            have FA := Lib.hid (F11.out (by trivial) (by trivial))
            clear h7
            have C := Lib.hid ((Add_any S1 D q1 p c1 capD l1 d w17 (HR1.out.below (bchain HS4.out (bchain HS5.out (bchain HS6.out (bchain HS7.out (bchain HS8.out (bchain HS9.out (bchain HS10.out (bchain HS11.out (bchain HS12.out (bchain HS13.out (bchain HS14.out (bchain HS15.out HS16.out))))))))))))) (HD.out.below (bchain HS0.out (bchain HS1.out (bchain HS2.out (bchain HS3.out (bchain HS4.out (bchain HS5.out (bchain HS6.out (bchain HS7.out (bchain HS8.out (bchain HS9.out (bchain HS10.out (bchain HS11.out (bchain HS12.out (bchain HS13.out (bchain HS14.out (bchain HS15.out HS16.out)))))))))))))))))).mono fun _ _ h => h.lst)
            rw [FA.out] at C
            go_wp2_with fail
            (with_reducible refine C.out.mono ?_)
            rintro e w18 ⟨⟨S12, q12, c12, rfl, hr⟩, hb⟩
            have HS17 := Lib.hid hb
            have HR12 := Lib.hid (hr.low (Nat.zero_le _))
            clear hr
            clear hb C
            have C := Lib.hid ((Add_any A S10 n q10 capA c10 a l7 w18 (HA.out.below (bchain HS0.out (bchain HS1.out (bchain HS2.out (bchain HS3.out (bchain HS4.out (bchain HS5.out (bchain HS6.out (bchain HS7.out (bchain HS8.out (bchain HS9.out (bchain HS10.out (bchain HS11.out (bchain HS12.out (bchain HS13.out (bchain HS14.out (bchain HS15.out (bchain HS16.out HS17.out)))))))))))))))))) (HR10.out.below HS17.out)).mono fun _ _ h => h.lst)
            go_wp2_with fail
            (with_reducible refine C.out.mono ?_)
            rintro e w19 ⟨⟨S13, q13, c13, rfl, hr⟩, hb⟩
            have HS18 := Lib.hid hb
            have HR13 := Lib.hid (hr.low (Nat.zero_le _))
            clear hr
            clear hb C
            generalize (addR a l7).2 = e9 at *
            generalize (addR a l7).1 = l9 at *
            have HE : Hid (decide (l9 = l9) = true) := by show _ = _; simp
            have C := Lib.hid (Equal_any S12 S13 q12 q13 c12 c13 l9 l9 w19 (HR12.out.below HS18.out) HR13.out)
            rw [HE.out] at C
            go_wp2_with fail
            (with_reducible refine C.out.mono ?_)
            rintro e w20 ⟨rfl, hb⟩
            have HS19 := Lib.hid hb
            clear hb C
            clear HE
            have C := Lib.hid (known_any w20 (HT.out.below (bchain HS0.out (bchain HS1.out (bchain HS2.out (bchain HS3.out (bchain HS4.out (bchain HS5.out (bchain HS6.out (bchain HS7.out (bchain HS8.out (bchain HS9.out (bchain HS10.out (bchain HS11.out (bchain HS12.out (bchain HS13.out (bchain HS14.out (bchain HS15.out (bchain HS16.out (bchain HS17.out (bchain HS18.out HS19.out)))))))))))))))))))))
            go_wp2_with fail
            (with_reducible refine C.out.mono ?_)
            rintro e w21 ⟨rfl, hb⟩
            have HS20 := Lib.hid hb
            clear hb C
            go_wp2_with fail
            go_ret
            exact ⟨rfl, (bchain HS0.out (bchain HS1.out (bchain HS2.out (bchain HS3.out (bchain HS4.out (bchain HS5.out (bchain HS6.out (bchain HS7.out (bchain HS8.out (bchain HS9.out (bchain HS10.out (bchain HS11.out (bchain HS12.out (bchain HS13.out (bchain HS14.out (bchain HS15.out (bchain HS16.out (bchain HS17.out (bchain HS18.out (bchain HS19.out HS20.out))))))))))))))))))))⟩
        · clear F11
          have HE : Hid (decide (l1 = l1) = true) := by show _ = _; simp
          have C := Lib.hid (Equal_any S1 S2 q1 q2 c1 c2 l1 l1 w5 (HR1.out.below HS4.out) HR2.out)
          rw [HE.out] at C
          go_wp2_with fail
          (with_reducible refine C.out.mono ?_)
          rintro e w6 ⟨rfl, hb⟩
          have HS5 := Lib.hid hb
          clear hb C
          clear HE
          have C := Lib.hid ((Add_any A none n 0 capA 0 a ([] : List It) w6 (HA.out.below (bchain HS0.out (bchain HS1.out (bchain HS2.out (bchain HS3.out (bchain HS4.out HS5.out)))))) (Rd.nil _ _ _)).mono fun _ _ h => h.lst)
          rw [F3.out] at C
          go_wp2_with fail
          (with_reducible refine C.out.mono ?_)
          rintro e w7 ⟨⟨S3, q3, c3, rfl, hr⟩, hb⟩
          have HS6 := Lib.hid hb
          have HR3 := Lib.hid (hr.low (Nat.zero_le _))
          clear hr
          clear hb C
          have C := Lib.hid ((Neg_any A n capA a w7 (HA.out.below (bchain HS0.out (bchain HS1.out (bchain HS2.out (bchain HS3.out (bchain HS4.out (bchain HS5.out HS6.out)))))))).mono fun _ _ h => h.lst)
          rw [F4.out] at C
          go_wp2_with fail
          (with_reducible refine C.out.mono ?_)
          rintro e w8 ⟨⟨S4, q4, c4, rfl, hr⟩, hb⟩
          have HS7 := Lib.hid hb
          have HR4 := Lib.hid (hr.low (Nat.zero_le _))
          clear hr
          clear hb C
          have C := Lib.hid ((Add_any A S4 n q4 capA c4 a la w8 (HA.out.below (bchain HS0.out (bchain HS1.out (bchain HS2.out (bchain HS3.out (bchain HS4.out (bchain HS5.out (bchain HS6.out HS7.out)))))))) HR4.out).mono fun _ _ h => h.lst)
          rw [F5.out] at C
          go_wp2_with fail
          (with_reducible refine C.out.mono ?_)
          rintro e w9 ⟨⟨S5, q5, c5, rfl, hr⟩, hb⟩
          have HS8 := Lib.hid hb
          have hq := hr.len
          simp at hq
          subst hq
          clear hr
          clear hb C
          have HE : Hid (decide (a = a) = true) := by show _ = _; simp
          have C := Lib.hid (Equal_any S3 A q3 n c3 capA a a w9 (HR3.out.below (bchain HS7.out HS8.out)) (HA.out.below (bchain HS0.out (bchain HS1.out (bchain HS2.out (bchain HS3.out (bchain HS4.out (bchain HS5.out (bchain HS6.out (bchain HS7.out HS8.out))))))))))
          rw [HE.out] at C
          go_wp2_with fail
          (with_reducible refine C.out.mono ?_)
          rintro e w10 ⟨rfl, hb⟩
          have HS9 := Lib.hid hb
          clear hb C
          clear HE
          have C := Lib.hid (Split_any A n capA a w10 (HA.out.below (bchain HS0.out (bchain HS1.out (bchain HS2.out (bchain HS3.out (bchain HS4.out (bchain HS5.out (bchain HS6.out (bchain HS7.out (bchain HS8.out HS9.out)))))))))))
          rw [F6.out] at C
          go_wp2_with fail
          (with_reducible refine C.out.mono ?_)
          rintro e w11 ⟨⟨S6, q6, c6, S7, q7, c7, rfl, hr, hr2⟩, hb⟩
          have HS10 := Lib.hid hb
          have HR6 := Lib.hid (hr.low (Nat.zero_le _))
          have HR7 := Lib.hid (hr2.low (Nat.zero_le _))
          clear hr hr2
          clear hb C
          have C := Lib.hid ((Neg_any S7 q7 c7 ln w11 HR7.out).mono fun _ _ h => h.lst)
          rw [F7.out] at C
          go_wp2_with fail
          (with_reducible refine C.out.mono ?_)
          rintro e w12 ⟨⟨S8, q8, c8, rfl, hr⟩, hb⟩
          have HS11 := Lib.hid hb
          have HR8 := Lib.hid (hr.low (Nat.zero_le _))
          clear hr
          clear hb C
          have C := Lib.hid ((Add_any S6 S8 q6 q8 c6 c8 li lm w12 (HR6.out.below HS11.out) HR8.out).mono fun _ _ h => h.lst)
          rw [F8.out] at C
          go_wp2_with fail
          (with_reducible refine C.out.mono ?_)
          rintro e w13 ⟨⟨S9, q9, c9, rfl, hr⟩, hb⟩
          have HS12 := Lib.hid hb
          have HR9 := Lib.hid (hr.low (Nat.zero_le _))
          clear hr
          clear hb C
          have C := Lib.hid (Plain_any S6 q6 c6 li w13 (HR6.out.below (bchain HS11.out HS12.out)))
          rw [F9.out] at C
          go_wp2_with fail
          (with_reducible refine C.out.mono ?_)
          rintro e w14 ⟨rfl, hb⟩
          have HS13 := Lib.hid hb
          clear hb C
          have C := Lib.hid (Plain_any S7 q7 c7 ln w14 (HR7.out.below (bchain HS11.out (bchain HS12.out HS13.out))))
          rw [F10.out] at C
          go_wp2_with fail
          (with_reducible refine C.out.mono ?_)
          rintro e w15 ⟨rfl, hb⟩
          have HS14 := Lib.hid hb
          clear hb C
          have HE : Hid (decide (a = a) = true) := by show _ = _; simp
          have C := Lib.hid (Equal_any S9 A q9 n c9 capA a a w15 (HR9.out.below (bchain HS13.out HS14.out)) (HA.out.below (bchain HS0.out (bchain HS1.out (bchain HS2.out (bchain HS3.out (bchain HS4.out (bchain HS5.out (bchain HS6.out (bchain HS7.out (bchain HS8.out (bchain HS9.out (bchain HS10.out (bchain HS11.out (bchain HS12.out (bchain HS13.out HS14.out))))))))))))))))
          rw [HE.out] at C
          go_wp2_with fail
          (with_reducible refine C.out.mono ?_)
          rintro e w16 ⟨rfl, hb⟩
          have HS15 := Lib.hid hb
          clear hb C
          clear HE
          have C := Lib.hid ((Add_any B D m p capB capD b d w16 (HB.out.below (bchain HS0.out (bchain HS1.out (bchain HS2.out (bchain HS3.out (bchain HS4.out (bchain HS5.out (bchain HS6.out (bchain HS7.out (bchain HS8.out (bchain HS9.out (bchain HS10.out (bchain HS11.out (bchain HS12.out (bchain HS13.out (bchain HS14.out HS15.out)))))))))))))))) (HD.out.below (bchain HS0.out (bchain HS1.out (bchain HS2.out (bchain HS3.out (bchain HS4.out (bchain HS5.out (bchain HS6.out (bchain HS7.out (bchain HS8.out (bchain HS9.out (bchain HS10.out (bchain HS11.out (bchain HS12.out (bchain HS13.out (bchain HS14.out HS15.out))))))))))))))))).mono fun _ _ h => h.lst)
          rw [HZ.out] at C
          go_wp2_with fail
          (with_reducible refine C.out.mono ?_)
          rintro e w17 ⟨⟨S10, q10, c10, rfl, hr⟩, hb⟩
          have HS16 := Lib.hid hb
          have HR10 := Lib.hid (hr.low (Nat.zero_le _))
          clear hr
          clear hb C
          have C := Lib.hid (known_any w17 (HT.out.below (bchain HS0.out (bchain HS1.out (bchain HS2.out (bchain HS3.out (bchain HS4.out (bchain HS5.out (bchain HS6.out (bchain HS7.out (bchain HS8.out (bchain HS9.out (bchain HS10.out (bchain HS11.out (bchain HS12.out (bchain HS13.out (bchain HS14.out (bchain HS15.out HS16.out))))))))))))))))))
          go_wp2_with fail
          (with_reducible refine C.out.mono ?_)
          rintro e w18 ⟨rfl, hb⟩
          have HS17 := Lib.hid hb
          clear hb C
          go_wp2_with fail
          go_ret
          exact ⟨rfl, (bchain HS0.out (bchain HS1.out (bchain HS2.out (bchain HS3.out (bchain HS4.out (bchain HS5.out (bchain HS6.out (bchain HS7.out (bchain HS8.out (bchain HS9.out (bchain HS10.out (bchain HS11.out (bchain HS12.out (bchain HS13.out (bchain HS14.out (bchain HS15.out (bchain HS16.out HS17.out)))))))))))))))))⟩
end Go.Proofs.Bg
end
