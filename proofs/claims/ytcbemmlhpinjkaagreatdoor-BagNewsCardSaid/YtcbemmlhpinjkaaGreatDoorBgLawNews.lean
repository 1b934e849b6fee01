/- BagNews: the walk of the law. -/
import Derived.Test.YtcbemmlhpinjkaaGreatDoorBgKnown
import Derived.Test.YtcbemmlhpinjkaaGreatDoorBgWipe
namespace Go.Proofs.Bg
open Go.RowKit

set_option maxRecDepth 100000 in
set_option maxHeartbeats 4000000 in
theorem BagNews_any (A B : Option Addr) (n m capA capB : Nat) (a b : List It) (w : World) (hA : Rd It.vs 4 w 0 A n a) (hB : Rd It.vs 4 w 0 B m b) (hcA : n ≤ capA) (hSA : n * 32 ≤ 140737488355328) (hSB : m * 32 ≤ 140737488355328) (ht : Tab w) :
    Calls Tryz.prog 5 #[.slice A n capA, .slice B m capB] w fun e w' => e = .returned (.bool true) ∧ Below w.heap.size w w' := by
  have HA := Lib.hid hA
  have HB := Lib.hid hB
  have HT := Lib.hid ht
  have HC := Lib.hid hcA
  have HSA := Lib.hid hSA
  have HSB := Lib.hid hSB
  clear hA hB ht hcA hSA hSB
  generalize hp : newR a = p at *
  have HP := Lib.hid hp
  clear hp
  go_enter Tryz.func5, Tryz.ntmps5
  go_wp2_with (at_builtin; go_loud (refine wpList_copy 40 _ 32 infoIt rfl rfl _ _ _ rfl Tryz.underlying22 rfl (fun c => nilI _ _ c) 0 n capA A a rfl HA.out HSA.out (by have := HSA.out; unfold maxLen; omega) (fun v1 w1 hown1 hg1 => ?_)))
  have hb1 : Below w.heap.size w w1 := (Below.refl _ _).grown hg1 (Nat.le_refl _) (fun k e => by cases e)
  obtain ⟨A1, c1, rfl⟩ := hown1.shape
  have hla : a.length = n := HA.out.len
  have hlb : b.length = m := HB.out.len
  rw [hla] at hown1 ⊢
  have HO1 := Lib.hid hown1
  have HB1 := Lib.hid hb1
  have HLA := Lib.hid hla
  have HLB := Lib.hid hlb
  have C2 := Lib.hid (Copy_any B m capB b w1 (HB.out.below hb1) HSB.out)
  clear hown1 hg1 hb1 hla hlb
  go_wp2_with fail
  (with_reducible refine C2.out.mono ?_)
  rintro e w2 ⟨v2, rfl, hown2, hb2⟩
  obtain ⟨A2, c2, rfl⟩ := hown2.shape
  rw [HLB.out] at hown2 ⊢
  have hown12 := HO1.out.below hb2
  have hr1 := hown12.rdOf It.vs_length
  rw [HLA.out] at hr1
  have hr2 := hown2.rdOf It.vs_length
  rw [HLB.out] at hr2
  have C3 := Lib.hid (New_any A1 n c1 a w2 (hr1.low (Nat.zero_le _)) HSA.out)
  have HO2 := Lib.hid hown12
  have HR1 := Lib.hid (hr1.low (Nat.zero_le _))
  have HR2 := Lib.hid (hr2.low (Nat.zero_le _))
  have HB2 := Lib.hid (bchain HB1.out hb2)
  have HG1 := Lib.hid hown12.blk
  clear hown2 hown12 hr1 hr2 hb2 C2
  rw [HP.out] at C3
  go_wp2_with fail
  (with_reducible refine C3.out.mono ?_)
  rintro e w3 ⟨A3, c3, rfl, hr3, hb3⟩
  have C4 := Lib.hid (Check_any A2 m c2 b w3 (HR2.out.below hb3))
  have HR3 := Lib.hid hr3
  have HB23 := Lib.hid hb3
  generalize p.1.length = q at *
  generalize hp2 : p.2 = c at *
  have HP2 := Lib.hid hp2
  clear hr3 hb3 hp2 C3
  go_wp2_with fail
  (with_reducible refine C4.out.mono ?_)
  rintro e w4 ⟨rfl, hb4⟩
  have HB24 := Lib.hid (bchain HB23.out hb4)
  have HR3b := Lib.hid (HR3.out.below hb4)
  have C5 := Lib.hid (NewR_any A n capA a w4 (HA.out.below (bchain HB2.out HB24.out)) HC.out HSA.out)
  rw [HP.out] at C5
  clear hb4 C4
  generalize hcb : chk b = cb at *
  have HCB := Lib.hid hcb
  clear hcb
  go_wp2_with fail
  (with_reducible refine C5.out.mono ?_)
  rintro e w5 ⟨⟨A5, q5, c5, rfl, hr5⟩, hb5⟩
  rw [HP2.out]
  have HB25 := Lib.hid (bchain HB24.out hb5)
  have HR3c := Lib.hid (HR3b.out.below hb5)
  have HR5 := Lib.hid (hr5.low (Nat.le_trans HB24.out.size (Nat.le_refl _)))
  have C6 := Lib.hid (Same_any A3 A5 q q5 c3 c5 p.1 p.1 w5 (HR3c.out.low (Nat.zero_le _)) (hr5.low (Nat.zero_le _)))
  have hdec : decide (p.1 = p.1) = true := by simp
  have HDEC := Lib.hid hdec
  clear hr5 hb5 hdec C5
  go_wp2_with fail
  (with_reducible refine C6.out.mono ?_)
  rintro e w6 ⟨rfl, hb6⟩
  rw [HDEC.out]
  have HB26 := Lib.hid (bchain HB25.out hb6)
  have HR36 := Lib.hid (HR3c.out.below hb6)
  have HR56 := Lib.hid (HR5.out.below hb6)
  have C7 := Lib.hid (CheckR_any B m capB b w6 (HB.out.below (bchain HB2.out HB26.out)))
  rw [HCB.out] at C7
  clear hb6 C6
  go_wp2_with fail
  (with_reducible refine C7.out.mono ?_)
  rintro e w7 ⟨rfl, hb7⟩
  have HB27 := Lib.hid (bchain HB26.out hb7)
  have HR37 := Lib.hid (HR36.out.below hb7)
  have HR57 := Lib.hid (HR56.out.below hb7)
  have C8 := Lib.hid (Same_any A1 A n n c1 capA a a w7 (HR1.out.below HB27.out) (HA.out.below (bchain HB2.out HB27.out)))
  have hdec : decide (a = a) = true := by simp
  have HDA := Lib.hid hdec
  clear hb7 C7 hdec
  go_wp2_with fail
  (with_reducible refine C8.out.mono ?_)
  rintro e w8 ⟨rfl, hb8⟩
  rw [HDA.out]
  have HB28 := Lib.hid (bchain HB27.out hb8)
  have HR38 := Lib.hid (HR37.out.below hb8)
  have HR58 := Lib.hid (HR57.out.below hb8)
  have C9 := Lib.hid (Same_any A2 B m m c2 capB b b w8 (HR2.out.below HB28.out) (HB.out.below (bchain HB2.out HB28.out)))
  have hdec : decide (b = b) = true := by simp
  have HDB := Lib.hid hdec
  clear hb8 C8 hdec
  go_wp2_with fail
  (with_reducible refine C9.out.mono ?_)
  rintro e w9 ⟨rfl, hb9⟩
  rw [HDB.out]
  have HB29 := Lib.hid (bchain HB28.out hb9)
  have HR39 := Lib.hid (HR38.out.below hb9)
  have HR59 := Lib.hid (HR58.out.below hb9)
  have HO9 := Lib.hid (HO2.out.below HB29.out)
  have hn9 : n ≤ 4398046511104 := by have := HSA.out; omega
  clear hb9 C9
  go_wp2_with fail
  have HST := Lib.hid (WipeRel.start (w' := w9) HO9.out HLA.out)
  go_loopw [12] (fun i wr => ∃ k : Nat, k ≤ n ∧ i = .int .i64 k ∧ WipeRel (Value.slice A1 n c1).ownBlock n w9 wr) (fun i _ => n - (intOf i).toNat)
  case atStart => exact ⟨0, by omega, rfl, HST.out⟩
  case round =>
    obtain ⟨k, hk, rfl, hW⟩ := hrel
    have HW := Lib.hid hW
    clear hW HST
    by_cases hlt : k < n
    · obtain ⟨g, rfl⟩ : ∃ g, A1 = some ⟨g, 0, none⟩ := by
        rcases HO9.out.2 with ⟨e, e0⟩ | ⟨g, cap, cur, e, _⟩
        · have := HLA.out; omega
        · cases e; exact ⟨g, rfl⟩
      obtain ⟨cc, u0, u1, u2, u3, hbk, hcs, d0, d1, d2, d3⟩ := HW.out.at_ rfl hlt
      have z0 := free_at_block (off := k * 4) hbk
      have z1 := free_at_block (off := k * 4 + 1) hbk
      have z2 := free_at_block (off := k * 4 + 2) hbk
      have z3 := free_at_block (off := k * 4 + 3) hbk
      have HBK := Lib.hid hbk
      have HCS := Lib.hid hcs
      clear hbk hcs
      go_wp2_with fail
      exact ⟨⟨k + 1, by omega, by go_num, HW.out.set rfl HBK.out HCS.out _ _ _ _ _ _ _ _⟩, by simp [intOf]; omega⟩
    · have hk' : k = n := by omega
      subst hk'
      clear hlt
      have hrow : ∀ g, (Value.slice A1 k c1).ownBlock = some g → g < w2.heap.size := fun g e => (HG1.out g e).2
      have HRX := Lib.hid (HR39.out.wiped HW.out.1 hrow)
      have HRY := Lib.hid (HR59.out.wiped HW.out.1 hrow)
      have hbw : Below w.heap.size w wr := (bchain HB2.out HB29.out).grown HW.out.1 (bchain HB2.out HB29.out).size (fun g e => Nat.le_trans (Nat.le_refl _) (HG1.out g e).1)
      have HBW := Lib.hid hbw
      have C10 := Lib.hid (Same_any A3 A5 q q5 c3 c5 p.1 p.1 wr (HRX.out.low (Nat.zero_le _)) (HRY.out.low (Nat.zero_le _)))
      clear hrow hbw
      go_wp2_with fail
      (with_reducible refine C10.out.mono ?_)
      rintro e w10 ⟨rfl, hb10⟩
      rw [HDEC.out]
      have HBF := Lib.hid (bchain HBW.out hb10)
      have C11 := Lib.hid (known_any w10 (HT.out.below HBF.out))
      clear hb10 C10
      go_wp2_with fail
      (with_reducible refine C11.out.mono ?_)
      rintro e w11 ⟨rfl, hb11⟩
      have HBE := Lib.hid (bchain HBF.out hb11)
      clear hb11
      go_wp2_with fail
      go_ret
      exact ⟨rfl, HBE.out⟩
end Go.Proofs.Bg
