/- The law's examples: known answers true. -/
import Derived.Laws.IdiomStrings
import Derived.Test.YtcbemmlhpinjkaaGreatDoorBgVals
import Derived.Test.YtcbemmlhpinjkaaGreatDoorBgSame
namespace Go.Proofs.Bg
open Go.RowKit

def KBag (w : World) (n : Nat) (l : List It) (e : Ending) (w' : World) : Prop := ∃ A k, e = .returned (.tuple #[.slice A n k, .int .i64 0]) ∧ Rd It.vs 4 w' 0 A n l ∧ Below w.heap.size w w'
theorem kbag {w w' : World} {l : List It} {n : Nat} {e : Ending} (hn : l.length = n) (h : RetBag w (l, 0) e w') : KBag w n l e w' := by
  obtain ⟨A, k, he, hr, hb⟩ := h
  subst hn
  exact ⟨A, k, he, hr.low (Nat.zero_le _), hb⟩
theorem kAdd_any (A B : Option Addr) (ca cb : Nat) (w : World) (hA : Rd It.vs 4 w 0 A 3 bL) (hB : Rd It.vs 4 w 0 B 2 cL) : Calls Tryz.prog 24 #[.slice A 3 ca, .slice B 2 cb] w (KBag w 3 kAdd) := by
  have h := Add_any A B 3 2 ca cb bL cL w hA hB
  rw [vAdd] at h
  exact h.mono fun _ _ h => kbag rfl h
theorem kNeg_any (B : Option Addr) (cb : Nat) (w : World) (hB : Rd It.vs 4 w 0 B 2 cL) : Calls Tryz.prog 25 #[.slice B 2 cb] w (KBag w 2 kNeg) := by
  have h := Neg_any B 2 cb cL w hB
  rw [vNeg] at h
  exact h.mono fun _ _ h => kbag rfl h
theorem kNew_any (B : Option Addr) (cb : Nat) (w : World) (hB : Rd It.vs 4 w 0 B 3 kNew0) : Calls Tryz.prog 20 #[.slice B 3 cb] w (KBag w 1 kNew) := by
  have h := New_any B 3 cb kNew0 w hB (by omega)
  rw [vNew] at h
  exact h.mono fun _ _ h => kbag rfl h
theorem kPair_any (A B : Option Addr) (ca cb : Nat) (w : World) (hA : Rd It.vs 4 w 0 A 3 bL) (hB : Rd It.vs 4 w 0 B 2 cL) : Calls Tryz.prog 11 #[.slice A 3 ca, .slice B 2 cb, .int .i64 1] w (KBag w 4 kPair) := by
  have h := Pair_any A B 3 2 ca cb bL cL 1 w hA hB
  rw [vPair] at h
  exact h.mono fun _ _ h => kbag rfl h
theorem kEds_any (A B : Option Addr) (ca cb : Nat) (w : World) (hA : Rd It.vs 4 w 0 A 3 bL) (hB : Rd It.vs 4 w 0 B 2 cL) : Calls Tryz.prog 30 #[.slice A 3 ca, .slice B 2 cb] w fun e w' => ∃ A k, e = .returned (.tuple #[.slice A 3 k, .int .i64 0]) ∧ Rd Ed.vs 8 w' 0 A 3 kEds ∧ Below w.heap.size w w' := by
  have h := Edits_any A B 3 2 ca cb bL cL w hA hB
  rw [vEds] at h
  exact h.mono fun _ _ ⟨A, k, he, hr, hb⟩ => ⟨A, k, he, hr.low (Nat.zero_le _), hb⟩
theorem kPrint_any (A : Option Addr) (ca : Nat) (w : World) (hA : Rd It.vs 4 w 0 A 3 bL) (ht : Tab w) : Calls Tryz.prog 15 #[.slice A 3 ca] w fun e w' => e = .returned (.tuple #[.string { data := #[49, 32, 50, 32, 51, 32, 49, 59, 32, 49, 32, 50, 32, 53, 32, 45, 50, 59, 32, 52, 32, 48, 32, 48, 32, 49] }, .int .i64 0]) ∧ Below w.heap.size w w' := by
  have h := Print_any A 3 ca bL w hA ht
  rw [vText] at h
  exact h
theorem kBytes_any (B : Option Addr) (cb : Nat) (w : World) (hB : Rd It.vs 4 w 0 B 2 cL) : Calls Tryz.prog 40 #[.slice B 2 cb] w fun e w' => ∃ A k, e = .returned (.tuple #[.slice A 9 k, .int .i64 0]) ∧ Rd bv 1 w' 0 A 9 kBytes ∧ Below w.heap.size w w' := by
  have h := Bytes_any B 2 cb cL w hB
  rw [vBytes] at h
  exact h.mono fun _ _ ⟨A, k, he, hr, hb⟩ => ⟨A, k, he, hr.low (Nat.zero_le _), hb⟩
theorem kParse_any (w : World) : Calls Tryz.prog 17 #[.string { data := #[49, 32, 50, 32, 51, 32, 48] }] w fun e w' => ∃ A k, e = .returned (.tuple #[.slice A 0 k, .int .i64 4]) ∧ Below w.heap.size w w' := by
  have h := Parse_any kSrc w (by decide)
  rw [vParse] at h
  exact h.mono fun _ _ ⟨A, k, he, _, hb⟩ => ⟨A, k, he, hb⟩
theorem kSame_any (A B : Option Addr) (n ca cb : Nat) (l : List It) (w : World) (hA : Rd It.vs 4 w 0 A n l) (hB : Rd It.vs 4 w 0 B n l) : Calls Tryz.prog 13 #[.slice A n ca, .slice B n cb] w fun e w' => e = .returned (.bool true) ∧ Below w.heap.size w w' :=
  (Same_any A B n n ca cb l l w hA hB).mono fun _ _ ⟨he, hb⟩ => ⟨by rw [he]; simp, hb⟩
theorem kSameE_any (A B : Option Addr) (n ca cb : Nat) (l : List Ed) (w : World) (hA : Rd Ed.vs 8 w 0 A n l) (hB : Rd Ed.vs 8 w 0 B n l) : Calls Tryz.prog 34 #[.slice A n ca, .slice B n cb] w fun e w' => e = .returned (.bool true) ∧ Below w.heap.size w w' :=
  (SameEdits_any A B n n ca cb l l w hA hB).mono fun _ _ ⟨he, hb⟩ => ⟨by rw [he]; simp, hb⟩

theorem conv_rd {w : World} {lo k : Nat} {A : Option Addr} (l : List UInt8) (hl : 0 < l.length) (h : Rd bv 1 w lo A l.length (intsOf l)) : (convert 59 9 (.slice A l.length k)).run Tryz.prog w = .ok (.string ⟨l.toArray⟩) w := by
  obtain ⟨b, off, rfl, _, hc⟩ := h.2.2 hl
  refine run_convert_bytes_back w _ _ 5 ⟨b, off, none⟩ k l Tryz.underlying59 Tryz.underlying5 Tryz.underlying9 fun j hj => ?_
  have e1 : (⟨b, off, none⟩ : Addr).add j = ⟨b, off + j, none⟩ := by unfold Addr.add; split <;> simp_all
  have hx : (intsOf l)[j]? = some (l[j].toNat : Int) := by simp [intsOf, List.getElem?_eq_getElem hj]
  have := hc j _ hx 0 _ rfl
  have e2 : off + j * 1 + 0 = off + j := by omega
  rw [e1, ← e2]
  exact this

set_option maxRecDepth 100000 in
set_option maxHeartbeats 8000000 in
theorem known_any (w : World) (ht : Tab w) : Calls Tryz.prog 14 #[] w fun e w' => e = .returned (.bool true) ∧ Below w.heap.size w w' := by
  have HT := Lib.hid ht
  have HW := Lib.hid (Below.refl w.heap.size w)
  clear ht
  go_enter Tryz.func14, Tryz.ntmps14
  go_wp2_with fail
  (with_reducible refine (B_any _).mono ?_)
  rintro e w1 ⟨A1, k1, rfl, hr1, hb1⟩
  have hx1 := hb1
  replace HW := Lib.hid (bchain HW.out hx1)
  replace HT := Lib.hid (HT.out.below hx1)
  have RB := Lib.hid hr1
  clear hx1 hb1 hr1
  go_wp2_with fail
  (with_reducible refine (C_any _).mono ?_)
  rintro e w2 ⟨A2, k2, rfl, hr2, hb2⟩
  have hx2 := hb2
  replace HW := Lib.hid (bchain HW.out hx2)
  replace HT := Lib.hid (HT.out.below hx2)
  replace RB := Lib.hid (RB.out.below hx2)
  have RC := Lib.hid hr2
  clear hx2 hb2 hr2
  go_wp2_with fail
  (with_reducible refine (kAdd_any _ _ _ _ _ RB.out RC.out).mono ?_)
  rintro e w3 ⟨A3, k3, rfl, hr3, hb3⟩
  have hx3 := hb3
  replace HW := Lib.hid (bchain HW.out hx3)
  replace HT := Lib.hid (HT.out.below hx3)
  replace RB := Lib.hid (RB.out.below hx3)
  replace RC := Lib.hid (RC.out.below hx3)
  have RAdd := Lib.hid hr3
  clear hx3 hb3 hr3
  go_wp2_with fail
  (with_reducible refine (C_any _).mono ?_)
  rintro e w4 ⟨A4, k4, rfl, hr4, hb4⟩
  have hx4 := hb4
  replace HW := Lib.hid (bchain HW.out hx4)
  replace HT := Lib.hid (HT.out.below hx4)
  replace RAdd := Lib.hid (RAdd.out.below hx4)
  have RC := Lib.hid hr4
  clear hx4 hb4 hr4
  go_wp2_with fail
  (with_reducible refine (kNeg_any _ _ _ RC.out).mono ?_)
  rintro e w5 ⟨A5, k5, rfl, hr5, hb5⟩
  have hx5 := hb5
  replace HW := Lib.hid (bchain HW.out hx5)
  replace HT := Lib.hid (HT.out.below hx5)
  replace RAdd := Lib.hid (RAdd.out.below hx5)
  replace RC := Lib.hid (RC.out.below hx5)
  have RNeg := Lib.hid hr5
  clear hx5 hb5 hr5
  go_wp2_with fail
  (with_reducible refine (lit_any _ _ _ _ _).mono ?_)
  rintro e w6 ⟨rfl, hb6⟩
  have hx6 := hb6
  replace HW := Lib.hid (bchain HW.out hx6)
  replace HT := Lib.hid (HT.out.below hx6)
  replace RAdd := Lib.hid (RAdd.out.below hx6)
  replace RNeg := Lib.hid (RNeg.out.below hx6)
  clear hx6 hb6
  go_wp2_with fail
  (with_reducible refine (lit_any _ _ _ _ _).mono ?_)
  rintro e w7 ⟨rfl, hb7⟩
  have hx7 := hb7
  replace HW := Lib.hid (bchain HW.out hx7)
  replace HT := Lib.hid (HT.out.below hx7)
  replace RAdd := Lib.hid (RAdd.out.below hx7)
  replace RNeg := Lib.hid (RNeg.out.below hx7)
  clear hx7 hb7
  go_wp2_with fail
  (with_reducible refine (lit_any _ _ _ _ _).mono ?_)
  rintro e w8 ⟨rfl, hb8⟩
  have hx8 := hb8
  replace HW := Lib.hid (bchain HW.out hx8)
  replace HT := Lib.hid (HT.out.below hx8)
  replace RAdd := Lib.hid (RAdd.out.below hx8)
  replace RNeg := Lib.hid (RNeg.out.below hx8)
  clear hx8 hb8
  go_wp2_with fail
  (with_reducible refine (kNew_any _ _ _ (rd_cells It.vs_length kNew0 (new_block _ _ _) rfl (by decide))).mono ?_)
  rintro e w9 ⟨A9, k9, rfl, hr9, hb9⟩
  have hx9 := bchain (below_new _ _) hb9
  replace HW := Lib.hid (bchain HW.out hx9)
  replace HT := Lib.hid (HT.out.below hx9)
  replace RAdd := Lib.hid (RAdd.out.below hx9)
  replace RNeg := Lib.hid (RNeg.out.below hx9)
  have RNew := Lib.hid hr9
  clear hx9 hb9 hr9
  go_wp2_with fail
  (with_reducible refine (lit_any _ _ _ _ _).mono ?_)
  rintro e w10 ⟨rfl, hb10⟩
  have hx10 := hb10
  replace HW := Lib.hid (bchain HW.out hx10)
  replace HT := Lib.hid (HT.out.below hx10)
  replace RAdd := Lib.hid (RAdd.out.below hx10)
  replace RNeg := Lib.hid (RNeg.out.below hx10)
  replace RNew := Lib.hid (RNew.out.below hx10)
  clear hx10 hb10
  go_wp2_with fail
  (with_reducible refine (lit_any _ _ _ _ _).mono ?_)
  rintro e w11 ⟨rfl, hb11⟩
  have hx11 := hb11
  replace HW := Lib.hid (bchain HW.out hx11)
  replace HT := Lib.hid (HT.out.below hx11)
  replace RAdd := Lib.hid (RAdd.out.below hx11)
  replace RNeg := Lib.hid (RNeg.out.below hx11)
  replace RNew := Lib.hid (RNew.out.below hx11)
  clear hx11 hb11
  go_wp2_with fail
  (with_reducible refine (lit_any _ _ _ _ _).mono ?_)
  rintro e w12 ⟨rfl, hb12⟩
  have hx12 := hb12
  replace HW := Lib.hid (bchain HW.out hx12)
  replace HT := Lib.hid (HT.out.below hx12)
  replace RAdd := Lib.hid (RAdd.out.below hx12)
  replace RNeg := Lib.hid (RNeg.out.below hx12)
  replace RNew := Lib.hid (RNew.out.below hx12)
  clear hx12 hb12
  go_wp2_with fail
  (with_reducible refine (kSame_any _ _ _ _ _ kAdd _ (RAdd.out.below (below_new _ _)) (rd_cells It.vs_length kAdd (new_block _ _ _) rfl (by decide))).mono ?_)
  rintro e w13 ⟨rfl, hb13⟩
  have hx13 := bchain (below_new _ _) hb13
  replace HW := Lib.hid (bchain HW.out hx13)
  replace HT := Lib.hid (HT.out.below hx13)
  replace RAdd := Lib.hid (RAdd.out.below hx13)
  replace RNeg := Lib.hid (RNeg.out.below hx13)
  replace RNew := Lib.hid (RNew.out.below hx13)
  clear hx13 hb13
  go_wp2_with fail
  (with_reducible refine (lit_any _ _ _ _ _).mono ?_)
  rintro e w14 ⟨rfl, hb14⟩
  have hx14 := hb14
  replace HW := Lib.hid (bchain HW.out hx14)
  replace HT := Lib.hid (HT.out.below hx14)
  replace RNeg := Lib.hid (RNeg.out.below hx14)
  replace RNew := Lib.hid (RNew.out.below hx14)
  clear hx14 hb14
  go_wp2_with fail
  (with_reducible refine (lit_any _ _ _ _ _).mono ?_)
  rintro e w15 ⟨rfl, hb15⟩
  have hx15 := hb15
  replace HW := Lib.hid (bchain HW.out hx15)
  replace HT := Lib.hid (HT.out.below hx15)
  replace RNeg := Lib.hid (RNeg.out.below hx15)
  replace RNew := Lib.hid (RNew.out.below hx15)
  clear hx15 hb15
  go_wp2_with fail
  (with_reducible refine (kSame_any _ _ _ _ _ kNeg _ (RNeg.out.below (below_new _ _)) (rd_cells It.vs_length kNeg (new_block _ _ _) rfl (by decide))).mono ?_)
  rintro e w16 ⟨rfl, hb16⟩
  have hx16 := bchain (below_new _ _) hb16
  replace HW := Lib.hid (bchain HW.out hx16)
  replace HT := Lib.hid (HT.out.below hx16)
  replace RNeg := Lib.hid (RNeg.out.below hx16)
  replace RNew := Lib.hid (RNew.out.below hx16)
  clear hx16 hb16
  go_wp2_with fail
  (with_reducible refine (lit_any _ _ _ _ _).mono ?_)
  rintro e w17 ⟨rfl, hb17⟩
  have hx17 := hb17
  replace HW := Lib.hid (bchain HW.out hx17)
  replace HT := Lib.hid (HT.out.below hx17)
  replace RNew := Lib.hid (RNew.out.below hx17)
  clear hx17 hb17
  go_wp2_with fail
  (with_reducible refine (kSame_any _ _ _ _ _ kNew _ (RNew.out.below (below_new _ _)) (rd_cells It.vs_length kNew (new_block _ _ _) rfl (by decide))).mono ?_)
  rintro e w18 ⟨rfl, hb18⟩
  have hx18 := bchain (below_new _ _) hb18
  replace HW := Lib.hid (bchain HW.out hx18)
  replace HT := Lib.hid (HT.out.below hx18)
  replace RNew := Lib.hid (RNew.out.below hx18)
  clear hx18 hb18
  go_wp2_with fail
  (with_reducible refine (B_any _).mono ?_)
  rintro e w19 ⟨A19, k19, rfl, hr19, hb19⟩
  have hx19 := hb19
  replace HW := Lib.hid (bchain HW.out hx19)
  replace HT := Lib.hid (HT.out.below hx19)
  have RB := Lib.hid hr19
  clear hx19 hb19 hr19
  go_wp2_with fail
  (with_reducible refine (C_any _).mono ?_)
  rintro e w20 ⟨A20, k20, rfl, hr20, hb20⟩
  have hx20 := hb20
  replace HW := Lib.hid (bchain HW.out hx20)
  replace HT := Lib.hid (HT.out.below hx20)
  replace RB := Lib.hid (RB.out.below hx20)
  have RC := Lib.hid hr20
  clear hx20 hb20 hr20
  go_wp2_with fail
  (with_reducible refine (kPair_any _ _ _ _ _ RB.out RC.out).mono ?_)
  rintro e w21 ⟨A21, k21, rfl, hr21, hb21⟩
  have hx21 := hb21
  replace HW := Lib.hid (bchain HW.out hx21)
  replace HT := Lib.hid (HT.out.below hx21)
  replace RB := Lib.hid (RB.out.below hx21)
  replace RC := Lib.hid (RC.out.below hx21)
  have RPair := Lib.hid hr21
  clear hx21 hb21 hr21
  go_wp2_with fail
  (with_reducible refine (B_any _).mono ?_)
  rintro e w22 ⟨A22, k22, rfl, hr22, hb22⟩
  have hx22 := hb22
  replace HW := Lib.hid (bchain HW.out hx22)
  replace HT := Lib.hid (HT.out.below hx22)
  replace RPair := Lib.hid (RPair.out.below hx22)
  have RB := Lib.hid hr22
  clear hx22 hb22 hr22
  go_wp2_with fail
  (with_reducible refine (C_any _).mono ?_)
  rintro e w23 ⟨A23, k23, rfl, hr23, hb23⟩
  have hx23 := hb23
  replace HW := Lib.hid (bchain HW.out hx23)
  replace HT := Lib.hid (HT.out.below hx23)
  replace RPair := Lib.hid (RPair.out.below hx23)
  replace RB := Lib.hid (RB.out.below hx23)
  have RC := Lib.hid hr23
  clear hx23 hb23 hr23
  go_wp2_with fail
  (with_reducible refine (kEds_any _ _ _ _ _ RB.out RC.out).mono ?_)
  rintro e w24 ⟨A24, k24, rfl, hr24, hb24⟩
  have hx24 := hb24
  replace HW := Lib.hid (bchain HW.out hx24)
  replace HT := Lib.hid (HT.out.below hx24)
  replace RPair := Lib.hid (RPair.out.below hx24)
  replace RB := Lib.hid (RB.out.below hx24)
  replace RC := Lib.hid (RC.out.below hx24)
  have REds := Lib.hid hr24
  clear hx24 hb24 hr24
  go_wp2_with fail
  (with_reducible refine (B_any _).mono ?_)
  rintro e w25 ⟨A25, k25, rfl, hr25, hb25⟩
  have hx25 := hb25
  replace HW := Lib.hid (bchain HW.out hx25)
  replace HT := Lib.hid (HT.out.below hx25)
  replace RPair := Lib.hid (RPair.out.below hx25)
  replace REds := Lib.hid (REds.out.below hx25)
  have RB := Lib.hid hr25
  clear hx25 hb25 hr25
  go_wp2_with fail
  (with_reducible refine (kPrint_any _ _ _ RB.out HT.out).mono ?_)
  rintro e w26 ⟨rfl, hb26⟩
  have hx26 := hb26
  replace HW := Lib.hid (bchain HW.out hx26)
  replace HT := Lib.hid (HT.out.below hx26)
  replace RPair := Lib.hid (RPair.out.below hx26)
  replace REds := Lib.hid (REds.out.below hx26)
  replace RB := Lib.hid (RB.out.below hx26)
  clear hx26 hb26
  go_wp2_with fail
  (with_reducible refine (lit_any _ _ _ _ _).mono ?_)
  rintro e w27 ⟨rfl, hb27⟩
  have hx27 := hb27
  replace HW := Lib.hid (bchain HW.out hx27)
  replace HT := Lib.hid (HT.out.below hx27)
  replace RPair := Lib.hid (RPair.out.below hx27)
  replace REds := Lib.hid (REds.out.below hx27)
  clear hx27 hb27
  go_wp2_with fail
  (with_reducible refine (lit_any _ _ _ _ _).mono ?_)
  rintro e w28 ⟨rfl, hb28⟩
  have hx28 := hb28
  replace HW := Lib.hid (bchain HW.out hx28)
  replace HT := Lib.hid (HT.out.below hx28)
  replace RPair := Lib.hid (RPair.out.below hx28)
  replace REds := Lib.hid (REds.out.below hx28)
  clear hx28 hb28
  go_wp2_with fail
  (with_reducible refine (lit_any _ _ _ _ _).mono ?_)
  rintro e w29 ⟨rfl, hb29⟩
  have hx29 := hb29
  replace HW := Lib.hid (bchain HW.out hx29)
  replace HT := Lib.hid (HT.out.below hx29)
  replace RPair := Lib.hid (RPair.out.below hx29)
  replace REds := Lib.hid (REds.out.below hx29)
  clear hx29 hb29
  go_wp2_with fail
  (with_reducible refine (lit_any _ _ _ _ _).mono ?_)
  rintro e w30 ⟨rfl, hb30⟩
  have hx30 := hb30
  replace HW := Lib.hid (bchain HW.out hx30)
  replace HT := Lib.hid (HT.out.below hx30)
  replace RPair := Lib.hid (RPair.out.below hx30)
  replace REds := Lib.hid (REds.out.below hx30)
  clear hx30 hb30
  go_wp2_with fail
  (with_reducible refine (kSame_any _ _ _ _ _ kPair _ (RPair.out.below (below_new _ _)) (rd_cells It.vs_length kPair (new_block _ _ _) rfl (by decide))).mono ?_)
  rintro e w31 ⟨rfl, hb31⟩
  have hx31 := bchain (below_new _ _) hb31
  replace HW := Lib.hid (bchain HW.out hx31)
  replace HT := Lib.hid (HT.out.below hx31)
  replace RPair := Lib.hid (RPair.out.below hx31)
  replace REds := Lib.hid (REds.out.below hx31)
  clear hx31 hb31
  go_wp2_with fail
  (with_reducible refine (rec_any _ _ _ _).mono ?_)
  rintro e w32 ⟨rfl, hb32⟩
  have hx32 := hb32
  replace HW := Lib.hid (bchain HW.out hx32)
  replace HT := Lib.hid (HT.out.below hx32)
  replace REds := Lib.hid (REds.out.below hx32)
  clear hx32 hb32
  go_wp2_with fail
  (with_reducible refine (rec_any _ _ _ _).mono ?_)
  rintro e w33 ⟨rfl, hb33⟩
  have hx33 := hb33
  replace HW := Lib.hid (bchain HW.out hx33)
  replace HT := Lib.hid (HT.out.below hx33)
  replace REds := Lib.hid (REds.out.below hx33)
  clear hx33 hb33
  go_wp2_with fail
  (with_reducible refine (rec_any _ _ _ _).mono ?_)
  rintro e w34 ⟨rfl, hb34⟩
  have hx34 := hb34
  replace HW := Lib.hid (bchain HW.out hx34)
  replace HT := Lib.hid (HT.out.below hx34)
  replace REds := Lib.hid (REds.out.below hx34)
  clear hx34 hb34
  go_wp2_with fail
  (with_reducible refine (rec_any _ _ _ _).mono ?_)
  rintro e w35 ⟨rfl, hb35⟩
  have hx35 := hb35
  replace HW := Lib.hid (bchain HW.out hx35)
  replace HT := Lib.hid (HT.out.below hx35)
  replace REds := Lib.hid (REds.out.below hx35)
  clear hx35 hb35
  go_wp2_with fail
  (with_reducible refine (C_any _).mono ?_)
  rintro e w36 ⟨A36, k36, rfl, hr36, hb36⟩
  have hx36 := bchain (below_new _ _) hb36
  have hwant := (rd_cells Ed.vs_length kEds (new_block w35 _ 79) rfl (by decide)).below hb36
  replace HW := Lib.hid (bchain HW.out hx36)
  replace HT := Lib.hid (HT.out.below hx36)
  replace REds := Lib.hid (REds.out.below hx36)
  have RC := Lib.hid hr36
  clear hx36 hb36 hr36
  have RWant : Hid (Rd Ed.vs 8 w36 0 (some ⟨w35.heap.size, 0, none⟩) 3 kEds) := hwant
  clear hwant
  go_wp2_with fail
  (with_reducible refine (kBytes_any _ _ _ RC.out).mono ?_)
  rintro e w37 ⟨A37, k37, rfl, hr37, hb37⟩
  have hx37 := hb37
  replace HW := Lib.hid (bchain HW.out hx37)
  replace HT := Lib.hid (HT.out.below hx37)
  replace REds := Lib.hid (REds.out.below hx37)
  replace RC := Lib.hid (RC.out.below hx37)
  replace RWant := Lib.hid (RWant.out.below hx37)
  have RBy := Lib.hid hr37
  clear hx37 hb37 hr37
  go_wp2_with fail
  (with_reducible refine (kParse_any _).mono ?_)
  rintro e w38 ⟨A38, k38, rfl, hb38⟩
  have hx38 := hb38
  replace HW := Lib.hid (bchain HW.out hx38)
  replace HT := Lib.hid (HT.out.below hx38)
  replace REds := Lib.hid (REds.out.below hx38)
  replace RWant := Lib.hid (RWant.out.below hx38)
  replace RBy := Lib.hid (RBy.out.below hx38)
  clear hx38 hb38
  go_wp2_with fail
  (with_reducible refine (kSameE_any _ _ _ _ _ kEds _ REds.out RWant.out).mono ?_)
  rintro e w39 ⟨rfl, hb39⟩
  have hx39 := hb39
  replace HW := Lib.hid (bchain HW.out hx39)
  replace HT := Lib.hid (HT.out.below hx39)
  replace REds := Lib.hid (REds.out.below hx39)
  replace RWant := Lib.hid (RWant.out.below hx39)
  replace RBy := Lib.hid (RBy.out.below hx39)
  clear hx39 hb39
  have hcv1 := conv_rd (k := k37) [2, 1, 4, 6, 1, 1, 4, 14, 6] (by decide) RBy.out
  have hcv2 := conv_rd (k := 9) [2, 1, 4, 6, 1, 1, 4, 14, 6] (by decide) (rd_cells (sz := 1) (fun _ => rfl) (intsOf [2, 1, 4, 6, 1, 1, 4, 14, 6]) (new_block w39 #[.int .u8 2, .int .u8 1, .int .u8 4, .int .u8 6, .int .u8 1, .int .u8 1, .int .u8 4, .int .u8 14, .int .u8 6] 5) rfl (by decide))
  simp only [List.length_cons, List.length_nil, Nat.reduceAdd] at hcv1 hcv2
  go_wp2_with fail
  go_ret
  exact ⟨rfl, bchain HW.out (below_new _ _)⟩
end Go.Proofs.Bg
