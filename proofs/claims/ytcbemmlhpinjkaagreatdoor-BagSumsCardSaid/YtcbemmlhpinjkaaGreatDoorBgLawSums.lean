/- BagSums: the walk of the law. -/
import Derived.Test.YtcbemmlhpinjkaaGreatDoorBgKnown
import Derived.Test.YtcbemmlhpinjkaaGreatDoorBgWipe
import Derived.Test.YtcbemmlhpinjkaaGreatDoorBgSumsR
import Derived.Test.YtcbemmlhpinjkaaGreatDoorBgSplit
namespace Go.Proofs.Bg
open Go.RowKit

theorem RetBag.new {w w' : World} {p : List It × Int} {e : Ending} (h : RetBag w p e w') : RetNew w p e w' := by
  obtain ⟨A, cap, he, hr, hb⟩ := h
  exact ⟨⟨A, _, cap, he, hr⟩, hb⟩
theorem below_row {w W W' : World} {row : Option Nat} (h : Below w.heap.size w W) (hg : W.grownBy W' row) (hr : ∀ g, row = some g → w.heap.size ≤ g) : Below w.heap.size w W' := h.grown hg h.size hr

set_option maxRecDepth 100000 in
set_option maxHeartbeats 8000000 in
theorem BagSums_any (A B : Option Addr) (n m capA capB : Nat) (a b : List It) (w : World) (hA : Rd It.vs 4 w 0 A n a) (hB : Rd It.vs 4 w 0 B m b) (hSA : n * 32 ≤ 140737488355328) (hSB : m * 32 ≤ 140737488355328) (ht : Tab w) :
    Calls Tryz.prog 6 #[.slice A n capA, .slice B m capB] w fun e w' => e = .returned (.bool true) ∧ Below w.heap.size w w' := by
  have HA := Lib.hid hA
  have HB := Lib.hid hB
  have HT := Lib.hid ht
  have HSA := Lib.hid hSA
  have HSB := Lib.hid hSB
  have HLA : Hid (a.length = n) := hA.len
  have HLB : Hid (b.length = m) := hB.len
  clear hA hB ht hSA hSB
  generalize hp : addR a b = ps at *
  have HPS := Lib.hid hp
  clear hp
  generalize hp : negR a = px at *
  have HPX := Lib.hid hp
  clear hp
  generalize hp : splitR b = py at *
  have HPY := Lib.hid hp
  clear hp
  have C := Lib.hid (Copy_any A n capA a w HA.out HSA.out)
  go_enter Tryz.func6, Tryz.ntmps6
  go_wp2_with fail
  (with_reducible refine C.out.mono ?_)
  rintro e w1 ⟨v1, rfl, hown1, hb1⟩
  obtain ⟨A1, c1, rfl⟩ := hown1.shape
  rw [HLA.out] at hown1 ⊢
  have HO1 := Lib.hid hown1
  have HB1 := Lib.hid hb1
  clear hown1 hb1 C
  have C := Lib.hid (Copy_any B m capB b w1 (HB.out.below HB1.out) HSB.out)
  go_wp2_with fail
  (with_reducible refine C.out.mono ?_)
  rintro e w2 ⟨v2, rfl, hown2, hb2⟩
  obtain ⟨A2, c2, rfl⟩ := hown2.shape
  rw [HLB.out] at hown2 ⊢
  have HB12 := Lib.hid hb2
  have HO12 := Lib.hid (HO1.out.below hb2)
  have HO2 := Lib.hid hown2
  clear hown2 hb2 C
  have HB2 := Lib.hid (bchain HB1.out HB12.out)
  have HRP : Hid (Rd It.vs 4 w2 0 A1 n a) := by
    have h := HO12.out.rdOf It.vs_length
    rw [HLA.out] at h
    exact h.low (Nat.zero_le _)
  have HRQ : Hid (Rd It.vs 4 w2 0 A2 m b) := by
    have h := HO2.out.rdOf It.vs_length
    rw [HLB.out] at h
    exact h.low (Nat.zero_le _)
  have C := Lib.hid ((Add_any A1 A2 n m c1 c2 a b w2 HRP.out HRQ.out).mono fun _ _ h => h.new)
  rw [HPS.out] at C
  go_wp2_with fail
  (with_reducible refine C.out.mono ?_)
  rintro e w3 ⟨⟨S3, q3, c3, rfl, hr3⟩, hb3⟩
  have HR3 := Lib.hid hr3
  have HB23 := Lib.hid hb3
  clear hr3 hb3 C
  have C := Lib.hid ((Neg_any A1 n c1 a w3 (HRP.out.below HB23.out)).mono fun _ _ h => h.new)
  rw [HPX.out] at C
  go_wp2_with fail
  (with_reducible refine C.out.mono ?_)
  rintro e w4 ⟨⟨S4, q4, c4, rfl, hr4⟩, hb4⟩
  have HR4 := Lib.hid hr4
  have HB34 := Lib.hid hb4
  have HB24 := Lib.hid (bchain HB23.out hb4)
  clear hr4 hb4 C
  have C := Lib.hid (Split_any A2 m c2 b w4 (HRQ.out.below HB24.out))
  rw [HPY.out] at C
  go_wp2_with fail
  (with_reducible refine C.out.mono ?_)
  rintro e w5 ⟨⟨S5, q5, c5, S6, q6, c6, rfl, hr5, hr6⟩, hb5⟩
  have HR5 := Lib.hid hr5
  have HR6 := Lib.hid hr6
  have HB45 := Lib.hid hb5
  have HB25 := Lib.hid (bchain HB24.out hb5)
  clear hr5 hr6 hb5 C
  have C := Lib.hid (Same_any A1 A n n c1 capA a a w5 (HRP.out.below HB25.out) (HA.out.below (bchain HB2.out HB25.out)))
  have HDA : Hid (decide (a = a) = true) := by show _ = _; simp
  rw [HDA.out] at C
  go_wp2_with fail
  (with_reducible refine C.out.mono ?_)
  rintro e w6 ⟨rfl, hb6⟩
  have HB26 := Lib.hid (bchain HB25.out hb6)
  have HB56 := Lib.hid hb6
  clear hb6 C
  have C := Lib.hid (Same_any A2 B m m c2 capB b b w6 (HRQ.out.below HB26.out) (HB.out.below (bchain HB2.out HB26.out)))
  have HDB : Hid (decide (b = b) = true) := by show _ = _; simp
  rw [HDB.out] at C
  go_wp2_with fail
  (with_reducible refine C.out.mono ?_)
  rintro e w7 ⟨rfl, hb7⟩
  have HB27 := Lib.hid (bchain HB26.out hb7)
  have HB57 := Lib.hid (bchain HB56.out hb7)
  clear hb7 C
  have hn9 : n ≤ 4398046511104 := by have := HSA.out; omega
  have hm9 : m ≤ 4398046511104 := by have := HSB.out; omega
  have HO17 := Lib.hid (HO12.out.below HB27.out)
  have HO27 := Lib.hid (HO2.out.below HB27.out)
  have HST := Lib.hid (WipeRel.start (w' := w7) HO17.out HLA.out)
  go_wp2_with fail
  go_loopw [14] (fun i wr => ∃ k : Nat, k ≤ n ∧ i = .int .i64 k ∧ WipeRel (Value.slice A1 n c1).ownBlock n w7 wr) (fun i _ => n - (intOf i).toNat)
  case atStart => exact ⟨0, by omega, rfl, HST.out⟩
  case round =>
    obtain ⟨k, hk, rfl, hW⟩ := hrel
    have HW := Lib.hid hW
    clear hW HST
    by_cases hlt : k < n
    · obtain ⟨g, rfl⟩ : ∃ g, A1 = some ⟨g, 0, none⟩ := by
        rcases HO17.out.2 with ⟨e, e0⟩ | ⟨g, cap, cur, e, _⟩
        · have := HLA.out; omega
        · cases e; exact ⟨g, rfl⟩
      obtain ⟨cc, u0, u1, u2, u3, hbk, hcs, d0, d1, d2, d3⟩ := HW.out.at_ rfl hlt
      have z0 := free_at_block (off := k * 4) hbk
      have z1 := free_at_block (off := k * 4 + 1) hbk
      have z2 := free_at_block (off := k * 4 + 2) hbk
      have z3 := free_at_block (off := k * 4 + 3) hbk
      have HBK := Lib.hid hbk
      have HCS := Lib.hid hcs
      clear hbk hcs
      go_wp2_with fail
      exact ⟨⟨k + 1, by omega, by go_num, HW.out.set rfl HBK.out HCS.out _ _ _ _ _ _ _ _⟩, by simp [intOf]; omega⟩
    · have hk' : k = n := by omega
      subst hk'
      clear hlt
      obtain ⟨wp, rfl⟩ : ∃ wp : World, wp = wr := ⟨_, rfl⟩
      have hlow1 : ∀ g, (Value.slice A1 k c1).ownBlock = some g → g < w1.heap.size := fun g e => (HO1.out.blk g e).2
      have hge1 : ∀ g, (Value.slice A1 k c1).ownBlock = some g → w.heap.size ≤ g := fun g e => (HO1.out.blk g e).1
      have hown2p := HO27.out.grown HW.out.1 (by
        cases hu : (Value.slice A2 m c2).ownBlock with
        | none => exact .inl rfl
        | some g =>
          refine .inr fun e => ?_
          have h1 := hlow1 g e.symm
          have h2 := (HO2.out.blk g hu).1
          omega)
      have hGP : w7.grownBy wp (Value.slice A1 k c1).ownBlock := HW.out.1
      have hbp := below_row (bchain HB2.out HB27.out) HW.out.1 hge1
      have hlow2 : ∀ g, (Value.slice A1 k c1).ownBlock = some g → g < w2.heap.size := fun g e => Nat.lt_of_lt_of_le (hlow1 g e) HB12.out.size
      have HGP := Lib.hid hGP
      have HBP := Lib.hid hbp
      have HL2 := Lib.hid hlow2
      have HO2P := Lib.hid hown2p
      have HST2 := Lib.hid (WipeRel.start (w' := wp) hown2p HLB.out)
      have HSZ : Hid (w2.heap.size ≤ w7.heap.size) := HB27.out.size
      clear hlow1 hge1 hown2p hGP hbp hlow2
      go_wp2_with fail
      go_loopw [15] (fun i wr => ∃ k : Nat, k ≤ m ∧ i = .int .i64 k ∧ WipeRel (Value.slice A2 m c2).ownBlock m wp wr) (fun i _ => m - (intOf i).toNat)
      case atStart => exact ⟨0, by omega, rfl, HST2.out⟩
      case round =>
        obtain ⟨j, hj, rfl, hW2⟩ := hrel
        have HW2 := Lib.hid hW2
        clear hW2 HST2
        by_cases hlt : j < m
        · obtain ⟨g, rfl⟩ : ∃ g, A2 = some ⟨g, 0, none⟩ := by
            rcases HO2P.out.2 with ⟨e, e0⟩ | ⟨g, cap, cur, e, _⟩
            · have := HLB.out; omega
            · cases e; exact ⟨g, rfl⟩
          obtain ⟨cc, u0, u1, u2, u3, hbk, hcs, d0, d1, d2, d3⟩ := HW2.out.at_ rfl hlt
          have z0 := free_at_block (off := j * 4) hbk
          have z1 := free_at_block (off := j * 4 + 1) hbk
          have z2 := free_at_block (off := j * 4 + 2) hbk
          have z3 := free_at_block (off := j * 4 + 3) hbk
          have HBK := Lib.hid hbk
          have HCS := Lib.hid hcs
          clear hbk hcs
          go_wp2_with fail
          exact ⟨⟨j + 1, by omega, by go_num, HW2.out.set rfl HBK.out HCS.out _ _ _ _ _ _ _ _⟩, by simp [intOf]; omega⟩
        · have hj' : j = m := by omega
          subst hj'
          clear hlt
          have hlowq : ∀ g, (Value.slice A2 j c2).ownBlock = some g → g < w2.heap.size := fun g e => (HO2.out.blk g e).2
          have hgeq : ∀ g, (Value.slice A2 j c2).ownBlock = some g → w.heap.size ≤ g := fun g e => Nat.le_trans HB1.out.size (HO2.out.blk g e).1
          have HBQ := Lib.hid (below_row HBP.out HW2.out.1 hgeq)
          have stay : ∀ {lo n : Nat} {A : Option Addr} {l : List It}, Rd It.vs 4 w7 lo A n l → w2.heap.size ≤ lo → Rd It.vs 4 wr lo A n l := fun h hl =>
            (h.wiped HGP.out (fun g e => Nat.lt_of_lt_of_le (HL2.out g e) hl)).wiped HW2.out.1 (fun g e => Nat.lt_of_lt_of_le (hlowq g e) hl)
          have HS3 := Lib.hid ((stay (HR3.out.below (bchain HB34.out (bchain HB45.out HB57.out))) (Nat.le_refl _)).low (Nat.zero_le _))
          have HS4 := Lib.hid ((stay (HR4.out.below (bchain HB45.out HB57.out)) HB23.out.size).low (Nat.zero_le _))
          have HS5 := Lib.hid ((stay (HR5.out.below HB57.out) HB24.out.size).low (Nat.zero_le _))
          have HS6 := Lib.hid ((stay (HR6.out.below HB57.out) HB24.out.size).low (Nat.zero_le _))
          clear stay hlowq hgeq
          have C := Lib.hid (Sum_any A B k j capA capB a b wr (HA.out.below HBQ.out) (HB.out.below HBQ.out))
          rw [HPS.out] at C
          go_wp2_with fail
          (with_reducible refine C.out.mono ?_)
          rintro e w8 ⟨⟨T3, r3, d3, rfl, ht3⟩, hb8⟩
          have HT3 := Lib.hid (ht3.low (Nat.zero_le _))
          have HB8 := Lib.hid hb8
          clear ht3 hb8 C
          have C := Lib.hid (Contrary_any A k capA a w8 (HA.out.below (bchain HBQ.out HB8.out)))
          rw [HPX.out] at C
          go_wp2_with fail
          (with_reducible refine C.out.mono ?_)
          rintro e w9 ⟨⟨T4, r4, d4, rfl, ht4⟩, hb9⟩
          have HT4 := Lib.hid (ht4.low (Nat.zero_le _))
          have HB89 := Lib.hid hb9
          have HB9 := Lib.hid (bchain HB8.out hb9)
          clear ht4 hb9 C
          have C := Lib.hid (SplitR_any B j capB b w9 (HB.out.below (bchain HBQ.out HB9.out)))
          rw [HPY.out] at C
          go_wp2_with fail
          (with_reducible refine C.out.mono ?_)
          rintro e w10 ⟨⟨T5, r5, d5, T6, r6, d6, rfl, ht5, ht6⟩, hb10⟩
          have HT5 := Lib.hid (ht5.low (Nat.zero_le _))
          have HT6 := Lib.hid (ht6.low (Nat.zero_le _))
          have HB910 := Lib.hid hb10
          have HB10 := Lib.hid (bchain HB9.out hb10)
          clear ht5 ht6 hb10 C
          generalize ps.2 = e1 at *
          generalize px.2 = e2 at *
          generalize py.2 = e3 at *
          generalize ps.1 = l3 at *
          generalize px.1 = l4 at *
          generalize py.1.1 = l5 at *
          generalize py.1.2 = l6 at *
          have HD : Hid (decide (l3 = l3) = true) := by show _ = _; simp
          have C := Lib.hid (Same_any S3 T3 q3 r3 c3 d3 l3 l3 w10 (HS3.out.below HB10.out) (HT3.out.below (bchain HB89.out HB910.out)))
          rw [HD.out] at C
          go_wp2_with fail
          (with_reducible refine C.out.mono ?_)
          rintro e w11 ⟨rfl, hb11⟩
          have HB11 := Lib.hid (bchain HB10.out hb11)
          have HB911 := Lib.hid (bchain HB910.out hb11)
          have HB1011 := Lib.hid hb11
          clear hb11 C HD
          have HD : Hid (decide (l4 = l4) = true) := by show _ = _; simp
          have C := Lib.hid (Same_any S4 T4 q4 r4 c4 d4 l4 l4 w11 (HS4.out.below HB11.out) (HT4.out.below HB911.out))
          rw [HD.out] at C
          go_wp2_with fail
          (with_reducible refine C.out.mono ?_)
          rintro e w12 ⟨rfl, hb12⟩
          have HB12b := Lib.hid (bchain HB11.out hb12)
          have HB1012 := Lib.hid (bchain HB1011.out hb12)
          clear hb12 C HD
          have HD : Hid (decide (l5 = l5) = true) := by show _ = _; simp
          have C := Lib.hid (Same_any S5 T5 q5 r5 c5 d5 l5 l5 w12 (HS5.out.below HB12b.out) (HT5.out.below HB1012.out))
          rw [HD.out] at C
          go_wp2_with fail
          (with_reducible refine C.out.mono ?_)
          rintro e w13 ⟨rfl, hb13⟩
          have HB13 := Lib.hid (bchain HB12b.out hb13)
          have HB1013 := Lib.hid (bchain HB1012.out hb13)
          clear hb13 C HD
          have HD : Hid (decide (l6 = l6) = true) := by show _ = _; simp
          have C := Lib.hid (Same_any S6 T6 q6 r6 c6 d6 l6 l6 w13 (HS6.out.below HB13.out) (HT6.out.below HB1013.out))
          rw [HD.out] at C
          go_wp2_with fail
          (with_reducible refine C.out.mono ?_)
          rintro e w14 ⟨rfl, hb14⟩
          have HB14 := Lib.hid (bchain HBQ.out (bchain HB13.out hb14))
          clear hb14 C
          have C := Lib.hid (known_any w14 (HT.out.below HB14.out))
          go_wp2_with fail
          (with_reducible refine C.out.mono ?_)
          rintro e w15 ⟨rfl, hb15⟩
          have HBE := Lib.hid (bchain HB14.out hb15)
          clear hb15 C
          go_wp2_with fail
          go_ret
          exact ⟨rfl, HBE.out⟩
end Go.Proofs.Bg
