/- The contract of isBag: it tells whether a list of items is a formed bag. -/
import Derived.Test.YtcbemmlhpinjkaaGreatDoorBgLeaf
namespace Go.Proofs.Bg
open Go.RowKit Go.Sort

def itB (x : It) : Bool := recB x.r && (!(x.n == 0) && withinB x.n (-1000000) 1000000)
/-- Item k is formed, and stands behind the one before it. -/
def stepB (l : List It) (k : Nat) : Bool :=
  match l[k]? with
  | some x => itB x && (match k with | 0 => true | j + 1 => match l[j]? with | some y => decide (rcmp y.r x.r < 0) | none => true)
  | none => true
def bagTo (l : List It) (k : Nat) : Bool := (List.range k).all (stepB l)
def bagB (l : List It) : Bool := bagTo l l.length && decide (l.length ≤ 300)

theorem bagTo_succ (l : List It) (k : Nat) : bagTo l (k + 1) = (bagTo l k && stepB l k) := by simp [bagTo, List.range_succ]
theorem bagTo_false {l : List It} {k n : Nat} (h : stepB l k = false) (hk : k < n) : bagTo l n = false := by
  unfold bagTo
  rw [List.all_eq_false]
  exact ⟨k, List.mem_range.2 hk, by simp [h]⟩

theorem bagB_false {l : List It} {k n : Nat} (h : stepB l k = false) (hl : l.length = n) (hk : k < n) : bagB l = false := by
  unfold bagB
  rw [bagTo_false h (by omega)]
  rfl
theorem bagB_true {l : List It} {n : Nat} (h : bagTo l n = true) (hl : l.length = n) : bagB l = decide (n ≤ 300) := by
  subst hl
  unfold bagB
  rw [h]
  rfl

/-- What the loop holds: a plain word for the walk. -/
def BagRel (l : List It) (w : World) (k : Nat) (wr : World) : Prop := bagTo l k = true ∧ Below w.heap.size w wr

set_option maxRecDepth 100000 in
set_option maxHeartbeats 1000000 in
theorem isBag_any (A : Option Addr) (n cap : Nat) (l : List It) (w : World) (hR : Rd It.vs 4 w 0 A n l) :
    Calls Tryz.prog 47 #[.slice A n cap] w fun e w' => e = .returned (.bool (bagB l)) ∧ Below w.heap.size w w' := by
  have hn := hR.le
  have HR := Lib.hid hR
  clear hR
  go_enter Tryz.func47, Tryz.ntmps47
  go_wp2_with fail
  go_loopw [2, 3, 4, 7] (fun _ _ _ i wr => ∃ k : Nat, k ≤ n ∧ i = .int .i64 k ∧ BagRel l w k wr) (fun _ _ _ i _ => n - (intOf i).toNat)
  case atStart => exact ⟨0, by omega, rfl, rfl, Below.refl _ _⟩
  case round =>
    obtain ⟨k, hk, rfl, hto, hB⟩ := hrel
    have hRk := HR.out.below hB
    have HB := Lib.hid hB
    have HT := Lib.hid hto
    clear hB hto
    by_cases hlt : k < n
    · obtain ⟨b, off, x, rfl, _, hx, c0, c1, c2, c3⟩ := hRk.it_at hlt
      have HX := Lib.hid hx
      clear hx
      cases hr : recB x.r with
      | false =>
        have HRC := Lib.hid hr
        clear hr hRk
        go_wp2_with (go_at_call 66; refine (isRec_any x.r _).mono ?_; rintro e w' ⟨rfl, hb1⟩; rw [HRC.out]; have HB1 := Lib.hid hb1; clear hb1)
        go_ret
        refine ⟨ret_bool ?_, ?_⟩
        · have : stepB l k = false := by simp [stepB, HX.out, itB, HRC.out]
          rw [bagB_false this HR.out.len hlt]
        · exact below_box HB.out HB.out.size HB1.out
      | true =>
        have HRC := Lib.hid hr
        clear hr
        cases hz : (x.n == 0) with
        | true =>
          clear hRk
          go_wp2_with (go_at_call 66; refine (isRec_any x.r _).mono ?_; rintro e w' ⟨rfl, hb1⟩; rw [HRC.out]; obtain ⟨f0, f1, f2, f3⟩ := box4 hb1; have HB1 := Lib.hid hb1; clear hb1)
          go_ret
          refine ⟨ret_bool ?_, ?_⟩
          · have : stepB l k = false := by simp [stepB, HX.out, itB, HRC.out, hz]
            rw [bagB_false this HR.out.len hlt]
          · exact below_box HB.out HB.out.size HB1.out
        | false =>
          cases hm : withinB x.n (-1000000) 1000000 with
          | false =>
            have HM := Lib.hid hm
            clear hRk hm
            go_wp2_with (first | (go_at_call 66; refine (isRec_any x.r _).mono ?_; rintro e w' ⟨rfl, hb1⟩; rw [HRC.out]; obtain ⟨f0, f1, f2, f3⟩ := box4 hb1; have HB1 := Lib.hid hb1; clear hb1) | (go_at_call 67; refine (within_any _ _ _ _).mono ?_; rintro e w' ⟨rfl, rfl⟩; rw [HM.out]))
            go_ret
            refine ⟨ret_bool ?_, ?_⟩
            · have : stepB l k = false := by simp [stepB, HX.out, itB, HRC.out, HM.out]
              rw [bagB_false this HR.out.len hlt]
            · exact below_box HB.out HB.out.size HB1.out
          | true =>
            have HM := Lib.hid hm
            clear hm
            cases k with
            | zero =>
              clear hRk
              simp only [Nat.zero_mul, Nat.add_zero] at c0 c1 c2 c3
              go_wp2_with (first | (go_at_call 66; refine (isRec_any x.r _).mono ?_; rintro e w' ⟨rfl, hb1⟩; rw [HRC.out]; obtain ⟨f0, f1, f2, f3⟩ := box4 hb1; have HB1 := Lib.hid hb1; clear hb1) | (go_at_call 67; refine (within_any _ _ _ _).mono ?_; rintro e w' ⟨rfl, rfl⟩; rw [HM.out]))
              go_quiet (fail)
              go_wp2
              go_roundw
              case rel =>
                refine ⟨1, by omega, rfl, ?_, ?_⟩
                · rw [bagTo_succ]; simp [bagTo, stepB, HX.out, itB, HRC.out, HM.out, hz]
                · exact below_drewN (below_box HB.out HB.out.size HB1.out) _
              case measure => simp [intOf]; omega
            | succ j =>
              obtain ⟨b', off', y, hbb, _, hy, d0, d1, d2, d3⟩ := hRk.it_at (show j < n by omega)
              cases hbb
              have HY := Lib.hid hy
              clear hy hRk
              go_wp2_with (first | (go_at_call 66; refine (isRec_any x.r _).mono ?_; rintro e w' ⟨rfl, hb1⟩; rw [HRC.out]; obtain ⟨f0, f1, f2, f3⟩ := box4 hb1; have e0 := keep_cell hb1 d0; have e1 := keep_cell hb1 d1; have e2 := keep_cell hb1 d2; have HB1 := Lib.hid hb1; clear hb1) | (go_at_call 67; refine (within_any _ _ _ _).mono ?_; rintro e w' ⟨rfl, rfl⟩; rw [HM.out]))
              have hw : IntKind.i64.wrap (j : Int) = j := IntWalk.i64_in _ (by omega)
              have hw0 : (0 : Int) ≤ j := by omega
              have hw1 : (j : Int) < n := by omega
              have hw2 : (j : Int).toNat = j := by omega
              refine wp_region_still_tail 11 (by kernel_rfl) (by kernel_rfl) ?_
              simp only [List.take_succ_cons, List.take_zero, List.drop_succ_cons, List.drop_zero]
              repeat still_step
              refine wpStill_nil ?_
              change wpList _ _ _ _ _ (World.drew _)
              clear hw hw0 hw1 hw2
              by_cases hcmp : rcmp y.r x.r < 0
              · have hcd : decide (0 ≤ rcmp y.r x.r) = false := by simp; omega
                go_wp2_with (go_at_call 96; refine (compare_below y.r x.r _).mono ?_; rintro e w2 ⟨rfl, hb2⟩; have HB2 := Lib.hid hb2; clear hb2)
                go_roundw
                case rel =>
                  refine ⟨j + 1 + 1, by omega, by go_num, ?_, ?_⟩
                  · rw [bagTo_succ, HT.out]; simp [stepB, HX.out, HY.out, itB, HRC.out, HM.out, hz, hcmp]
                  · exact (below_box HB.out HB.out.size HB1.out).trans (HB2.out.drew_left.mono (by have := HB.out.size; have := HB1.out.size; simp at this ⊢; omega))
                case measure => simp [intOf]; omega
              · have hcd : decide (0 ≤ rcmp y.r x.r) = true := by simp; omega
                go_wp2_with (go_at_call 96; refine (compare_below y.r x.r _).mono ?_; rintro e w2 ⟨rfl, hb2⟩; have HB2 := Lib.hid hb2; clear hb2)
                go_ret
                refine ⟨ret_bool ?_, ?_⟩
                · have : stepB l (j + 1) = false := by simp [stepB, HX.out, HY.out, hcmp]
                  rw [bagB_false this HR.out.len hlt]
                · exact (below_box HB.out HB.out.size HB1.out).trans (HB2.out.drew_left.mono (by have := HB.out.size; have := HB1.out.size; simp at this ⊢; omega))
    · have hk' : k = n := by omega
      subst hk'
      clear hRk hlt
      go_wp2
      go_ret
      exact ⟨ret_bool (by rw [bagB_true HT.out HR.out.len]; simp; omega), HB.out⟩
end Go.Proofs.Bg
