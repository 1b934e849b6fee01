/- The reference: in, Rec, Less. -/
import Derived.Test.YtcbemmlhpinjkaaGreatDoorBgPair
namespace Go.Proofs.Bg
open Go.RowKit

theorem in_any (x : Int) (w : World) : Calls Tryz.prog 103 #[.int .i64 x] w fun e w' => e = .returned (.bool (withinB x (-1000000000) 1000000000)) ∧ w = w' := by
  by_cases h1 : -1000000000 ≤ x
  · by_cases h2 : x ≤ 1000000000
    · have e : withinB x (-1000000000) 1000000000 = true := by simp [withinB]; omega
      rw [e]
      clear e
      go_enter Tryz.func103, Tryz.ntmps103
      go_wp2
      go_ret
      exact ⟨rfl, rfl⟩
    · have e : withinB x (-1000000000) 1000000000 = false := by simp [withinB]; omega
      have hd : decide (x ≤ 1000000000) = false := by simpa using h2
      rw [e]
      clear e h2
      go_enter Tryz.func103, Tryz.ntmps103
      go_wp2
      go_ret
      exact ⟨rfl, rfl⟩
  · have e : withinB x (-1000000000) 1000000000 = false := by simp [withinB]; omega
    have hd : decide (-1000000000 ≤ x) = false := by simpa using h1
    rw [e]
    clear e h1
    go_enter Tryz.func103, Tryz.ntmps103
    go_wp2
    go_ret
    exact ⟨rfl, rfl⟩

set_option maxRecDepth 100000 in
theorem Rec_any (r : Rc) (w : World) : Calls Tryz.prog 69 #[.agg #[.int .i64 r.at_, .int .i64 r.key, .int .i64 r.val]] w fun e w' => e = .returned (.bool (recB r)) ∧ Below w.heap.size w w' := by
  have HB := Lib.hid (below_new w (.cells #[.int .i64 r.at_, .int .i64 r.key, .int .i64 r.val] 38))
  by_cases h0 : 0 ≤ r.at_
  · have d0 : decide (0 ≤ r.at_) = true := by simpa using h0
    by_cases h1 : r.at_ ≤ 200
    · have d1 : decide (r.at_ ≤ 200) = true := by simpa using h1
      cases hk : withinB r.key (-1000000000) 1000000000 with
      | false =>
        have e : recB r = false := by simp [recB, hk]
        rw [e]
        have HK := Lib.hid hk
        clear e h0 h1 hk
        go_enter Tryz.func69, Tryz.ntmps69
        go_wp2_with (go_at_call 103; refine (in_any _ _).mono ?_; rintro e w' ⟨rfl, rfl⟩; rw [HK.out])
        go_ret
        exact ⟨rfl, HB.out⟩
      | true =>
        have e : recB r = withinB r.val (-1000000000) 1000000000 := by simp [recB, hk]; simp [withinB, h0, h1]
        rw [e]
        have HK := Lib.hid hk
        generalize hv : withinB r.val (-1000000000) 1000000000 = q
        have HV := Lib.hid hv
        clear e h0 h1 hk hv
        go_enter Tryz.func69, Tryz.ntmps69
        go_wp2_with (go_at_call 103; refine (in_any _ _).mono ?_; rintro e w' ⟨rfl, rfl⟩; first | rw [HK.out] | rw [HV.out])
        go_ret
        exact ⟨rfl, HB.out⟩
    · have d1 : decide (r.at_ ≤ 200) = false := by simpa using h1
      have e : recB r = false := by simp [recB, withinB, h1]
      rw [e]
      clear e h1
      go_enter Tryz.func69, Tryz.ntmps69
      go_wp2_with fail
      go_ret
      exact ⟨rfl, HB.out⟩
  · have d0 : decide (0 ≤ r.at_) = false := by simpa using h0
    have e : recB r = false := by simp [recB, withinB, h0]
    rw [e]
    clear e h0
    go_enter Tryz.func69, Tryz.ntmps69
    go_wp2_with fail
    go_ret
    exact ⟨rfl, HB.out⟩

def lessB (x y : Rc) : Bool := decide (rcmp x y < 0)
theorem Less_any (x y : Rc) (w : World) : Calls Tryz.prog 95 #[.agg #[.int .i64 x.at_, .int .i64 x.key, .int .i64 x.val], .agg #[.int .i64 y.at_, .int .i64 y.key, .int .i64 y.val]] w fun e w' => e = .returned (.bool (lessB x y)) ∧ Below w.heap.size w w' := by
  have HB := Lib.hid (((below_new w (.cells #[.int .i64 x.at_, .int .i64 x.key, .int .i64 x.val] 38))).alloc (by simp) (.cells #[.int .i64 y.at_, .int .i64 y.key, .int .i64 y.val] 38))
  have hl : ∀ b : Bool, (b = true ↔ (x.at_ < y.at_ ∨ (x.at_ = y.at_ ∧ (x.key < y.key ∨ (x.key = y.key ∧ x.val < y.val))))) → lessB x y = b := fun b h => by
    rw [← rcmp_neg] at h
    unfold lessB
    cases b
    · have hn : ¬ rcmp x y < 0 := fun hh => Bool.noConfusion (h.2 hh)
      simpa using hn
    · simpa using h.1 rfl
  cases h1 : (x.at_ != y.at_) with
  | true =>
    have e := hl (decide (x.at_ < y.at_)) (by simp at h1 ⊢; omega)
    rw [e]
    generalize hq : decide (x.at_ < y.at_) = q
    clear e hl
    go_enter Tryz.func95, Tryz.ntmps95
    go_wp2_with fail
    go_ret
    exact ⟨rfl, HB.out⟩
  | false =>
    cases h2 : (x.key != y.key) with
    | true =>
      have e := hl (decide (x.key < y.key)) (by simp at h1 h2 ⊢; omega)
      rw [e]
      generalize hq : decide (x.key < y.key) = q
      clear e hl
      go_enter Tryz.func95, Tryz.ntmps95
      go_wp2_with fail
      go_ret
      exact ⟨rfl, HB.out⟩
    | false =>
      have e := hl (decide (x.val < y.val)) (by simp at h1 h2 ⊢; omega)
      rw [e]
      generalize hq : decide (x.val < y.val) = q
      clear e hl
      go_enter Tryz.func95, Tryz.ntmps95
      go_wp2_with fail
      go_ret
      exact ⟨rfl, HB.out⟩

theorem clampR_any (n : Int) (w : World) : Calls Tryz.prog 97 #[.int .i64 n] w fun e w' => e = .returned (.int .i64 (clampI n)) ∧ w = w' := by
  go_enter Tryz.func97, Tryz.ntmps97
  go_wp2
  go_ret
  exact ⟨rfl, rfl⟩
end Go.Proofs.Bg
