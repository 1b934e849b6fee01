/- Texts of our own, merged: BgGood BgAlg BgLeastP BgIsEdit. -/
import Derived.Deep.RegionWith
import Derived.BigQuiet
import Derived.Test.YtcbemmlhpinjkaaDoorWLast
import Derived.Test.YtcbemmlhpinjkaaDoorBgMLe2
import Derived.Test.YtcbemmlhpinjkaaDoorBgMLe1

section
/- The reference: Good, long. -/
namespace Go.Proofs.Bg
open Go.RowKit Go.Proofs.YtcbemmlhpinjkaaDoorW.PrintLast

set_option maxRecDepth 100000 in
set_option maxHeartbeats 8000000 in
theorem Good_any (A : Option Addr) (n cap : Nat) (l : List It) (w : World) (hR : Rd It.vs 4 w 0 A n l) :
    Calls Tryd.prog 12 #[.slice A n cap] w fun e w' => e = .returned (.bool (bagB l)) ∧ Below w.heap.size w w' := by
  have hn := hR.le
  have HR := Lib.hid hR
  clear hR
  go_enter Tryd.func12, Tryd.ntmps12
  go_wp2_with fail
  go_loopw [3, 4, 7] (fun _ _ i wr => ∃ k : Nat, k ≤ n ∧ i = .int .i64 k ∧ BagRel l w k wr) (fun _ _ i _ => n - (intOf i).toNat)
  case atStart => exact ⟨0, by omega, rfl, rfl, Below.refl _ _⟩
  case round =>
    obtain ⟨k, hk, rfl, hto, hB⟩ := hrel
    have hRk := HR.out.below hB
    have HB := Lib.hid hB
    have HT := Lib.hid hto
    clear hB hto
    by_cases hlt : k < n
    · obtain ⟨b, off, x, rfl, _, hx, c0, c1, c2, c3⟩ := hRk.it_at hlt
      have HX := Lib.hid hx
      have hx0 := new_block wr #[.int .i64 x.r.at_, .int .i64 x.r.key, .int .i64 x.r.val, .int .i64 x.n] 33
      have f0 := cell_at_block (off := 0) hx0 rfl
      have f1 := cell_at_block (off := 1) hx0 rfl
      have f2 := cell_at_block (off := 2) hx0 rfl
      have f3 := cell_at_block (off := 3) hx0 rfl
      clear hx hx0
      cases hr : recB x.r with
      | false =>
        have HRC := Lib.hid hr
        clear hr hRk
        go_wp2_with fail
        refine start_ (n := 35) (S := fun w' => w'.cell? ⟨wr.heap.size, 0, none⟩ = some (.int .i64 x.r.at_) ∧ w'.cell? ⟨wr.heap.size, 1, none⟩ = some (.int .i64 x.r.key) ∧ w'.cell? ⟨wr.heap.size, 2, none⟩ = some (.int .i64 x.r.val) ∧ w'.cell? ⟨wr.heap.size, 3, none⟩ = some (.int .i64 x.n)) (ds := []) #[false, false, false, false, false, false, false, false, false, false, false, false, false, false, false, false, false, false, false, false, false, false, false, false, false, false, false, false, false, false, false, false, false, false, false] (by kernel_rfl) rfl rfl ⟨f0, f1, f2, f3⟩ (fun hHeld => ?_)
        refine pure_ (i := 0) (N := some 12) (v := ?_) (a' := ?_) #[true, false, false, false, false, false, false, false, false, false, false, false, false, false, false, false, false, false, false, false, false, false, false, false, false, false, false, false, false, false, false, false, false, false, false] rfl rfl (by kernel_rfl) (fun _ _ _ h => h) (Or.inl ⟨by rfl, ?_⟩) ?_ ?_
        rotate_left
        · intro w'
          go_simp
          with_reducible rfl
        rotate_left
        · simp only [Act.put, List.setIfInBounds_toArray, List.set_cons_zero, List.set_cons_succ]
          rfl
        refine take_ (i := 1) (N := some 13) (v := ?_) (a' := ?_) #[true, true, false, false, false, false, false, false, false, false, false, false, false, false, false, false, false, false, false, false, false, false, false, false, false, false, false, false, false, false, false, false, false, false, false] rfl rfl (by kernel_rfl) (fun _ _ _ h => h) (Or.inl ⟨by rfl, ?_⟩) hHeld ?_ ?_
        rotate_left
        · rintro w' ⟨s0, s1, s2, s3⟩
          go_simp
          with_reducible rfl
        rotate_left
        · simp only [Act.put, List.setIfInBounds_toArray, List.set_cons_zero, List.set_cons_succ]
          rfl
        refine one_ (i := 2) (N := some 14) #[true, true, true, false, false, false, false, false, false, false, false, false, false, false, false, false, false, false, false, false, false, false, false, false, false, false, false, false, false, false, false, false, false, false, false] rfl rfl (by kernel_rfl) (by decide) (fun K hK => ?_)
        refine goes_ Tryd.func38 (by kernel_rfl) rfl #[.agg #[.int .i64 x.r.at_, .int .i64 x.r.key, .int .i64 x.r.val]] (by rfl) rfl rfl (by (try simp only [List.map_toArray, List.map_cons, List.map_nil]); first | done | rfl) ?_
        with_reducible refine (Rec_any x.r _).mono ?_
        rintro e w1 ⟨rfl, hb1⟩
        rw [HRC.out]
        refine ⟨_, rfl, ?_⟩
        have HB1 := Lib.hid hb1.drew_left
        obtain ⟨f0, f1, f2, f3⟩ := box4 HB1.out
        refine hK.out _ _ ⟨f0, f1, f2, f3⟩ (fun hHeld => ?_)
        clear hK K hb1
        refine norm_ (a' := ?_) ?_ ?_
        rotate_left
        · show Act.put _ (some 14) _ = _
          simp only [Act.put, List.setIfInBounds_toArray, List.set_cons_zero, List.set_cons_succ]
          rfl
        refine pure_ (i := 3) (N := some 15) (v := ?_) (a' := ?_) #[true, true, true, true, false, false, false, false, false, false, false, false, false, false, false, false, false, false, false, false, false, false, false, false, false, false, false, false, false, false, false, false, false, false, false] rfl rfl (by kernel_rfl) (fun _ _ _ h => h) (Or.inl ⟨by rfl, ?_⟩) ?_ ?_
        rotate_left
        · intro w'
          go_simp
          with_reducible rfl
        rotate_left
        · simp only [Act.put, List.setIfInBounds_toArray, List.set_cons_zero, List.set_cons_succ]
          rfl
        refine pure_ (i := 4) (N := some 16) (v := ?_) (a' := ?_) #[true, true, true, true, true, false, false, false, false, false, false, false, false, false, false, false, false, false, false, false, false, false, false, false, false, false, false, false, false, false, false, false, false, false, false] rfl rfl (by kernel_rfl) (fun _ _ _ h => h) (Or.inl ⟨by rfl, ?_⟩) ?_ ?_
        rotate_left
        · intro w'
          go_simp
          with_reducible rfl
        rotate_left
        · simp only [Act.put, List.setIfInBounds_toArray, List.set_cons_zero, List.set_cons_succ]
          rfl
        refine pure_ (i := 5) (N := some 17) (v := undef) (a' := ?_) #[true, true, true, true, true, true, false, false, false, false, false, false, false, false, false, false, false, false, false, false, false, false, false, false, false, false, false, false, false, false, false, false, false, false, false] rfl rfl (by kernel_rfl) (fun _ _ _ h => h) (Or.inr ⟨by rfl, rfl⟩) ?_ ?_
        rotate_left
        · simp only [Act.put, List.setIfInBounds_toArray, List.set_cons_zero, List.set_cons_succ]
          rfl
        refine pure_ (i := 6) (N := some 18) (v := undef) (a' := ?_) #[true, true, true, true, true, true, true, false, false, false, false, false, false, false, false, false, false, false, false, false, false, false, false, false, false, false, false, false, false, false, false, false, false, false, false] rfl rfl (by kernel_rfl) (fun _ _ _ h => h) (Or.inr ⟨by rfl, rfl⟩) ?_ ?_
        rotate_left
        · simp only [Act.put, List.setIfInBounds_toArray, List.set_cons_zero, List.set_cons_succ]
          rfl
        refine pure_ (i := 7) (N := some 19) (v := undef) (a' := ?_) #[true, true, true, true, true, true, true, true, false, false, false, false, false, false, false, false, false, false, false, false, false, false, false, false, false, false, false, false, false, false, false, false, false, false, false] rfl rfl (by kernel_rfl) (fun _ _ _ h => h) (Or.inr ⟨by rfl, rfl⟩) ?_ ?_
        rotate_left
        · simp only [Act.put, List.setIfInBounds_toArray, List.set_cons_zero, List.set_cons_succ]
          rfl
        refine pure_ (i := 8) (N := some 20) (v := ?_) (a' := ?_) #[true, true, true, true, true, true, true, true, true, false, false, false, false, false, false, false, false, false, false, false, false, false, false, false, false, false, false, false, false, false, false, false, false, false, false] rfl rfl (by kernel_rfl) (fun _ _ _ h => h) (Or.inl ⟨by rfl, ?_⟩) ?_ ?_
        rotate_left
        · intro w'
          go_simp
          with_reducible rfl
        rotate_left
        · simp only [Act.put, List.setIfInBounds_toArray, List.set_cons_zero, List.set_cons_succ]
          rfl
        refine pure_ (i := 9) (N := some 21) (v := ?_) (a' := ?_) #[true, true, true, true, true, true, true, true, true, true, false, false, false, false, false, false, false, false, false, false, false, false, false, false, false, false, false, false, false, false, false, false, false, false, false] rfl rfl (by kernel_rfl) (fun _ _ _ h => h) (Or.inl ⟨by rfl, ?_⟩) ?_ ?_
        rotate_left
        · intro w'
          go_simp
          with_reducible rfl
        rotate_left
        · simp only [Act.put, List.setIfInBounds_toArray, List.set_cons_zero, List.set_cons_succ]
          rfl
        refine pure_ (i := 10) (N := some 22) (v := undef) (a' := ?_) #[true, true, true, true, true, true, true, true, true, true, true, false, false, false, false, false, false, false, false, false, false, false, false, false, false, false, false, false, false, false, false, false, false, false, false] rfl rfl (by kernel_rfl) (fun _ _ _ h => h) (Or.inr ⟨by rfl, rfl⟩) ?_ ?_
        rotate_left
        · simp only [Act.put, List.setIfInBounds_toArray, List.set_cons_zero, List.set_cons_succ]
          rfl
        refine pure_ (i := 11) (N := some 23) (v := undef) (a' := ?_) #[true, true, true, true, true, true, true, true, true, true, true, true, false, false, false, false, false, false, false, false, false, false, false, false, false, false, false, false, false, false, false, false, false, false, false] rfl rfl (by kernel_rfl) (fun _ _ _ h => h) (Or.inr ⟨by rfl, rfl⟩) ?_ ?_
        rotate_left
        · simp only [Act.put, List.setIfInBounds_toArray, List.set_cons_zero, List.set_cons_succ]
          rfl
        refine pure_ (i := 12) (N := some 24) (v := undef) (a' := ?_) #[true, true, true, true, true, true, true, true, true, true, true, true, true, false, false, false, false, false, false, false, false, false, false, false, false, false, false, false, false, false, false, false, false, false, false] rfl rfl (by kernel_rfl) (fun _ _ _ h => h) (Or.inr ⟨by rfl, rfl⟩) ?_ ?_
        rotate_left
        · simp only [Act.put, List.setIfInBounds_toArray, List.set_cons_zero, List.set_cons_succ]
          rfl
        refine pure_ (i := 13) (N := some 25) (v := ?_) (a' := ?_) #[true, true, true, true, true, true, true, true, true, true, true, true, true, true, false, false, false, false, false, false, false, false, false, false, false, false, false, false, false, false, false, false, false, false, false] rfl rfl (by kernel_rfl) (fun _ _ _ h => h) (Or.inl ⟨by rfl, ?_⟩) ?_ ?_
        rotate_left
        · intro w'
          go_simp
          with_reducible rfl
        rotate_left
        · simp only [Act.put, List.setIfInBounds_toArray, List.set_cons_zero, List.set_cons_succ]
          rfl
        refine pure_ (i := 14) (N := some 26) (v := ?_) (a' := ?_) #[true, true, true, true, true, true, true, true, true, true, true, true, true, true, true, false, false, false, false, false, false, false, false, false, false, false, false, false, false, false, false, false, false, false, false] rfl rfl (by kernel_rfl) (fun _ _ _ h => h) (Or.inl ⟨by rfl, ?_⟩) ?_ ?_
        rotate_left
        · intro w'
          go_simp
          with_reducible rfl
        rotate_left
        · simp only [Act.put, List.setIfInBounds_toArray, List.set_cons_zero, List.set_cons_succ]
          rfl
        refine pure_ (i := 15) (N := some 27) (v := undef) (a' := ?_) #[true, true, true, true, true, true, true, true, true, true, true, true, true, true, true, true, false, false, false, false, false, false, false, false, false, false, false, false, false, false, false, false, false, false, false] rfl rfl (by kernel_rfl) (fun _ _ _ h => h) (Or.inr ⟨by rfl, rfl⟩) ?_ ?_
        rotate_left
        · simp only [Act.put, List.setIfInBounds_toArray, List.set_cons_zero, List.set_cons_succ]
          rfl
        refine pure_ (i := 16) (N := some 28) (v := undef) (a' := ?_) #[true, true, true, true, true, true, true, true, true, true, true, true, true, true, true, true, true, false, false, false, false, false, false, false, false, false, false, false, false, false, false, false, false, false, false] rfl rfl (by kernel_rfl) (fun _ _ _ h => h) (Or.inr ⟨by rfl, rfl⟩) ?_ ?_
        rotate_left
        · simp only [Act.put, List.setIfInBounds_toArray, List.set_cons_zero, List.set_cons_succ]
          rfl
        refine pure_ (i := 17) (N := some 29) (v := undef) (a' := ?_) #[true, true, true, true, true, true, true, true, true, true, true, true, true, true, true, true, true, true, false, false, false, false, false, false, false, false, false, false, false, false, false, false, false, false, false] rfl rfl (by kernel_rfl) (fun _ _ _ h => h) (Or.inr ⟨by rfl, rfl⟩) ?_ ?_
        rotate_left
        · simp only [Act.put, List.setIfInBounds_toArray, List.set_cons_zero, List.set_cons_succ]
          rfl
        refine pure_ (i := 18) (N := some 30) (v := ?_) (a' := ?_) #[true, true, true, true, true, true, true, true, true, true, true, true, true, true, true, true, true, true, true, false, false, false, false, false, false, false, false, false, false, false, false, false, false, false, false] rfl rfl (by kernel_rfl) (fun _ _ _ h => h) (Or.inl ⟨by rfl, ?_⟩) ?_ ?_
        rotate_left
        · intro w'
          go_simp
          with_reducible rfl
        rotate_left
        · simp only [Act.put, List.setIfInBounds_toArray, List.set_cons_zero, List.set_cons_succ]
          rfl
        refine pure_ (i := 19) (N := some 31) (v := ?_) (a' := ?_) #[true, true, true, true, true, true, true, true, true, true, true, true, true, true, true, true, true, true, true, true, false, false, false, false, false, false, false, false, false, false, false, false, false, false, false] rfl rfl (by kernel_rfl) (fun _ _ _ h => h) (Or.inl ⟨by rfl, ?_⟩) ?_ ?_
        rotate_left
        · intro w'
          go_simp
          with_reducible rfl
        rotate_left
        · simp only [Act.put, List.setIfInBounds_toArray, List.set_cons_zero, List.set_cons_succ]
          rfl
        refine pure_ (i := 20) (N := some 32) (v := undef) (a' := ?_) #[true, true, true, true, true, true, true, true, true, true, true, true, true, true, true, true, true, true, true, true, true, false, false, false, false, false, false, false, false, false, false, false, false, false, false] rfl rfl (by kernel_rfl) (fun _ _ _ h => h) (Or.inr ⟨by rfl, rfl⟩) ?_ ?_
        rotate_left
        · simp only [Act.put, List.setIfInBounds_toArray, List.set_cons_zero, List.set_cons_succ]
          rfl
        refine pure_ (i := 21) (N := some 33) (v := undef) (a' := ?_) #[true, true, true, true, true, true, true, true, true, true, true, true, true, true, true, true, true, true, true, true, true, true, false, false, false, false, false, false, false, false, false, false, false, false, false] rfl rfl (by kernel_rfl) (fun _ _ _ h => h) (Or.inr ⟨by rfl, rfl⟩) ?_ ?_
        rotate_left
        · simp only [Act.put, List.setIfInBounds_toArray, List.set_cons_zero, List.set_cons_succ]
          rfl
        refine pure_ (i := 22) (N := some 34) (v := undef) (a' := ?_) #[true, true, true, true, true, true, true, true, true, true, true, true, true, true, true, true, true, true, true, true, true, true, true, false, false, false, false, false, false, false, false, false, false, false, false] rfl rfl (by kernel_rfl) (fun _ _ _ h => h) (Or.inr ⟨by rfl, rfl⟩) ?_ ?_
        rotate_left
        · simp only [Act.put, List.setIfInBounds_toArray, List.set_cons_zero, List.set_cons_succ]
          rfl
        refine pure_ (i := 23) (N := some 35) (v := undef) (a' := ?_) #[true, true, true, true, true, true, true, true, true, true, true, true, true, true, true, true, true, true, true, true, true, true, true, true, false, false, false, false, false, false, false, false, false, false, false] rfl rfl (by kernel_rfl) (fun _ _ _ h => h) (Or.inr ⟨by rfl, rfl⟩) ?_ ?_
        rotate_left
        · simp only [Act.put, List.setIfInBounds_toArray, List.set_cons_zero, List.set_cons_succ]
          rfl
        refine pure_ (i := 24) (N := some 36) (v := undef) (a' := ?_) #[true, true, true, true, true, true, true, true, true, true, true, true, true, true, true, true, true, true, true, true, true, true, true, true, true, false, false, false, false, false, false, false, false, false, false] rfl rfl (by kernel_rfl) (fun _ _ _ h => h) (Or.inr ⟨by rfl, rfl⟩) ?_ ?_
        rotate_left
        · simp only [Act.put, List.setIfInBounds_toArray, List.set_cons_zero, List.set_cons_succ]
          rfl
        refine pure_ (i := 25) (N := some 37) (v := undef) (a' := ?_) #[true, true, true, true, true, true, true, true, true, true, true, true, true, true, true, true, true, true, true, true, true, true, true, true, true, true, false, false, false, false, false, false, false, false, false] rfl rfl (by kernel_rfl) (fun _ _ _ h => h) (Or.inr ⟨by rfl, rfl⟩) ?_ ?_
        rotate_left
        · simp only [Act.put, List.setIfInBounds_toArray, List.set_cons_zero, List.set_cons_succ]
          rfl
        refine pure_ (i := 26) (N := some 38) (v := undef) (a' := ?_) #[true, true, true, true, true, true, true, true, true, true, true, true, true, true, true, true, true, true, true, true, true, true, true, true, true, true, true, false, false, false, false, false, false, false, false] rfl rfl (by kernel_rfl) (fun _ _ _ h => h) (Or.inr ⟨by rfl, rfl⟩) ?_ ?_
        rotate_left
        · simp only [Act.put, List.setIfInBounds_toArray, List.set_cons_zero, List.set_cons_succ]
          rfl
        refine pure_ (i := 27) (N := some 39) (v := undef) (a' := ?_) #[true, true, true, true, true, true, true, true, true, true, true, true, true, true, true, true, true, true, true, true, true, true, true, true, true, true, true, true, false, false, false, false, false, false, false] rfl rfl (by kernel_rfl) (fun _ _ _ h => h) (Or.inr ⟨by rfl, rfl⟩) ?_ ?_
        rotate_left
        · simp only [Act.put, List.setIfInBounds_toArray, List.set_cons_zero, List.set_cons_succ]
          rfl
        refine pure_ (i := 28) (N := some 40) (v := undef) (a' := ?_) #[true, true, true, true, true, true, true, true, true, true, true, true, true, true, true, true, true, true, true, true, true, true, true, true, true, true, true, true, true, false, false, false, false, false, false] rfl rfl (by kernel_rfl) (fun _ _ _ h => h) (Or.inr ⟨by rfl, rfl⟩) ?_ ?_
        rotate_left
        · simp only [Act.put, List.setIfInBounds_toArray, List.set_cons_zero, List.set_cons_succ]
          rfl
        refine pure_ (i := 29) (N := some 41) (v := undef) (a' := ?_) #[true, true, true, true, true, true, true, true, true, true, true, true, true, true, true, true, true, true, true, true, true, true, true, true, true, true, true, true, true, true, false, false, false, false, false] rfl rfl (by kernel_rfl) (fun _ _ _ h => h) (Or.inr ⟨by rfl, rfl⟩) ?_ ?_
        rotate_left
        · simp only [Act.put, List.setIfInBounds_toArray, List.set_cons_zero, List.set_cons_succ]
          rfl
        refine pure_ (i := 30) (N := some 42) (v := undef) (a' := ?_) #[true, true, true, true, true, true, true, true, true, true, true, true, true, true, true, true, true, true, true, true, true, true, true, true, true, true, true, true, true, true, true, false, false, false, false] rfl rfl (by kernel_rfl) (fun _ _ _ h => h) (Or.inr ⟨by rfl, rfl⟩) ?_ ?_
        rotate_left
        · simp only [Act.put, List.setIfInBounds_toArray, List.set_cons_zero, List.set_cons_succ]
          rfl
        refine pure_ (i := 31) (N := some 43) (v := undef) (a' := ?_) #[true, true, true, true, true, true, true, true, true, true, true, true, true, true, true, true, true, true, true, true, true, true, true, true, true, true, true, true, true, true, true, true, false, false, false] rfl rfl (by kernel_rfl) (fun _ _ _ h => h) (Or.inr ⟨by rfl, rfl⟩) ?_ ?_
        rotate_left
        · simp only [Act.put, List.setIfInBounds_toArray, List.set_cons_zero, List.set_cons_succ]
          rfl
        refine pure_ (i := 32) (N := some 44) (v := undef) (a' := ?_) #[true, true, true, true, true, true, true, true, true, true, true, true, true, true, true, true, true, true, true, true, true, true, true, true, true, true, true, true, true, true, true, true, true, false, false] rfl rfl (by kernel_rfl) (fun _ _ _ h => h) (Or.inr ⟨by rfl, rfl⟩) ?_ ?_
        rotate_left
        · simp only [Act.put, List.setIfInBounds_toArray, List.set_cons_zero, List.set_cons_succ]
          rfl
        refine pure_ (i := 33) (N := some 45) (v := undef) (a' := ?_) #[true, true, true, true, true, true, true, true, true, true, true, true, true, true, true, true, true, true, true, true, true, true, true, true, true, true, true, true, true, true, true, true, true, true, false] rfl rfl (by kernel_rfl) (fun _ _ _ h => h) (Or.inr ⟨by rfl, rfl⟩) ?_ ?_
        rotate_left
        · simp only [Act.put, List.setIfInBounds_toArray, List.set_cons_zero, List.set_cons_succ]
          rfl
        refine pure_ (i := 34) (N := some 46) (v := ?_) (a' := ?_) #[true, true, true, true, true, true, true, true, true, true, true, true, true, true, true, true, true, true, true, true, true, true, true, true, true, true, true, true, true, true, true, true, true, true, true] rfl rfl (by kernel_rfl) (fun _ _ _ h => h) (Or.inl ⟨by rfl, ?_⟩) ?_ ?_
        rotate_left
        · intro w'
          go_simp
          with_reducible rfl
        rotate_left
        · simp only [Act.put, List.setIfInBounds_toArray, List.set_cons_zero, List.set_cons_succ]
          rfl
        refine done_ (by kernel_rfl) ?_
        go_wp2_with fail
        go_ret
        refine ⟨ret_bool ?_, below_box HB.out HB.out.size HB1.out⟩
        have : stepB l k = false := by simp [stepB, HX.out, itB, HRC.out]
        rw [bagB_false this HR.out.len hlt]
      | true =>
        have HRC := Lib.hid hr
        clear hr
        cases hz : (x.n == 0) with
        | true =>
          clear hRk
          go_wp2_with fail
          refine start_ (n := 35) (S := fun w' => w'.cell? ⟨wr.heap.size, 0, none⟩ = some (.int .i64 x.r.at_) ∧ w'.cell? ⟨wr.heap.size, 1, none⟩ = some (.int .i64 x.r.key) ∧ w'.cell? ⟨wr.heap.size, 2, none⟩ = some (.int .i64 x.r.val) ∧ w'.cell? ⟨wr.heap.size, 3, none⟩ = some (.int .i64 x.n)) (ds := []) #[false, false, false, false, false, false, false, false, false, false, false, false, false, false, false, false, false, false, false, false, false, false, false, false, false, false, false, false, false, false, false, false, false, false, false] (by kernel_rfl) rfl rfl ⟨f0, f1, f2, f3⟩ (fun hHeld => ?_)
          refine pure_ (i := 0) (N := some 12) (v := ?_) (a' := ?_) #[true, false, false, false, false, false, false, false, false, false, false, false, false, false, false, false, false, false, false, false, false, false, false, false, false, false, false, false, false, false, false, false, false, false, false] rfl rfl (by kernel_rfl) (fun _ _ _ h => h) (Or.inl ⟨by rfl, ?_⟩) ?_ ?_
          rotate_left
          · intro w'
            go_simp
            with_reducible rfl
          rotate_left
          · simp only [Act.put, List.setIfInBounds_toArray, List.set_cons_zero, List.set_cons_succ]
            rfl
          refine take_ (i := 1) (N := some 13) (v := ?_) (a' := ?_) #[true, true, false, false, false, false, false, false, false, false, false, false, false, false, false, false, false, false, false, false, false, false, false, false, false, false, false, false, false, false, false, false, false, false, false] rfl rfl (by kernel_rfl) (fun _ _ _ h => h) (Or.inl ⟨by rfl, ?_⟩) hHeld ?_ ?_
          rotate_left
          · rintro w' ⟨s0, s1, s2, s3⟩
            go_simp
            with_reducible rfl
          rotate_left
          · simp only [Act.put, List.setIfInBounds_toArray, List.set_cons_zero, List.set_cons_succ]
            rfl
          refine one_ (i := 2) (N := some 14) #[true, true, true, false, false, false, false, false, false, false, false, false, false, false, false, false, false, false, false, false, false, false, false, false, false, false, false, false, false, false, false, false, false, false, false] rfl rfl (by kernel_rfl) (by decide) (fun K hK => ?_)
          refine goes_ Tryd.func38 (by kernel_rfl) rfl #[.agg #[.int .i64 x.r.at_, .int .i64 x.r.key, .int .i64 x.r.val]] (by rfl) rfl rfl (by (try simp only [List.map_toArray, List.map_cons, List.map_nil]); first | done | rfl) ?_
          with_reducible refine (Rec_any x.r _).mono ?_
          rintro e w1 ⟨rfl, hb1⟩
          rw [HRC.out]
          refine ⟨_, rfl, ?_⟩
          have HB1 := Lib.hid hb1.drew_left
          obtain ⟨f0, f1, f2, f3⟩ := box4 HB1.out
          refine hK.out _ _ ⟨f0, f1, f2, f3⟩ (fun hHeld => ?_)
          clear hK K hb1
          refine norm_ (a' := ?_) ?_ ?_
          rotate_left
          · show Act.put _ (some 14) _ = _
            simp only [Act.put, List.setIfInBounds_toArray, List.set_cons_zero, List.set_cons_succ]
            rfl
          refine pure_ (i := 3) (N := some 15) (v := ?_) (a' := ?_) #[true, true, true, true, false, false, false, false, false, false, false, false, false, false, false, false, false, false, false, false, false, false, false, false, false, false, false, false, false, false, false, false, false, false, false] rfl rfl (by kernel_rfl) (fun _ _ _ h => h) (Or.inl ⟨by rfl, ?_⟩) ?_ ?_
          rotate_left
          · intro w'
            go_simp
            with_reducible rfl
          rotate_left
          · simp only [Act.put, List.setIfInBounds_toArray, List.set_cons_zero, List.set_cons_succ]
            rfl
          refine pure_ (i := 4) (N := some 16) (v := ?_) (a' := ?_) #[true, true, true, true, true, false, false, false, false, false, false, false, false, false, false, false, false, false, false, false, false, false, false, false, false, false, false, false, false, false, false, false, false, false, false] rfl rfl (by kernel_rfl) (fun _ _ _ h => h) (Or.inl ⟨by rfl, ?_⟩) ?_ ?_
          rotate_left
          · intro w'
            go_simp
            with_reducible rfl
          rotate_left
          · simp only [Act.put, List.setIfInBounds_toArray, List.set_cons_zero, List.set_cons_succ]
            rfl
          refine pure_ (i := 5) (N := some 17) (v := ?_) (a' := ?_) #[true, true, true, true, true, true, false, false, false, false, false, false, false, false, false, false, false, false, false, false, false, false, false, false, false, false, false, false, false, false, false, false, false, false, false] rfl rfl (by kernel_rfl) (fun _ _ _ h => h) (Or.inl ⟨by rfl, ?_⟩) ?_ ?_
          rotate_left
          · intro w'
            go_simp
            with_reducible rfl
          rotate_left
          · simp only [Act.put, List.setIfInBounds_toArray, List.set_cons_zero, List.set_cons_succ]
            rfl
          refine take_ (i := 6) (N := some 18) (v := ?_) (a' := ?_) #[true, true, true, true, true, true, true, false, false, false, false, false, false, false, false, false, false, false, false, false, false, false, false, false, false, false, false, false, false, false, false, false, false, false, false] rfl rfl (by kernel_rfl) (fun _ _ _ h => h) (Or.inl ⟨by rfl, ?_⟩) hHeld ?_ ?_
          rotate_left
          · rintro w' ⟨s0, s1, s2, s3⟩
            go_simp
            with_reducible rfl
          rotate_left
          · simp only [Act.put, List.setIfInBounds_toArray, List.set_cons_zero, List.set_cons_succ]
            rfl
          refine pure_ (i := 7) (N := some 19) (v := ?_) (a' := ?_) #[true, true, true, true, true, true, true, true, false, false, false, false, false, false, false, false, false, false, false, false, false, false, false, false, false, false, false, false, false, false, false, false, false, false, false] rfl rfl (by kernel_rfl) (fun _ _ _ h => h) (Or.inl ⟨by rfl, ?_⟩) ?_ ?_
          rotate_left
          · intro w'
            go_simp
            with_reducible rfl
          rotate_left
          · simp only [Act.put, List.setIfInBounds_toArray, List.set_cons_zero, List.set_cons_succ]
            rfl
          refine pure_ (i := 8) (N := some 20) (v := ?_) (a' := ?_) #[true, true, true, true, true, true, true, true, true, false, false, false, false, false, false, false, false, false, false, false, false, false, false, false, false, false, false, false, false, false, false, false, false, false, false] rfl rfl (by kernel_rfl) (fun _ _ _ h => h) (Or.inl ⟨by rfl, ?_⟩) ?_ ?_
          rotate_left
          · intro w'
            go_simp
            with_reducible rfl
          rotate_left
          · simp only [Act.put, List.setIfInBounds_toArray, List.set_cons_zero, List.set_cons_succ]
            rfl
          refine pure_ (i := 9) (N := some 21) (v := ?_) (a' := ?_) #[true, true, true, true, true, true, true, true, true, true, false, false, false, false, false, false, false, false, false, false, false, false, false, false, false, false, false, false, false, false, false, false, false, false, false] rfl rfl (by kernel_rfl) (fun _ _ _ h => h) (Or.inl ⟨by rfl, ?_⟩) ?_ ?_
          rotate_left
          · intro w'
            go_simp
            with_reducible rfl
          rotate_left
          · simp only [Act.put, List.setIfInBounds_toArray, List.set_cons_zero, List.set_cons_succ]
            rfl
          refine pure_ (i := 10) (N := some 22) (v := undef) (a' := ?_) #[true, true, true, true, true, true, true, true, true, true, true, false, false, false, false, false, false, false, false, false, false, false, false, false, false, false, false, false, false, false, false, false, false, false, false] rfl rfl (by kernel_rfl) (fun _ _ _ h => h) (Or.inr ⟨by rfl, rfl⟩) ?_ ?_
          rotate_left
          · simp only [Act.put, List.setIfInBounds_toArray, List.set_cons_zero, List.set_cons_succ]
            rfl
          refine pure_ (i := 11) (N := some 23) (v := undef) (a' := ?_) #[true, true, true, true, true, true, true, true, true, true, true, true, false, false, false, false, false, false, false, false, false, false, false, false, false, false, false, false, false, false, false, false, false, false, false] rfl rfl (by kernel_rfl) (fun _ _ _ h => h) (Or.inr ⟨by rfl, rfl⟩) ?_ ?_
          rotate_left
          · simp only [Act.put, List.setIfInBounds_toArray, List.set_cons_zero, List.set_cons_succ]
            rfl
          refine pure_ (i := 12) (N := some 24) (v := undef) (a' := ?_) #[true, true, true, true, true, true, true, true, true, true, true, true, true, false, false, false, false, false, false, false, false, false, false, false, false, false, false, false, false, false, false, false, false, false, false] rfl rfl (by kernel_rfl) (fun _ _ _ h => h) (Or.inr ⟨by rfl, rfl⟩) ?_ ?_
          rotate_left
          · simp only [Act.put, List.setIfInBounds_toArray, List.set_cons_zero, List.set_cons_succ]
            rfl
          refine pure_ (i := 13) (N := some 25) (v := ?_) (a' := ?_) #[true, true, true, true, true, true, true, true, true, true, true, true, true, true, false, false, false, false, false, false, false, false, false, false, false, false, false, false, false, false, false, false, false, false, false] rfl rfl (by kernel_rfl) (fun _ _ _ h => h) (Or.inl ⟨by rfl, ?_⟩) ?_ ?_
          rotate_left
          · intro w'
            go_simp
            with_reducible rfl
          rotate_left
          · simp only [Act.put, List.setIfInBounds_toArray, List.set_cons_zero, List.set_cons_succ]
            rfl
          refine pure_ (i := 14) (N := some 26) (v := ?_) (a' := ?_) #[true, true, true, true, true, true, true, true, true, true, true, true, true, true, true, false, false, false, false, false, false, false, false, false, false, false, false, false, false, false, false, false, false, false, false] rfl rfl (by kernel_rfl) (fun _ _ _ h => h) (Or.inl ⟨by rfl, ?_⟩) ?_ ?_
          rotate_left
          · intro w'
            go_simp
            with_reducible rfl
          rotate_left
          · simp only [Act.put, List.setIfInBounds_toArray, List.set_cons_zero, List.set_cons_succ]
            rfl
          refine pure_ (i := 15) (N := some 27) (v := undef) (a' := ?_) #[true, true, true, true, true, true, true, true, true, true, true, true, true, true, true, true, false, false, false, false, false, false, false, false, false, false, false, false, false, false, false, false, false, false, false] rfl rfl (by kernel_rfl) (fun _ _ _ h => h) (Or.inr ⟨by rfl, rfl⟩) ?_ ?_
          rotate_left
          · simp only [Act.put, List.setIfInBounds_toArray, List.set_cons_zero, List.set_cons_succ]
            rfl
          refine pure_ (i := 16) (N := some 28) (v := undef) (a' := ?_) #[true, true, true, true, true, true, true, true, true, true, true, true, true, true, true, true, true, false, false, false, false, false, false, false, false, false, false, false, false, false, false, false, false, false, false] rfl rfl (by kernel_rfl) (fun _ _ _ h => h) (Or.inr ⟨by rfl, rfl⟩) ?_ ?_
          rotate_left
          · simp only [Act.put, List.setIfInBounds_toArray, List.set_cons_zero, List.set_cons_succ]
            rfl
          refine pure_ (i := 17) (N := some 29) (v := undef) (a' := ?_) #[true, true, true, true, true, true, true, true, true, true, true, true, true, true, true, true, true, true, false, false, false, false, false, false, false, false, false, false, false, false, false, false, false, false, false] rfl rfl (by kernel_rfl) (fun _ _ _ h => h) (Or.inr ⟨by rfl, rfl⟩) ?_ ?_
          rotate_left
          · simp only [Act.put, List.setIfInBounds_toArray, List.set_cons_zero, List.set_cons_succ]
            rfl
          refine pure_ (i := 18) (N := some 30) (v := ?_) (a' := ?_) #[true, true, true, true, true, true, true, true, true, true, true, true, true, true, true, true, true, true, true, false, false, false, false, false, false, false, false, false, false, false, false, false, false, false, false] rfl rfl (by kernel_rfl) (fun _ _ _ h => h) (Or.inl ⟨by rfl, ?_⟩) ?_ ?_
          rotate_left
          · intro w'
            go_simp
            with_reducible rfl
          rotate_left
          · simp only [Act.put, List.setIfInBounds_toArray, List.set_cons_zero, List.set_cons_succ]
            rfl
          refine pure_ (i := 19) (N := some 31) (v := ?_) (a' := ?_) #[true, true, true, true, true, true, true, true, true, true, true, true, true, true, true, true, true, true, true, true, false, false, false, false, false, false, false, false, false, false, false, false, false, false, false] rfl rfl (by kernel_rfl) (fun _ _ _ h => h) (Or.inl ⟨by rfl, ?_⟩) ?_ ?_
          rotate_left
          · intro w'
            go_simp
            with_reducible rfl
          rotate_left
          · simp only [Act.put, List.setIfInBounds_toArray, List.set_cons_zero, List.set_cons_succ]
            rfl
          refine pure_ (i := 20) (N := some 32) (v := undef) (a' := ?_) #[true, true, true, true, true, true, true, true, true, true, true, true, true, true, true, true, true, true, true, true, true, false, false, false, false, false, false, false, false, false, false, false, false, false, false] rfl rfl (by kernel_rfl) (fun _ _ _ h => h) (Or.inr ⟨by rfl, rfl⟩) ?_ ?_
          rotate_left
          · simp only [Act.put, List.setIfInBounds_toArray, List.set_cons_zero, List.set_cons_succ]
            rfl
          refine pure_ (i := 21) (N := some 33) (v := undef) (a' := ?_) #[true, true, true, true, true, true, true, true, true, true, true, true, true, true, true, true, true, true, true, true, true, true, false, false, false, false, false, false, false, false, false, false, false, false, false] rfl rfl (by kernel_rfl) (fun _ _ _ h => h) (Or.inr ⟨by rfl, rfl⟩) ?_ ?_
          rotate_left
          · simp only [Act.put, List.setIfInBounds_toArray, List.set_cons_zero, List.set_cons_succ]
            rfl
          refine pure_ (i := 22) (N := some 34) (v := undef) (a' := ?_) #[true, true, true, true, true, true, true, true, true, true, true, true, true, true, true, true, true, true, true, true, true, true, true, false, false, false, false, false, false, false, false, false, false, false, false] rfl rfl (by kernel_rfl) (fun _ _ _ h => h) (Or.inr ⟨by rfl, rfl⟩) ?_ ?_
          rotate_left
          · simp only [Act.put, List.setIfInBounds_toArray, List.set_cons_zero, List.set_cons_succ]
            rfl
          refine pure_ (i := 23) (N := some 35) (v := undef) (a' := ?_) #[true, true, true, true, true, true, true, true, true, true, true, true, true, true, true, true, true, true, true, true, true, true, true, true, false, false, false, false, false, false, false, false, false, false, false] rfl rfl (by kernel_rfl) (fun _ _ _ h => h) (Or.inr ⟨by rfl, rfl⟩) ?_ ?_
          rotate_left
          · simp only [Act.put, List.setIfInBounds_toArray, List.set_cons_zero, List.set_cons_succ]
            rfl
          refine pure_ (i := 24) (N := some 36) (v := undef) (a' := ?_) #[true, true, true, true, true, true, true, true, true, true, true, true, true, true, true, true, true, true, true, true, true, true, true, true, true, false, false, false, false, false, false, false, false, false, false] rfl rfl (by kernel_rfl) (fun _ _ _ h => h) (Or.inr ⟨by rfl, rfl⟩) ?_ ?_
          rotate_left
          · simp only [Act.put, List.setIfInBounds_toArray, List.set_cons_zero, List.set_cons_succ]
            rfl
          refine pure_ (i := 25) (N := some 37) (v := undef) (a' := ?_) #[true, true, true, true, true, true, true, true, true, true, true, true, true, true, true, true, true, true, true, true, true, true, true, true, true, true, false, false, false, false, false, false, false, false, false] rfl rfl (by kernel_rfl) (fun _ _ _ h => h) (Or.inr ⟨by rfl, rfl⟩) ?_ ?_
          rotate_left
          · simp only [Act.put, List.setIfInBounds_toArray, List.set_cons_zero, List.set_cons_succ]
            rfl
          refine pure_ (i := 26) (N := some 38) (v := undef) (a' := ?_) #[true, true, true, true, true, true, true, true, true, true, true, true, true, true, true, true, true, true, true, true, true, true, true, true, true, true, true, false, false, false, false, false, false, false, false] rfl rfl (by kernel_rfl) (fun _ _ _ h => h) (Or.inr ⟨by rfl, rfl⟩) ?_ ?_
          rotate_left
          · simp only [Act.put, List.setIfInBounds_toArray, List.set_cons_zero, List.set_cons_succ]
            rfl
          refine pure_ (i := 27) (N := some 39) (v := undef) (a' := ?_) #[true, true, true, true, true, true, true, true, true, true, true, true, true, true, true, true, true, true, true, true, true, true, true, true, true, true, true, true, false, false, false, false, false, false, false] rfl rfl (by kernel_rfl) (fun _ _ _ h => h) (Or.inr ⟨by rfl, rfl⟩) ?_ ?_
          rotate_left
          · simp only [Act.put, List.setIfInBounds_toArray, List.set_cons_zero, List.set_cons_succ]
            rfl
          refine pure_ (i := 28) (N := some 40) (v := undef) (a' := ?_) #[true, true, true, true, true, true, true, true, true, true, true, true, true, true, true, true, true, true, true, true, true, true, true, true, true, true, true, true, true, false, false, false, false, false, false] rfl rfl (by kernel_rfl) (fun _ _ _ h => h) (Or.inr ⟨by rfl, rfl⟩) ?_ ?_
          rotate_left
          · simp only [Act.put, List.setIfInBounds_toArray, List.set_cons_zero, List.set_cons_succ]
            rfl
          refine pure_ (i := 29) (N := some 41) (v := undef) (a' := ?_) #[true, true, true, true, true, true, true, true, true, true, true, true, true, true, true, true, true, true, true, true, true, true, true, true, true, true, true, true, true, true, false, false, false, false, false] rfl rfl (by kernel_rfl) (fun _ _ _ h => h) (Or.inr ⟨by rfl, rfl⟩) ?_ ?_
          rotate_left
          · simp only [Act.put, List.setIfInBounds_toArray, List.set_cons_zero, List.set_cons_succ]
            rfl
          refine pure_ (i := 30) (N := some 42) (v := undef) (a' := ?_) #[true, true, true, true, true, true, true, true, true, true, true, true, true, true, true, true, true, true, true, true, true, true, true, true, true, true, true, true, true, true, true, false, false, false, false] rfl rfl (by kernel_rfl) (fun _ _ _ h => h) (Or.inr ⟨by rfl, rfl⟩) ?_ ?_
          rotate_left
          · simp only [Act.put, List.setIfInBounds_toArray, List.set_cons_zero, List.set_cons_succ]
            rfl
          refine pure_ (i := 31) (N := some 43) (v := undef) (a' := ?_) #[true, true, true, true, true, true, true, true, true, true, true, true, true, true, true, true, true, true, true, true, true, true, true, true, true, true, true, true, true, true, true, true, false, false, false] rfl rfl (by kernel_rfl) (fun _ _ _ h => h) (Or.inr ⟨by rfl, rfl⟩) ?_ ?_
          rotate_left
          · simp only [Act.put, List.setIfInBounds_toArray, List.set_cons_zero, List.set_cons_succ]
            rfl
          refine pure_ (i := 32) (N := some 44) (v := undef) (a' := ?_) #[true, true, true, true, true, true, true, true, true, true, true, true, true, true, true, true, true, true, true, true, true, true, true, true, true, true, true, true, true, true, true, true, true, false, false] rfl rfl (by kernel_rfl) (fun _ _ _ h => h) (Or.inr ⟨by rfl, rfl⟩) ?_ ?_
          rotate_left
          · simp only [Act.put, List.setIfInBounds_toArray, List.set_cons_zero, List.set_cons_succ]
            rfl
          refine pure_ (i := 33) (N := some 45) (v := undef) (a' := ?_) #[true, true, true, true, true, true, true, true, true, true, true, true, true, true, true, true, true, true, true, true, true, true, true, true, true, true, true, true, true, true, true, true, true, true, false] rfl rfl (by kernel_rfl) (fun _ _ _ h => h) (Or.inr ⟨by rfl, rfl⟩) ?_ ?_
          rotate_left
          · simp only [Act.put, List.setIfInBounds_toArray, List.set_cons_zero, List.set_cons_succ]
            rfl
          refine pure_ (i := 34) (N := some 46) (v := ?_) (a' := ?_) #[true, true, true, true, true, true, true, true, true, true, true, true, true, true, true, true, true, true, true, true, true, true, true, true, true, true, true, true, true, true, true, true, true, true, true] rfl rfl (by kernel_rfl) (fun _ _ _ h => h) (Or.inl ⟨by rfl, ?_⟩) ?_ ?_
          rotate_left
          · intro w'
            go_simp
            with_reducible rfl
          rotate_left
          · simp only [Act.put, List.setIfInBounds_toArray, List.set_cons_zero, List.set_cons_succ]
            rfl
          refine done_ (by kernel_rfl) ?_
          go_wp2_with fail
          go_ret
          refine ⟨ret_bool ?_, below_box HB.out HB.out.size HB1.out⟩
          have : stepB l k = false := by simp [stepB, HX.out, itB, HRC.out, hz]
          rw [bagB_false this HR.out.len hlt]
        | false =>
          by_cases hlo : x.n < -1000000
          · have hlod : decide (x.n < -1000000) = true := by simpa using hlo
            have HM : Hid (withinB x.n (-1000000) 1000000 = false) := by show _ = _; simp [withinB]; omega
            clear hRk hlo
            go_wp2_with fail
            refine start_ (n := 35) (S := fun w' => w'.cell? ⟨wr.heap.size, 0, none⟩ = some (.int .i64 x.r.at_) ∧ w'.cell? ⟨wr.heap.size, 1, none⟩ = some (.int .i64 x.r.key) ∧ w'.cell? ⟨wr.heap.size, 2, none⟩ = some (.int .i64 x.r.val) ∧ w'.cell? ⟨wr.heap.size, 3, none⟩ = some (.int .i64 x.n)) (ds := []) #[false, false, false, false, false, false, false, false, false, false, false, false, false, false, false, false, false, false, false, false, false, false, false, false, false, false, false, false, false, false, false, false, false, false, false] (by kernel_rfl) rfl rfl ⟨f0, f1, f2, f3⟩ (fun hHeld => ?_)
            refine pure_ (i := 0) (N := some 12) (v := ?_) (a' := ?_) #[true, false, false, false, false, false, false, false, false, false, false, false, false, false, false, false, false, false, false, false, false, false, false, false, false, false, false, false, false, false, false, false, false, false, false] rfl rfl (by kernel_rfl) (fun _ _ _ h => h) (Or.inl ⟨by rfl, ?_⟩) ?_ ?_
            rotate_left
            · intro w'
              go_simp
              with_reducible rfl
            rotate_left
            · simp only [Act.put, List.setIfInBounds_toArray, List.set_cons_zero, List.set_cons_succ]
              rfl
            refine take_ (i := 1) (N := some 13) (v := ?_) (a' := ?_) #[true, true, false, false, false, false, false, false, false, false, false, false, false, false, false, false, false, false, false, false, false, false, false, false, false, false, false, false, false, false, false, false, false, false, false] rfl rfl (by kernel_rfl) (fun _ _ _ h => h) (Or.inl ⟨by rfl, ?_⟩) hHeld ?_ ?_
            rotate_left
            · rintro w' ⟨s0, s1, s2, s3⟩
              go_simp
              with_reducible rfl
            rotate_left
            · simp only [Act.put, List.setIfInBounds_toArray, List.set_cons_zero, List.set_cons_succ]
              rfl
            refine one_ (i := 2) (N := some 14) #[true, true, true, false, false, false, false, false, false, false, false, false, false, false, false, false, false, false, false, false, false, false, false, false, false, false, false, false, false, false, false, false, false, false, false] rfl rfl (by kernel_rfl) (by decide) (fun K hK => ?_)
            refine goes_ Tryd.func38 (by kernel_rfl) rfl #[.agg #[.int .i64 x.r.at_, .int .i64 x.r.key, .int .i64 x.r.val]] (by rfl) rfl rfl (by (try simp only [List.map_toArray, List.map_cons, List.map_nil]); first | done | rfl) ?_
            with_reducible refine (Rec_any x.r _).mono ?_
            rintro e w1 ⟨rfl, hb1⟩
            rw [HRC.out]
            refine ⟨_, rfl, ?_⟩
            have HB1 := Lib.hid hb1.drew_left
            obtain ⟨f0, f1, f2, f3⟩ := box4 HB1.out
            refine hK.out _ _ ⟨f0, f1, f2, f3⟩ (fun hHeld => ?_)
            clear hK K hb1
            refine norm_ (a' := ?_) ?_ ?_
            rotate_left
            · show Act.put _ (some 14) _ = _
              simp only [Act.put, List.setIfInBounds_toArray, List.set_cons_zero, List.set_cons_succ]
              rfl
            refine pure_ (i := 3) (N := some 15) (v := ?_) (a' := ?_) #[true, true, true, true, false, false, false, false, false, false, false, false, false, false, false, false, false, false, false, false, false, false, false, false, false, false, false, false, false, false, false, false, false, false, false] rfl rfl (by kernel_rfl) (fun _ _ _ h => h) (Or.inl ⟨by rfl, ?_⟩) ?_ ?_
            rotate_left
            · intro w'
              go_simp
              with_reducible rfl
            rotate_left
            · simp only [Act.put, List.setIfInBounds_toArray, List.set_cons_zero, List.set_cons_succ]
              rfl
            refine pure_ (i := 4) (N := some 16) (v := ?_) (a' := ?_) #[true, true, true, true, true, false, false, false, false, false, false, false, false, false, false, false, false, false, false, false, false, false, false, false, false, false, false, false, false, false, false, false, false, false, false] rfl rfl (by kernel_rfl) (fun _ _ _ h => h) (Or.inl ⟨by rfl, ?_⟩) ?_ ?_
            rotate_left
            · intro w'
              go_simp
              with_reducible rfl
            rotate_left
            · simp only [Act.put, List.setIfInBounds_toArray, List.set_cons_zero, List.set_cons_succ]
              rfl
            refine pure_ (i := 5) (N := some 17) (v := ?_) (a' := ?_) #[true, true, true, true, true, true, false, false, false, false, false, false, false, false, false, false, false, false, false, false, false, false, false, false, false, false, false, false, false, false, false, false, false, false, false] rfl rfl (by kernel_rfl) (fun _ _ _ h => h) (Or.inl ⟨by rfl, ?_⟩) ?_ ?_
            rotate_left
            · intro w'
              go_simp
              with_reducible rfl
            rotate_left
            · simp only [Act.put, List.setIfInBounds_toArray, List.set_cons_zero, List.set_cons_succ]
              rfl
            refine take_ (i := 6) (N := some 18) (v := ?_) (a' := ?_) #[true, true, true, true, true, true, true, false, false, false, false, false, false, false, false, false, false, false, false, false, false, false, false, false, false, false, false, false, false, false, false, false, false, false, false] rfl rfl (by kernel_rfl) (fun _ _ _ h => h) (Or.inl ⟨by rfl, ?_⟩) hHeld ?_ ?_
            rotate_left
            · rintro w' ⟨s0, s1, s2, s3⟩
              go_simp
              with_reducible rfl
            rotate_left
            · simp only [Act.put, List.setIfInBounds_toArray, List.set_cons_zero, List.set_cons_succ]
              rfl
            refine pure_ (i := 7) (N := some 19) (v := ?_) (a' := ?_) #[true, true, true, true, true, true, true, true, false, false, false, false, false, false, false, false, false, false, false, false, false, false, false, false, false, false, false, false, false, false, false, false, false, false, false] rfl rfl (by kernel_rfl) (fun _ _ _ h => h) (Or.inl ⟨by rfl, ?_⟩) ?_ ?_
            rotate_left
            · intro w'
              go_simp
              with_reducible rfl
            rotate_left
            · simp only [Act.put, List.setIfInBounds_toArray, List.set_cons_zero, List.set_cons_succ]
              rfl
            refine pure_ (i := 8) (N := some 20) (v := ?_) (a' := ?_) #[true, true, true, true, true, true, true, true, true, false, false, false, false, false, false, false, false, false, false, false, false, false, false, false, false, false, false, false, false, false, false, false, false, false, false] rfl rfl (by kernel_rfl) (fun _ _ _ h => h) (Or.inl ⟨by rfl, ?_⟩) ?_ ?_
            rotate_left
            · intro w'
              go_simp
              with_reducible rfl
            rotate_left
            · simp only [Act.put, List.setIfInBounds_toArray, List.set_cons_zero, List.set_cons_succ]
              rfl
            refine pure_ (i := 9) (N := some 21) (v := ?_) (a' := ?_) #[true, true, true, true, true, true, true, true, true, true, false, false, false, false, false, false, false, false, false, false, false, false, false, false, false, false, false, false, false, false, false, false, false, false, false] rfl rfl (by kernel_rfl) (fun _ _ _ h => h) (Or.inl ⟨by rfl, ?_⟩) ?_ ?_
            rotate_left
            · intro w'
              go_simp
              with_reducible rfl
            rotate_left
            · simp only [Act.put, List.setIfInBounds_toArray, List.set_cons_zero, List.set_cons_succ]
              rfl
            refine pure_ (i := 10) (N := some 22) (v := ?_) (a' := ?_) #[true, true, true, true, true, true, true, true, true, true, true, false, false, false, false, false, false, false, false, false, false, false, false, false, false, false, false, false, false, false, false, false, false, false, false] rfl rfl (by kernel_rfl) (fun _ _ _ h => h) (Or.inl ⟨by rfl, ?_⟩) ?_ ?_
            rotate_left
            · intro w'
              go_simp
              with_reducible rfl
            rotate_left
            · simp only [Act.put, List.setIfInBounds_toArray, List.set_cons_zero, List.set_cons_succ]
              rfl
            refine take_ (i := 11) (N := some 23) (v := ?_) (a' := ?_) #[true, true, true, true, true, true, true, true, true, true, true, true, false, false, false, false, false, false, false, false, false, false, false, false, false, false, false, false, false, false, false, false, false, false, false] rfl rfl (by kernel_rfl) (fun _ _ _ h => h) (Or.inl ⟨by rfl, ?_⟩) hHeld ?_ ?_
            rotate_left
            · rintro w' ⟨s0, s1, s2, s3⟩
              go_simp
              with_reducible rfl
            rotate_left
            · simp only [Act.put, List.setIfInBounds_toArray, List.set_cons_zero, List.set_cons_succ]
              rfl
            refine pure_ (i := 12) (N := some 24) (v := ?_) (a' := ?_) #[true, true, true, true, true, true, true, true, true, true, true, true, true, false, false, false, false, false, false, false, false, false, false, false, false, false, false, false, false, false, false, false, false, false, false] rfl rfl (by kernel_rfl) (fun _ _ _ h => h) (Or.inl ⟨by rfl, ?_⟩) ?_ ?_
            rotate_left
            · intro w'
              go_simp
              with_reducible rfl
            rotate_left
            · simp only [Act.put, List.setIfInBounds_toArray, List.set_cons_zero, List.set_cons_succ]
              rfl
            refine pure_ (i := 13) (N := some 25) (v := ?_) (a' := ?_) #[true, true, true, true, true, true, true, true, true, true, true, true, true, true, false, false, false, false, false, false, false, false, false, false, false, false, false, false, false, false, false, false, false, false, false] rfl rfl (by kernel_rfl) (fun _ _ _ h => h) (Or.inl ⟨by rfl, ?_⟩) ?_ ?_
            rotate_left
            · intro w'
              go_simp
              with_reducible rfl
            rotate_left
            · simp only [Act.put, List.setIfInBounds_toArray, List.set_cons_zero, List.set_cons_succ]
              rfl
            refine pure_ (i := 14) (N := some 26) (v := ?_) (a' := ?_) #[true, true, true, true, true, true, true, true, true, true, true, true, true, true, true, false, false, false, false, false, false, false, false, false, false, false, false, false, false, false, false, false, false, false, false] rfl rfl (by kernel_rfl) (fun _ _ _ h => h) (Or.inl ⟨by rfl, ?_⟩) ?_ ?_
            rotate_left
            · intro w'
              go_simp
              with_reducible rfl
            rotate_left
            · simp only [Act.put, List.setIfInBounds_toArray, List.set_cons_zero, List.set_cons_succ]
              rfl
            refine pure_ (i := 15) (N := some 27) (v := undef) (a' := ?_) #[true, true, true, true, true, true, true, true, true, true, true, true, true, true, true, true, false, false, false, false, false, false, false, false, false, false, false, false, false, false, false, false, false, false, false] rfl rfl (by kernel_rfl) (fun _ _ _ h => h) (Or.inr ⟨by rfl, rfl⟩) ?_ ?_
            rotate_left
            · simp only [Act.put, List.setIfInBounds_toArray, List.set_cons_zero, List.set_cons_succ]
              rfl
            refine pure_ (i := 16) (N := some 28) (v := undef) (a' := ?_) #[true, true, true, true, true, true, true, true, true, true, true, true, true, true, true, true, true, false, false, false, false, false, false, false, false, false, false, false, false, false, false, false, false, false, false] rfl rfl (by kernel_rfl) (fun _ _ _ h => h) (Or.inr ⟨by rfl, rfl⟩) ?_ ?_
            rotate_left
            · simp only [Act.put, List.setIfInBounds_toArray, List.set_cons_zero, List.set_cons_succ]
              rfl
            refine pure_ (i := 17) (N := some 29) (v := undef) (a' := ?_) #[true, true, true, true, true, true, true, true, true, true, true, true, true, true, true, true, true, true, false, false, false, false, false, false, false, false, false, false, false, false, false, false, false, false, false] rfl rfl (by kernel_rfl) (fun _ _ _ h => h) (Or.inr ⟨by rfl, rfl⟩) ?_ ?_
            rotate_left
            · simp only [Act.put, List.setIfInBounds_toArray, List.set_cons_zero, List.set_cons_succ]
              rfl
            refine pure_ (i := 18) (N := some 30) (v := ?_) (a' := ?_) #[true, true, true, true, true, true, true, true, true, true, true, true, true, true, true, true, true, true, true, false, false, false, false, false, false, false, false, false, false, false, false, false, false, false, false] rfl rfl (by kernel_rfl) (fun _ _ _ h => h) (Or.inl ⟨by rfl, ?_⟩) ?_ ?_
            rotate_left
            · intro w'
              go_simp
              with_reducible rfl
            rotate_left
            · simp only [Act.put, List.setIfInBounds_toArray, List.set_cons_zero, List.set_cons_succ]
              rfl
            refine pure_ (i := 19) (N := some 31) (v := ?_) (a' := ?_) #[true, true, true, true, true, true, true, true, true, true, true, true, true, true, true, true, true, true, true, true, false, false, false, false, false, false, false, false, false, false, false, false, false, false, false] rfl rfl (by kernel_rfl) (fun _ _ _ h => h) (Or.inl ⟨by rfl, ?_⟩) ?_ ?_
            rotate_left
            · intro w'
              go_simp
              with_reducible rfl
            rotate_left
            · simp only [Act.put, List.setIfInBounds_toArray, List.set_cons_zero, List.set_cons_succ]
              rfl
            refine pure_ (i := 20) (N := some 32) (v := undef) (a' := ?_) #[true, true, true, true, true, true, true, true, true, true, true, true, true, true, true, true, true, true, true, true, true, false, false, false, false, false, false, false, false, false, false, false, false, false, false] rfl rfl (by kernel_rfl) (fun _ _ _ h => h) (Or.inr ⟨by rfl, rfl⟩) ?_ ?_
            rotate_left
            · simp only [Act.put, List.setIfInBounds_toArray, List.set_cons_zero, List.set_cons_succ]
              rfl
            refine pure_ (i := 21) (N := some 33) (v := undef) (a' := ?_) #[true, true, true, true, true, true, true, true, true, true, true, true, true, true, true, true, true, true, true, true, true, true, false, false, false, false, false, false, false, false, false, false, false, false, false] rfl rfl (by kernel_rfl) (fun _ _ _ h => h) (Or.inr ⟨by rfl, rfl⟩) ?_ ?_
            rotate_left
            · simp only [Act.put, List.setIfInBounds_toArray, List.set_cons_zero, List.set_cons_succ]
              rfl
            refine pure_ (i := 22) (N := some 34) (v := undef) (a' := ?_) #[true, true, true, true, true, true, true, true, true, true, true, true, true, true, true, true, true, true, true, true, true, true, true, false, false, false, false, false, false, false, false, false, false, false, false] rfl rfl (by kernel_rfl) (fun _ _ _ h => h) (Or.inr ⟨by rfl, rfl⟩) ?_ ?_
            rotate_left
            · simp only [Act.put, List.setIfInBounds_toArray, List.set_cons_zero, List.set_cons_succ]
              rfl
            refine pure_ (i := 23) (N := some 35) (v := undef) (a' := ?_) #[true, true, true, true, true, true, true, true, true, true, true, true, true, true, true, true, true, true, true, true, true, true, true, true, false, false, false, false, false, false, false, false, false, false, false] rfl rfl (by kernel_rfl) (fun _ _ _ h => h) (Or.inr ⟨by rfl, rfl⟩) ?_ ?_
            rotate_left
            · simp only [Act.put, List.setIfInBounds_toArray, List.set_cons_zero, List.set_cons_succ]
              rfl
            refine pure_ (i := 24) (N := some 36) (v := undef) (a' := ?_) #[true, true, true, true, true, true, true, true, true, true, true, true, true, true, true, true, true, true, true, true, true, true, true, true, true, false, false, false, false, false, false, false, false, false, false] rfl rfl (by kernel_rfl) (fun _ _ _ h => h) (Or.inr ⟨by rfl, rfl⟩) ?_ ?_
            rotate_left
            · simp only [Act.put, List.setIfInBounds_toArray, List.set_cons_zero, List.set_cons_succ]
              rfl
            refine pure_ (i := 25) (N := some 37) (v := undef) (a' := ?_) #[true, true, true, true, true, true, true, true, true, true, true, true, true, true, true, true, true, true, true, true, true, true, true, true, true, true, false, false, false, false, false, false, false, false, false] rfl rfl (by kernel_rfl) (fun _ _ _ h => h) (Or.inr ⟨by rfl, rfl⟩) ?_ ?_
            rotate_left
            · simp only [Act.put, List.setIfInBounds_toArray, List.set_cons_zero, List.set_cons_succ]
              rfl
            refine pure_ (i := 26) (N := some 38) (v := undef) (a' := ?_) #[true, true, true, true, true, true, true, true, true, true, true, true, true, true, true, true, true, true, true, true, true, true, true, true, true, true, true, false, false, false, false, false, false, false, false] rfl rfl (by kernel_rfl) (fun _ _ _ h => h) (Or.inr ⟨by rfl, rfl⟩) ?_ ?_
            rotate_left
            · simp only [Act.put, List.setIfInBounds_toArray, List.set_cons_zero, List.set_cons_succ]
              rfl
            refine pure_ (i := 27) (N := some 39) (v := undef) (a' := ?_) #[true, true, true, true, true, true, true, true, true, true, true, true, true, true, true, true, true, true, true, true, true, true, true, true, true, true, true, true, false, false, false, false, false, false, false] rfl rfl (by kernel_rfl) (fun _ _ _ h => h) (Or.inr ⟨by rfl, rfl⟩) ?_ ?_
            rotate_left
            · simp only [Act.put, List.setIfInBounds_toArray, List.set_cons_zero, List.set_cons_succ]
              rfl
            refine pure_ (i := 28) (N := some 40) (v := undef) (a' := ?_) #[true, true, true, true, true, true, true, true, true, true, true, true, true, true, true, true, true, true, true, true, true, true, true, true, true, true, true, true, true, false, false, false, false, false, false] rfl rfl (by kernel_rfl) (fun _ _ _ h => h) (Or.inr ⟨by rfl, rfl⟩) ?_ ?_
            rotate_left
            · simp only [Act.put, List.setIfInBounds_toArray, List.set_cons_zero, List.set_cons_succ]
              rfl
            refine pure_ (i := 29) (N := some 41) (v := undef) (a' := ?_) #[true, true, true, true, true, true, true, true, true, true, true, true, true, true, true, true, true, true, true, true, true, true, true, true, true, true, true, true, true, true, false, false, false, false, false] rfl rfl (by kernel_rfl) (fun _ _ _ h => h) (Or.inr ⟨by rfl, rfl⟩) ?_ ?_
            rotate_left
            · simp only [Act.put, List.setIfInBounds_toArray, List.set_cons_zero, List.set_cons_succ]
              rfl
            refine pure_ (i := 30) (N := some 42) (v := undef) (a' := ?_) #[true, true, true, true, true, true, true, true, true, true, true, true, true, true, true, true, true, true, true, true, true, true, true, true, true, true, true, true, true, true, true, false, false, false, false] rfl rfl (by kernel_rfl) (fun _ _ _ h => h) (Or.inr ⟨by rfl, rfl⟩) ?_ ?_
            rotate_left
            · simp only [Act.put, List.setIfInBounds_toArray, List.set_cons_zero, List.set_cons_succ]
              rfl
            refine pure_ (i := 31) (N := some 43) (v := undef) (a' := ?_) #[true, true, true, true, true, true, true, true, true, true, true, true, true, true, true, true, true, true, true, true, true, true, true, true, true, true, true, true, true, true, true, true, false, false, false] rfl rfl (by kernel_rfl) (fun _ _ _ h => h) (Or.inr ⟨by rfl, rfl⟩) ?_ ?_
            rotate_left
            · simp only [Act.put, List.setIfInBounds_toArray, List.set_cons_zero, List.set_cons_succ]
              rfl
            refine pure_ (i := 32) (N := some 44) (v := undef) (a' := ?_) #[true, true, true, true, true, true, true, true, true, true, true, true, true, true, true, true, true, true, true, true, true, true, true, true, true, true, true, true, true, true, true, true, true, false, false] rfl rfl (by kernel_rfl) (fun _ _ _ h => h) (Or.inr ⟨by rfl, rfl⟩) ?_ ?_
            rotate_left
            · simp only [Act.put, List.setIfInBounds_toArray, List.set_cons_zero, List.set_cons_succ]
              rfl
            refine pure_ (i := 33) (N := some 45) (v := undef) (a' := ?_) #[true, true, true, true, true, true, true, true, true, true, true, true, true, true, true, true, true, true, true, true, true, true, true, true, true, true, true, true, true, true, true, true, true, true, false] rfl rfl (by kernel_rfl) (fun _ _ _ h => h) (Or.inr ⟨by rfl, rfl⟩) ?_ ?_
            rotate_left
            · simp only [Act.put, List.setIfInBounds_toArray, List.set_cons_zero, List.set_cons_succ]
              rfl
            refine pure_ (i := 34) (N := some 46) (v := ?_) (a' := ?_) #[true, true, true, true, true, true, true, true, true, true, true, true, true, true, true, true, true, true, true, true, true, true, true, true, true, true, true, true, true, true, true, true, true, true, true] rfl rfl (by kernel_rfl) (fun _ _ _ h => h) (Or.inl ⟨by rfl, ?_⟩) ?_ ?_
            rotate_left
            · intro w'
              go_simp
              with_reducible rfl
            rotate_left
            · simp only [Act.put, List.setIfInBounds_toArray, List.set_cons_zero, List.set_cons_succ]
              rfl
            refine done_ (by kernel_rfl) ?_
            go_wp2_with fail
            go_ret
            refine ⟨ret_bool ?_, below_box HB.out HB.out.size HB1.out⟩
            have : stepB l k = false := by simp [stepB, HX.out, itB, HRC.out, HM.out]
            rw [bagB_false this HR.out.len hlt]
          · have hlod : decide (x.n < -1000000) = false := by simpa using hlo
            by_cases hhi : 1000000 < x.n
            · have hhid : decide (1000000 < x.n) = true := by simpa using hhi
              have HM : Hid (withinB x.n (-1000000) 1000000 = false) := by show _ = _; simp [withinB]; omega
              clear hRk hhi hlo
              go_wp2_with fail
              refine start_ (n := 35) (S := fun w' => w'.cell? ⟨wr.heap.size, 0, none⟩ = some (.int .i64 x.r.at_) ∧ w'.cell? ⟨wr.heap.size, 1, none⟩ = some (.int .i64 x.r.key) ∧ w'.cell? ⟨wr.heap.size, 2, none⟩ = some (.int .i64 x.r.val) ∧ w'.cell? ⟨wr.heap.size, 3, none⟩ = some (.int .i64 x.n)) (ds := []) #[false, false, false, false, false, false, false, false, false, false, false, false, false, false, false, false, false, false, false, false, false, false, false, false, false, false, false, false, false, false, false, false, false, false, false] (by kernel_rfl) rfl rfl ⟨f0, f1, f2, f3⟩ (fun hHeld => ?_)
              refine pure_ (i := 0) (N := some 12) (v := ?_) (a' := ?_) #[true, false, false, false, false, false, false, false, false, false, false, false, false, false, false, false, false, false, false, false, false, false, false, false, false, false, false, false, false, false, false, false, false, false, false] rfl rfl (by kernel_rfl) (fun _ _ _ h => h) (Or.inl ⟨by rfl, ?_⟩) ?_ ?_
              rotate_left
              · intro w'
                go_simp
                with_reducible rfl
              rotate_left
              · simp only [Act.put, List.setIfInBounds_toArray, List.set_cons_zero, List.set_cons_succ]
                rfl
              refine take_ (i := 1) (N := some 13) (v := ?_) (a' := ?_) #[true, true, false, false, false, false, false, false, false, false, false, false, false, false, false, false, false, false, false, false, false, false, false, false, false, false, false, false, false, false, false, false, false, false, false] rfl rfl (by kernel_rfl) (fun _ _ _ h => h) (Or.inl ⟨by rfl, ?_⟩) hHeld ?_ ?_
              rotate_left
              · rintro w' ⟨s0, s1, s2, s3⟩
                go_simp
                with_reducible rfl
              rotate_left
              · simp only [Act.put, List.setIfInBounds_toArray, List.set_cons_zero, List.set_cons_succ]
                rfl
              refine one_ (i := 2) (N := some 14) #[true, true, true, false, false, false, false, false, false, false, false, false, false, false, false, false, false, false, false, false, false, false, false, false, false, false, false, false, false, false, false, false, false, false, false] rfl rfl (by kernel_rfl) (by decide) (fun K hK => ?_)
              refine goes_ Tryd.func38 (by kernel_rfl) rfl #[.agg #[.int .i64 x.r.at_, .int .i64 x.r.key, .int .i64 x.r.val]] (by rfl) rfl rfl (by (try simp only [List.map_toArray, List.map_cons, List.map_nil]); first | done | rfl) ?_
              with_reducible refine (Rec_any x.r _).mono ?_
              rintro e w1 ⟨rfl, hb1⟩
              rw [HRC.out]
              refine ⟨_, rfl, ?_⟩
              have HB1 := Lib.hid hb1.drew_left
              obtain ⟨f0, f1, f2, f3⟩ := box4 HB1.out
              refine hK.out _ _ ⟨f0, f1, f2, f3⟩ (fun hHeld => ?_)
              clear hK K hb1
              refine norm_ (a' := ?_) ?_ ?_
              rotate_left
              · show Act.put _ (some 14) _ = _
                simp only [Act.put, List.setIfInBounds_toArray, List.set_cons_zero, List.set_cons_succ]
                rfl
              refine pure_ (i := 3) (N := some 15) (v := ?_) (a' := ?_) #[true, true, true, true, false, false, false, false, false, false, false, false, false, false, false, false, false, false, false, false, false, false, false, false, false, false, false, false, false, false, false, false, false, false, false] rfl rfl (by kernel_rfl) (fun _ _ _ h => h) (Or.inl ⟨by rfl, ?_⟩) ?_ ?_
              rotate_left
              · intro w'
                go_simp
                with_reducible rfl
              rotate_left
              · simp only [Act.put, List.setIfInBounds_toArray, List.set_cons_zero, List.set_cons_succ]
                rfl
              refine pure_ (i := 4) (N := some 16) (v := ?_) (a' := ?_) #[true, true, true, true, true, false, false, false, false, false, false, false, false, false, false, false, false, false, false, false, false, false, false, false, false, false, false, false, false, false, false, false, false, false, false] rfl rfl (by kernel_rfl) (fun _ _ _ h => h) (Or.inl ⟨by rfl, ?_⟩) ?_ ?_
              rotate_left
              · intro w'
                go_simp
                with_reducible rfl
              rotate_left
              · simp only [Act.put, List.setIfInBounds_toArray, List.set_cons_zero, List.set_cons_succ]
                rfl
              refine pure_ (i := 5) (N := some 17) (v := ?_) (a' := ?_) #[true, true, true, true, true, true, false, false, false, false, false, false, false, false, false, false, false, false, false, false, false, false, false, false, false, false, false, false, false, false, false, false, false, false, false] rfl rfl (by kernel_rfl) (fun _ _ _ h => h) (Or.inl ⟨by rfl, ?_⟩) ?_ ?_
              rotate_left
              · intro w'
                go_simp
                with_reducible rfl
              rotate_left
              · simp only [Act.put, List.setIfInBounds_toArray, List.set_cons_zero, List.set_cons_succ]
                rfl
              refine take_ (i := 6) (N := some 18) (v := ?_) (a' := ?_) #[true, true, true, true, true, true, true, false, false, false, false, false, false, false, false, false, false, false, false, false, false, false, false, false, false, false, false, false, false, false, false, false, false, false, false] rfl rfl (by kernel_rfl) (fun _ _ _ h => h) (Or.inl ⟨by rfl, ?_⟩) hHeld ?_ ?_
              rotate_left
              · rintro w' ⟨s0, s1, s2, s3⟩
                go_simp
                with_reducible rfl
              rotate_left
              · simp only [Act.put, List.setIfInBounds_toArray, List.set_cons_zero, List.set_cons_succ]
                rfl
              refine pure_ (i := 7) (N := some 19) (v := ?_) (a' := ?_) #[true, true, true, true, true, true, true, true, false, false, false, false, false, false, false, false, false, false, false, false, false, false, false, false, false, false, false, false, false, false, false, false, false, false, false] rfl rfl (by kernel_rfl) (fun _ _ _ h => h) (Or.inl ⟨by rfl, ?_⟩) ?_ ?_
              rotate_left
              · intro w'
                go_simp
                with_reducible rfl
              rotate_left
              · simp only [Act.put, List.setIfInBounds_toArray, List.set_cons_zero, List.set_cons_succ]
                rfl
              refine pure_ (i := 8) (N := some 20) (v := ?_) (a' := ?_) #[true, true, true, true, true, true, true, true, true, false, false, false, false, false, false, false, false, false, false, false, false, false, false, false, false, false, false, false, false, false, false, false, false, false, false] rfl rfl (by kernel_rfl) (fun _ _ _ h => h) (Or.inl ⟨by rfl, ?_⟩) ?_ ?_
              rotate_left
              · intro w'
                go_simp
                with_reducible rfl
              rotate_left
              · simp only [Act.put, List.setIfInBounds_toArray, List.set_cons_zero, List.set_cons_succ]
                rfl
              refine pure_ (i := 9) (N := some 21) (v := ?_) (a' := ?_) #[true, true, true, true, true, true, true, true, true, true, false, false, false, false, false, false, false, false, false, false, false, false, false, false, false, false, false, false, false, false, false, false, false, false, false] rfl rfl (by kernel_rfl) (fun _ _ _ h => h) (Or.inl ⟨by rfl, ?_⟩) ?_ ?_
              rotate_left
              · intro w'
                go_simp
                with_reducible rfl
              rotate_left
              · simp only [Act.put, List.setIfInBounds_toArray, List.set_cons_zero, List.set_cons_succ]
                rfl
              refine pure_ (i := 10) (N := some 22) (v := ?_) (a' := ?_) #[true, true, true, true, true, true, true, true, true, true, true, false, false, false, false, false, false, false, false, false, false, false, false, false, false, false, false, false, false, false, false, false, false, false, false] rfl rfl (by kernel_rfl) (fun _ _ _ h => h) (Or.inl ⟨by rfl, ?_⟩) ?_ ?_
              rotate_left
              · intro w'
                go_simp
                with_reducible rfl
              rotate_left
              · simp only [Act.put, List.setIfInBounds_toArray, List.set_cons_zero, List.set_cons_succ]
                rfl
              refine take_ (i := 11) (N := some 23) (v := ?_) (a' := ?_) #[true, true, true, true, true, true, true, true, true, true, true, true, false, false, false, false, false, false, false, false, false, false, false, false, false, false, false, false, false, false, false, false, false, false, false] rfl rfl (by kernel_rfl) (fun _ _ _ h => h) (Or.inl ⟨by rfl, ?_⟩) hHeld ?_ ?_
              rotate_left
              · rintro w' ⟨s0, s1, s2, s3⟩
                go_simp
                with_reducible rfl
              rotate_left
              · simp only [Act.put, List.setIfInBounds_toArray, List.set_cons_zero, List.set_cons_succ]
                rfl
              refine pure_ (i := 12) (N := some 24) (v := ?_) (a' := ?_) #[true, true, true, true, true, true, true, true, true, true, true, true, true, false, false, false, false, false, false, false, false, false, false, false, false, false, false, false, false, false, false, false, false, false, false] rfl rfl (by kernel_rfl) (fun _ _ _ h => h) (Or.inl ⟨by rfl, ?_⟩) ?_ ?_
              rotate_left
              · intro w'
                go_simp
                with_reducible rfl
              rotate_left
              · simp only [Act.put, List.setIfInBounds_toArray, List.set_cons_zero, List.set_cons_succ]
                rfl
              refine pure_ (i := 13) (N := some 25) (v := ?_) (a' := ?_) #[true, true, true, true, true, true, true, true, true, true, true, true, true, true, false, false, false, false, false, false, false, false, false, false, false, false, false, false, false, false, false, false, false, false, false] rfl rfl (by kernel_rfl) (fun _ _ _ h => h) (Or.inl ⟨by rfl, ?_⟩) ?_ ?_
              rotate_left
              · intro w'
                go_simp
                with_reducible rfl
              rotate_left
              · simp only [Act.put, List.setIfInBounds_toArray, List.set_cons_zero, List.set_cons_succ]
                rfl
              refine pure_ (i := 14) (N := some 26) (v := ?_) (a' := ?_) #[true, true, true, true, true, true, true, true, true, true, true, true, true, true, true, false, false, false, false, false, false, false, false, false, false, false, false, false, false, false, false, false, false, false, false] rfl rfl (by kernel_rfl) (fun _ _ _ h => h) (Or.inl ⟨by rfl, ?_⟩) ?_ ?_
              rotate_left
              · intro w'
                go_simp
                with_reducible rfl
              rotate_left
              · simp only [Act.put, List.setIfInBounds_toArray, List.set_cons_zero, List.set_cons_succ]
                rfl
              refine pure_ (i := 15) (N := some 27) (v := ?_) (a' := ?_) #[true, true, true, true, true, true, true, true, true, true, true, true, true, true, true, true, false, false, false, false, false, false, false, false, false, false, false, false, false, false, false, false, false, false, false] rfl rfl (by kernel_rfl) (fun _ _ _ h => h) (Or.inl ⟨by rfl, ?_⟩) ?_ ?_
              rotate_left
              · intro w'
                go_simp
                with_reducible rfl
              rotate_left
              · simp only [Act.put, List.setIfInBounds_toArray, List.set_cons_zero, List.set_cons_succ]
                rfl
              refine take_ (i := 16) (N := some 28) (v := ?_) (a' := ?_) #[true, true, true, true, true, true, true, true, true, true, true, true, true, true, true, true, true, false, false, false, false, false, false, false, false, false, false, false, false, false, false, false, false, false, false] rfl rfl (by kernel_rfl) (fun _ _ _ h => h) (Or.inl ⟨by rfl, ?_⟩) hHeld ?_ ?_
              rotate_left
              · rintro w' ⟨s0, s1, s2, s3⟩
                go_simp
                with_reducible rfl
              rotate_left
              · simp only [Act.put, List.setIfInBounds_toArray, List.set_cons_zero, List.set_cons_succ]
                rfl
              refine pure_ (i := 17) (N := some 29) (v := ?_) (a' := ?_) #[true, true, true, true, true, true, true, true, true, true, true, true, true, true, true, true, true, true, false, false, false, false, false, false, false, false, false, false, false, false, false, false, false, false, false] rfl rfl (by kernel_rfl) (fun _ _ _ h => h) (Or.inl ⟨by rfl, ?_⟩) ?_ ?_
              rotate_left
              · intro w'
                go_simp
                with_reducible rfl
              rotate_left
              · simp only [Act.put, List.setIfInBounds_toArray, List.set_cons_zero, List.set_cons_succ]
                rfl
              refine pure_ (i := 18) (N := some 30) (v := ?_) (a' := ?_) #[true, true, true, true, true, true, true, true, true, true, true, true, true, true, true, true, true, true, true, false, false, false, false, false, false, false, false, false, false, false, false, false, false, false, false] rfl rfl (by kernel_rfl) (fun _ _ _ h => h) (Or.inl ⟨by rfl, ?_⟩) ?_ ?_
              rotate_left
              · intro w'
                go_simp
                with_reducible rfl
              rotate_left
              · simp only [Act.put, List.setIfInBounds_toArray, List.set_cons_zero, List.set_cons_succ]
                rfl
              refine pure_ (i := 19) (N := some 31) (v := ?_) (a' := ?_) #[true, true, true, true, true, true, true, true, true, true, true, true, true, true, true, true, true, true, true, true, false, false, false, false, false, false, false, false, false, false, false, false, false, false, false] rfl rfl (by kernel_rfl) (fun _ _ _ h => h) (Or.inl ⟨by rfl, ?_⟩) ?_ ?_
              rotate_left
              · intro w'
                go_simp
                with_reducible rfl
              rotate_left
              · simp only [Act.put, List.setIfInBounds_toArray, List.set_cons_zero, List.set_cons_succ]
                rfl
              refine pure_ (i := 20) (N := some 32) (v := undef) (a' := ?_) #[true, true, true, true, true, true, true, true, true, true, true, true, true, true, true, true, true, true, true, true, true, false, false, false, false, false, false, false, false, false, false, false, false, false, false] rfl rfl (by kernel_rfl) (fun _ _ _ h => h) (Or.inr ⟨by rfl, rfl⟩) ?_ ?_
              rotate_left
              · simp only [Act.put, List.setIfInBounds_toArray, List.set_cons_zero, List.set_cons_succ]
                rfl
              refine pure_ (i := 21) (N := some 33) (v := undef) (a' := ?_) #[true, true, true, true, true, true, true, true, true, true, true, true, true, true, true, true, true, true, true, true, true, true, false, false, false, false, false, false, false, false, false, false, false, false, false] rfl rfl (by kernel_rfl) (fun _ _ _ h => h) (Or.inr ⟨by rfl, rfl⟩) ?_ ?_
              rotate_left
              · simp only [Act.put, List.setIfInBounds_toArray, List.set_cons_zero, List.set_cons_succ]
                rfl
              refine pure_ (i := 22) (N := some 34) (v := undef) (a' := ?_) #[true, true, true, true, true, true, true, true, true, true, true, true, true, true, true, true, true, true, true, true, true, true, true, false, false, false, false, false, false, false, false, false, false, false, false] rfl rfl (by kernel_rfl) (fun _ _ _ h => h) (Or.inr ⟨by rfl, rfl⟩) ?_ ?_
              rotate_left
              · simp only [Act.put, List.setIfInBounds_toArray, List.set_cons_zero, List.set_cons_succ]
                rfl
              refine pure_ (i := 23) (N := some 35) (v := undef) (a' := ?_) #[true, true, true, true, true, true, true, true, true, true, true, true, true, true, true, true, true, true, true, true, true, true, true, true, false, false, false, false, false, false, false, false, false, false, false] rfl rfl (by kernel_rfl) (fun _ _ _ h => h) (Or.inr ⟨by rfl, rfl⟩) ?_ ?_
              rotate_left
              · simp only [Act.put, List.setIfInBounds_toArray, List.set_cons_zero, List.set_cons_succ]
                rfl
              refine pure_ (i := 24) (N := some 36) (v := undef) (a' := ?_) #[true, true, true, true, true, true, true, true, true, true, true, true, true, true, true, true, true, true, true, true, true, true, true, true, true, false, false, false, false, false, false, false, false, false, false] rfl rfl (by kernel_rfl) (fun _ _ _ h => h) (Or.inr ⟨by rfl, rfl⟩) ?_ ?_
              rotate_left
              · simp only [Act.put, List.setIfInBounds_toArray, List.set_cons_zero, List.set_cons_succ]
                rfl
              refine pure_ (i := 25) (N := some 37) (v := undef) (a' := ?_) #[true, true, true, true, true, true, true, true, true, true, true, true, true, true, true, true, true, true, true, true, true, true, true, true, true, true, false, false, false, false, false, false, false, false, false] rfl rfl (by kernel_rfl) (fun _ _ _ h => h) (Or.inr ⟨by rfl, rfl⟩) ?_ ?_
              rotate_left
              · simp only [Act.put, List.setIfInBounds_toArray, List.set_cons_zero, List.set_cons_succ]
                rfl
              refine pure_ (i := 26) (N := some 38) (v := undef) (a' := ?_) #[true, true, true, true, true, true, true, true, true, true, true, true, true, true, true, true, true, true, true, true, true, true, true, true, true, true, true, false, false, false, false, false, false, false, false] rfl rfl (by kernel_rfl) (fun _ _ _ h => h) (Or.inr ⟨by rfl, rfl⟩) ?_ ?_
              rotate_left
              · simp only [Act.put, List.setIfInBounds_toArray, List.set_cons_zero, List.set_cons_succ]
                rfl
              refine pure_ (i := 27) (N := some 39) (v := undef) (a' := ?_) #[true, true, true, true, true, true, true, true, true, true, true, true, true, true, true, true, true, true, true, true, true, true, true, true, true, true, true, true, false, false, false, false, false, false, false] rfl rfl (by kernel_rfl) (fun _ _ _ h => h) (Or.inr ⟨by rfl, rfl⟩) ?_ ?_
              rotate_left
              · simp only [Act.put, List.setIfInBounds_toArray, List.set_cons_zero, List.set_cons_succ]
                rfl
              refine pure_ (i := 28) (N := some 40) (v := undef) (a' := ?_) #[true, true, true, true, true, true, true, true, true, true, true, true, true, true, true, true, true, true, true, true, true, true, true, true, true, true, true, true, true, false, false, false, false, false, false] rfl rfl (by kernel_rfl) (fun _ _ _ h => h) (Or.inr ⟨by rfl, rfl⟩) ?_ ?_
              rotate_left
              · simp only [Act.put, List.setIfInBounds_toArray, List.set_cons_zero, List.set_cons_succ]
                rfl
              refine pure_ (i := 29) (N := some 41) (v := undef) (a' := ?_) #[true, true, true, true, true, true, true, true, true, true, true, true, true, true, true, true, true, true, true, true, true, true, true, true, true, true, true, true, true, true, false, false, false, false, false] rfl rfl (by kernel_rfl) (fun _ _ _ h => h) (Or.inr ⟨by rfl, rfl⟩) ?_ ?_
              rotate_left
              · simp only [Act.put, List.setIfInBounds_toArray, List.set_cons_zero, List.set_cons_succ]
                rfl
              refine pure_ (i := 30) (N := some 42) (v := undef) (a' := ?_) #[true, true, true, true, true, true, true, true, true, true, true, true, true, true, true, true, true, true, true, true, true, true, true, true, true, true, true, true, true, true, true, false, false, false, false] rfl rfl (by kernel_rfl) (fun _ _ _ h => h) (Or.inr ⟨by rfl, rfl⟩) ?_ ?_
              rotate_left
              · simp only [Act.put, List.setIfInBounds_toArray, List.set_cons_zero, List.set_cons_succ]
                rfl
              refine pure_ (i := 31) (N := some 43) (v := undef) (a' := ?_) #[true, true, true, true, true, true, true, true, true, true, true, true, true, true, true, true, true, true, true, true, true, true, true, true, true, true, true, true, true, true, true, true, false, false, false] rfl rfl (by kernel_rfl) (fun _ _ _ h => h) (Or.inr ⟨by rfl, rfl⟩) ?_ ?_
              rotate_left
              · simp only [Act.put, List.setIfInBounds_toArray, List.set_cons_zero, List.set_cons_succ]
                rfl
              refine pure_ (i := 32) (N := some 44) (v := undef) (a' := ?_) #[true, true, true, true, true, true, true, true, true, true, true, true, true, true, true, true, true, true, true, true, true, true, true, true, true, true, true, true, true, true, true, true, true, false, false] rfl rfl (by kernel_rfl) (fun _ _ _ h => h) (Or.inr ⟨by rfl, rfl⟩) ?_ ?_
              rotate_left
              · simp only [Act.put, List.setIfInBounds_toArray, List.set_cons_zero, List.set_cons_succ]
                rfl
              refine pure_ (i := 33) (N := some 45) (v := undef) (a' := ?_) #[true, true, true, true, true, true, true, true, true, true, true, true, true, true, true, true, true, true, true, true, true, true, true, true, true, true, true, true, true, true, true, true, true, true, false] rfl rfl (by kernel_rfl) (fun _ _ _ h => h) (Or.inr ⟨by rfl, rfl⟩) ?_ ?_
              rotate_left
              · simp only [Act.put, List.setIfInBounds_toArray, List.set_cons_zero, List.set_cons_succ]
                rfl
              refine pure_ (i := 34) (N := some 46) (v := ?_) (a' := ?_) #[true, true, true, true, true, true, true, true, true, true, true, true, true, true, true, true, true, true, true, true, true, true, true, true, true, true, true, true, true, true, true, true, true, true, true] rfl rfl (by kernel_rfl) (fun _ _ _ h => h) (Or.inl ⟨by rfl, ?_⟩) ?_ ?_
              rotate_left
              · intro w'
                go_simp
                with_reducible rfl
              rotate_left
              · simp only [Act.put, List.setIfInBounds_toArray, List.set_cons_zero, List.set_cons_succ]
                rfl
              refine done_ (by kernel_rfl) ?_
              go_wp2_with fail
              go_ret
              refine ⟨ret_bool ?_, below_box HB.out HB.out.size HB1.out⟩
              have : stepB l k = false := by simp [stepB, HX.out, itB, HRC.out, HM.out]
              rw [bagB_false this HR.out.len hlt]
            · have hhid : decide (1000000 < x.n) = false := by simpa using hhi
              have HM : Hid (withinB x.n (-1000000) 1000000 = true) := by show _ = _; simp [withinB]; omega
              clear hhi hlo
              cases k with
              | zero =>
                clear hRk
                simp only [Nat.zero_mul, Nat.add_zero] at c0 c1 c2 c3
                go_wp2_with fail
                refine start_ (n := 35) (S := fun w' => w'.cell? ⟨wr.heap.size, 0, none⟩ = some (.int .i64 x.r.at_) ∧ w'.cell? ⟨wr.heap.size, 1, none⟩ = some (.int .i64 x.r.key) ∧ w'.cell? ⟨wr.heap.size, 2, none⟩ = some (.int .i64 x.r.val) ∧ w'.cell? ⟨wr.heap.size, 3, none⟩ = some (.int .i64 x.n)) (ds := []) #[false, false, false, false, false, false, false, false, false, false, false, false, false, false, false, false, false, false, false, false, false, false, false, false, false, false, false, false, false, false, false, false, false, false, false] (by kernel_rfl) rfl rfl ⟨f0, f1, f2, f3⟩ (fun hHeld => ?_)
                refine pure_ (i := 0) (N := some 12) (v := ?_) (a' := ?_) #[true, false, false, false, false, false, false, false, false, false, false, false, false, false, false, false, false, false, false, false, false, false, false, false, false, false, false, false, false, false, false, false, false, false, false] rfl rfl (by kernel_rfl) (fun _ _ _ h => h) (Or.inl ⟨by rfl, ?_⟩) ?_ ?_
                rotate_left
                · intro w'
                  go_simp
                  with_reducible rfl
                rotate_left
                · simp only [Act.put, List.setIfInBounds_toArray, List.set_cons_zero, List.set_cons_succ]
                  rfl
                refine take_ (i := 1) (N := some 13) (v := ?_) (a' := ?_) #[true, true, false, false, false, false, false, false, false, false, false, false, false, false, false, false, false, false, false, false, false, false, false, false, false, false, false, false, false, false, false, false, false, false, false] rfl rfl (by kernel_rfl) (fun _ _ _ h => h) (Or.inl ⟨by rfl, ?_⟩) hHeld ?_ ?_
                rotate_left
                · rintro w' ⟨s0, s1, s2, s3⟩
                  go_simp
                  with_reducible rfl
                rotate_left
                · simp only [Act.put, List.setIfInBounds_toArray, List.set_cons_zero, List.set_cons_succ]
                  rfl
                refine one_ (i := 2) (N := some 14) #[true, true, true, false, false, false, false, false, false, false, false, false, false, false, false, false, false, false, false, false, false, false, false, false, false, false, false, false, false, false, false, false, false, false, false] rfl rfl (by kernel_rfl) (by decide) (fun K hK => ?_)
                refine goes_ Tryd.func38 (by kernel_rfl) rfl #[.agg #[.int .i64 x.r.at_, .int .i64 x.r.key, .int .i64 x.r.val]] (by rfl) rfl rfl (by (try simp only [List.map_toArray, List.map_cons, List.map_nil]); first | done | rfl) ?_
                with_reducible refine (Rec_any x.r _).mono ?_
                rintro e w1 ⟨rfl, hb1⟩
                rw [HRC.out]
                refine ⟨_, rfl, ?_⟩
                have HB1 := Lib.hid hb1.drew_left
                obtain ⟨f0, f1, f2, f3⟩ := box4 HB1.out
                refine hK.out _ _ ⟨f0, f1, f2, f3⟩ (fun hHeld => ?_)
                clear hK K hb1
                refine norm_ (a' := ?_) ?_ ?_
                rotate_left
                · show Act.put _ (some 14) _ = _
                  simp only [Act.put, List.setIfInBounds_toArray, List.set_cons_zero, List.set_cons_succ]
                  rfl
                refine pure_ (i := 3) (N := some 15) (v := ?_) (a' := ?_) #[true, true, true, true, false, false, false, false, false, false, false, false, false, false, false, false, false, false, false, false, false, false, false, false, false, false, false, false, false, false, false, false, false, false, false] rfl rfl (by kernel_rfl) (fun _ _ _ h => h) (Or.inl ⟨by rfl, ?_⟩) ?_ ?_
                rotate_left
                · intro w'
                  go_simp
                  with_reducible rfl
                rotate_left
                · simp only [Act.put, List.setIfInBounds_toArray, List.set_cons_zero, List.set_cons_succ]
                  rfl
                refine pure_ (i := 4) (N := some 16) (v := ?_) (a' := ?_) #[true, true, true, true, true, false, false, false, false, false, false, false, false, false, false, false, false, false, false, false, false, false, false, false, false, false, false, false, false, false, false, false, false, false, false] rfl rfl (by kernel_rfl) (fun _ _ _ h => h) (Or.inl ⟨by rfl, ?_⟩) ?_ ?_
                rotate_left
                · intro w'
                  go_simp
                  with_reducible rfl
                rotate_left
                · simp only [Act.put, List.setIfInBounds_toArray, List.set_cons_zero, List.set_cons_succ]
                  rfl
                refine pure_ (i := 5) (N := some 17) (v := ?_) (a' := ?_) #[true, true, true, true, true, true, false, false, false, false, false, false, false, false, false, false, false, false, false, false, false, false, false, false, false, false, false, false, false, false, false, false, false, false, false] rfl rfl (by kernel_rfl) (fun _ _ _ h => h) (Or.inl ⟨by rfl, ?_⟩) ?_ ?_
                rotate_left
                · intro w'
                  go_simp
                  with_reducible rfl
                rotate_left
                · simp only [Act.put, List.setIfInBounds_toArray, List.set_cons_zero, List.set_cons_succ]
                  rfl
                refine take_ (i := 6) (N := some 18) (v := ?_) (a' := ?_) #[true, true, true, true, true, true, true, false, false, false, false, false, false, false, false, false, false, false, false, false, false, false, false, false, false, false, false, false, false, false, false, false, false, false, false] rfl rfl (by kernel_rfl) (fun _ _ _ h => h) (Or.inl ⟨by rfl, ?_⟩) hHeld ?_ ?_
                rotate_left
                · rintro w' ⟨s0, s1, s2, s3⟩
                  go_simp
                  with_reducible rfl
                rotate_left
                · simp only [Act.put, List.setIfInBounds_toArray, List.set_cons_zero, List.set_cons_succ]
                  rfl
                refine pure_ (i := 7) (N := some 19) (v := ?_) (a' := ?_) #[true, true, true, true, true, true, true, true, false, false, false, false, false, false, false, false, false, false, false, false, false, false, false, false, false, false, false, false, false, false, false, false, false, false, false] rfl rfl (by kernel_rfl) (fun _ _ _ h => h) (Or.inl ⟨by rfl, ?_⟩) ?_ ?_
                rotate_left
                · intro w'
                  go_simp
                  with_reducible rfl
                rotate_left
                · simp only [Act.put, List.setIfInBounds_toArray, List.set_cons_zero, List.set_cons_succ]
                  rfl
                refine pure_ (i := 8) (N := some 20) (v := ?_) (a' := ?_) #[true, true, true, true, true, true, true, true, true, false, false, false, false, false, false, false, false, false, false, false, false, false, false, false, false, false, false, false, false, false, false, false, false, false, false] rfl rfl (by kernel_rfl) (fun _ _ _ h => h) (Or.inl ⟨by rfl, ?_⟩) ?_ ?_
                rotate_left
                · intro w'
                  go_simp
                  with_reducible rfl
                rotate_left
                · simp only [Act.put, List.setIfInBounds_toArray, List.set_cons_zero, List.set_cons_succ]
                  rfl
                refine pure_ (i := 9) (N := some 21) (v := ?_) (a' := ?_) #[true, true, true, true, true, true, true, true, true, true, false, false, false, false, false, false, false, false, false, false, false, false, false, false, false, false, false, false, false, false, false, false, false, false, false] rfl rfl (by kernel_rfl) (fun _ _ _ h => h) (Or.inl ⟨by rfl, ?_⟩) ?_ ?_
                rotate_left
                · intro w'
                  go_simp
                  with_reducible rfl
                rotate_left
                · simp only [Act.put, List.setIfInBounds_toArray, List.set_cons_zero, List.set_cons_succ]
                  rfl
                refine pure_ (i := 10) (N := some 22) (v := ?_) (a' := ?_) #[true, true, true, true, true, true, true, true, true, true, true, false, false, false, false, false, false, false, false, false, false, false, false, false, false, false, false, false, false, false, false, false, false, false, false] rfl rfl (by kernel_rfl) (fun _ _ _ h => h) (Or.inl ⟨by rfl, ?_⟩) ?_ ?_
                rotate_left
                · intro w'
                  go_simp
                  with_reducible rfl
                rotate_left
                · simp only [Act.put, List.setIfInBounds_toArray, List.set_cons_zero, List.set_cons_succ]
                  rfl
                refine take_ (i := 11) (N := some 23) (v := ?_) (a' := ?_) #[true, true, true, true, true, true, true, true, true, true, true, true, false, false, false, false, false, false, false, false, false, false, false, false, false, false, false, false, false, false, false, false, false, false, false] rfl rfl (by kernel_rfl) (fun _ _ _ h => h) (Or.inl ⟨by rfl, ?_⟩) hHeld ?_ ?_
                rotate_left
                · rintro w' ⟨s0, s1, s2, s3⟩
                  go_simp
                  with_reducible rfl
                rotate_left
                · simp only [Act.put, List.setIfInBounds_toArray, List.set_cons_zero, List.set_cons_succ]
                  rfl
                refine pure_ (i := 12) (N := some 24) (v := ?_) (a' := ?_) #[true, true, true, true, true, true, true, true, true, true, true, true, true, false, false, false, false, false, false, false, false, false, false, false, false, false, false, false, false, false, false, false, false, false, false] rfl rfl (by kernel_rfl) (fun _ _ _ h => h) (Or.inl ⟨by rfl, ?_⟩) ?_ ?_
                rotate_left
                · intro w'
                  go_simp
                  with_reducible rfl
                rotate_left
                · simp only [Act.put, List.setIfInBounds_toArray, List.set_cons_zero, List.set_cons_succ]
                  rfl
                refine pure_ (i := 13) (N := some 25) (v := ?_) (a' := ?_) #[true, true, true, true, true, true, true, true, true, true, true, true, true, true, false, false, false, false, false, false, false, false, false, false, false, false, false, false, false, false, false, false, false, false, false] rfl rfl (by kernel_rfl) (fun _ _ _ h => h) (Or.inl ⟨by rfl, ?_⟩) ?_ ?_
                rotate_left
                · intro w'
                  go_simp
                  with_reducible rfl
                rotate_left
                · simp only [Act.put, List.setIfInBounds_toArray, List.set_cons_zero, List.set_cons_succ]
                  rfl
                refine pure_ (i := 14) (N := some 26) (v := ?_) (a' := ?_) #[true, true, true, true, true, true, true, true, true, true, true, true, true, true, true, false, false, false, false, false, false, false, false, false, false, false, false, false, false, false, false, false, false, false, false] rfl rfl (by kernel_rfl) (fun _ _ _ h => h) (Or.inl ⟨by rfl, ?_⟩) ?_ ?_
                rotate_left
                · intro w'
                  go_simp
                  with_reducible rfl
                rotate_left
                · simp only [Act.put, List.setIfInBounds_toArray, List.set_cons_zero, List.set_cons_succ]
                  rfl
                refine pure_ (i := 15) (N := some 27) (v := ?_) (a' := ?_) #[true, true, true, true, true, true, true, true, true, true, true, true, true, true, true, true, false, false, false, false, false, false, false, false, false, false, false, false, false, false, false, false, false, false, false] rfl rfl (by kernel_rfl) (fun _ _ _ h => h) (Or.inl ⟨by rfl, ?_⟩) ?_ ?_
                rotate_left
                · intro w'
                  go_simp
                  with_reducible rfl
                rotate_left
                · simp only [Act.put, List.setIfInBounds_toArray, List.set_cons_zero, List.set_cons_succ]
                  rfl
                refine take_ (i := 16) (N := some 28) (v := ?_) (a' := ?_) #[true, true, true, true, true, true, true, true, true, true, true, true, true, true, true, true, true, false, false, false, false, false, false, false, false, false, false, false, false, false, false, false, false, false, false] rfl rfl (by kernel_rfl) (fun _ _ _ h => h) (Or.inl ⟨by rfl, ?_⟩) hHeld ?_ ?_
                rotate_left
                · rintro w' ⟨s0, s1, s2, s3⟩
                  go_simp
                  with_reducible rfl
                rotate_left
                · simp only [Act.put, List.setIfInBounds_toArray, List.set_cons_zero, List.set_cons_succ]
                  rfl
                refine pure_ (i := 17) (N := some 29) (v := ?_) (a' := ?_) #[true, true, true, true, true, true, true, true, true, true, true, true, true, true, true, true, true, true, false, false, false, false, false, false, false, false, false, false, false, false, false, false, false, false, false] rfl rfl (by kernel_rfl) (fun _ _ _ h => h) (Or.inl ⟨by rfl, ?_⟩) ?_ ?_
                rotate_left
                · intro w'
                  go_simp
                  with_reducible rfl
                rotate_left
                · simp only [Act.put, List.setIfInBounds_toArray, List.set_cons_zero, List.set_cons_succ]
                  rfl
                refine pure_ (i := 18) (N := some 30) (v := ?_) (a' := ?_) #[true, true, true, true, true, true, true, true, true, true, true, true, true, true, true, true, true, true, true, false, false, false, false, false, false, false, false, false, false, false, false, false, false, false, false] rfl rfl (by kernel_rfl) (fun _ _ _ h => h) (Or.inl ⟨by rfl, ?_⟩) ?_ ?_
                rotate_left
                · intro w'
                  go_simp
                  with_reducible rfl
                rotate_left
                · simp only [Act.put, List.setIfInBounds_toArray, List.set_cons_zero, List.set_cons_succ]
                  rfl
                refine pure_ (i := 19) (N := some 31) (v := ?_) (a' := ?_) #[true, true, true, true, true, true, true, true, true, true, true, true, true, true, true, true, true, true, true, true, false, false, false, false, false, false, false, false, false, false, false, false, false, false, false] rfl rfl (by kernel_rfl) (fun _ _ _ h => h) (Or.inl ⟨by rfl, ?_⟩) ?_ ?_
                rotate_left
                · intro w'
                  go_simp
                  with_reducible rfl
                rotate_left
                · simp only [Act.put, List.setIfInBounds_toArray, List.set_cons_zero, List.set_cons_succ]
                  rfl
                refine pure_ (i := 20) (N := some 32) (v := ?_) (a' := ?_) #[true, true, true, true, true, true, true, true, true, true, true, true, true, true, true, true, true, true, true, true, true, false, false, false, false, false, false, false, false, false, false, false, false, false, false] rfl rfl (by kernel_rfl) (fun _ _ _ h => h) (Or.inl ⟨by rfl, ?_⟩) ?_ ?_
                rotate_left
                · intro w'
                  go_simp
                  with_reducible rfl
                rotate_left
                · simp only [Act.put, List.setIfInBounds_toArray, List.set_cons_zero, List.set_cons_succ]
                  rfl
                refine pure_ (i := 21) (N := some 33) (v := ?_) (a' := ?_) #[true, true, true, true, true, true, true, true, true, true, true, true, true, true, true, true, true, true, true, true, true, true, false, false, false, false, false, false, false, false, false, false, false, false, false] rfl rfl (by kernel_rfl) (fun _ _ _ h => h) (Or.inl ⟨by rfl, ?_⟩) ?_ ?_
                rotate_left
                · intro w'
                  go_simp
                  with_reducible rfl
                rotate_left
                · simp only [Act.put, List.setIfInBounds_toArray, List.set_cons_zero, List.set_cons_succ]
                  rfl
                refine pure_ (i := 22) (N := some 34) (v := ?_) (a' := ?_) #[true, true, true, true, true, true, true, true, true, true, true, true, true, true, true, true, true, true, true, true, true, true, true, false, false, false, false, false, false, false, false, false, false, false, false] rfl rfl (by kernel_rfl) (fun _ _ _ h => h) (Or.inl ⟨by rfl, ?_⟩) ?_ ?_
                rotate_left
                · intro w'
                  go_simp
                  with_reducible rfl
                rotate_left
                · simp only [Act.put, List.setIfInBounds_toArray, List.set_cons_zero, List.set_cons_succ]
                  rfl
                refine pure_ (i := 23) (N := some 35) (v := undef) (a' := ?_) #[true, true, true, true, true, true, true, true, true, true, true, true, true, true, true, true, true, true, true, true, true, true, true, true, false, false, false, false, false, false, false, false, false, false, false] rfl rfl (by kernel_rfl) (fun _ _ _ h => h) (Or.inr ⟨by rfl, rfl⟩) ?_ ?_
                rotate_left
                · simp only [Act.put, List.setIfInBounds_toArray, List.set_cons_zero, List.set_cons_succ]
                  rfl
                refine pure_ (i := 24) (N := some 36) (v := undef) (a' := ?_) #[true, true, true, true, true, true, true, true, true, true, true, true, true, true, true, true, true, true, true, true, true, true, true, true, true, false, false, false, false, false, false, false, false, false, false] rfl rfl (by kernel_rfl) (fun _ _ _ h => h) (Or.inr ⟨by rfl, rfl⟩) ?_ ?_
                rotate_left
                · simp only [Act.put, List.setIfInBounds_toArray, List.set_cons_zero, List.set_cons_succ]
                  rfl
                refine pure_ (i := 25) (N := some 37) (v := undef) (a' := ?_) #[true, true, true, true, true, true, true, true, true, true, true, true, true, true, true, true, true, true, true, true, true, true, true, true, true, true, false, false, false, false, false, false, false, false, false] rfl rfl (by kernel_rfl) (fun _ _ _ h => h) (Or.inr ⟨by rfl, rfl⟩) ?_ ?_
                rotate_left
                · simp only [Act.put, List.setIfInBounds_toArray, List.set_cons_zero, List.set_cons_succ]
                  rfl
                refine pure_ (i := 26) (N := some 38) (v := undef) (a' := ?_) #[true, true, true, true, true, true, true, true, true, true, true, true, true, true, true, true, true, true, true, true, true, true, true, true, true, true, true, false, false, false, false, false, false, false, false] rfl rfl (by kernel_rfl) (fun _ _ _ h => h) (Or.inr ⟨by rfl, rfl⟩) ?_ ?_
                rotate_left
                · simp only [Act.put, List.setIfInBounds_toArray, List.set_cons_zero, List.set_cons_succ]
                  rfl
                refine pure_ (i := 27) (N := some 39) (v := undef) (a' := ?_) #[true, true, true, true, true, true, true, true, true, true, true, true, true, true, true, true, true, true, true, true, true, true, true, true, true, true, true, true, false, false, false, false, false, false, false] rfl rfl (by kernel_rfl) (fun _ _ _ h => h) (Or.inr ⟨by rfl, rfl⟩) ?_ ?_
                rotate_left
                · simp only [Act.put, List.setIfInBounds_toArray, List.set_cons_zero, List.set_cons_succ]
                  rfl
                refine pure_ (i := 28) (N := some 40) (v := undef) (a' := ?_) #[true, true, true, true, true, true, true, true, true, true, true, true, true, true, true, true, true, true, true, true, true, true, true, true, true, true, true, true, true, false, false, false, false, false, false] rfl rfl (by kernel_rfl) (fun _ _ _ h => h) (Or.inr ⟨by rfl, rfl⟩) ?_ ?_
                rotate_left
                · simp only [Act.put, List.setIfInBounds_toArray, List.set_cons_zero, List.set_cons_succ]
                  rfl
                refine pure_ (i := 29) (N := some 41) (v := undef) (a' := ?_) #[true, true, true, true, true, true, true, true, true, true, true, true, true, true, true, true, true, true, true, true, true, true, true, true, true, true, true, true, true, true, false, false, false, false, false] rfl rfl (by kernel_rfl) (fun _ _ _ h => h) (Or.inr ⟨by rfl, rfl⟩) ?_ ?_
                rotate_left
                · simp only [Act.put, List.setIfInBounds_toArray, List.set_cons_zero, List.set_cons_succ]
                  rfl
                refine pure_ (i := 30) (N := some 42) (v := undef) (a' := ?_) #[true, true, true, true, true, true, true, true, true, true, true, true, true, true, true, true, true, true, true, true, true, true, true, true, true, true, true, true, true, true, true, false, false, false, false] rfl rfl (by kernel_rfl) (fun _ _ _ h => h) (Or.inr ⟨by rfl, rfl⟩) ?_ ?_
                rotate_left
                · simp only [Act.put, List.setIfInBounds_toArray, List.set_cons_zero, List.set_cons_succ]
                  rfl
                refine pure_ (i := 31) (N := some 43) (v := undef) (a' := ?_) #[true, true, true, true, true, true, true, true, true, true, true, true, true, true, true, true, true, true, true, true, true, true, true, true, true, true, true, true, true, true, true, true, false, false, false] rfl rfl (by kernel_rfl) (fun _ _ _ h => h) (Or.inr ⟨by rfl, rfl⟩) ?_ ?_
                rotate_left
                · simp only [Act.put, List.setIfInBounds_toArray, List.set_cons_zero, List.set_cons_succ]
                  rfl
                refine pure_ (i := 32) (N := some 44) (v := undef) (a' := ?_) #[true, true, true, true, true, true, true, true, true, true, true, true, true, true, true, true, true, true, true, true, true, true, true, true, true, true, true, true, true, true, true, true, true, false, false] rfl rfl (by kernel_rfl) (fun _ _ _ h => h) (Or.inr ⟨by rfl, rfl⟩) ?_ ?_
                rotate_left
                · simp only [Act.put, List.setIfInBounds_toArray, List.set_cons_zero, List.set_cons_succ]
                  rfl
                refine pure_ (i := 33) (N := some 45) (v := ?_) (a' := ?_) #[true, true, true, true, true, true, true, true, true, true, true, true, true, true, true, true, true, true, true, true, true, true, true, true, true, true, true, true, true, true, true, true, true, true, false] rfl rfl (by kernel_rfl) (fun _ _ _ h => h) (Or.inl ⟨by rfl, ?_⟩) ?_ ?_
                rotate_left
                · intro w'
                  go_simp
                  with_reducible rfl
                rotate_left
                · simp only [Act.put, List.setIfInBounds_toArray, List.set_cons_zero, List.set_cons_succ]
                  rfl
                refine pure_ (i := 34) (N := some 46) (v := ?_) (a' := ?_) #[true, true, true, true, true, true, true, true, true, true, true, true, true, true, true, true, true, true, true, true, true, true, true, true, true, true, true, true, true, true, true, true, true, true, true] rfl rfl (by kernel_rfl) (fun _ _ _ h => h) (Or.inl ⟨by rfl, ?_⟩) ?_ ?_
                rotate_left
                · intro w'
                  go_simp
                  with_reducible rfl
                rotate_left
                · simp only [Act.put, List.setIfInBounds_toArray, List.set_cons_zero, List.set_cons_succ]
                  rfl
                refine done_ (by kernel_rfl) ?_
                go_wp2_with fail
                refine ⟨⟨1, by omega, rfl, ?_, below_box HB.out HB.out.size HB1.out⟩, by simp [intOf]; omega⟩
                rw [bagTo_succ]; simp [bagTo, stepB, HX.out, itB, HRC.out, HM.out, hz]
              | succ j =>
                obtain ⟨b', off', y, hbb, _, hy, d0, d1, d2, d3⟩ := hRk.it_at (show j < n by omega)
                cases hbb
                have HY := Lib.hid hy
                have hw : IntKind.i64.wrap (j : Int) = j := IntWalk.i64_in _ (by omega)
                have hw0 : (0 : Int) ≤ j := by omega
                have hw1 : (j : Int) < n := by omega
                have hw2 : (j : Int).toNat = j := by omega
                clear hy hRk
                cases hls : lessB y.r x.r with
                | true =>
                  have HLS := Lib.hid hls
                  have hcmp : rcmp y.r x.r < 0 := by simpa [lessB] using hls
                  have HCMP := Lib.hid hcmp
                  clear hls hcmp
                  go_wp2_with fail
                  have keep0 : ∀ {b o : Nat} {v : Value}, wr.cell? ⟨b, o, none⟩ = some v → (wr.alloc (.cells #[.int .i64 x.r.at_, .int .i64 x.r.key, .int .i64 x.r.val, .int .i64 x.n] 33)).cell? ⟨b, o, none⟩ = some v := fun h => keep_cell (Below.refl _ _) h
                  refine start_ (n := 35) (S := fun w' => w'.cell? ⟨wr.heap.size, 0, none⟩ = some (.int .i64 x.r.at_) ∧ w'.cell? ⟨wr.heap.size, 1, none⟩ = some (.int .i64 x.r.key) ∧ w'.cell? ⟨wr.heap.size, 2, none⟩ = some (.int .i64 x.r.val) ∧ w'.cell? ⟨wr.heap.size, 3, none⟩ = some (.int .i64 x.n) ∧ w'.cell? ⟨b, off + j * 4, none⟩ = some (.int .i64 y.r.at_) ∧ w'.cell? ⟨b, off + j * 4 + 1, none⟩ = some (.int .i64 y.r.key) ∧ w'.cell? ⟨b, off + j * 4 + 2, none⟩ = some (.int .i64 y.r.val)) (ds := []) #[false, false, false, false, false, false, false, false, false, false, false, false, false, false, false, false, false, false, false, false, false, false, false, false, false, false, false, false, false, false, false, false, false, false, false] (by kernel_rfl) rfl rfl ⟨f0, f1, f2, f3, keep0 d0, keep0 d1, keep0 d2⟩ (fun hHeld => ?_)
                  refine pure_ (i := 0) (N := some 12) (v := ?_) (a' := ?_) #[true, false, false, false, false, false, false, false, false, false, false, false, false, false, false, false, false, false, false, false, false, false, false, false, false, false, false, false, false, false, false, false, false, false, false] rfl rfl (by kernel_rfl) (fun _ _ _ h => h) (Or.inl ⟨by rfl, ?_⟩) ?_ ?_
                  rotate_left
                  · intro w'
                    go_simp
                    with_reducible rfl
                  rotate_left
                  · simp only [Act.put, List.setIfInBounds_toArray, List.set_cons_zero, List.set_cons_succ]
                    rfl
                  refine take_ (i := 1) (N := some 13) (v := ?_) (a' := ?_) #[true, true, false, false, false, false, false, false, false, false, false, false, false, false, false, false, false, false, false, false, false, false, false, false, false, false, false, false, false, false, false, false, false, false, false] rfl rfl (by kernel_rfl) (fun _ _ _ h => h) (Or.inl ⟨by rfl, ?_⟩) hHeld ?_ ?_
                  rotate_left
                  · rintro w' ⟨s0, s1, s2, s3, s4, s5, s6⟩
                    go_simp
                    with_reducible rfl
                  rotate_left
                  · simp only [Act.put, List.setIfInBounds_toArray, List.set_cons_zero, List.set_cons_succ]
                    rfl
                  refine one_ (i := 2) (N := some 14) #[true, true, true, false, false, false, false, false, false, false, false, false, false, false, false, false, false, false, false, false, false, false, false, false, false, false, false, false, false, false, false, false, false, false, false] rfl rfl (by kernel_rfl) (by decide) (fun K hK => ?_)
                  refine goes_ Tryd.func38 (by kernel_rfl) rfl #[.agg #[.int .i64 x.r.at_, .int .i64 x.r.key, .int .i64 x.r.val]] (by rfl) rfl rfl (by (try simp only [List.map_toArray, List.map_cons, List.map_nil]); first | done | rfl) ?_
                  with_reducible refine (Rec_any x.r _).mono ?_
                  rintro e w1 ⟨rfl, hb1⟩
                  rw [HRC.out]
                  refine ⟨_, rfl, ?_⟩
                  have HB1 := Lib.hid hb1.drew_left
                  obtain ⟨f0, f1, f2, f3⟩ := box4 HB1.out
                  refine hK.out _ _ ⟨f0, f1, f2, f3, keep_cell HB1.out d0, keep_cell HB1.out d1, keep_cell HB1.out d2⟩ (fun hHeld => ?_)
                  clear hK K hb1
                  refine norm_ (a' := ?_) ?_ ?_
                  rotate_left
                  · show Act.put _ (some 14) _ = _
                    simp only [Act.put, List.setIfInBounds_toArray, List.set_cons_zero, List.set_cons_succ]
                    rfl
                  refine pure_ (i := 3) (N := some 15) (v := ?_) (a' := ?_) #[true, true, true, true, false, false, false, false, false, false, false, false, false, false, false, false, false, false, false, false, false, false, false, false, false, false, false, false, false, false, false, false, false, false, false] rfl rfl (by kernel_rfl) (fun _ _ _ h => h) (Or.inl ⟨by rfl, ?_⟩) ?_ ?_
                  rotate_left
                  · intro w'
                    go_simp
                    with_reducible rfl
                  rotate_left
                  · simp only [Act.put, List.setIfInBounds_toArray, List.set_cons_zero, List.set_cons_succ]
                    rfl
                  refine pure_ (i := 4) (N := some 16) (v := ?_) (a' := ?_) #[true, true, true, true, true, false, false, false, false, false, false, false, false, false, false, false, false, false, false, false, false, false, false, false, false, false, false, false, false, false, false, false, false, false, false] rfl rfl (by kernel_rfl) (fun _ _ _ h => h) (Or.inl ⟨by rfl, ?_⟩) ?_ ?_
                  rotate_left
                  · intro w'
                    go_simp
                    with_reducible rfl
                  rotate_left
                  · simp only [Act.put, List.setIfInBounds_toArray, List.set_cons_zero, List.set_cons_succ]
                    rfl
                  refine pure_ (i := 5) (N := some 17) (v := ?_) (a' := ?_) #[true, true, true, true, true, true, false, false, false, false, false, false, false, false, false, false, false, false, false, false, false, false, false, false, false, false, false, false, false, false, false, false, false, false, false] rfl rfl (by kernel_rfl) (fun _ _ _ h => h) (Or.inl ⟨by rfl, ?_⟩) ?_ ?_
                  rotate_left
                  · intro w'
                    go_simp
                    with_reducible rfl
                  rotate_left
                  · simp only [Act.put, List.setIfInBounds_toArray, List.set_cons_zero, List.set_cons_succ]
                    rfl
                  refine take_ (i := 6) (N := some 18) (v := ?_) (a' := ?_) #[true, true, true, true, true, true, true, false, false, false, false, false, false, false, false, false, false, false, false, false, false, false, false, false, false, false, false, false, false, false, false, false, false, false, false] rfl rfl (by kernel_rfl) (fun _ _ _ h => h) (Or.inl ⟨by rfl, ?_⟩) hHeld ?_ ?_
                  rotate_left
                  · rintro w' ⟨s0, s1, s2, s3, s4, s5, s6⟩
                    go_simp
                    with_reducible rfl
                  rotate_left
                  · simp only [Act.put, List.setIfInBounds_toArray, List.set_cons_zero, List.set_cons_succ]
                    rfl
                  refine pure_ (i := 7) (N := some 19) (v := ?_) (a' := ?_) #[true, true, true, true, true, true, true, true, false, false, false, false, false, false, false, false, false, false, false, false, false, false, false, false, false, false, false, false, false, false, false, false, false, false, false] rfl rfl (by kernel_rfl) (fun _ _ _ h => h) (Or.inl ⟨by rfl, ?_⟩) ?_ ?_
                  rotate_left
                  · intro w'
                    go_simp
                    with_reducible rfl
                  rotate_left
                  · simp only [Act.put, List.setIfInBounds_toArray, List.set_cons_zero, List.set_cons_succ]
                    rfl
                  refine pure_ (i := 8) (N := some 20) (v := ?_) (a' := ?_) #[true, true, true, true, true, true, true, true, true, false, false, false, false, false, false, false, false, false, false, false, false, false, false, false, false, false, false, false, false, false, false, false, false, false, false] rfl rfl (by kernel_rfl) (fun _ _ _ h => h) (Or.inl ⟨by rfl, ?_⟩) ?_ ?_
                  rotate_left
                  · intro w'
                    go_simp
                    with_reducible rfl
                  rotate_left
                  · simp only [Act.put, List.setIfInBounds_toArray, List.set_cons_zero, List.set_cons_succ]
                    rfl
                  refine pure_ (i := 9) (N := some 21) (v := ?_) (a' := ?_) #[true, true, true, true, true, true, true, true, true, true, false, false, false, false, false, false, false, false, false, false, false, false, false, false, false, false, false, false, false, false, false, false, false, false, false] rfl rfl (by kernel_rfl) (fun _ _ _ h => h) (Or.inl ⟨by rfl, ?_⟩) ?_ ?_
                  rotate_left
                  · intro w'
                    go_simp
                    with_reducible rfl
                  rotate_left
                  · simp only [Act.put, List.setIfInBounds_toArray, List.set_cons_zero, List.set_cons_succ]
                    rfl
                  refine pure_ (i := 10) (N := some 22) (v := ?_) (a' := ?_) #[true, true, true, true, true, true, true, true, true, true, true, false, false, false, false, false, false, false, false, false, false, false, false, false, false, false, false, false, false, false, false, false, false, false, false] rfl rfl (by kernel_rfl) (fun _ _ _ h => h) (Or.inl ⟨by rfl, ?_⟩) ?_ ?_
                  rotate_left
                  · intro w'
                    go_simp
                    with_reducible rfl
                  rotate_left
                  · simp only [Act.put, List.setIfInBounds_toArray, List.set_cons_zero, List.set_cons_succ]
                    rfl
                  refine take_ (i := 11) (N := some 23) (v := ?_) (a' := ?_) #[true, true, true, true, true, true, true, true, true, true, true, true, false, false, false, false, false, false, false, false, false, false, false, false, false, false, false, false, false, false, false, false, false, false, false] rfl rfl (by kernel_rfl) (fun _ _ _ h => h) (Or.inl ⟨by rfl, ?_⟩) hHeld ?_ ?_
                  rotate_left
                  · rintro w' ⟨s0, s1, s2, s3, s4, s5, s6⟩
                    go_simp
                    with_reducible rfl
                  rotate_left
                  · simp only [Act.put, List.setIfInBounds_toArray, List.set_cons_zero, List.set_cons_succ]
                    rfl
                  refine pure_ (i := 12) (N := some 24) (v := ?_) (a' := ?_) #[true, true, true, true, true, true, true, true, true, true, true, true, true, false, false, false, false, false, false, false, false, false, false, false, false, false, false, false, false, false, false, false, false, false, false] rfl rfl (by kernel_rfl) (fun _ _ _ h => h) (Or.inl ⟨by rfl, ?_⟩) ?_ ?_
                  rotate_left
                  · intro w'
                    go_simp
                    with_reducible rfl
                  rotate_left
                  · simp only [Act.put, List.setIfInBounds_toArray, List.set_cons_zero, List.set_cons_succ]
                    rfl
                  refine pure_ (i := 13) (N := some 25) (v := ?_) (a' := ?_) #[true, true, true, true, true, true, true, true, true, true, true, true, true, true, false, false, false, false, false, false, false, false, false, false, false, false, false, false, false, false, false, false, false, false, false] rfl rfl (by kernel_rfl) (fun _ _ _ h => h) (Or.inl ⟨by rfl, ?_⟩) ?_ ?_
                  rotate_left
                  · intro w'
                    go_simp
                    with_reducible rfl
                  rotate_left
                  · simp only [Act.put, List.setIfInBounds_toArray, List.set_cons_zero, List.set_cons_succ]
                    rfl
                  refine pure_ (i := 14) (N := some 26) (v := ?_) (a' := ?_) #[true, true, true, true, true, true, true, true, true, true, true, true, true, true, true, false, false, false, false, false, false, false, false, false, false, false, false, false, false, false, false, false, false, false, false] rfl rfl (by kernel_rfl) (fun _ _ _ h => h) (Or.inl ⟨by rfl, ?_⟩) ?_ ?_
                  rotate_left
                  · intro w'
                    go_simp
                    with_reducible rfl
                  rotate_left
                  · simp only [Act.put, List.setIfInBounds_toArray, List.set_cons_zero, List.set_cons_succ]
                    rfl
                  refine pure_ (i := 15) (N := some 27) (v := ?_) (a' := ?_) #[true, true, true, true, true, true, true, true, true, true, true, true, true, true, true, true, false, false, false, false, false, false, false, false, false, false, false, false, false, false, false, false, false, false, false] rfl rfl (by kernel_rfl) (fun _ _ _ h => h) (Or.inl ⟨by rfl, ?_⟩) ?_ ?_
                  rotate_left
                  · intro w'
                    go_simp
                    with_reducible rfl
                  rotate_left
                  · simp only [Act.put, List.setIfInBounds_toArray, List.set_cons_zero, List.set_cons_succ]
                    rfl
                  refine take_ (i := 16) (N := some 28) (v := ?_) (a' := ?_) #[true, true, true, true, true, true, true, true, true, true, true, true, true, true, true, true, true, false, false, false, false, false, false, false, false, false, false, false, false, false, false, false, false, false, false] rfl rfl (by kernel_rfl) (fun _ _ _ h => h) (Or.inl ⟨by rfl, ?_⟩) hHeld ?_ ?_
                  rotate_left
                  · rintro w' ⟨s0, s1, s2, s3, s4, s5, s6⟩
                    go_simp
                    with_reducible rfl
                  rotate_left
                  · simp only [Act.put, List.setIfInBounds_toArray, List.set_cons_zero, List.set_cons_succ]
                    rfl
                  refine pure_ (i := 17) (N := some 29) (v := ?_) (a' := ?_) #[true, true, true, true, true, true, true, true, true, true, true, true, true, true, true, true, true, true, false, false, false, false, false, false, false, false, false, false, false, false, false, false, false, false, false] rfl rfl (by kernel_rfl) (fun _ _ _ h => h) (Or.inl ⟨by rfl, ?_⟩) ?_ ?_
                  rotate_left
                  · intro w'
                    go_simp
                    with_reducible rfl
                  rotate_left
                  · simp only [Act.put, List.setIfInBounds_toArray, List.set_cons_zero, List.set_cons_succ]
                    rfl
                  refine pure_ (i := 18) (N := some 30) (v := ?_) (a' := ?_) #[true, true, true, true, true, true, true, true, true, true, true, true, true, true, true, true, true, true, true, false, false, false, false, false, false, false, false, false, false, false, false, false, false, false, false] rfl rfl (by kernel_rfl) (fun _ _ _ h => h) (Or.inl ⟨by rfl, ?_⟩) ?_ ?_
                  rotate_left
                  · intro w'
                    go_simp
                    with_reducible rfl
                  rotate_left
                  · simp only [Act.put, List.setIfInBounds_toArray, List.set_cons_zero, List.set_cons_succ]
                    rfl
                  refine pure_ (i := 19) (N := some 31) (v := ?_) (a' := ?_) #[true, true, true, true, true, true, true, true, true, true, true, true, true, true, true, true, true, true, true, true, false, false, false, false, false, false, false, false, false, false, false, false, false, false, false] rfl rfl (by kernel_rfl) (fun _ _ _ h => h) (Or.inl ⟨by rfl, ?_⟩) ?_ ?_
                  rotate_left
                  · intro w'
                    go_simp
                    with_reducible rfl
                  rotate_left
                  · simp only [Act.put, List.setIfInBounds_toArray, List.set_cons_zero, List.set_cons_succ]
                    rfl
                  refine pure_ (i := 20) (N := some 32) (v := ?_) (a' := ?_) #[true, true, true, true, true, true, true, true, true, true, true, true, true, true, true, true, true, true, true, true, true, false, false, false, false, false, false, false, false, false, false, false, false, false, false] rfl rfl (by kernel_rfl) (fun _ _ _ h => h) (Or.inl ⟨by rfl, ?_⟩) ?_ ?_
                  rotate_left
                  · intro w'
                    go_simp
                    with_reducible rfl
                  rotate_left
                  · simp only [Act.put, List.setIfInBounds_toArray, List.set_cons_zero, List.set_cons_succ]
                    rfl
                  refine pure_ (i := 21) (N := some 33) (v := ?_) (a' := ?_) #[true, true, true, true, true, true, true, true, true, true, true, true, true, true, true, true, true, true, true, true, true, true, false, false, false, false, false, false, false, false, false, false, false, false, false] rfl rfl (by kernel_rfl) (fun _ _ _ h => h) (Or.inl ⟨by rfl, ?_⟩) ?_ ?_
                  rotate_left
                  · intro w'
                    go_simp
                    with_reducible rfl
                  rotate_left
                  · simp only [Act.put, List.setIfInBounds_toArray, List.set_cons_zero, List.set_cons_succ]
                    rfl
                  refine pure_ (i := 22) (N := some 34) (v := ?_) (a' := ?_) #[true, true, true, true, true, true, true, true, true, true, true, true, true, true, true, true, true, true, true, true, true, true, true, false, false, false, false, false, false, false, false, false, false, false, false] rfl rfl (by kernel_rfl) (fun _ _ _ h => h) (Or.inl ⟨by rfl, ?_⟩) ?_ ?_
                  rotate_left
                  · intro w'
                    go_simp
                    with_reducible rfl
                  rotate_left
                  · simp only [Act.put, List.setIfInBounds_toArray, List.set_cons_zero, List.set_cons_succ]
                    rfl
                  refine pure_ (i := 23) (N := some 35) (v := ?_) (a' := ?_) #[true, true, true, true, true, true, true, true, true, true, true, true, true, true, true, true, true, true, true, true, true, true, true, true, false, false, false, false, false, false, false, false, false, false, false] rfl rfl (by kernel_rfl) (fun _ _ _ h => h) (Or.inl ⟨by rfl, ?_⟩) ?_ ?_
                  rotate_left
                  · intro w'
                    go_simp
                    with_reducible rfl
                  rotate_left
                  · simp only [Act.put, List.setIfInBounds_toArray, List.set_cons_zero, List.set_cons_succ]
                    rfl
                  refine pure_ (i := 24) (N := some 36) (v := ?_) (a' := ?_) #[true, true, true, true, true, true, true, true, true, true, true, true, true, true, true, true, true, true, true, true, true, true, true, true, true, false, false, false, false, false, false, false, false, false, false] rfl rfl (by kernel_rfl) (fun _ _ _ h => h) (Or.inl ⟨by rfl, ?_⟩) ?_ ?_
                  rotate_left
                  · intro w'
                    go_simp
                    with_reducible rfl
                  rotate_left
                  · simp only [Act.put, List.setIfInBounds_toArray, List.set_cons_zero, List.set_cons_succ]
                    rfl
                  refine pure_ (i := 25) (N := some 37) (v := ?_) (a' := ?_) #[true, true, true, true, true, true, true, true, true, true, true, true, true, true, true, true, true, true, true, true, true, true, true, true, true, true, false, false, false, false, false, false, false, false, false] rfl rfl (by kernel_rfl) (fun _ _ _ h => h) (Or.inl ⟨by rfl, ?_⟩) ?_ ?_
                  rotate_left
                  · intro w'
                    go_simp
                    with_reducible rfl
                  rotate_left
                  · simp only [Act.put, List.setIfInBounds_toArray, List.set_cons_zero, List.set_cons_succ]
                    rfl
                  refine pure_ (i := 26) (N := some 38) (v := ?_) (a' := ?_) #[true, true, true, true, true, true, true, true, true, true, true, true, true, true, true, true, true, true, true, true, true, true, true, true, true, true, true, false, false, false, false, false, false, false, false] rfl rfl (by kernel_rfl) (fun _ _ _ h => h) (Or.inl ⟨by rfl, ?_⟩) ?_ ?_
                  rotate_left
                  · intro w'
                    go_simp
                    with_reducible rfl
                  rotate_left
                  · simp only [Act.put, List.setIfInBounds_toArray, List.set_cons_zero, List.set_cons_succ]
                    rfl
                  refine pure_ (i := 27) (N := some 39) (v := ?_) (a' := ?_) #[true, true, true, true, true, true, true, true, true, true, true, true, true, true, true, true, true, true, true, true, true, true, true, true, true, true, true, true, false, false, false, false, false, false, false] rfl rfl (by kernel_rfl) (fun _ _ _ h => h) (Or.inl ⟨by rfl, ?_⟩) ?_ ?_
                  rotate_left
                  · intro w'
                    go_simp
                    with_reducible rfl
                  rotate_left
                  · simp only [Act.put, List.setIfInBounds_toArray, List.set_cons_zero, List.set_cons_succ]
                    rfl
                  refine take_ (i := 28) (N := some 40) (v := ?_) (a' := ?_) #[true, true, true, true, true, true, true, true, true, true, true, true, true, true, true, true, true, true, true, true, true, true, true, true, true, true, true, true, true, false, false, false, false, false, false] rfl rfl (by kernel_rfl) (fun _ _ _ h => h) (Or.inl ⟨by rfl, ?_⟩) hHeld ?_ ?_
                  rotate_left
                  · rintro w' ⟨s0, s1, s2, s3, s4, s5, s6⟩
                    go_simp
                    with_reducible rfl
                  rotate_left
                  · simp only [Act.put, List.setIfInBounds_toArray, List.set_cons_zero, List.set_cons_succ]
                    rfl
                  refine pure_ (i := 29) (N := some 41) (v := ?_) (a' := ?_) #[true, true, true, true, true, true, true, true, true, true, true, true, true, true, true, true, true, true, true, true, true, true, true, true, true, true, true, true, true, true, false, false, false, false, false] rfl rfl (by kernel_rfl) (fun _ _ _ h => h) (Or.inl ⟨by rfl, ?_⟩) ?_ ?_
                  rotate_left
                  · intro w'
                    go_simp
                    with_reducible rfl
                  rotate_left
                  · simp only [Act.put, List.setIfInBounds_toArray, List.set_cons_zero, List.set_cons_succ]
                    rfl
                  refine take_ (i := 30) (N := some 42) (v := ?_) (a' := ?_) #[true, true, true, true, true, true, true, true, true, true, true, true, true, true, true, true, true, true, true, true, true, true, true, true, true, true, true, true, true, true, true, false, false, false, false] rfl rfl (by kernel_rfl) (fun _ _ _ h => h) (Or.inl ⟨by rfl, ?_⟩) hHeld ?_ ?_
                  rotate_left
                  · rintro w' ⟨s0, s1, s2, s3, s4, s5, s6⟩
                    go_simp
                    with_reducible rfl
                  rotate_left
                  · simp only [Act.put, List.setIfInBounds_toArray, List.set_cons_zero, List.set_cons_succ]
                    rfl
                  refine one_ (i := 31) (N := some 43) #[true, true, true, true, true, true, true, true, true, true, true, true, true, true, true, true, true, true, true, true, true, true, true, true, true, true, true, true, true, true, true, true, false, false, false] rfl rfl (by kernel_rfl) (by decide) (fun K hK => ?_)
                  refine goes_ Tryd.func39 (by kernel_rfl) rfl #[.agg #[.int .i64 y.r.at_, .int .i64 y.r.key, .int .i64 y.r.val], .agg #[.int .i64 x.r.at_, .int .i64 x.r.key, .int .i64 x.r.val]] (by rfl) rfl rfl (by (try simp only [List.map_toArray, List.map_cons, List.map_nil]); first | done | rfl) ?_
                  with_reducible refine (Less_any y.r x.r _).mono ?_
                  rintro e w2 ⟨rfl, hb2⟩
                  rw [HLS.out]
                  refine ⟨_, rfl, ?_⟩
                  have HB2 := Lib.hid hb2
                  have kk : ∀ b o v, w1.cell? ⟨b, o, none⟩ = some v → w2.cell? ⟨b, o, none⟩ = some v := fun b o v h => (hb2.cell (World.block_lt_of_cell? w1 _ h)).trans h
                  obtain ⟨s0, s1, s2, s3, s4, s5, s6⟩ := hHeld
                  refine hK.out _ _ ⟨kk _ _ _ s0, kk _ _ _ s1, kk _ _ _ s2, kk _ _ _ s3, kk _ _ _ s4, kk _ _ _ s5, kk _ _ _ s6⟩ (fun hHeld => ?_)
                  clear hK K hb2 kk
                  refine norm_ (a' := ?_) ?_ ?_
                  rotate_left
                  · show Act.put _ (some 43) _ = _
                    simp only [Act.put, List.setIfInBounds_toArray, List.set_cons_zero, List.set_cons_succ]
                    rfl
                  refine pure_ (i := 32) (N := some 44) (v := ?_) (a' := ?_) #[true, true, true, true, true, true, true, true, true, true, true, true, true, true, true, true, true, true, true, true, true, true, true, true, true, true, true, true, true, true, true, true, true, false, false] rfl rfl (by kernel_rfl) (fun _ _ _ h => h) (Or.inl ⟨by rfl, ?_⟩) ?_ ?_
                  rotate_left
                  · intro w'
                    go_simp
                    with_reducible rfl
                  rotate_left
                  · simp only [Act.put, List.setIfInBounds_toArray, List.set_cons_zero, List.set_cons_succ]
                    rfl
                  refine pure_ (i := 33) (N := some 45) (v := ?_) (a' := ?_) #[true, true, true, true, true, true, true, true, true, true, true, true, true, true, true, true, true, true, true, true, true, true, true, true, true, true, true, true, true, true, true, true, true, true, false] rfl rfl (by kernel_rfl) (fun _ _ _ h => h) (Or.inl ⟨by rfl, ?_⟩) ?_ ?_
                  rotate_left
                  · intro w'
                    go_simp
                    with_reducible rfl
                  rotate_left
                  · simp only [Act.put, List.setIfInBounds_toArray, List.set_cons_zero, List.set_cons_succ]
                    rfl
                  refine pure_ (i := 34) (N := some 46) (v := ?_) (a' := ?_) #[true, true, true, true, true, true, true, true, true, true, true, true, true, true, true, true, true, true, true, true, true, true, true, true, true, true, true, true, true, true, true, true, true, true, true] rfl rfl (by kernel_rfl) (fun _ _ _ h => h) (Or.inl ⟨by rfl, ?_⟩) ?_ ?_
                  rotate_left
                  · intro w'
                    go_simp
                    with_reducible rfl
                  rotate_left
                  · simp only [Act.put, List.setIfInBounds_toArray, List.set_cons_zero, List.set_cons_succ]
                    rfl
                  refine done_ (by kernel_rfl) ?_
                  clear hw hw0 hw1 hw2 hHeld
                  go_wp2_with fail
                  refine ⟨⟨j + 1 + 1, by omega, by go_num, ?_, (below_box HB.out HB.out.size HB1.out).trans (HB2.out.mono (by have := HB.out.size; have := HB1.out.size; simp at this; omega))⟩, by simp [intOf]; omega⟩
                  rw [bagTo_succ, HT.out]; simp [stepB, HX.out, HY.out, itB, HRC.out, HM.out, hz, HCMP.out]
                | false =>
                  have HLS := Lib.hid hls
                  have hcmp : ¬ rcmp y.r x.r < 0 := by simpa [lessB] using hls
                  have HCMP := Lib.hid hcmp
                  clear hls hcmp
                  go_wp2_with fail
                  have keep0 : ∀ {b o : Nat} {v : Value}, wr.cell? ⟨b, o, none⟩ = some v → (wr.alloc (.cells #[.int .i64 x.r.at_, .int .i64 x.r.key, .int .i64 x.r.val, .int .i64 x.n] 33)).cell? ⟨b, o, none⟩ = some v := fun h => keep_cell (Below.refl _ _) h
                  refine start_ (n := 35) (S := fun w' => w'.cell? ⟨wr.heap.size, 0, none⟩ = some (.int .i64 x.r.at_) ∧ w'.cell? ⟨wr.heap.size, 1, none⟩ = some (.int .i64 x.r.key) ∧ w'.cell? ⟨wr.heap.size, 2, none⟩ = some (.int .i64 x.r.val) ∧ w'.cell? ⟨wr.heap.size, 3, none⟩ = some (.int .i64 x.n) ∧ w'.cell? ⟨b, off + j * 4, none⟩ = some (.int .i64 y.r.at_) ∧ w'.cell? ⟨b, off + j * 4 + 1, none⟩ = some (.int .i64 y.r.key) ∧ w'.cell? ⟨b, off + j * 4 + 2, none⟩ = some (.int .i64 y.r.val)) (ds := []) #[false, false, false, false, false, false, false, false, false, false, false, false, false, false, false, false, false, false, false, false, false, false, false, false, false, false, false, false, false, false, false, false, false, false, false] (by kernel_rfl) rfl rfl ⟨f0, f1, f2, f3, keep0 d0, keep0 d1, keep0 d2⟩ (fun hHeld => ?_)
                  refine pure_ (i := 0) (N := some 12) (v := ?_) (a' := ?_) #[true, false, false, false, false, false, false, false, false, false, false, false, false, false, false, false, false, false, false, false, false, false, false, false, false, false, false, false, false, false, false, false, false, false, false] rfl rfl (by kernel_rfl) (fun _ _ _ h => h) (Or.inl ⟨by rfl, ?_⟩) ?_ ?_
                  rotate_left
                  · intro w'
                    go_simp
                    with_reducible rfl
                  rotate_left
                  · simp only [Act.put, List.setIfInBounds_toArray, List.set_cons_zero, List.set_cons_succ]
                    rfl
                  refine take_ (i := 1) (N := some 13) (v := ?_) (a' := ?_) #[true, true, false, false, false, false, false, false, false, false, false, false, false, false, false, false, false, false, false, false, false, false, false, false, false, false, false, false, false, false, false, false, false, false, false] rfl rfl (by kernel_rfl) (fun _ _ _ h => h) (Or.inl ⟨by rfl, ?_⟩) hHeld ?_ ?_
                  rotate_left
                  · rintro w' ⟨s0, s1, s2, s3, s4, s5, s6⟩
                    go_simp
                    with_reducible rfl
                  rotate_left
                  · simp only [Act.put, List.setIfInBounds_toArray, List.set_cons_zero, List.set_cons_succ]
                    rfl
                  refine one_ (i := 2) (N := some 14) #[true, true, true, false, false, false, false, false, false, false, false, false, false, false, false, false, false, false, false, false, false, false, false, false, false, false, false, false, false, false, false, false, false, false, false] rfl rfl (by kernel_rfl) (by decide) (fun K hK => ?_)
                  refine goes_ Tryd.func38 (by kernel_rfl) rfl #[.agg #[.int .i64 x.r.at_, .int .i64 x.r.key, .int .i64 x.r.val]] (by rfl) rfl rfl (by (try simp only [List.map_toArray, List.map_cons, List.map_nil]); first | done | rfl) ?_
                  with_reducible refine (Rec_any x.r _).mono ?_
                  rintro e w1 ⟨rfl, hb1⟩
                  rw [HRC.out]
                  refine ⟨_, rfl, ?_⟩
                  have HB1 := Lib.hid hb1.drew_left
                  obtain ⟨f0, f1, f2, f3⟩ := box4 HB1.out
                  refine hK.out _ _ ⟨f0, f1, f2, f3, keep_cell HB1.out d0, keep_cell HB1.out d1, keep_cell HB1.out d2⟩ (fun hHeld => ?_)
                  clear hK K hb1
                  refine norm_ (a' := ?_) ?_ ?_
                  rotate_left
                  · show Act.put _ (some 14) _ = _
                    simp only [Act.put, List.setIfInBounds_toArray, List.set_cons_zero, List.set_cons_succ]
                    rfl
                  refine pure_ (i := 3) (N := some 15) (v := ?_) (a' := ?_) #[true, true, true, true, false, false, false, false, false, false, false, false, false, false, false, false, false, false, false, false, false, false, false, false, false, false, false, false, false, false, false, false, false, false, false] rfl rfl (by kernel_rfl) (fun _ _ _ h => h) (Or.inl ⟨by rfl, ?_⟩) ?_ ?_
                  rotate_left
                  · intro w'
                    go_simp
                    with_reducible rfl
                  rotate_left
                  · simp only [Act.put, List.setIfInBounds_toArray, List.set_cons_zero, List.set_cons_succ]
                    rfl
                  refine pure_ (i := 4) (N := some 16) (v := ?_) (a' := ?_) #[true, true, true, true, true, false, false, false, false, false, false, false, false, false, false, false, false, false, false, false, false, false, false, false, false, false, false, false, false, false, false, false, false, false, false] rfl rfl (by kernel_rfl) (fun _ _ _ h => h) (Or.inl ⟨by rfl, ?_⟩) ?_ ?_
                  rotate_left
                  · intro w'
                    go_simp
                    with_reducible rfl
                  rotate_left
                  · simp only [Act.put, List.setIfInBounds_toArray, List.set_cons_zero, List.set_cons_succ]
                    rfl
                  refine pure_ (i := 5) (N := some 17) (v := ?_) (a' := ?_) #[true, true, true, true, true, true, false, false, false, false, false, false, false, false, false, false, false, false, false, false, false, false, false, false, false, false, false, false, false, false, false, false, false, false, false] rfl rfl (by kernel_rfl) (fun _ _ _ h => h) (Or.inl ⟨by rfl, ?_⟩) ?_ ?_
                  rotate_left
                  · intro w'
                    go_simp
                    with_reducible rfl
                  rotate_left
                  · simp only [Act.put, List.setIfInBounds_toArray, List.set_cons_zero, List.set_cons_succ]
                    rfl
                  refine take_ (i := 6) (N := some 18) (v := ?_) (a' := ?_) #[true, true, true, true, true, true, true, false, false, false, false, false, false, false, false, false, false, false, false, false, false, false, false, false, false, false, false, false, false, false, false, false, false, false, false] rfl rfl (by kernel_rfl) (fun _ _ _ h => h) (Or.inl ⟨by rfl, ?_⟩) hHeld ?_ ?_
                  rotate_left
                  · rintro w' ⟨s0, s1, s2, s3, s4, s5, s6⟩
                    go_simp
                    with_reducible rfl
                  rotate_left
                  · simp only [Act.put, List.setIfInBounds_toArray, List.set_cons_zero, List.set_cons_succ]
                    rfl
                  refine pure_ (i := 7) (N := some 19) (v := ?_) (a' := ?_) #[true, true, true, true, true, true, true, true, false, false, false, false, false, false, false, false, false, false, false, false, false, false, false, false, false, false, false, false, false, false, false, false, false, false, false] rfl rfl (by kernel_rfl) (fun _ _ _ h => h) (Or.inl ⟨by rfl, ?_⟩) ?_ ?_
                  rotate_left
                  · intro w'
                    go_simp
                    with_reducible rfl
                  rotate_left
                  · simp only [Act.put, List.setIfInBounds_toArray, List.set_cons_zero, List.set_cons_succ]
                    rfl
                  refine pure_ (i := 8) (N := some 20) (v := ?_) (a' := ?_) #[true, true, true, true, true, true, true, true, true, false, false, false, false, false, false, false, false, false, false, false, false, false, false, false, false, false, false, false, false, false, false, false, false, false, false] rfl rfl (by kernel_rfl) (fun _ _ _ h => h) (Or.inl ⟨by rfl, ?_⟩) ?_ ?_
                  rotate_left
                  · intro w'
                    go_simp
                    with_reducible rfl
                  rotate_left
                  · simp only [Act.put, List.setIfInBounds_toArray, List.set_cons_zero, List.set_cons_succ]
                    rfl
                  refine pure_ (i := 9) (N := some 21) (v := ?_) (a' := ?_) #[true, true, true, true, true, true, true, true, true, true, false, false, false, false, false, false, false, false, false, false, false, false, false, false, false, false, false, false, false, false, false, false, false, false, false] rfl rfl (by kernel_rfl) (fun _ _ _ h => h) (Or.inl ⟨by rfl, ?_⟩) ?_ ?_
                  rotate_left
                  · intro w'
                    go_simp
                    with_reducible rfl
                  rotate_left
                  · simp only [Act.put, List.setIfInBounds_toArray, List.set_cons_zero, List.set_cons_succ]
                    rfl
                  refine pure_ (i := 10) (N := some 22) (v := ?_) (a' := ?_) #[true, true, true, true, true, true, true, true, true, true, true, false, false, false, false, false, false, false, false, false, false, false, false, false, false, false, false, false, false, false, false, false, false, false, false] rfl rfl (by kernel_rfl) (fun _ _ _ h => h) (Or.inl ⟨by rfl, ?_⟩) ?_ ?_
                  rotate_left
                  · intro w'
                    go_simp
                    with_reducible rfl
                  rotate_left
                  · simp only [Act.put, List.setIfInBounds_toArray, List.set_cons_zero, List.set_cons_succ]
                    rfl
                  refine take_ (i := 11) (N := some 23) (v := ?_) (a' := ?_) #[true, true, true, true, true, true, true, true, true, true, true, true, false, false, false, false, false, false, false, false, false, false, false, false, false, false, false, false, false, false, false, false, false, false, false] rfl rfl (by kernel_rfl) (fun _ _ _ h => h) (Or.inl ⟨by rfl, ?_⟩) hHeld ?_ ?_
                  rotate_left
                  · rintro w' ⟨s0, s1, s2, s3, s4, s5, s6⟩
                    go_simp
                    with_reducible rfl
                  rotate_left
                  · simp only [Act.put, List.setIfInBounds_toArray, List.set_cons_zero, List.set_cons_succ]
                    rfl
                  refine pure_ (i := 12) (N := some 24) (v := ?_) (a' := ?_) #[true, true, true, true, true, true, true, true, true, true, true, true, true, false, false, false, false, false, false, false, false, false, false, false, false, false, false, false, false, false, false, false, false, false, false] rfl rfl (by kernel_rfl) (fun _ _ _ h => h) (Or.inl ⟨by rfl, ?_⟩) ?_ ?_
                  rotate_left
                  · intro w'
                    go_simp
                    with_reducible rfl
                  rotate_left
                  · simp only [Act.put, List.setIfInBounds_toArray, List.set_cons_zero, List.set_cons_succ]
                    rfl
                  refine pure_ (i := 13) (N := some 25) (v := ?_) (a' := ?_) #[true, true, true, true, true, true, true, true, true, true, true, true, true, true, false, false, false, false, false, false, false, false, false, false, false, false, false, false, false, false, false, false, false, false, false] rfl rfl (by kernel_rfl) (fun _ _ _ h => h) (Or.inl ⟨by rfl, ?_⟩) ?_ ?_
                  rotate_left
                  · intro w'
                    go_simp
                    with_reducible rfl
                  rotate_left
                  · simp only [Act.put, List.setIfInBounds_toArray, List.set_cons_zero, List.set_cons_succ]
                    rfl
                  refine pure_ (i := 14) (N := some 26) (v := ?_) (a' := ?_) #[true, true, true, true, true, true, true, true, true, true, true, true, true, true, true, false, false, false, false, false, false, false, false, false, false, false, false, false, false, false, false, false, false, false, false] rfl rfl (by kernel_rfl) (fun _ _ _ h => h) (Or.inl ⟨by rfl, ?_⟩) ?_ ?_
                  rotate_left
                  · intro w'
                    go_simp
                    with_reducible rfl
                  rotate_left
                  · simp only [Act.put, List.setIfInBounds_toArray, List.set_cons_zero, List.set_cons_succ]
                    rfl
                  refine pure_ (i := 15) (N := some 27) (v := ?_) (a' := ?_) #[true, true, true, true, true, true, true, true, true, true, true, true, true, true, true, true, false, false, false, false, false, false, false, false, false, false, false, false, false, false, false, false, false, false, false] rfl rfl (by kernel_rfl) (fun _ _ _ h => h) (Or.inl ⟨by rfl, ?_⟩) ?_ ?_
                  rotate_left
                  · intro w'
                    go_simp
                    with_reducible rfl
                  rotate_left
                  · simp only [Act.put, List.setIfInBounds_toArray, List.set_cons_zero, List.set_cons_succ]
                    rfl
                  refine take_ (i := 16) (N := some 28) (v := ?_) (a' := ?_) #[true, true, true, true, true, true, true, true, true, true, true, true, true, true, true, true, true, false, false, false, false, false, false, false, false, false, false, false, false, false, false, false, false, false, false] rfl rfl (by kernel_rfl) (fun _ _ _ h => h) (Or.inl ⟨by rfl, ?_⟩) hHeld ?_ ?_
                  rotate_left
                  · rintro w' ⟨s0, s1, s2, s3, s4, s5, s6⟩
                    go_simp
                    with_reducible rfl
                  rotate_left
                  · simp only [Act.put, List.setIfInBounds_toArray, List.set_cons_zero, List.set_cons_succ]
                    rfl
                  refine pure_ (i := 17) (N := some 29) (v := ?_) (a' := ?_) #[true, true, true, true, true, true, true, true, true, true, true, true, true, true, true, true, true, true, false, false, false, false, false, false, false, false, false, false, false, false, false, false, false, false, false] rfl rfl (by kernel_rfl) (fun _ _ _ h => h) (Or.inl ⟨by rfl, ?_⟩) ?_ ?_
                  rotate_left
                  · intro w'
                    go_simp
                    with_reducible rfl
                  rotate_left
                  · simp only [Act.put, List.setIfInBounds_toArray, List.set_cons_zero, List.set_cons_succ]
                    rfl
                  refine pure_ (i := 18) (N := some 30) (v := ?_) (a' := ?_) #[true, true, true, true, true, true, true, true, true, true, true, true, true, true, true, true, true, true, true, false, false, false, false, false, false, false, false, false, false, false, false, false, false, false, false] rfl rfl (by kernel_rfl) (fun _ _ _ h => h) (Or.inl ⟨by rfl, ?_⟩) ?_ ?_
                  rotate_left
                  · intro w'
                    go_simp
                    with_reducible rfl
                  rotate_left
                  · simp only [Act.put, List.setIfInBounds_toArray, List.set_cons_zero, List.set_cons_succ]
                    rfl
                  refine pure_ (i := 19) (N := some 31) (v := ?_) (a' := ?_) #[true, true, true, true, true, true, true, true, true, true, true, true, true, true, true, true, true, true, true, true, false, false, false, false, false, false, false, false, false, false, false, false, false, false, false] rfl rfl (by kernel_rfl) (fun _ _ _ h => h) (Or.inl ⟨by rfl, ?_⟩) ?_ ?_
                  rotate_left
                  · intro w'
                    go_simp
                    with_reducible rfl
                  rotate_left
                  · simp only [Act.put, List.setIfInBounds_toArray, List.set_cons_zero, List.set_cons_succ]
                    rfl
                  refine pure_ (i := 20) (N := some 32) (v := ?_) (a' := ?_) #[true, true, true, true, true, true, true, true, true, true, true, true, true, true, true, true, true, true, true, true, true, false, false, false, false, false, false, false, false, false, false, false, false, false, false] rfl rfl (by kernel_rfl) (fun _ _ _ h => h) (Or.inl ⟨by rfl, ?_⟩) ?_ ?_
                  rotate_left
                  · intro w'
                    go_simp
                    with_reducible rfl
                  rotate_left
                  · simp only [Act.put, List.setIfInBounds_toArray, List.set_cons_zero, List.set_cons_succ]
                    rfl
                  refine pure_ (i := 21) (N := some 33) (v := ?_) (a' := ?_) #[true, true, true, true, true, true, true, true, true, true, true, true, true, true, true, true, true, true, true, true, true, true, false, false, false, false, false, false, false, false, false, false, false, false, false] rfl rfl (by kernel_rfl) (fun _ _ _ h => h) (Or.inl ⟨by rfl, ?_⟩) ?_ ?_
                  rotate_left
                  · intro w'
                    go_simp
                    with_reducible rfl
                  rotate_left
                  · simp only [Act.put, List.setIfInBounds_toArray, List.set_cons_zero, List.set_cons_succ]
                    rfl
                  refine pure_ (i := 22) (N := some 34) (v := ?_) (a' := ?_) #[true, true, true, true, true, true, true, true, true, true, true, true, true, true, true, true, true, true, true, true, true, true, true, false, false, false, false, false, false, false, false, false, false, false, false] rfl rfl (by kernel_rfl) (fun _ _ _ h => h) (Or.inl ⟨by rfl, ?_⟩) ?_ ?_
                  rotate_left
                  · intro w'
                    go_simp
                    with_reducible rfl
                  rotate_left
                  · simp only [Act.put, List.setIfInBounds_toArray, List.set_cons_zero, List.set_cons_succ]
                    rfl
                  refine pure_ (i := 23) (N := some 35) (v := ?_) (a' := ?_) #[true, true, true, true, true, true, true, true, true, true, true, true, true, true, true, true, true, true, true, true, true, true, true, true, false, false, false, false, false, false, false, false, false, false, false] rfl rfl (by kernel_rfl) (fun _ _ _ h => h) (Or.inl ⟨by rfl, ?_⟩) ?_ ?_
                  rotate_left
                  · intro w'
                    go_simp
                    with_reducible rfl
                  rotate_left
                  · simp only [Act.put, List.setIfInBounds_toArray, List.set_cons_zero, List.set_cons_succ]
                    rfl
                  refine pure_ (i := 24) (N := some 36) (v := ?_) (a' := ?_) #[true, true, true, true, true, true, true, true, true, true, true, true, true, true, true, true, true, true, true, true, true, true, true, true, true, false, false, false, false, false, false, false, false, false, false] rfl rfl (by kernel_rfl) (fun _ _ _ h => h) (Or.inl ⟨by rfl, ?_⟩) ?_ ?_
                  rotate_left
                  · intro w'
                    go_simp
                    with_reducible rfl
                  rotate_left
                  · simp only [Act.put, List.setIfInBounds_toArray, List.set_cons_zero, List.set_cons_succ]
                    rfl
                  refine pure_ (i := 25) (N := some 37) (v := ?_) (a' := ?_) #[true, true, true, true, true, true, true, true, true, true, true, true, true, true, true, true, true, true, true, true, true, true, true, true, true, true, false, false, false, false, false, false, false, false, false] rfl rfl (by kernel_rfl) (fun _ _ _ h => h) (Or.inl ⟨by rfl, ?_⟩) ?_ ?_
                  rotate_left
                  · intro w'
                    go_simp
                    with_reducible rfl
                  rotate_left
                  · simp only [Act.put, List.setIfInBounds_toArray, List.set_cons_zero, List.set_cons_succ]
                    rfl
                  refine pure_ (i := 26) (N := some 38) (v := ?_) (a' := ?_) #[true, true, true, true, true, true, true, true, true, true, true, true, true, true, true, true, true, true, true, true, true, true, true, true, true, true, true, false, false, false, false, false, false, false, false] rfl rfl (by kernel_rfl) (fun _ _ _ h => h) (Or.inl ⟨by rfl, ?_⟩) ?_ ?_
                  rotate_left
                  · intro w'
                    go_simp
                    with_reducible rfl
                  rotate_left
                  · simp only [Act.put, List.setIfInBounds_toArray, List.set_cons_zero, List.set_cons_succ]
                    rfl
                  refine pure_ (i := 27) (N := some 39) (v := ?_) (a' := ?_) #[true, true, true, true, true, true, true, true, true, true, true, true, true, true, true, true, true, true, true, true, true, true, true, true, true, true, true, true, false, false, false, false, false, false, false] rfl rfl (by kernel_rfl) (fun _ _ _ h => h) (Or.inl ⟨by rfl, ?_⟩) ?_ ?_
                  rotate_left
                  · intro w'
                    go_simp
                    with_reducible rfl
                  rotate_left
                  · simp only [Act.put, List.setIfInBounds_toArray, List.set_cons_zero, List.set_cons_succ]
                    rfl
                  refine take_ (i := 28) (N := some 40) (v := ?_) (a' := ?_) #[true, true, true, true, true, true, true, true, true, true, true, true, true, true, true, true, true, true, true, true, true, true, true, true, true, true, true, true, true, false, false, false, false, false, false] rfl rfl (by kernel_rfl) (fun _ _ _ h => h) (Or.inl ⟨by rfl, ?_⟩) hHeld ?_ ?_
                  rotate_left
                  · rintro w' ⟨s0, s1, s2, s3, s4, s5, s6⟩
                    go_simp
                    with_reducible rfl
                  rotate_left
                  · simp only [Act.put, List.setIfInBounds_toArray, List.set_cons_zero, List.set_cons_succ]
                    rfl
                  refine pure_ (i := 29) (N := some 41) (v := ?_) (a' := ?_) #[true, true, true, true, true, true, true, true, true, true, true, true, true, true, true, true, true, true, true, true, true, true, true, true, true, true, true, true, true, true, false, false, false, false, false] rfl rfl (by kernel_rfl) (fun _ _ _ h => h) (Or.inl ⟨by rfl, ?_⟩) ?_ ?_
                  rotate_left
                  · intro w'
                    go_simp
                    with_reducible rfl
                  rotate_left
                  · simp only [Act.put, List.setIfInBounds_toArray, List.set_cons_zero, List.set_cons_succ]
                    rfl
                  refine take_ (i := 30) (N := some 42) (v := ?_) (a' := ?_) #[true, true, true, true, true, true, true, true, true, true, true, true, true, true, true, true, true, true, true, true, true, true, true, true, true, true, true, true, true, true, true, false, false, false, false] rfl rfl (by kernel_rfl) (fun _ _ _ h => h) (Or.inl ⟨by rfl, ?_⟩) hHeld ?_ ?_
                  rotate_left
                  · rintro w' ⟨s0, s1, s2, s3, s4, s5, s6⟩
                    go_simp
                    with_reducible rfl
                  rotate_left
                  · simp only [Act.put, List.setIfInBounds_toArray, List.set_cons_zero, List.set_cons_succ]
                    rfl
                  refine one_ (i := 31) (N := some 43) #[true, true, true, true, true, true, true, true, true, true, true, true, true, true, true, true, true, true, true, true, true, true, true, true, true, true, true, true, true, true, true, true, false, false, false] rfl rfl (by kernel_rfl) (by decide) (fun K hK => ?_)
                  refine goes_ Tryd.func39 (by kernel_rfl) rfl #[.agg #[.int .i64 y.r.at_, .int .i64 y.r.key, .int .i64 y.r.val], .agg #[.int .i64 x.r.at_, .int .i64 x.r.key, .int .i64 x.r.val]] (by rfl) rfl rfl (by (try simp only [List.map_toArray, List.map_cons, List.map_nil]); first | done | rfl) ?_
                  with_reducible refine (Less_any y.r x.r _).mono ?_
                  rintro e w2 ⟨rfl, hb2⟩
                  rw [HLS.out]
                  refine ⟨_, rfl, ?_⟩
                  have HB2 := Lib.hid hb2
                  have kk : ∀ b o v, w1.cell? ⟨b, o, none⟩ = some v → w2.cell? ⟨b, o, none⟩ = some v := fun b o v h => (hb2.cell (World.block_lt_of_cell? w1 _ h)).trans h
                  obtain ⟨s0, s1, s2, s3, s4, s5, s6⟩ := hHeld
                  refine hK.out _ _ ⟨kk _ _ _ s0, kk _ _ _ s1, kk _ _ _ s2, kk _ _ _ s3, kk _ _ _ s4, kk _ _ _ s5, kk _ _ _ s6⟩ (fun hHeld => ?_)
                  clear hK K hb2 kk
                  refine norm_ (a' := ?_) ?_ ?_
                  rotate_left
                  · show Act.put _ (some 43) _ = _
                    simp only [Act.put, List.setIfInBounds_toArray, List.set_cons_zero, List.set_cons_succ]
                    rfl
                  refine pure_ (i := 32) (N := some 44) (v := ?_) (a' := ?_) #[true, true, true, true, true, true, true, true, true, true, true, true, true, true, true, true, true, true, true, true, true, true, true, true, true, true, true, true, true, true, true, true, true, false, false] rfl rfl (by kernel_rfl) (fun _ _ _ h => h) (Or.inl ⟨by rfl, ?_⟩) ?_ ?_
                  rotate_left
                  · intro w'
                    go_simp
                    with_reducible rfl
                  rotate_left
                  · simp only [Act.put, List.setIfInBounds_toArray, List.set_cons_zero, List.set_cons_succ]
                    rfl
                  refine pure_ (i := 33) (N := some 45) (v := ?_) (a' := ?_) #[true, true, true, true, true, true, true, true, true, true, true, true, true, true, true, true, true, true, true, true, true, true, true, true, true, true, true, true, true, true, true, true, true, true, false] rfl rfl (by kernel_rfl) (fun _ _ _ h => h) (Or.inl ⟨by rfl, ?_⟩) ?_ ?_
                  rotate_left
                  · intro w'
                    go_simp
                    with_reducible rfl
                  rotate_left
                  · simp only [Act.put, List.setIfInBounds_toArray, List.set_cons_zero, List.set_cons_succ]
                    rfl
                  refine pure_ (i := 34) (N := some 46) (v := ?_) (a' := ?_) #[true, true, true, true, true, true, true, true, true, true, true, true, true, true, true, true, true, true, true, true, true, true, true, true, true, true, true, true, true, true, true, true, true, true, true] rfl rfl (by kernel_rfl) (fun _ _ _ h => h) (Or.inl ⟨by rfl, ?_⟩) ?_ ?_
                  rotate_left
                  · intro w'
                    go_simp
                    with_reducible rfl
                  rotate_left
                  · simp only [Act.put, List.setIfInBounds_toArray, List.set_cons_zero, List.set_cons_succ]
                    rfl
                  refine done_ (by kernel_rfl) ?_
                  clear hw hw0 hw1 hw2 hHeld
                  go_wp2_with fail
                  go_ret
                  refine ⟨ret_bool ?_, (below_box HB.out HB.out.size HB1.out).trans (HB2.out.mono (by have := HB.out.size; have := HB1.out.size; simp at this; omega))⟩
                  have : stepB l (j + 1) = false := by simp [stepB, HX.out, HY.out, HCMP.out]
                  rw [bagB_false this HR.out.len hlt]
    · have hk' : k = n := by omega
      subst hk'
      clear hRk hlt
      go_wp2
      go_ret
      exact ⟨ret_bool (by rw [bagB_true HT.out HR.out.len]; simp; omega), HB.out⟩

def longR (l : List It) : List It × Int := if bagB l then (l, 0) else ([], 3)
end Go.Proofs.Bg
end

section
/- Plain law: sums of bags are a group; products of sums are sums of products. No program, no memory. -/
namespace Go.Proofs.Bg

/-- A number for each record, added over a list of items. -/
def linS (G : Rc → Int) : List It → Int
  | [] => 0
  | x :: r => x.n * G x.r + linS G r
theorem linS_append (G : Rc → Int) (a b : List It) : linS G (a ++ b) = linS G a + linS G b := by
  induction a with
  | nil => simp [linS]
  | cons x r ih => simp only [List.cons_append, linS, ih]; omega
theorem linS_ins (G : Rc → Int) (x : It) (m : List It) : linS G (insIt x m) = x.n * G x.r + linS G m := by
  induction m with
  | nil => rfl
  | cons y r ih =>
    rw [insIt]
    split
    · rfl
    · split
      · rename_i h
        simp only [linS, h]
        rw [Int.add_mul]
        omega
      · simp only [linS, ih]
        omega
theorem linS_gather (G : Rc → Int) (l : List It) : linS G (gather l) = linS G l := by
  induction l with
  | nil => rfl
  | cons x r ih => rw [gather, linS_ins, ih, linS]
theorem linS_filter (G : Rc → Int) (l : List It) : linS G (l.filter (fun x => x.n != 0)) = linS G l := by
  induction l with
  | nil => rfl
  | cons x r ih =>
    rw [List.filter_cons]
    split
    · rw [linS, linS, ih]
    · rename_i h
      have : x.n = 0 := by simpa using h
      rw [ih, linS, this]
      omega
theorem linS_canon (G : Rc → Int) (l : List It) : linS G (canon l) = linS G l := by rw [canon, linS_filter, linS_gather]

theorem canon_id {a : List It} (h : bagB a = true) : canon a = a := by
  have hs := (bagB_spec a).1 h
  exact (IsBag.eq ⟨hs.2.1, fun x hx => by have := (itB_spec x).1 (hs.1 x hx); omega, fun _ => rfl⟩).symm
theorem canon_comm (a b : List It) : canon (a ++ b) = canon (b ++ a) := canon_eq fun k => by rw [sumN_append, sumN_append]; omega
theorem canon_left (a b : List It) : canon (canon a ++ b) = canon (a ++ b) := canon_eq fun k => by rw [sumN_append, sumN_append, (canon_is a).sums]
theorem canon_right (a b : List It) : canon (a ++ canon b) = canon (a ++ b) := canon_eq fun k => by rw [sumN_append, sumN_append, (canon_is b).sums]
theorem sumN_neg (a : List It) (k : Rc) : sumN (a.map negIt) k = - sumN a k := by
  induction a with
  | nil => rfl
  | cons x r ih => simp only [List.map_cons, sumN, ih, negIt]; split <;> omega
theorem canon_minus (a : List It) : canon (a ++ a.map negIt) = [] := by
  have : canon (a ++ a.map negIt) = canon [] := canon_eq fun k => by rw [sumN_append, sumN_neg, sumN]; omega
  exact this
theorem bagOr_congr {a b : List It} (h : canon a = canon b) : bagOr a = bagOr b ∧ errOr a = errOr b := by
  unfold bagOr errOr
  rw [h]
  exact ⟨rfl, rfl⟩

theorem addR_comm (a b : List It) : addR a b = addR b a := by
  unfold addR
  obtain ⟨h1, h2⟩ := bagOr_congr (canon_comm a b)
  rw [h1, h2, Bool.and_comm]
theorem addR_err {a b : List It} (ha : bagB a = true) (hb : bagB b = true) : (addR a b).2 = 0 ∨ (addR a b).2 = 3 := by
  simp only [addR, ha, hb, errOr]
  simp
theorem bagB_nil : bagB [] = true := by decide
theorem addR_nil {a : List It} (ha : bagB a = true) : addR a [] = (a, 0) := by
  simp [addR, ha, bagB_nil, bagOr, errOr, canon_id ha]
theorem addR_neg {a : List It} (ha : bagB a = true) : addR a (a.map negIt) = ([], 0) := by
  simp [addR, ha, bagB_neg ha, bagOr, errOr, canon_minus, bagB_nil]

/-- What is there, and the contrary of what is missing. -/
def isL (b : List It) : List It := b.filter (fun x => decide (0 < x.n))
def notL (b : List It) : List It := (b.filter (fun x => !decide (0 < x.n))).map negIt
theorem bagB_filter {a : List It} (p : It → Bool) (h : bagB a = true) : bagB (a.filter p) = true := by
  rw [bagB_spec] at h ⊢
  exact ⟨fun x hx => h.1 x (List.mem_filter.1 hx).1, incr_filter p h.2.1, Nat.le_trans (List.length_filter_le _ _) h.2.2⟩
theorem bagB_isL {a : List It} (h : bagB a = true) : bagB (isL a) = true := bagB_filter _ h
theorem bagB_notL {a : List It} (h : bagB a = true) : bagB (notL a) = true := bagB_neg (bagB_filter _ h)
theorem negIt_negIt (x : It) : negIt (negIt x) = x := by cases x; simp [negIt]
theorem map_neg_neg (l : List It) : (l.map negIt).map negIt = l := by
  rw [List.map_map]
  conv => rhs; rw [← List.map_id l]
  exact List.map_congr_left (fun x _ => negIt_negIt x)
theorem sumN_filter_add (p : It → Bool) (l : List It) (k : Rc) : sumN (l.filter p) k + sumN (l.filter (fun x => !p x)) k = sumN l k := by
  induction l with
  | nil => rfl
  | cons x r ih =>
    cases h : p x <;> simp [h, sumN] <;> omega
theorem addR_split {a : List It} (ha : bagB a = true) : addR (isL a) ((notL a).map negIt) = (a, 0) := by
  have h1 : canon (isL a ++ (notL a).map negIt) = a := by
    rw [notL, map_neg_neg, isL]
    exact (canon_eq (l' := a) fun k => by rw [sumN_append, sumN_filter_add]).trans (canon_id ha)
  simp only [addR, bagB_isL ha, bagB_neg (bagB_notL ha), bagOr, errOr, h1, ha]
  rfl
theorem whole_isL {a : List It} : (isL a).all (fun x => !decide (x.n < 0)) = true := by
  rw [List.all_eq_true]
  intro x hx
  have := (List.mem_filter.1 hx).2
  simp at this ⊢
  omega
theorem whole_notL {a : List It} : (notL a).all (fun x => !decide (x.n < 0)) = true := by
  rw [List.all_eq_true]
  intro x hx
  obtain ⟨y, hy, rfl⟩ := List.mem_map.1 hx
  have := (List.mem_filter.1 hy).2
  simp [negIt] at this ⊢
  omega
theorem addR_ok {a b : List It} (h : (addR a b).2 = 0) : bagB a = true ∧ bagB b = true ∧ bagB (canon (a ++ b)) = true ∧ (addR a b).1 = canon (a ++ b) := by
  unfold addR errOr bagOr at *
  cases ha : bagB a <;> cases hb : bagB b <;> cases hc : bagB (canon (a ++ b)) <;> simp_all
theorem addR_assoc {a b c : List It} (h1 : (addR a b).2 = 0) (h2 : (addR b c).2 = 0) : addR (addR a b).1 c = addR a (addR b c).1 := by
  obtain ⟨ha, hb, hab, e1⟩ := addR_ok h1
  obtain ⟨_, hc, hbc, e2⟩ := addR_ok h2
  have e : canon (canon (a ++ b) ++ c) = canon (a ++ canon (b ++ c)) := by rw [canon_left, canon_right, List.append_assoc]
  obtain ⟨g1, g2⟩ := bagOr_congr e
  rw [e1, e2]
  simp only [addR, ha, hc, hab, hbc, g1, g2]

/-! ### products -/
/-- What an item with the record r, once, gives with the item y, at the record k. -/
def oneP (apart : Int) (k : Rc) (r : Rc) (y : It) : Int :=
  if r.key = y.r.key ∧ max r.at_ y.r.at_ - min r.at_ y.r.at_ ≤ apart then (if (⟨max r.at_ y.r.at_, r.key, clampI (r.val + y.r.val)⟩ : Rc) = k then y.n else 0) else 0
def rowP (apart : Int) (k : Rc) (c : List It) (r : Rc) : Int := (c.map (oneP apart k r)).sum
theorem pairIt_sum (apart : Int) (k : Rc) (x y : It) : sumN (pairIt apart x y) k = x.n * oneP apart k x.r y := by
  unfold pairIt oneP
  split
  · simp only [sumN]
    split <;> simp
  · simp [sumN]
theorem rowIts_sum (apart : Int) (k : Rc) (x : It) (c : List It) : sumN (rowIts apart x c) k = x.n * rowP apart k c x.r := by
  unfold rowIts rowP
  induction c with
  | nil => simp [sumN]
  | cons y r ih => rw [List.flatMap_cons, sumN_append, ih, pairIt_sum, List.map_cons, List.sum_cons, Int.mul_add]
theorem pairIts_lin (apart : Int) (k : Rc) (a c : List It) : sumN (pairIts apart a c) k = linS (rowP apart k c) a := by
  unfold pairIts
  induction a with
  | nil => rfl
  | cons x r ih => rw [List.flatMap_cons, sumN_append, ih, rowIts_sum, linS]
theorem oneP_comm (apart : Int) (k : Rc) (x y : It) : x.n * oneP apart k x.r y = y.n * oneP apart k y.r x := by
  unfold oneP
  have e1 : max x.r.at_ y.r.at_ = max y.r.at_ x.r.at_ := by omega
  have e2 : min x.r.at_ y.r.at_ = min y.r.at_ x.r.at_ := by omega
  have e3 : x.r.val + y.r.val = y.r.val + x.r.val := by omega
  by_cases hk : x.r.key = y.r.key
  · simp only [hk, true_and]
    rw [e1, e2, e3]
    split
    · split
      · exact Int.mul_comm _ _
      · simp
    · simp
  · have hk' : ¬ y.r.key = x.r.key := fun e => hk e.symm
    simp [hk, hk']
theorem sum_comm2 (f : It → It → Int) (a c : List It) : (a.map (fun x => (c.map (f x)).sum)).sum = (c.map (fun y => (a.map (fun x => f x y)).sum)).sum := by
  induction a with
  | nil =>
    induction c with
    | nil => rfl
    | cons y r ih => simp only [List.map_nil, List.sum_nil, List.map_cons, List.sum_cons] at ih ⊢; omega
  | cons x r ih =>
    rw [List.map_cons, List.sum_cons, ih]
    clear ih
    induction c with
    | nil => rfl
    | cons y s ih =>
      simp only [List.map_cons, List.sum_cons] at ih ⊢
      omega
theorem mul_sum (n : Int) (l : List Int) : n * l.sum = (l.map (fun z => n * z)).sum := by
  induction l with
  | nil => simp
  | cons x r ih => rw [List.sum_cons, Int.mul_add, ih, List.map_cons, List.sum_cons]
theorem linS_rowP (apart : Int) (k : Rc) (a c : List It) : linS (rowP apart k c) a = (a.map (fun x => (c.map (fun y => x.n * oneP apart k x.r y)).sum)).sum := by
  induction a with
  | nil => rfl
  | cons x r ih =>
    rw [linS, ih, List.map_cons, List.sum_cons, rowP, mul_sum, List.map_map]
    rfl
theorem pairIts_comm (apart : Int) (a c : List It) : canon (pairIts apart a c) = canon (pairIts apart c a) := canon_eq fun k => by
  rw [pairIts_lin, pairIts_lin, linS_rowP, linS_rowP, sum_comm2]
  congr 1
  refine List.map_congr_left fun y _ => ?_
  congr 1
  exact List.map_congr_left fun x _ => oneP_comm apart k x y
theorem pairR_comm (apart : Int) (a c : List It) : pairR a c apart = pairR c a apart := by
  obtain ⟨h1, h2⟩ := bagOr_congr (pairIts_comm apart a c)
  unfold pairR
  rw [h1, h2, Bool.and_comm (bagB a)]
theorem pairR_ok {a c : List It} {apart : Int} (h : (pairR a c apart).2 = 0) : bagB a = true ∧ bagB c = true ∧ 0 ≤ apart ∧ bagB (canon (pairIts apart a c)) = true ∧ (pairR a c apart).1 = canon (pairIts apart a c) := by
  unfold pairR errOr bagOr at *
  by_cases h0 : 0 ≤ apart
  · cases ha : bagB a <;> cases hb : bagB c <;> cases hc : bagB (canon (pairIts apart a c)) <;> simp_all
  · simp [h0] at h
theorem pairIts_nil (apart : Int) (a : List It) : pairIts apart a [] = [] := by
  unfold pairIts rowIts
  simp
theorem pairR_nil {a : List It} {apart : Int} (ha : bagB a = true) (h0 : 0 ≤ apart) : pairR a [] apart = ([], 0) := by
  have e : canon [] = [] := rfl
  simp [pairR, ha, bagB_nil, h0, pairIts_nil, bagOr, errOr, e]
theorem pairIts_two (apart : Int) (a b c : List It) : canon (pairIts apart (canon (a ++ b)) c) = canon (canon (pairIts apart a c) ++ canon (pairIts apart b c)) := canon_eq fun k => by
  rw [sumN_append, (canon_is _).sums, (canon_is _).sums, pairIts_lin, pairIts_lin, pairIts_lin, linS_canon, linS_append]
theorem bilinear {a b c : List It} {apart : Int} (h1 : (addR a b).2 = 0) (h2 : (pairR a c apart).2 = 0) (h3 : (pairR b c apart).2 = 0) :
    pairR (addR a b).1 c apart = addR (pairR a c apart).1 (pairR b c apart).1 := by
  obtain ⟨ha, hb, hab, e1⟩ := addR_ok h1
  obtain ⟨_, hc, h0, hac, e2⟩ := pairR_ok h2
  obtain ⟨_, _, _, hbc, e3⟩ := pairR_ok h3
  obtain ⟨g1, g2⟩ := bagOr_congr (pairIts_two apart a b c)
  rw [e1, e2, e3]
  simp only [pairR, addR, hab, hc, h0, hac, hbc, g1, g2]
  rfl
end Go.Proofs.Bg
end

section
/- Plain law: edits lead from one bag to the other one, and none that do so are shorter. No program, no memory. -/
namespace Go.Proofs.Bg

/-! ### what edits add -/
def edIt (x : Ed) : List It := (if x.d = 1 then [] else [⟨x.old, -x.n⟩]) ++ (if x.d = 2 then [] else [⟨x.new, x.n⟩])
def edIts (l : List Ed) : List It := l.flatMap edIt
def edB (x : Ed) : Bool := withinB x.n 1 1000000 && (if x.d = 1 then recB x.new && decide (x.old = zRc) else if x.d = 2 then recB x.old && decide (x.new = zRc) else if x.d = 3 then recB x.old && (recB x.new && (!decide (x.old = x.new) && decide (x.old.key = x.new.key))) else false)
def doR (b : List It) (l : List Ed) : List It × Int := if bagB b && (decide (l.length ≤ 600) && l.all edB) then (bagOr (b ++ edIts l), errOr (b ++ edIts l)) else ([], 2)
def lenE (l : List Ed) : Int := (l.map (·.n)).sum
theorem lenE_append (a b : List Ed) : lenE (a ++ b) = lenE a + lenE b := by simp [lenE]
theorem edIts_append (a b : List Ed) : edIts (a ++ b) = edIts a ++ edIts b := by simp [edIts]
theorem edIts_cons (x : Ed) (r : List Ed) : edIts (x :: r) = edIt x ++ edIts r := by simp [edIts]

/-! ### what is above 0, and below, of a key -/
def posS (k : Int) : List It → Int
  | [] => 0
  | x :: r => (if x.r.key = k then max x.n 0 else 0) + posS k r
def negS (k : Int) : List It → Int
  | [] => 0
  | x :: r => (if x.r.key = k then max (-x.n) 0 else 0) + negS k r
theorem posS_append (k : Int) (a b : List It) : posS k (a ++ b) = posS k a + posS k b := by
  induction a with
  | nil => simp [posS]
  | cons x r ih => simp only [List.cons_append, posS, ih]; omega
theorem negS_append (k : Int) (a b : List It) : negS k (a ++ b) = negS k a + negS k b := by
  induction a with
  | nil => simp [negS]
  | cons x r ih => simp only [List.cons_append, negS, ih]; omega
theorem posS_neg (k : Int) (l : List It) : posS k (l.map negIt) = negS k l := by
  induction l with
  | nil => rfl
  | cons x r ih => simp only [List.map_cons, posS, negS, ih, negIt]
theorem posS_ins (k : Int) (x : It) (m : List It) : posS k (insIt x m) ≤ posS k (x :: m) := by
  induction m with
  | nil => exact Int.le_refl _
  | cons y r ih =>
    rw [insIt]
    split
    · exact Int.le_refl _
    · split
      · rename_i h
        simp only [posS, h]
        split <;> omega
      · simp only [posS] at ih ⊢
        omega
theorem negS_ins (k : Int) (x : It) (m : List It) : negS k (insIt x m) ≤ negS k (x :: m) := by
  induction m with
  | nil => exact Int.le_refl _
  | cons y r ih =>
    rw [insIt]
    split
    · exact Int.le_refl _
    · split
      · rename_i h
        simp only [negS, h]
        split <;> omega
      · simp only [negS] at ih ⊢
        omega
theorem posS_gather (k : Int) (l : List It) : posS k (gather l) ≤ posS k l := by
  induction l with
  | nil => exact Int.le_refl _
  | cons x r ih => rw [gather]; have := posS_ins k x (gather r); simp only [posS] at this ⊢; omega
theorem negS_gather (k : Int) (l : List It) : negS k (gather l) ≤ negS k l := by
  induction l with
  | nil => exact Int.le_refl _
  | cons x r ih => rw [gather]; have := negS_ins k x (gather r); simp only [negS] at this ⊢; omega
theorem posS_filter (k : Int) (l : List It) : posS k (l.filter (fun x => x.n != 0)) = posS k l := by
  induction l with
  | nil => rfl
  | cons x r ih =>
    rw [List.filter_cons]
    split
    · rw [posS, posS, ih]
    · rename_i h
      have : x.n = 0 := by simpa using h
      rw [ih, posS, this]
      split <;> omega
theorem negS_filter (k : Int) (l : List It) : negS k (l.filter (fun x => x.n != 0)) = negS k l := by
  induction l with
  | nil => rfl
  | cons x r ih =>
    rw [List.filter_cons]
    split
    · rw [negS, negS, ih]
    · rename_i h
      have : x.n = 0 := by simpa using h
      rw [ih, negS, this]
      split <;> omega
theorem posS_canon (k : Int) (l : List It) : posS k (canon l) ≤ posS k l := by rw [canon, posS_filter]; exact posS_gather k l
theorem negS_canon (k : Int) (l : List It) : negS k (canon l) ≤ negS k l := by rw [canon, negS_filter]; exact negS_gather k l

/-! ### how long edits are -/
def sumIt : List It → Int
  | [] => 0
  | x :: r => x.n + sumIt r
theorem sumIt_less (x : It) (r : List It) (k : Int) : sumIt (lessL (x :: r) k) = sumIt (x :: r) - k := by
  simp only [lessL]
  split <;> simp only [sumIt] <;> omega
theorem sumIt_pos {l : List It} (h : PosL l) : 0 ≤ sumIt l := by
  induction l with
  | nil => simp [sumIt]
  | cons x r ih =>
    have := h x List.mem_cons_self
    have := ih (fun y hy => h y (List.mem_cons_of_mem _ hy))
    simp only [sumIt]
    omega
theorem lenE_gone (l : List It) : lenE (l.map goneE) = sumIt l := by
  induction l with
  | nil => rfl
  | cons x r ih => simp only [lenE, List.map_cons, List.sum_cons, goneE, sumIt] at ih ⊢; omega
theorem lenE_say (l : List It) : lenE (l.map sayE) = sumIt l := by
  induction l with
  | nil => rfl
  | cons x r ih => simp only [lenE, List.map_cons, List.sum_cons, sayE, sumIt] at ih ⊢; omega
theorem lessL_pos {x : It} {r : List It} {k : Int} (h : PosL (x :: r)) (hk : 0 < k) (hk2 : k ≤ x.n) : PosL (lessL (x :: r) k) := h.less hk hk2
theorem turnF_len : ∀ (f : Nat) (l1 l2 : List It), PosL l1 → PosL l2 → l1.length + l2.length < f → lenE (turnF f l1 l2) = max (sumIt l1) (sumIt l2)
  | 0, _, _, _, _, h => absurd h (by omega)
  | f + 1, [], l2, _, h2, _ => by
    have := sumIt_pos h2
    rw [turnF, lenE_say]
    simp only [sumIt]
    omega
  | f + 1, x :: r, [], h1, _, _ => by
    have := sumIt_pos h1
    rw [turnF, lenE_gone]
    simp only [sumIt] at this ⊢
    omega
  | f + 1, x :: r, y :: s, h1, h2, hf => by
    have hx := h1 x List.mem_cons_self
    have hy := h2 y List.mem_cons_self
    have hm : 0 < min x.n y.n := by omega
    have e1 := lessL_length x r (min x.n y.n)
    have e2 := lessL_length y s (min x.n y.n)
    have ho : x.n = min x.n y.n ∨ y.n = min x.n y.n := by omega
    simp only [List.length_cons] at hf
    have ih := turnF_len f (lessL (x :: r) (min x.n y.n)) (lessL (y :: s) (min x.n y.n)) (lessL_pos h1 hm (by omega)) (lessL_pos h2 hm (by omega)) (by
      split at e1 <;> split at e2 <;> omega)
    rw [sumIt_less, sumIt_less] at ih
    rw [turnF]
    have : lenE (⟨3, x.r, y.r, min x.n y.n⟩ :: turnF f (lessL (x :: r) (min x.n y.n)) (lessL (y :: s) (min x.n y.n))) = min x.n y.n + lenE (turnF f (lessL (x :: r) (min x.n y.n)) (lessL (y :: s) (min x.n y.n))) := by simp [lenE]
    rw [this, ih]
    omega
theorem sumIt_miss (d : List It) (k : Int) : sumIt (missL d k) = negS k d := by
  unfold missL
  induction d with
  | nil => rfl
  | cons x r ih =>
    by_cases hk : x.r.key = k <;> by_cases hn : x.n < 0
    · simp [hk, hn, sumIt, negS, negIt, ih]; omega
    · simp [hk, hn, negS, ih]; omega
    · simp [hk, negS, ih]
    · simp [hk, negS, ih]
theorem sumIt_there (d : List It) (k : Int) : sumIt (thereL d k) = posS k d := by
  unfold thereL
  induction d with
  | nil => rfl
  | cons x r ih =>
    by_cases hk : x.r.key = k <;> by_cases hn : x.n < 0
    · simp [hk, hn, posS, ih]; omega
    · simp [hk, hn, sumIt, posS, ih]; omega
    · simp [hk, posS, ih]
    · simp [hk, posS, ih]
theorem edKey_len {d : List It} (h : DOk d) (k : Int) : lenE (edKey d k) = max (negS k d) (posS k d) := by
  have p1 : PosL (missL d k) := sideL_pos h k false
  have p2 : PosL (thereL d k) := sideL_pos h k true
  unfold edKey turnL
  rw [turnF_len _ _ _ p1 p2 (by omega), sumIt_miss, sumIt_there]
theorem editsL_len {d : List It} (h : DOk d) : lenE (editsL d) = ((keysL d).map (fun k => max (negS k d) (posS k d))).sum := by
  unfold editsL
  generalize keysL d = ks
  induction ks with
  | nil => rfl
  | cons k r ih => rw [List.flatMap_cons, lenE_append, ih, edKey_len h, List.map_cons, List.sum_cons]

/-! ### none are shorter -/
/-- The key of an edit. -/
def keyE (x : Ed) : Int := if x.d = 1 then x.new.key else x.old.key
theorem edB_spec {x : Ed} (h : edB x = true) : 1 ≤ x.n ∧ x.n ≤ 1000000 ∧ (x.d = 1 ∨ x.d = 2 ∨ (x.d = 3 ∧ x.old.key = x.new.key)) := by
  unfold edB at h
  rw [Bool.and_eq_true] at h
  obtain ⟨h1, h2⟩ := h
  simp [withinB] at h1
  refine ⟨h1.1, h1.2, ?_⟩
  split at h2
  · left; assumption
  · split at h2
    · right; left; assumption
    · split at h2
      · right; right
        simp at h2
        exact ⟨by assumption, h2.2.2.2⟩
      · cases h2
def ofKey (k : Int) (l : List Ed) : Int := (l.map (fun x => if keyE x = k then x.n else 0)).sum
theorem posS_edIt {x : Ed} (h : edB x = true) (k : Int) : posS k (edIt x) ≤ (if keyE x = k then x.n else 0) ∧ negS k (edIt x) ≤ (if keyE x = k then x.n else 0) := by
  obtain ⟨h1, h2, h3⟩ := edB_spec h
  unfold edIt keyE
  rcases h3 with h3 | h3 | ⟨h3, h4⟩
  · simp only [h3, if_pos, List.nil_append]
    constructor
    · simp [posS]; split <;> omega
    · simp [negS]; split <;> omega
  · simp only [h3]
    constructor
    · simp [posS]; split <;> omega
    · simp [negS]; split <;> omega
  · simp only [h3]
    constructor
    · simp [posS, h4]; split <;> omega
    · simp [negS, h4]; split <;> omega
theorem posS_edIts {l : List Ed} (h : ∀ x ∈ l, edB x = true) (k : Int) : posS k (edIts l) ≤ ofKey k l ∧ negS k (edIts l) ≤ ofKey k l := by
  induction l with
  | nil => exact ⟨Int.le_refl _, Int.le_refl _⟩
  | cons x r ih =>
    obtain ⟨i1, i2⟩ := ih (fun y hy => h y (List.mem_cons_of_mem _ hy))
    obtain ⟨j1, j2⟩ := posS_edIt (h x List.mem_cons_self) k
    rw [edIts_cons, posS_append, negS_append]
    simp only [ofKey, List.map_cons, List.sum_cons] at i1 i2 ⊢
    exact ⟨by omega, by omega⟩
theorem ofKey_cons (k : Int) (x : Ed) (l : List Ed) : ofKey k (x :: l) = (if keyE x = k then x.n else 0) + ofKey k l := by simp [ofKey]
theorem sum_one (ks : List Int) (hn : ks.Nodup) (k n : Int) (h : 0 ≤ n) : (ks.map (fun q => if k = q then n else 0)).sum ≤ n := by
  induction ks with
  | nil => simpa using h
  | cons q r ih =>
    obtain ⟨h1, h2⟩ := List.nodup_cons.1 hn
    rw [List.map_cons, List.sum_cons]
    by_cases e : k = q
    · subst e
      have : (r.map (fun q => if k = q then n else 0)).sum = 0 := by
        clear ih hn h2
        induction r with
        | nil => rfl
        | cons z t ih =>
          simp only [List.mem_cons, not_or] at h1
          rw [List.map_cons, List.sum_cons, if_neg h1.1, ih h1.2]
          rfl
      rw [if_pos rfl, this]
      omega
    · rw [if_neg e]
      have := ih h2
      omega
theorem ofKeys_le {l : List Ed} (h : ∀ x ∈ l, edB x = true) (ks : List Int) (hn : ks.Nodup) : (ks.map (fun k => ofKey k l)).sum ≤ lenE l := by
  induction l with
  | nil =>
    have : (ks.map (fun k => ofKey k [])).sum = 0 := by
      clear hn
      induction ks with
      | nil => rfl
      | cons k r ih => rw [List.map_cons, List.sum_cons, ih]; rfl
    rw [this]
    exact Int.le_refl _
  | cons x r ih =>
    have h1 := ih (fun y hy => h y (List.mem_cons_of_mem _ hy))
    have h2 := (edB_spec (h x List.mem_cons_self)).1
    have h3 := sum_one ks hn (keyE x) x.n (by omega)
    have e : (ks.map (fun k => ofKey k (x :: r))).sum = (ks.map (fun q => if keyE x = q then x.n else 0)).sum + (ks.map (fun k => ofKey k r)).sum := by
      clear hn h1 h3 ih
      induction ks with
      | nil => rfl
      | cons k t ih => rw [List.map_cons, List.sum_cons, ih, ofKey_cons, List.map_cons, List.sum_cons, List.map_cons, List.sum_cons]; omega
    have e2 : lenE (x :: r) = x.n + lenE r := by simp [lenE]
    omega
theorem incrI_nodup {l : List Int} (h : IncrI l) : l.Nodup := List.Pairwise.imp (fun {a b} (hab : a < b) => by omega) h
theorem sum_le_sum (ks : List Int) (f g : Int → Int) (h : ∀ k, f k ≤ g k) : (ks.map f).sum ≤ (ks.map g).sum := by
  induction ks with
  | nil => exact Int.le_refl _
  | cons k r ih => rw [List.map_cons, List.sum_cons, List.map_cons, List.sum_cons]; have := h k; omega
theorem least {a : List It} {l : List Ed} (hl : ∀ x ∈ l, edB x = true) (hd : DOk (diffL a (canon (a ++ edIts l)))) : lenE (editsL (diffL a (canon (a ++ edIts l)))) ≤ lenE l := by
  have e : diffL a (canon (a ++ edIts l)) = canon (edIts l) := canon_eq fun k => by
    rw [sumN_append, (canon_is _).sums, sumN_append, sumN_neg]
    omega
  rw [editsL_len hd, e]
  refine Int.le_trans (sum_le_sum _ _ (fun k => ofKey k l) (fun k => ?_)) (ofKeys_le hl _ (incrI_nodup (keysL_incr _)))
  have h1 := posS_canon k (edIts l)
  have h2 := negS_canon k (edIts l)
  obtain ⟨h3, h4⟩ := posS_edIts hl k
  omega

/-! ### they lead there -/
theorem sumN_less (x : It) (r : List It) (k : Int) (z : Rc) : sumN (lessL (x :: r) k) z = sumN (x :: r) z - (if x.r = z then k else 0) := by
  simp only [lessL]
  split <;> simp only [sumN] <;> split <;> omega
theorem gone_sum (l : List It) (z : Rc) : sumN (edIts (l.map goneE)) z = - sumN l z := by
  induction l with
  | nil => rfl
  | cons x r ih =>
    rw [List.map_cons, edIts_cons, sumN_append, ih]
    simp only [edIt, goneE, sumN]
    simp [sumN]
    split <;> omega
theorem say_sum (l : List It) (z : Rc) : sumN (edIts (l.map sayE)) z = sumN l z := by
  induction l with
  | nil => rfl
  | cons x r ih =>
    rw [List.map_cons, edIts_cons, sumN_append, ih]
    simp only [edIt, sayE, sumN]
    simp [sumN]
theorem turnF_sum : ∀ (f : Nat) (l1 l2 : List It) (z : Rc), PosL l1 → PosL l2 → l1.length + l2.length < f → sumN (edIts (turnF f l1 l2)) z = sumN l2 z - sumN l1 z
  | 0, _, _, _, _, _, h => absurd h (by omega)
  | f + 1, [], l2, z, _, h2, _ => by rw [turnF, say_sum]; simp [sumN]
  | f + 1, x :: r, [], z, h1, _, _ => by rw [turnF, gone_sum]; simp [sumN]
  | f + 1, x :: r, y :: s, z, h1, h2, hf => by
    have hx := h1 x List.mem_cons_self
    have hy := h2 y List.mem_cons_self
    have hm : 0 < min x.n y.n := by omega
    have e1 := lessL_length x r (min x.n y.n)
    have e2 := lessL_length y s (min x.n y.n)
    have ho : x.n = min x.n y.n ∨ y.n = min x.n y.n := by omega
    simp only [List.length_cons] at hf
    have ih := turnF_sum f (lessL (x :: r) (min x.n y.n)) (lessL (y :: s) (min x.n y.n)) z (lessL_pos h1 hm (by omega)) (lessL_pos h2 hm (by omega)) (by
      split at e1 <;> split at e2 <;> omega)
    rw [sumN_less, sumN_less] at ih
    rw [turnF, edIts_cons, sumN_append, ih]
    have : sumN (edIt ⟨3, x.r, y.r, min x.n y.n⟩) z = (if y.r = z then min x.n y.n else 0) - (if x.r = z then min x.n y.n else 0) := by
      simp [edIt, sumN]
      split <;> split <;> omega
    rw [this]
    omega
theorem miss_sum (d : List It) (k : Int) (z : Rc) : sumN (missL d k) z = if z.key = k then - sumN (d.filter (fun x => decide (x.n < 0))) z else 0 := by
  unfold missL
  induction d with
  | nil => simp [sumN]
  | cons x r ih =>
    by_cases hk : x.r.key = k <;> by_cases hn : x.n < 0
    · simp only [List.filter_cons, hk, hn, decide_true, Bool.and_self, if_true, List.map_cons, sumN, ih, negIt]
      by_cases hz : x.r = z
      · subst hz; simp [hk]; omega
      · simp [hz]
    · simp [hk, hn, ih]
    · simp only [List.filter_cons, hk, hn, decide_false, decide_true, Bool.false_and, if_true, Bool.false_eq_true, if_false, sumN, ih]
      by_cases hz : x.r = z
      · subst hz; simp [hk]
      · simp [hz]
    · simp [hk, hn, ih]
theorem there_sum (d : List It) (k : Int) (z : Rc) : sumN (thereL d k) z = if z.key = k then sumN (d.filter (fun x => !decide (x.n < 0))) z else 0 := by
  unfold thereL
  induction d with
  | nil => simp [sumN]
  | cons x r ih =>
    by_cases hk : x.r.key = k <;> by_cases hn : x.n < 0
    · simp [hk, hn, ih]
    · simp only [List.filter_cons, hk, hn, decide_true, decide_false, Bool.not_false, Bool.and_self, if_true, sumN, ih]
      by_cases hz : x.r = z
      · subst hz; simp [hk]
      · simp [hz]
    · simp [hk, hn, ih]
    · simp only [List.filter_cons, hk, hn, decide_false, Bool.not_false, Bool.false_and, Bool.false_eq_true, if_false, if_true, sumN, ih]
      by_cases hz : x.r = z
      · subst hz; simp [hk]
      · simp [hz]
theorem edKey_sum {d : List It} (h : DOk d) (k : Int) (z : Rc) : sumN (edIts (edKey d k)) z = if z.key = k then sumN d z else 0 := by
  have p1 : PosL (missL d k) := sideL_pos h k false
  have p2 : PosL (thereL d k) := sideL_pos h k true
  unfold edKey turnL
  rw [turnF_sum _ _ _ _ p1 p2 (by omega), miss_sum, there_sum]
  have := sumN_filter_add (fun x => decide (x.n < 0)) d z
  split <;> omega
theorem edits_sum0 {d : List It} (h : DOk d) (z : Rc) : ∀ ks : List Int, ks.Nodup → sumN (edIts (ks.flatMap (edKey d))) z = if z.key ∈ ks then sumN d z else 0
  | [], _ => by simp [edIts, sumN]
  | k :: r, hn => by
    obtain ⟨h1, h2⟩ := List.nodup_cons.1 hn
    rw [List.flatMap_cons, edIts_append, sumN_append, edKey_sum h, edits_sum0 h z r h2]
    by_cases hk : z.key = k
    · subst hk
      simp [h1]
    · simp [hk]
theorem edits_sum {d : List It} (h : DOk d) (z : Rc) : sumN (edIts (editsL d)) z = sumN d z := by
  unfold editsL
  rw [edits_sum0 h z _ (incrI_nodup (keysL_incr d))]
  split
  · rfl
  · rename_i hc
    rw [sumN_none]
    intro hm
    obtain ⟨x, hx, e⟩ := List.mem_map.1 hm
    exact hc ((keysL_mem d z.key).2 (List.mem_map.2 ⟨x, hx, by rw [e]⟩))
theorem edits_lead {a b : List It} (ha : bagB a = true) (hb : bagB b = true) : canon (a ++ edIts (editsL (diffL a b))) = b := by
  have h := diff_ok ha hb
  refine (canon_eq (l' := b) fun k => ?_).trans (canon_id hb)
  rw [sumN_append, edits_sum h, diffL, (canon_is _).sums, sumN_append, sumN_neg]
  omega

/-! ### each of them is one -/
/-- Records that lie in one list lie not in the other one. -/
def Apart (l1 l2 : List It) : Prop := ∀ x ∈ l1, ∀ y ∈ l2, x.r ≠ y.r
theorem less_mem {x : It} {r : List It} {k : Int} {z : It} (h : z ∈ lessL (x :: r) k) : ∃ y ∈ x :: r, y.r = z.r := by
  simp only [lessL] at h
  split at h
  · exact ⟨z, List.mem_cons_of_mem _ h, rfl⟩
  · rcases List.mem_cons.1 h with rfl | h
    · exact ⟨x, List.mem_cons_self, rfl⟩
    · exact ⟨z, List.mem_cons_of_mem _ h, rfl⟩
/-- What is asked of the items of a side. -/
def SideOk (key : Int) (l : List It) : Prop := ∀ x ∈ l, recB x.r = true ∧ x.r.key = key
theorem less_side {x : It} {r : List It} {k key : Int} (h : SideOk key (x :: r)) : SideOk key (lessL (x :: r) k) := fun z hz => by
  obtain ⟨y, hy, e⟩ := less_mem hz
  rw [← e]
  exact h y hy
theorem less_apart {x y : It} {r s : List It} {j k : Int} (h : Apart (x :: r) (y :: s)) : Apart (lessL (x :: r) j) (lessL (y :: s) k) := fun u hu v hv => by
  obtain ⟨u', hu', e1⟩ := less_mem hu
  obtain ⟨v', hv', e2⟩ := less_mem hv
  rw [← e1, ← e2]
  exact h u' hu' v' hv'
/-- An edit as it must be, but for a number that is too great. -/
def edOk (x : Ed) : Prop := 1 ≤ x.n ∧ (x.n ≤ 1000000 → edB x = true)
theorem turnF_ok (key : Int) : ∀ (f : Nat) (l1 l2 : List It), PosL l1 → PosL l2 → SideOk key l1 → SideOk key l2 → Apart l1 l2 → ∀ e ∈ turnF f l1 l2, edOk e
  | 0, _, _, _, _, _, _, _, e, he => by cases he
  | f + 1, [], l2, _, h2, _, s2, _, e, he => by
    rw [turnF] at he
    obtain ⟨x, hx, rfl⟩ := List.mem_map.1 he
    have := h2 x hx
    have := s2 x hx
    refine ⟨by simp only [sayE]; omega, fun hm => ?_⟩
    simp only [sayE] at hm
    have e4 : withinB x.n 1 1000000 = true := by simp [withinB]; omega
    simp [edB, sayE, e4, this.1]
  | f + 1, x :: r, [], h1, _, s1, _, _, e, he => by
    rw [turnF] at he
    obtain ⟨y, hy, rfl⟩ := List.mem_map.1 he
    have := h1 y hy
    have := s1 y hy
    refine ⟨by simp only [goneE]; omega, fun hm => ?_⟩
    simp only [goneE] at hm
    have e4 : withinB y.n 1 1000000 = true := by simp [withinB]; omega
    simp [edB, goneE, e4, this.1]
  | f + 1, x :: r, y :: s, h1, h2, s1, s2, ap, e, he => by
    have hx := h1 x List.mem_cons_self
    have hy := h2 y List.mem_cons_self
    have hm : 0 < min x.n y.n := by omega
    rw [turnF] at he
    rcases List.mem_cons.1 he with rfl | he
    · have a1 := s1 x List.mem_cons_self
      have a2 := s2 y List.mem_cons_self
      have a3 := ap x List.mem_cons_self y List.mem_cons_self
      refine ⟨by simp only; omega, fun hm2 => ?_⟩
      simp only at hm2
      have e2 : decide (x.r = y.r) = false := by simpa using a3
      have e3 : x.r.key = y.r.key := by rw [a1.2, a2.2]
      have e4 : withinB (min x.n y.n) 1 1000000 = true := by simp [withinB]; omega
      simp [edB, a1.1, a2.1, e2, e3, e4]
    · exact turnF_ok key f _ _ (lessL_pos h1 hm (by omega)) (lessL_pos h2 hm (by omega)) (less_side s1) (less_side s2) (less_apart ap) e he
theorem editsL_ok {a b : List It} (ha : bagB a = true) (hb : bagB b = true) : ∀ e ∈ editsL (diffL a b), edOk e := by
  intro e he
  have h := diff_ok ha hb
  have hrec : ∀ x ∈ diffL a b, recB x.r = true := fun x hx => by
    obtain ⟨y, hy, e⟩ := List.mem_map.1 (canon_mem _ _ (List.mem_map.2 ⟨x, hx, rfl⟩))
    rw [← e]
    have : itB y = true := (List.mem_append.1 hy).elim (((bagB_spec _).1 (bagB_neg ha)).1 y) (((bagB_spec b).1 hb).1 y)
    unfold itB at this
    rw [Bool.and_eq_true] at this
    exact this.1
  obtain ⟨k, hk, he⟩ := List.mem_flatMap.1 he
  refine turnF_ok k _ _ _ (sideL_pos h k false) (sideL_pos h k true) (fun x hx => ?_) (fun x hx => ?_) (fun x hx y hy e => ?_) e he
  · obtain ⟨y, hy, rfl⟩ := List.mem_map.1 hx
    obtain ⟨hy, hc⟩ := List.mem_filter.1 hy
    simp at hc
    exact ⟨hrec y hy, hc.1⟩
  · obtain ⟨hy, hc⟩ := List.mem_filter.1 hx
    simp at hc
    exact ⟨hrec x hy, hc.1⟩
  · obtain ⟨z, hz, rfl⟩ := List.mem_map.1 hx
    obtain ⟨hz, hc⟩ := List.mem_filter.1 hz
    obtain ⟨hy, hd⟩ := List.mem_filter.1 hy
    have n1 := sumN_at (canon_is _).incr hz
    have n2 := sumN_at (canon_is _).incr hy
    simp only [negIt] at e
    rw [e] at n1
    simp at hc hd
    omega
theorem bigE_false {l : List Ed} (h : bigE l = false) : ∀ x ∈ l, x.n ≤ 1000000 := by
  unfold bigE at h
  rw [List.any_eq_false] at h
  intro x hx
  have := h x hx
  simp at this
  exact this
theorem editsR_ok {a b : List It} (h : (editsR a b).2 = 0) : bagB a = true ∧ bagB b = true ∧ bigE (editsL (diffL a b)) = false ∧ (editsR a b).1 = editsL (diffL a b) := by
  unfold editsR at *
  cases ha : bagB a <;> cases hb : bagB b <;> cases hc : bigE (editsL (diffL a b)) <;> simp_all
theorem do_edits {a b : List It} (h : (editsR a b).2 = 0) (hl : (editsR a b).1.length ≤ 600) : doR a (editsR a b).1 = (b, 0) := by
  obtain ⟨ha, hb, hg, e⟩ := editsR_ok h
  rw [e] at hl ⊢
  have hall : (editsL (diffL a b)).all edB = true := List.all_eq_true.2 fun x hx => (editsL_ok ha hb x hx).2 (bigE_false hg x hx)
  simp only [doR, ha, hl, hall, decide_true, bagOr, errOr, edits_lead ha hb, hb]
  rfl

/-! ### and back they are as long -/
def flipE (x : Ed) : Ed := ⟨if x.d = 1 then 2 else if x.d = 2 then 1 else x.d, x.new, x.old, x.n⟩
theorem turnF_flip : ∀ (f : Nat) (l1 l2 : List It), turnF f l2 l1 = (turnF f l1 l2).map flipE
  | 0, _, _ => rfl
  | f + 1, [], [] => rfl
  | f + 1, [], y :: s => by
    rw [turnF, turnF, List.map_map]
    exact List.map_congr_left fun x _ => rfl
  | f + 1, x :: r, [] => by
    rw [turnF, turnF, List.map_map]
    exact List.map_congr_left fun x _ => rfl
  | f + 1, x :: r, y :: s => by
    have e : min y.n x.n = min x.n y.n := by omega
    rw [turnF, turnF, List.map_cons, e, turnF_flip f]
    rfl
theorem miss_neg {d : List It} (h : ∀ x ∈ d, x.n ≠ 0) (k : Int) : missL (d.map negIt) k = thereL d k ∧ thereL (d.map negIt) k = missL d k := by
  unfold missL thereL
  induction d with
  | nil => exact ⟨rfl, rfl⟩
  | cons x r ih =>
    obtain ⟨i1, i2⟩ := ih (fun y hy => h y (List.mem_cons_of_mem _ hy))
    have h0 := h x List.mem_cons_self
    by_cases hk : x.r.key = k
    · by_cases hn : x.n < 0
      · have : ¬ 0 < x.n := by omega
        simp [negIt, hk, hn, this] at i1 i2 ⊢
        exact ⟨i1, i2⟩
      · have : 0 < x.n := by omega
        simp [negIt, hk, hn, this] at i1 i2 ⊢
        exact ⟨i1, i2⟩
    · simp [negIt, hk] at i1 i2 ⊢
      exact ⟨i1, i2⟩
theorem diff_back (a b : List It) : diffL b a = (diffL a b).map negIt := by
  have hi := canon_is (a.map negIt ++ b)
  refine (IsBag.eq ⟨?_, fun x hx => ?_, fun k => ?_⟩).symm
  · have e : ((diffL a b).map negIt).map (·.r) = (diffL a b).map (·.r) := by rw [List.map_map]; exact List.map_congr_left fun x _ => rfl
    rw [e]
    exact hi.incr
  · obtain ⟨y, hy, rfl⟩ := List.mem_map.1 hx
    have := hi.not0 y hy
    simp only [negIt]
    omega
  · rw [sumN_neg, diffL, hi.sums, sumN_append, sumN_append, sumN_neg, sumN_neg]
    omega
theorem keysL_neg (d : List It) : keysL (d.map negIt) = keysL d := by
  induction d with
  | nil => rfl
  | cons x r ih => rw [List.map_cons, keysL, keysL, ih]; rfl
theorem edits_back {a b : List It} : editsL (diffL b a) = (editsL (diffL a b)).map flipE := by
  rw [diff_back, editsL, editsL, keysL_neg, List.map_flatMap]
  congr 1
  funext k
  obtain ⟨m1, m2⟩ := miss_neg (fun x hx => (canon_is (a.map negIt ++ b)).not0 x hx) (d := diffL a b) k
  unfold edKey turnL
  rw [m1, m2, turnF_flip, Nat.add_comm (thereL (diffL a b) k).length]
theorem lenE_flip (l : List Ed) : lenE (l.map flipE) = lenE l := by
  unfold lenE
  rw [List.map_map]
  rfl
theorem bigE_flip (l : List Ed) : bigE (l.map flipE) = bigE l := by
  unfold bigE
  rw [List.any_map]
  rfl
theorem edits_back_ok {a b : List It} (h : (editsR a b).2 = 0) : (editsR b a).2 = 0 ∧ lenE (editsR b a).1 = lenE (editsR a b).1 := by
  obtain ⟨ha, hb, hg, e⟩ := editsR_ok h
  have e2 : editsR b a = ((editsL (diffL a b)).map flipE, 0) := by
    unfold editsR
    rw [edits_back, bigE_flip, hg, ha, hb]
    rfl
  rw [e2, e, lenE_flip]
  exact ⟨rfl, rfl⟩
theorem doR_ok {a : List It} {l : List Ed} (h : (doR a l).2 = 0) : bagB a = true ∧ l.length ≤ 600 ∧ (∀ x ∈ l, edB x = true) ∧ bagB (canon (a ++ edIts l)) = true ∧ (doR a l).1 = canon (a ++ edIts l) := by
  unfold doR bagOr errOr at *
  by_cases hl : l.length ≤ 600
  · cases ha : bagB a <;> cases hb : l.all edB <;> cases hc : bagB (canon (a ++ edIts l)) <;> simp_all
  · simp [hl] at h
theorem edits_least {a : List It} {l : List Ed} (h : (doR a l).2 = 0) : (editsR a (doR a l).1).2 = 3 ∨ ((editsR a (doR a l).1).2 = 0 ∧ lenE (editsR a (doR a l).1).1 ≤ lenE l) := by
  obtain ⟨ha, hl, hall, hc, e⟩ := doR_ok h
  rw [e]
  have hL := least hall (diff_ok ha hc)
  unfold editsR
  rw [ha, hc]
  cases hg : bigE (editsL (diffL a (canon (a ++ edIts l))))
  · exact .inr ⟨rfl, hL⟩
  · exact .inl rfl
end Go.Proofs.Bg
end

section
/- The contracts of isEdit, and of the reference's Edit. -/
namespace Go.Proofs.Bg
open Go.RowKit

theorem box8 {w1 : World} {g : Nat} {v0 v1 v2 v3 v4 v5 v6 v7 : Value} {T : TypeId} (h : w1.heap[g]? = some (.cells #[v0, v1, v2, v3, v4, v5, v6, v7] T)) :
    w1.cell? ⟨g, 0, none⟩ = some v0 ∧ w1.cell? ⟨g, 1, none⟩ = some v1 ∧ w1.cell? ⟨g, 2, none⟩ = some v2 ∧ w1.cell? ⟨g, 3, none⟩ = some v3 ∧ w1.cell? ⟨g, 4, none⟩ = some v4 ∧ w1.cell? ⟨g, 5, none⟩ = some v5 ∧ w1.cell? ⟨g, 6, none⟩ = some v6 ∧ w1.cell? ⟨g, 7, none⟩ = some v7 :=
  ⟨cell_at_block h rfl, cell_at_block h rfl, cell_at_block h rfl, cell_at_block h rfl, cell_at_block h rfl, cell_at_block h rfl, cell_at_block h rfl, cell_at_block h rfl⟩
theorem block_keep {w1 w2 : World} {g : Nat} {o : Obj} (h : w1.heap[g]? = some o) (hb : Below w1.heap.size w1 w2) : w2.heap[g]? = some o := (hb.block g (Array.getElem?_eq_some_iff.1 h).1).trans h

set_option maxRecDepth 100000 in
set_option maxHeartbeats 4000000 in
theorem isEdit_any (d a k v a' k' v' n : Int) (w : World) :
    Calls Tryd.prog 47 #[.agg #[.int .i64 d, .int .i64 a, .int .i64 k, .int .i64 v, .int .i64 a', .int .i64 k', .int .i64 v', .int .i64 n]] w fun e w' => e = .returned (.bool (edB ⟨d, ⟨a, k, v⟩, ⟨a', k', v'⟩, n⟩)) ∧ Below w.heap.size w w' := by
  have HR1 : Hid (∀ w, Calls Tryd.prog 62 #[.agg #[.int .i64 a, .int .i64 k, .int .i64 v]] w fun e w' => e = .returned (.bool (recB ⟨a, k, v⟩)) ∧ Below w.heap.size w w') := fun w => isRec_any ⟨a, k, v⟩ w
  have HR2 : Hid (∀ w, Calls Tryd.prog 62 #[.agg #[.int .i64 a', .int .i64 k', .int .i64 v']] w fun e w' => e = .returned (.bool (recB ⟨a', k', v'⟩)) ∧ Below w.heap.size w w') := fun w => isRec_any ⟨a', k', v'⟩ w
  cases hn : withinB n 1 1000000 with
  | false =>
    have HN := Lib.hid hn
    have EB : Hid (edB ⟨d, ⟨a, k, v⟩, ⟨a', k', v'⟩, n⟩ = false) := by show _ = _; simp [edB, hn]
    have HB := Lib.hid (below_new w (.cells #[.int .i64 d, .int .i64 a, .int .i64 k, .int .i64 v, .int .i64 a', .int .i64 k', .int .i64 v', .int .i64 n] 72))
    have HK := Lib.hid (new_block w #[.int .i64 d, .int .i64 a, .int .i64 k, .int .i64 v, .int .i64 a', .int .i64 k', .int .i64 v', .int .i64 n] 72)
    clear hn
    go_enter Tryd.func47, Tryd.ntmps47
    go_wp2_with ((go_at_call 61; (with_reducible refine (within_any _ _ _ _).mono ?_); rintro e w' ⟨rfl, rfl⟩; rw [HN.out]))
    go_ret
    rw [EB.out]
    exact ⟨rfl, HB.out⟩
  | true =>
    have HN := Lib.hid hn
    by_cases hd : d = 1
    · subst hd
      cases hr : recB ⟨a', k', v'⟩ with
      | false =>
        have H2 := Lib.hid hr
        have EB : Hid (edB ⟨1, ⟨a, k, v⟩, ⟨a', k', v'⟩, n⟩ = false) := by show _ = _; simp [edB, hn, hr]
        have HB := Lib.hid (below_new w (.cells #[.int .i64 1, .int .i64 a, .int .i64 k, .int .i64 v, .int .i64 a', .int .i64 k', .int .i64 v', .int .i64 n] 72))
        have HK := Lib.hid (new_block w #[.int .i64 1, .int .i64 a, .int .i64 k, .int .i64 v, .int .i64 a', .int .i64 k', .int .i64 v', .int .i64 n] 72)
        clear hn hr
        go_enter Tryd.func47, Tryd.ntmps47
        go_wp2_with (first | (go_at_call 61; (with_reducible refine (within_any _ _ _ _).mono ?_); rintro e w' ⟨rfl, rfl⟩; rw [HN.out]) | (go_at_call 62; (with_reducible refine (HR2.out _).mono ?_); rintro e w' ⟨rfl, hb⟩; rw [H2.out]; have hk' := block_keep HK.out hb; obtain ⟨c0, c1, c2, c3, c4, c5, c6, c7⟩ := box8 hk'; have HBa := Lib.hid (bchain HB.out hb); clear HK HB; have HK := Lib.hid hk'; have HB := Lib.hid HBa.out; clear hk' hb HBa))
        go_ret
        rw [EB.out]
        exact ⟨rfl, HB.out⟩
      | true =>
        have H2 := Lib.hid hr
        by_cases hz : a = 0
        · subst hz
          by_cases hz : k = 0
          · subst hz
            by_cases hz : v = 0
            · subst hz
              have EB : Hid (edB ⟨1, ⟨0, 0, 0⟩, ⟨a', k', v'⟩, n⟩ = true) := by show _ = _; simp [edB, hn, hr, zRc]
              have HB := Lib.hid (below_new w (.cells #[.int .i64 1, .int .i64 0, .int .i64 0, .int .i64 0, .int .i64 a', .int .i64 k', .int .i64 v', .int .i64 n] 72))
              have HK := Lib.hid (new_block w #[.int .i64 1, .int .i64 0, .int .i64 0, .int .i64 0, .int .i64 a', .int .i64 k', .int .i64 v', .int .i64 n] 72)
              clear hn hr
              go_enter Tryd.func47, Tryd.ntmps47
              go_wp2_with (first | (go_at_call 61; (with_reducible refine (within_any _ _ _ _).mono ?_); rintro e w' ⟨rfl, rfl⟩; rw [HN.out]) | (go_at_call 62; (with_reducible refine (HR2.out _).mono ?_); rintro e w' ⟨rfl, hb⟩; rw [H2.out]; have hk' := block_keep HK.out hb; obtain ⟨c0, c1, c2, c3, c4, c5, c6, c7⟩ := box8 hk'; have HBa := Lib.hid (bchain HB.out hb); clear HK HB; have HK := Lib.hid hk'; have HB := Lib.hid HBa.out; clear hk' hb HBa))
              go_ret
              rw [EB.out]
              exact ⟨rfl, HB.out⟩
            · have q : (v == 0) = false := by simpa using hz
              have q1 : (v != 0) = true := by simpa using hz
              have EB : Hid (edB ⟨1, ⟨0, 0, v⟩, ⟨a', k', v'⟩, n⟩ = false) := by show _ = _; simp [edB, hn, hr, zRc, hz]
              have HB := Lib.hid (below_new w (.cells #[.int .i64 1, .int .i64 0, .int .i64 0, .int .i64 v, .int .i64 a', .int .i64 k', .int .i64 v', .int .i64 n] 72))
              have HK := Lib.hid (new_block w #[.int .i64 1, .int .i64 0, .int .i64 0, .int .i64 v, .int .i64 a', .int .i64 k', .int .i64 v', .int .i64 n] 72)
              clear hn hz hr
              go_enter Tryd.func47, Tryd.ntmps47
              go_wp2_with (first | (go_at_call 61; (with_reducible refine (within_any _ _ _ _).mono ?_); rintro e w' ⟨rfl, rfl⟩; rw [HN.out]) | (go_at_call 62; (with_reducible refine (HR2.out _).mono ?_); rintro e w' ⟨rfl, hb⟩; rw [H2.out]; have hk' := block_keep HK.out hb; obtain ⟨c0, c1, c2, c3, c4, c5, c6, c7⟩ := box8 hk'; have HBa := Lib.hid (bchain HB.out hb); clear HK HB; have HK := Lib.hid hk'; have HB := Lib.hid HBa.out; clear hk' hb HBa))
              go_ret
              rw [EB.out]
              exact ⟨rfl, HB.out⟩
          · have q : (k == 0) = false := by simpa using hz
            have q1 : (k != 0) = true := by simpa using hz
            have EB : Hid (edB ⟨1, ⟨0, k, v⟩, ⟨a', k', v'⟩, n⟩ = false) := by show _ = _; simp [edB, hn, hr, zRc, hz]
            have HB := Lib.hid (below_new w (.cells #[.int .i64 1, .int .i64 0, .int .i64 k, .int .i64 v, .int .i64 a', .int .i64 k', .int .i64 v', .int .i64 n] 72))
            have HK := Lib.hid (new_block w #[.int .i64 1, .int .i64 0, .int .i64 k, .int .i64 v, .int .i64 a', .int .i64 k', .int .i64 v', .int .i64 n] 72)
            clear hn hz hr
            go_enter Tryd.func47, Tryd.ntmps47
            go_wp2_with (first | (go_at_call 61; (with_reducible refine (within_any _ _ _ _).mono ?_); rintro e w' ⟨rfl, rfl⟩; rw [HN.out]) | (go_at_call 62; (with_reducible refine (HR2.out _).mono ?_); rintro e w' ⟨rfl, hb⟩; rw [H2.out]; have hk' := block_keep HK.out hb; obtain ⟨c0, c1, c2, c3, c4, c5, c6, c7⟩ := box8 hk'; have HBa := Lib.hid (bchain HB.out hb); clear HK HB; have HK := Lib.hid hk'; have HB := Lib.hid HBa.out; clear hk' hb HBa))
            go_ret
            rw [EB.out]
            exact ⟨rfl, HB.out⟩
        · have q : (a == 0) = false := by simpa using hz
          have q1 : (a != 0) = true := by simpa using hz
          have EB : Hid (edB ⟨1, ⟨a, k, v⟩, ⟨a', k', v'⟩, n⟩ = false) := by show _ = _; simp [edB, hn, hr, zRc, hz]
          have HB := Lib.hid (below_new w (.cells #[.int .i64 1, .int .i64 a, .int .i64 k, .int .i64 v, .int .i64 a', .int .i64 k', .int .i64 v', .int .i64 n] 72))
          have HK := Lib.hid (new_block w #[.int .i64 1, .int .i64 a, .int .i64 k, .int .i64 v, .int .i64 a', .int .i64 k', .int .i64 v', .int .i64 n] 72)
          clear hn hz hr
          go_enter Tryd.func47, Tryd.ntmps47
          go_wp2_with (first | (go_at_call 61; (with_reducible refine (within_any _ _ _ _).mono ?_); rintro e w' ⟨rfl, rfl⟩; rw [HN.out]) | (go_at_call 62; (with_reducible refine (HR2.out _).mono ?_); rintro e w' ⟨rfl, hb⟩; rw [H2.out]; have hk' := block_keep HK.out hb; obtain ⟨c0, c1, c2, c3, c4, c5, c6, c7⟩ := box8 hk'; have HBa := Lib.hid (bchain HB.out hb); clear HK HB; have HK := Lib.hid hk'; have HB := Lib.hid HBa.out; clear hk' hb HBa))
          go_ret
          rw [EB.out]
          exact ⟨rfl, HB.out⟩
    · have q1 : (d == 1) = false := by simpa using hd
      by_cases hd2 : d = 2
      · subst hd2
        clear q1 hd
        cases hr : recB ⟨a, k, v⟩ with
        | false =>
          have H1 := Lib.hid hr
          have EB : Hid (edB ⟨2, ⟨a, k, v⟩, ⟨a', k', v'⟩, n⟩ = false) := by show _ = _; simp [edB, hn, hr]
          have HB := Lib.hid (below_new w (.cells #[.int .i64 2, .int .i64 a, .int .i64 k, .int .i64 v, .int .i64 a', .int .i64 k', .int .i64 v', .int .i64 n] 72))
          have HK := Lib.hid (new_block w #[.int .i64 2, .int .i64 a, .int .i64 k, .int .i64 v, .int .i64 a', .int .i64 k', .int .i64 v', .int .i64 n] 72)
          clear hn hr
          go_enter Tryd.func47, Tryd.ntmps47
          go_wp2_with (first | (go_at_call 61; (with_reducible refine (within_any _ _ _ _).mono ?_); rintro e w' ⟨rfl, rfl⟩; rw [HN.out]) | (go_at_call 62; (with_reducible refine (HR1.out _).mono ?_); rintro e w' ⟨rfl, hb⟩; rw [H1.out]; have hk' := block_keep HK.out hb; obtain ⟨c0, c1, c2, c3, c4, c5, c6, c7⟩ := box8 hk'; have HBa := Lib.hid (bchain HB.out hb); clear HK HB; have HK := Lib.hid hk'; have HB := Lib.hid HBa.out; clear hk' hb HBa))
          go_ret
          rw [EB.out]
          exact ⟨rfl, HB.out⟩
        | true =>
          have H1 := Lib.hid hr
          by_cases hz : a' = 0
          · subst hz
            by_cases hz : k' = 0
            · subst hz
              by_cases hz : v' = 0
              · subst hz
                have EB : Hid (edB ⟨2, ⟨a, k, v⟩, ⟨0, 0, 0⟩, n⟩ = true) := by show _ = _; simp [edB, hn, hr, zRc]
                have HB := Lib.hid (below_new w (.cells #[.int .i64 2, .int .i64 a, .int .i64 k, .int .i64 v, .int .i64 0, .int .i64 0, .int .i64 0, .int .i64 n] 72))
                have HK := Lib.hid (new_block w #[.int .i64 2, .int .i64 a, .int .i64 k, .int .i64 v, .int .i64 0, .int .i64 0, .int .i64 0, .int .i64 n] 72)
                clear hn hr
                go_enter Tryd.func47, Tryd.ntmps47
                go_wp2_with (first | (go_at_call 61; (with_reducible refine (within_any _ _ _ _).mono ?_); rintro e w' ⟨rfl, rfl⟩; rw [HN.out]) | (go_at_call 62; (with_reducible refine (HR1.out _).mono ?_); rintro e w' ⟨rfl, hb⟩; rw [H1.out]; have hk' := block_keep HK.out hb; obtain ⟨c0, c1, c2, c3, c4, c5, c6, c7⟩ := box8 hk'; have HBa := Lib.hid (bchain HB.out hb); clear HK HB; have HK := Lib.hid hk'; have HB := Lib.hid HBa.out; clear hk' hb HBa))
                go_ret
                rw [EB.out]
                exact ⟨rfl, HB.out⟩
              · have q : (v' == 0) = false := by simpa using hz
                have q1 : (v' != 0) = true := by simpa using hz
                have EB : Hid (edB ⟨2, ⟨a, k, v⟩, ⟨0, 0, v'⟩, n⟩ = false) := by show _ = _; simp [edB, hn, hr, zRc, hz]
                have HB := Lib.hid (below_new w (.cells #[.int .i64 2, .int .i64 a, .int .i64 k, .int .i64 v, .int .i64 0, .int .i64 0, .int .i64 v', .int .i64 n] 72))
                have HK := Lib.hid (new_block w #[.int .i64 2, .int .i64 a, .int .i64 k, .int .i64 v, .int .i64 0, .int .i64 0, .int .i64 v', .int .i64 n] 72)
                clear hn hz hr
                go_enter Tryd.func47, Tryd.ntmps47
                go_wp2_with (first | (go_at_call 61; (with_reducible refine (within_any _ _ _ _).mono ?_); rintro e w' ⟨rfl, rfl⟩; rw [HN.out]) | (go_at_call 62; (with_reducible refine (HR1.out _).mono ?_); rintro e w' ⟨rfl, hb⟩; rw [H1.out]; have hk' := block_keep HK.out hb; obtain ⟨c0, c1, c2, c3, c4, c5, c6, c7⟩ := box8 hk'; have HBa := Lib.hid (bchain HB.out hb); clear HK HB; have HK := Lib.hid hk'; have HB := Lib.hid HBa.out; clear hk' hb HBa))
                go_ret
                rw [EB.out]
                exact ⟨rfl, HB.out⟩
            · have q : (k' == 0) = false := by simpa using hz
              have q1 : (k' != 0) = true := by simpa using hz
              have EB : Hid (edB ⟨2, ⟨a, k, v⟩, ⟨0, k', v'⟩, n⟩ = false) := by show _ = _; simp [edB, hn, hr, zRc, hz]
              have HB := Lib.hid (below_new w (.cells #[.int .i64 2, .int .i64 a, .int .i64 k, .int .i64 v, .int .i64 0, .int .i64 k', .int .i64 v', .int .i64 n] 72))
              have HK := Lib.hid (new_block w #[.int .i64 2, .int .i64 a, .int .i64 k, .int .i64 v, .int .i64 0, .int .i64 k', .int .i64 v', .int .i64 n] 72)
              clear hn hz hr
              go_enter Tryd.func47, Tryd.ntmps47
              go_wp2_with (first | (go_at_call 61; (with_reducible refine (within_any _ _ _ _).mono ?_); rintro e w' ⟨rfl, rfl⟩; rw [HN.out]) | (go_at_call 62; (with_reducible refine (HR1.out _).mono ?_); rintro e w' ⟨rfl, hb⟩; rw [H1.out]; have hk' := block_keep HK.out hb; obtain ⟨c0, c1, c2, c3, c4, c5, c6, c7⟩ := box8 hk'; have HBa := Lib.hid (bchain HB.out hb); clear HK HB; have HK := Lib.hid hk'; have HB := Lib.hid HBa.out; clear hk' hb HBa))
              go_ret
              rw [EB.out]
              exact ⟨rfl, HB.out⟩
          · have q : (a' == 0) = false := by simpa using hz
            have q1 : (a' != 0) = true := by simpa using hz
            have EB : Hid (edB ⟨2, ⟨a, k, v⟩, ⟨a', k', v'⟩, n⟩ = false) := by show _ = _; simp [edB, hn, hr, zRc, hz]
            have HB := Lib.hid (below_new w (.cells #[.int .i64 2, .int .i64 a, .int .i64 k, .int .i64 v, .int .i64 a', .int .i64 k', .int .i64 v', .int .i64 n] 72))
            have HK := Lib.hid (new_block w #[.int .i64 2, .int .i64 a, .int .i64 k, .int .i64 v, .int .i64 a', .int .i64 k', .int .i64 v', .int .i64 n] 72)
            clear hn hz hr
            go_enter Tryd.func47, Tryd.ntmps47
            go_wp2_with (first | (go_at_call 61; (with_reducible refine (within_any _ _ _ _).mono ?_); rintro e w' ⟨rfl, rfl⟩; rw [HN.out]) | (go_at_call 62; (with_reducible refine (HR1.out _).mono ?_); rintro e w' ⟨rfl, hb⟩; rw [H1.out]; have hk' := block_keep HK.out hb; obtain ⟨c0, c1, c2, c3, c4, c5, c6, c7⟩ := box8 hk'; have HBa := Lib.hid (bchain HB.out hb); clear HK HB; have HK := Lib.hid hk'; have HB := Lib.hid HBa.out; clear hk' hb HBa))
            go_ret
            rw [EB.out]
            exact ⟨rfl, HB.out⟩
      · have q2 : (d == 2) = false := by simpa using hd2
        by_cases hd3 : d = 3
        · subst hd3
          clear q1 q2 hd hd2
          cases hr1 : recB ⟨a, k, v⟩ with
          | false =>
            have H1 := Lib.hid hr1
            have EB : Hid (edB ⟨3, ⟨a, k, v⟩, ⟨a', k', v'⟩, n⟩ = false) := by show _ = _; simp [edB, hn, hr1]
            have HB := Lib.hid (below_new w (.cells #[.int .i64 3, .int .i64 a, .int .i64 k, .int .i64 v, .int .i64 a', .int .i64 k', .int .i64 v', .int .i64 n] 72))
            have HK := Lib.hid (new_block w #[.int .i64 3, .int .i64 a, .int .i64 k, .int .i64 v, .int .i64 a', .int .i64 k', .int .i64 v', .int .i64 n] 72)
            clear hn hr1
            go_enter Tryd.func47, Tryd.ntmps47
            go_wp2_with (first | (go_at_call 61; (with_reducible refine (within_any _ _ _ _).mono ?_); rintro e w' ⟨rfl, rfl⟩; rw [HN.out]) | (go_at_call 62; (with_reducible refine (HR1.out _).mono ?_); rintro e w' ⟨rfl, hb⟩; rw [H1.out]; have hk' := block_keep HK.out hb; obtain ⟨c0, c1, c2, c3, c4, c5, c6, c7⟩ := box8 hk'; have HBa := Lib.hid (bchain HB.out hb); clear HK HB; have HK := Lib.hid hk'; have HB := Lib.hid HBa.out; clear hk' hb HBa))
            go_ret
            rw [EB.out]
            exact ⟨rfl, HB.out⟩
          | true =>
            have H1 := Lib.hid hr1
            cases hr2 : recB ⟨a', k', v'⟩ with
            | false =>
              have H2 := Lib.hid hr2
              have EB : Hid (edB ⟨3, ⟨a, k, v⟩, ⟨a', k', v'⟩, n⟩ = false) := by show _ = _; simp [edB, hn, hr1, hr2]
              have HB := Lib.hid (below_new w (.cells #[.int .i64 3, .int .i64 a, .int .i64 k, .int .i64 v, .int .i64 a', .int .i64 k', .int .i64 v', .int .i64 n] 72))
              have HK := Lib.hid (new_block w #[.int .i64 3, .int .i64 a, .int .i64 k, .int .i64 v, .int .i64 a', .int .i64 k', .int .i64 v', .int .i64 n] 72)
              clear hn hr1 hr2
              go_enter Tryd.func47, Tryd.ntmps47
              go_wp2_with (first | (go_at_call 61; (with_reducible refine (within_any _ _ _ _).mono ?_); rintro e w' ⟨rfl, rfl⟩; rw [HN.out]) | (go_at_call 62; (with_reducible refine (HR1.out _).mono ?_); rintro e w' ⟨rfl, hb⟩; rw [H1.out]; have hk' := block_keep HK.out hb; obtain ⟨c0, c1, c2, c3, c4, c5, c6, c7⟩ := box8 hk'; have HBa := Lib.hid (bchain HB.out hb); clear HK HB; have HK := Lib.hid hk'; have HB := Lib.hid HBa.out; clear hk' hb HBa) | (go_at_call 62; (with_reducible refine (HR2.out _).mono ?_); rintro e w' ⟨rfl, hb⟩; rw [H2.out]; have hk' := block_keep HK.out hb; obtain ⟨c0, c1, c2, c3, c4, c5, c6, c7⟩ := box8 hk'; have HBa := Lib.hid (bchain HB.out hb); clear HK HB; have HK := Lib.hid hk'; have HB := Lib.hid HBa.out; clear hk' hb HBa))
              go_ret
              rw [EB.out]
              exact ⟨rfl, HB.out⟩
            | true =>
              have H2 := Lib.hid hr2
              by_cases ha : a = a'
              · subst ha
                by_cases hk : k = k'
                · subst hk
                  by_cases hv : v = v'
                  · subst hv
                    clear HR2 H2
                    have EB : Hid (edB ⟨3, ⟨a, k, v⟩, ⟨a, k, v⟩, n⟩ = false) := by show _ = _; simp [edB, hn]
                    have HB := Lib.hid (below_new w (.cells #[.int .i64 3, .int .i64 a, .int .i64 k, .int .i64 v, .int .i64 a, .int .i64 k, .int .i64 v, .int .i64 n] 72))
                    have HK := Lib.hid (new_block w #[.int .i64 3, .int .i64 a, .int .i64 k, .int .i64 v, .int .i64 a, .int .i64 k, .int .i64 v, .int .i64 n] 72)
                    clear hn hr1 hr2
                    go_enter Tryd.func47, Tryd.ntmps47
                    go_wp2_with (first | (go_at_call 61; (with_reducible refine (within_any _ _ _ _).mono ?_); rintro e w' ⟨rfl, rfl⟩; rw [HN.out]) | (go_at_call 62; (with_reducible refine (HR1.out _).mono ?_); rintro e w' ⟨rfl, hb⟩; rw [H1.out]; have hk' := block_keep HK.out hb; obtain ⟨c0, c1, c2, c3, c4, c5, c6, c7⟩ := box8 hk'; have HBa := Lib.hid (bchain HB.out hb); clear HK HB; have HK := Lib.hid hk'; have HB := Lib.hid HBa.out; clear hk' hb HBa))
                    go_ret
                    rw [EB.out]
                    exact ⟨rfl, HB.out⟩
                  · have q3 : (v == v') = false := by simpa using hv
                    have q4 : (v != v') = true := by simpa using hv
                    have EB : Hid (edB ⟨3, ⟨a, k, v⟩, ⟨a, k, v'⟩, n⟩ = true) := by show _ = _; simp [edB, hn, hr1, hr2, hv]
                    have HB := Lib.hid (below_new w (.cells #[.int .i64 3, .int .i64 a, .int .i64 k, .int .i64 v, .int .i64 a, .int .i64 k, .int .i64 v', .int .i64 n] 72))
                    have HK := Lib.hid (new_block w #[.int .i64 3, .int .i64 a, .int .i64 k, .int .i64 v, .int .i64 a, .int .i64 k, .int .i64 v', .int .i64 n] 72)
                    clear hn hr1 hr2 hv
                    go_enter Tryd.func47, Tryd.ntmps47
                    go_wp2_with (first | (go_at_call 61; (with_reducible refine (within_any _ _ _ _).mono ?_); rintro e w' ⟨rfl, rfl⟩; rw [HN.out]) | (go_at_call 62; (with_reducible refine (HR1.out _).mono ?_); rintro e w' ⟨rfl, hb⟩; rw [H1.out]; have hk' := block_keep HK.out hb; obtain ⟨c0, c1, c2, c3, c4, c5, c6, c7⟩ := box8 hk'; have HBa := Lib.hid (bchain HB.out hb); clear HK HB; have HK := Lib.hid hk'; have HB := Lib.hid HBa.out; clear hk' hb HBa) | (go_at_call 62; (with_reducible refine (HR2.out _).mono ?_); rintro e w' ⟨rfl, hb⟩; rw [H2.out]; have hk' := block_keep HK.out hb; obtain ⟨c0, c1, c2, c3, c4, c5, c6, c7⟩ := box8 hk'; have HBa := Lib.hid (bchain HB.out hb); clear HK HB; have HK := Lib.hid hk'; have HB := Lib.hid HBa.out; clear hk' hb HBa))
                    go_ret
                    rw [EB.out]
                    exact ⟨rfl, HB.out⟩
                · have q3 : (k == k') = false := by simpa using hk
                  have q4 : (k != k') = true := by simpa using hk
                  have EB : Hid (edB ⟨3, ⟨a, k, v⟩, ⟨a, k', v'⟩, n⟩ = false) := by show _ = _; simp [edB, hn, hr1, hr2, hk]
                  have HB := Lib.hid (below_new w (.cells #[.int .i64 3, .int .i64 a, .int .i64 k, .int .i64 v, .int .i64 a, .int .i64 k', .int .i64 v', .int .i64 n] 72))
                  have HK := Lib.hid (new_block w #[.int .i64 3, .int .i64 a, .int .i64 k, .int .i64 v, .int .i64 a, .int .i64 k', .int .i64 v', .int .i64 n] 72)
                  clear hn hr1 hr2 hk
                  go_enter Tryd.func47, Tryd.ntmps47
                  go_wp2_with (first | (go_at_call 61; (with_reducible refine (within_any _ _ _ _).mono ?_); rintro e w' ⟨rfl, rfl⟩; rw [HN.out]) | (go_at_call 62; (with_reducible refine (HR1.out _).mono ?_); rintro e w' ⟨rfl, hb⟩; rw [H1.out]; have hk' := block_keep HK.out hb; obtain ⟨c0, c1, c2, c3, c4, c5, c6, c7⟩ := box8 hk'; have HBa := Lib.hid (bchain HB.out hb); clear HK HB; have HK := Lib.hid hk'; have HB := Lib.hid HBa.out; clear hk' hb HBa) | (go_at_call 62; (with_reducible refine (HR2.out _).mono ?_); rintro e w' ⟨rfl, hb⟩; rw [H2.out]; have hk' := block_keep HK.out hb; obtain ⟨c0, c1, c2, c3, c4, c5, c6, c7⟩ := box8 hk'; have HBa := Lib.hid (bchain HB.out hb); clear HK HB; have HK := Lib.hid hk'; have HB := Lib.hid HBa.out; clear hk' hb HBa))
                  go_ret
                  rw [EB.out]
                  exact ⟨rfl, HB.out⟩
              · have q3 : (a == a') = false := by simpa using ha
                have q4 : (a != a') = true := by simpa using ha
                by_cases hk : k = k'
                · subst hk
                  have EB : Hid (edB ⟨3, ⟨a, k, v⟩, ⟨a', k, v'⟩, n⟩ = true) := by show _ = _; simp [edB, hn, hr1, hr2, ha]
                  have HB := Lib.hid (below_new w (.cells #[.int .i64 3, .int .i64 a, .int .i64 k, .int .i64 v, .int .i64 a', .int .i64 k, .int .i64 v', .int .i64 n] 72))
                  have HK := Lib.hid (new_block w #[.int .i64 3, .int .i64 a, .int .i64 k, .int .i64 v, .int .i64 a', .int .i64 k, .int .i64 v', .int .i64 n] 72)
                  clear hn hr1 hr2 ha
                  go_enter Tryd.func47, Tryd.ntmps47
                  go_wp2_with (first | (go_at_call 61; (with_reducible refine (within_any _ _ _ _).mono ?_); rintro e w' ⟨rfl, rfl⟩; rw [HN.out]) | (go_at_call 62; (with_reducible refine (HR1.out _).mono ?_); rintro e w' ⟨rfl, hb⟩; rw [H1.out]; have hk' := block_keep HK.out hb; obtain ⟨c0, c1, c2, c3, c4, c5, c6, c7⟩ := box8 hk'; have HBa := Lib.hid (bchain HB.out hb); clear HK HB; have HK := Lib.hid hk'; have HB := Lib.hid HBa.out; clear hk' hb HBa) | (go_at_call 62; (with_reducible refine (HR2.out _).mono ?_); rintro e w' ⟨rfl, hb⟩; rw [H2.out]; have hk' := block_keep HK.out hb; obtain ⟨c0, c1, c2, c3, c4, c5, c6, c7⟩ := box8 hk'; have HBa := Lib.hid (bchain HB.out hb); clear HK HB; have HK := Lib.hid hk'; have HB := Lib.hid HBa.out; clear hk' hb HBa))
                  go_ret
                  rw [EB.out]
                  exact ⟨rfl, HB.out⟩
                · have q5 : (k == k') = false := by simpa using hk
                  have q6 : (k != k') = true := by simpa using hk
                  have EB : Hid (edB ⟨3, ⟨a, k, v⟩, ⟨a', k', v'⟩, n⟩ = false) := by show _ = _; simp [edB, hn, hr1, hr2, hk]
                  have HB := Lib.hid (below_new w (.cells #[.int .i64 3, .int .i64 a, .int .i64 k, .int .i64 v, .int .i64 a', .int .i64 k', .int .i64 v', .int .i64 n] 72))
                  have HK := Lib.hid (new_block w #[.int .i64 3, .int .i64 a, .int .i64 k, .int .i64 v, .int .i64 a', .int .i64 k', .int .i64 v', .int .i64 n] 72)
                  clear hn hr1 hr2 ha hk
                  go_enter Tryd.func47, Tryd.ntmps47
                  go_wp2_with (first | (go_at_call 61; (with_reducible refine (within_any _ _ _ _).mono ?_); rintro e w' ⟨rfl, rfl⟩; rw [HN.out]) | (go_at_call 62; (with_reducible refine (HR1.out _).mono ?_); rintro e w' ⟨rfl, hb⟩; rw [H1.out]; have hk' := block_keep HK.out hb; obtain ⟨c0, c1, c2, c3, c4, c5, c6, c7⟩ := box8 hk'; have HBa := Lib.hid (bchain HB.out hb); clear HK HB; have HK := Lib.hid hk'; have HB := Lib.hid HBa.out; clear hk' hb HBa) | (go_at_call 62; (with_reducible refine (HR2.out _).mono ?_); rintro e w' ⟨rfl, hb⟩; rw [H2.out]; have hk' := block_keep HK.out hb; obtain ⟨c0, c1, c2, c3, c4, c5, c6, c7⟩ := box8 hk'; have HBa := Lib.hid (bchain HB.out hb); clear HK HB; have HK := Lib.hid hk'; have HB := Lib.hid HBa.out; clear hk' hb HBa))
                  go_ret
                  rw [EB.out]
                  exact ⟨rfl, HB.out⟩
        · have q3 : (d == 3) = false := by simpa using hd3
          have EB : Hid (edB ⟨d, ⟨a, k, v⟩, ⟨a', k', v'⟩, n⟩ = false) := by show _ = _; simp [edB, hd, hd2, hd3]
          have HB := Lib.hid (below_new w (.cells #[.int .i64 d, .int .i64 a, .int .i64 k, .int .i64 v, .int .i64 a', .int .i64 k', .int .i64 v', .int .i64 n] 72))
          have HK := Lib.hid (new_block w #[.int .i64 d, .int .i64 a, .int .i64 k, .int .i64 v, .int .i64 a', .int .i64 k', .int .i64 v', .int .i64 n] 72)
          clear hn hd hd2 hd3
          go_enter Tryd.func47, Tryd.ntmps47
          go_wp2_with ((go_at_call 61; (with_reducible refine (within_any _ _ _ _).mono ?_); rintro e w' ⟨rfl, rfl⟩; rw [HN.out]))
          go_ret
          rw [EB.out]
          exact ⟨rfl, HB.out⟩

end Go.Proofs.Bg
end
