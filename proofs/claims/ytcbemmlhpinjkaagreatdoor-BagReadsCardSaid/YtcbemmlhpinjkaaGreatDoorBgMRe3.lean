/- Texts of our own, merged: BgGood BgBytesR BgReadP. -/
import Derived.Deep.RegionWith
import Derived.BigQuiet
import Derived.Test.YtcbemmlhpinjkaaGreatDoorWLast
import Derived.Test.YtcbemmlhpinjkaaGreatDoorBgMRe2

section
/- The reference: Good, long. -/
namespace Go.Proofs.Bg
open Go.RowKit Go.Proofs.YtcbemmlhpinjkaaGreatDoorW.PrintLast

set_option maxRecDepth 100000 in
set_option maxHeartbeats 8000000 in
theorem Good_any (A : Option Addr) (n cap : Nat) (l : List It) (w : World) (hR : Rd It.vs 4 w 0 A n l) :
    Calls Tryz.prog 44 #[.slice A n cap] w fun e w' => e = .returned (.bool (bagB l)) ∧ Below w.heap.size w w' := by
  have hn := hR.le
  have HR := Lib.hid hR
  clear hR
  go_enter Tryz.func44, Tryz.ntmps44
  go_wp2_with fail
  go_loopw [3, 4, 7] (fun _ _ i wr => ∃ k : Nat, k ≤ n ∧ i = .int .i64 k ∧ BagRel l w k wr) (fun _ _ i _ => n - (intOf i).toNat)
  case atStart => exact ⟨0, by omega, rfl, rfl, Below.refl _ _⟩
  case round =>
    obtain ⟨k, hk, rfl, hto, hB⟩ := hrel
    have hRk := HR.out.below hB
    have HB := Lib.hid hB
    have HT := Lib.hid hto
    clear hB hto
    by_cases hlt : k < n
    · obtain ⟨b, off, x, rfl, _, hx, c0, c1, c2, c3⟩ := hRk.it_at hlt
      have HX := Lib.hid hx
      have hx0 := new_block wr #[.int .i64 x.r.at_, .int .i64 x.r.key, .int .i64 x.r.val, .int .i64 x.n] 40
      have f0 := cell_at_block (off := 0) hx0 rfl
      have f1 := cell_at_block (off := 1) hx0 rfl
      have f2 := cell_at_block (off := 2) hx0 rfl
      have f3 := cell_at_block (off := 3) hx0 rfl
      clear hx hx0
      cases hr : recB x.r with
      | false =>
        have HRC := Lib.hid hr
        clear hr hRk
        go_wp2_with fail
        refine start_ (n := 35) (S := fun w' => w'.cell? ⟨wr.heap.size, 0, none⟩ = some (.int .i64 x.r.at_) ∧ w'.cell? ⟨wr.heap.size, 1, none⟩ = some (.int .i64 x.r.key) ∧ w'.cell? ⟨wr.heap.size, 2, none⟩ = some (.int .i64 x.r.val) ∧ w'.cell? ⟨wr.heap.size, 3, none⟩ = some (.int .i64 x.n)) (ds := []) #[false, false, false, false, false, false, false, false, false, false, false, false, false, false, false, false, false, false, false, false, false, false, false, false, false, false, false, false, false, false, false, false, false, false, false] (by kernel_rfl) rfl rfl ⟨f0, f1, f2, f3⟩ (fun hHeld => ?_)
        refine pure_ (i := 0) (N := some 12) (v := ?_) (a' := ?_) #[true, false, false, false, false, false, false, false, false, false, false, false, false, false, false, false, false, false, false, false, false, false, false, false, false, false, false, false, false, false, false, false, false, false, false] rfl rfl (by kernel_rfl) (fun _ _ _ h => h) (Or.inl ⟨by rfl, ?_⟩) ?_ ?_
        rotate_left
        · intro w'
          go_simp
          with_reducible rfl
        rotate_left
        · simp only [Act.put, List.setIfInBounds_toArray, List.set_cons_zero, List.set_cons_succ]
          rfl
        refine take_ (i := 1) (N := some 13) (v := ?_) (a' := ?_) #[true, true, false, false, false, false, false, false, false, false, false, false, false, false, false, false, false, false, false, false, false, false, false, false, false, false, false, false, false, false, false, false, false, false, false] rfl rfl (by kernel_rfl) (fun _ _ _ h => h) (Or.inl ⟨by rfl, ?_⟩) hHeld ?_ ?_
        rotate_left
        · rintro w' ⟨s0, s1, s2, s3⟩
          go_simp
          with_reducible rfl
        rotate_left
        · simp only [Act.put, List.setIfInBounds_toArray, List.set_cons_zero, List.set_cons_succ]
          rfl
        refine one_ (i := 2) (N := some 14) #[true, true, true, false, false, false, false, false, false, false, false, false, false, false, false, false, false, false, false, false, false, false, false, false, false, false, false, false, false, false, false, false, false, false, false] rfl rfl (by kernel_rfl) (by decide) (fun K hK => ?_)
        refine goes_ Tryz.func69 (by kernel_rfl) rfl #[.agg #[.int .i64 x.r.at_, .int .i64 x.r.key, .int .i64 x.r.val]] (by rfl) rfl rfl (by (try simp only [List.map_toArray, List.map_cons, List.map_nil]); first | done | rfl) ?_
        with_reducible refine (Rec_any x.r _).mono ?_
        rintro e w1 ⟨rfl, hb1⟩
        rw [HRC.out]
        refine ⟨_, rfl, ?_⟩
        have HB1 := Lib.hid hb1.drew_left
        obtain ⟨f0, f1, f2, f3⟩ := box4 HB1.out
        refine hK.out _ _ ⟨f0, f1, f2, f3⟩ (fun hHeld => ?_)
        clear hK K hb1
        refine norm_ (a' := ?_) ?_ ?_
        rotate_left
        · show Act.put _ (some 14) _ = _
          simp only [Act.put, List.setIfInBounds_toArray, List.set_cons_zero, List.set_cons_succ]
          rfl
        refine pure_ (i := 3) (N := some 15) (v := ?_) (a' := ?_) #[true, true, true, true, false, false, false, false, false, false, false, false, false, false, false, false, false, false, false, false, false, false, false, false, false, false, false, false, false, false, false, false, false, false, false] rfl rfl (by kernel_rfl) (fun _ _ _ h => h) (Or.inl ⟨by rfl, ?_⟩) ?_ ?_
        rotate_left
        · intro w'
          go_simp
          with_reducible rfl
        rotate_left
        · simp only [Act.put, List.setIfInBounds_toArray, List.set_cons_zero, List.set_cons_succ]
          rfl
        refine pure_ (i := 4) (N := some 16) (v := ?_) (a' := ?_) #[true, true, true, true, true, false, false, false, false, false, false, false, false, false, false, false, false, false, false, false, false, false, false, false, false, false, false, false, false, false, false, false, false, false, false] rfl rfl (by kernel_rfl) (fun _ _ _ h => h) (Or.inl ⟨by rfl, ?_⟩) ?_ ?_
        rotate_left
        · intro w'
          go_simp
          with_reducible rfl
        rotate_left
        · simp only [Act.put, List.setIfInBounds_toArray, List.set_cons_zero, List.set_cons_succ]
          rfl
        refine pure_ (i := 5) (N := some 17) (v := undef) (a' := ?_) #[true, true, true, true, true, true, false, false, false, false, false, false, false, false, false, false, false, false, false, false, false, false, false, false, false, false, false, false, false, false, false, false, false, false, false] rfl rfl (by kernel_rfl) (fun _ _ _ h => h) (Or.inr ⟨by rfl, rfl⟩) ?_ ?_
        rotate_left
        · simp only [Act.put, List.setIfInBounds_toArray, List.set_cons_zero, List.set_cons_succ]
          rfl
        refine pure_ (i := 6) (N := some 18) (v := undef) (a' := ?_) #[true, true, true, true, true, true, true, false, false, false, false, false, false, false, false, false, false, false, false, false, false, false, false, false, false, false, false, false, false, false, false, false, false, false, false] rfl rfl (by kernel_rfl) (fun _ _ _ h => h) (Or.inr ⟨by rfl, rfl⟩) ?_ ?_
        rotate_left
        · simp only [Act.put, List.setIfInBounds_toArray, List.set_cons_zero, List.set_cons_succ]
          rfl
        refine pure_ (i := 7) (N := some 19) (v := undef) (a' := ?_) #[true, true, true, true, true, true, true, true, false, false, false, false, false, false, false, false, false, false, false, false, false, false, false, false, false, false, false, false, false, false, false, false, false, false, false] rfl rfl (by kernel_rfl) (fun _ _ _ h => h) (Or.inr ⟨by rfl, rfl⟩) ?_ ?_
        rotate_left
        · simp only [Act.put, List.setIfInBounds_toArray, List.set_cons_zero, List.set_cons_succ]
          rfl
        refine pure_ (i := 8) (N := some 20) (v := ?_) (a' := ?_) #[true, true, true, true, true, true, true, true, true, false, false, false, false, false, false, false, false, false, false, false, false, false, false, false, false, false, false, false, false, false, false, false, false, false, false] rfl rfl (by kernel_rfl) (fun _ _ _ h => h) (Or.inl ⟨by rfl, ?_⟩) ?_ ?_
        rotate_left
        · intro w'
          go_simp
          with_reducible rfl
        rotate_left
        · simp only [Act.put, List.setIfInBounds_toArray, List.set_cons_zero, List.set_cons_succ]
          rfl
        refine pure_ (i := 9) (N := some 21) (v := ?_) (a' := ?_) #[true, true, true, true, true, true, true, true, true, true, false, false, false, false, false, false, false, false, false, false, false, false, false, false, false, false, false, false, false, false, false, false, false, false, false] rfl rfl (by kernel_rfl) (fun _ _ _ h => h) (Or.inl ⟨by rfl, ?_⟩) ?_ ?_
        rotate_left
        · intro w'
          go_simp
          with_reducible rfl
        rotate_left
        · simp only [Act.put, List.setIfInBounds_toArray, List.set_cons_zero, List.set_cons_succ]
          rfl
        refine pure_ (i := 10) (N := some 22) (v := undef) (a' := ?_) #[true, true, true, true, true, true, true, true, true, true, true, false, false, false, false, false, false, false, false, false, false, false, false, false, false, false, false, false, false, false, false, false, false, false, false] rfl rfl (by kernel_rfl) (fun _ _ _ h => h) (Or.inr ⟨by rfl, rfl⟩) ?_ ?_
        rotate_left
        · simp only [Act.put, List.setIfInBounds_toArray, List.set_cons_zero, List.set_cons_succ]
          rfl
        refine pure_ (i := 11) (N := some 23) (v := undef) (a' := ?_) #[true, true, true, true, true, true, true, true, true, true, true, true, false, false, false, false, false, false, false, false, false, false, false, false, false, false, false, false, false, false, false, false, false, false, false] rfl rfl (by kernel_rfl) (fun _ _ _ h => h) (Or.inr ⟨by rfl, rfl⟩) ?_ ?_
        rotate_left
        · simp only [Act.put, List.setIfInBounds_toArray, List.set_cons_zero, List.set_cons_succ]
          rfl
        refine pure_ (i := 12) (N := some 24) (v := undef) (a' := ?_) #[true, true, true, true, true, true, true, true, true, true, true, true, true, false, false, false, false, false, false, false, false, false, false, false, false, false, false, false, false, false, false, false, false, false, false] rfl rfl (by kernel_rfl) (fun _ _ _ h => h) (Or.inr ⟨by rfl, rfl⟩) ?_ ?_
        rotate_left
        · simp only [Act.put, List.setIfInBounds_toArray, List.set_cons_zero, List.set_cons_succ]
          rfl
        refine pure_ (i := 13) (N := some 25) (v := ?_) (a' := ?_) #[true, true, true, true, true, true, true, true, true, true, true, true, true, true, false, false, false, false, false, false, false, false, false, false, false, false, false, false, false, false, false, false, false, false, false] rfl rfl (by kernel_rfl) (fun _ _ _ h => h) (Or.inl ⟨by rfl, ?_⟩) ?_ ?_
        rotate_left
        · intro w'
          go_simp
          with_reducible rfl
        rotate_left
        · simp only [Act.put, List.setIfInBounds_toArray, List.set_cons_zero, List.set_cons_succ]
          rfl
        refine pure_ (i := 14) (N := some 26) (v := ?_) (a' := ?_) #[true, true, true, true, true, true, true, true, true, true, true, true, true, true, true, false, false, false, false, false, false, false, false, false, false, false, false, false, false, false, false, false, false, false, false] rfl rfl (by kernel_rfl) (fun _ _ _ h => h) (Or.inl ⟨by rfl, ?_⟩) ?_ ?_
        rotate_left
        · intro w'
          go_simp
          with_reducible rfl
        rotate_left
        · simp only [Act.put, List.setIfInBounds_toArray, List.set_cons_zero, List.set_cons_succ]
          rfl
        refine pure_ (i := 15) (N := some 27) (v := undef) (a' := ?_) #[true, true, true, true, true, true, true, true, true, true, true, true, true, true, true, true, false, false, false, false, false, false, false, false, false, false, false, false, false, false, false, false, false, false, false] rfl rfl (by kernel_rfl) (fun _ _ _ h => h) (Or.inr ⟨by rfl, rfl⟩) ?_ ?_
        rotate_left
        · simp only [Act.put, List.setIfInBounds_toArray, List.set_cons_zero, List.set_cons_succ]
          rfl
        refine pure_ (i := 16) (N := some 28) (v := undef) (a' := ?_) #[true, true, true, true, true, true, true, true, true, true, true, true, true, true, true, true, true, false, false, false, false, false, false, false, false, false, false, false, false, false, false, false, false, false, false] rfl rfl (by kernel_rfl) (fun _ _ _ h => h) (Or.inr ⟨by rfl, rfl⟩) ?_ ?_
        rotate_left
        · simp only [Act.put, List.setIfInBounds_toArray, List.set_cons_zero, List.set_cons_succ]
          rfl
        refine pure_ (i := 17) (N := some 29) (v := undef) (a' := ?_) #[true, true, true, true, true, true, true, true, true, true, true, true, true, true, true, true, true, true, false, false, false, false, false, false, false, false, false, false, false, false, false, false, false, false, false] rfl rfl (by kernel_rfl) (fun _ _ _ h => h) (Or.inr ⟨by rfl, rfl⟩) ?_ ?_
        rotate_left
        · simp only [Act.put, List.setIfInBounds_toArray, List.set_cons_zero, List.set_cons_succ]
          rfl
        refine pure_ (i := 18) (N := some 30) (v := ?_) (a' := ?_) #[true, true, true, true, true, true, true, true, true, true, true, true, true, true, true, true, true, true, true, false, false, false, false, false, false, false, false, false, false, false, false, false, false, false, false] rfl rfl (by kernel_rfl) (fun _ _ _ h => h) (Or.inl ⟨by rfl, ?_⟩) ?_ ?_
        rotate_left
        · intro w'
          go_simp
          with_reducible rfl
        rotate_left
        · simp only [Act.put, List.setIfInBounds_toArray, List.set_cons_zero, List.set_cons_succ]
          rfl
        refine pure_ (i := 19) (N := some 31) (v := ?_) (a' := ?_) #[true, true, true, true, true, true, true, true, true, true, true, true, true, true, true, true, true, true, true, true, false, false, false, false, false, false, false, false, false, false, false, false, false, false, false] rfl rfl (by kernel_rfl) (fun _ _ _ h => h) (Or.inl ⟨by rfl, ?_⟩) ?_ ?_
        rotate_left
        · intro w'
          go_simp
          with_reducible rfl
        rotate_left
        · simp only [Act.put, List.setIfInBounds_toArray, List.set_cons_zero, List.set_cons_succ]
          rfl
        refine pure_ (i := 20) (N := some 32) (v := undef) (a' := ?_) #[true, true, true, true, true, true, true, true, true, true, true, true, true, true, true, true, true, true, true, true, true, false, false, false, false, false, false, false, false, false, false, false, false, false, false] rfl rfl (by kernel_rfl) (fun _ _ _ h => h) (Or.inr ⟨by rfl, rfl⟩) ?_ ?_
        rotate_left
        · simp only [Act.put, List.setIfInBounds_toArray, List.set_cons_zero, List.set_cons_succ]
          rfl
        refine pure_ (i := 21) (N := some 33) (v := undef) (a' := ?_) #[true, true, true, true, true, true, true, true, true, true, true, true, true, true, true, true, true, true, true, true, true, true, false, false, false, false, false, false, false, false, false, false, false, false, false] rfl rfl (by kernel_rfl) (fun _ _ _ h => h) (Or.inr ⟨by rfl, rfl⟩) ?_ ?_
        rotate_left
        · simp only [Act.put, List.setIfInBounds_toArray, List.set_cons_zero, List.set_cons_succ]
          rfl
        refine pure_ (i := 22) (N := some 34) (v := undef) (a' := ?_) #[true, true, true, true, true, true, true, true, true, true, true, true, true, true, true, true, true, true, true, true, true, true, true, false, false, false, false, false, false, false, false, false, false, false, false] rfl rfl (by kernel_rfl) (fun _ _ _ h => h) (Or.inr ⟨by rfl, rfl⟩) ?_ ?_
        rotate_left
        · simp only [Act.put, List.setIfInBounds_toArray, List.set_cons_zero, List.set_cons_succ]
          rfl
        refine pure_ (i := 23) (N := some 35) (v := undef) (a' := ?_) #[true, true, true, true, true, true, true, true, true, true, true, true, true, true, true, true, true, true, true, true, true, true, true, true, false, false, false, false, false, false, false, false, false, false, false] rfl rfl (by kernel_rfl) (fun _ _ _ h => h) (Or.inr ⟨by rfl, rfl⟩) ?_ ?_
        rotate_left
        · simp only [Act.put, List.setIfInBounds_toArray, List.set_cons_zero, List.set_cons_succ]
          rfl
        refine pure_ (i := 24) (N := some 36) (v := undef) (a' := ?_) #[true, true, true, true, true, true, true, true, true, true, true, true, true, true, true, true, true, true, true, true, true, true, true, true, true, false, false, false, false, false, false, false, false, false, false] rfl rfl (by kernel_rfl) (fun _ _ _ h => h) (Or.inr ⟨by rfl, rfl⟩) ?_ ?_
        rotate_left
        · simp only [Act.put, List.setIfInBounds_toArray, List.set_cons_zero, List.set_cons_succ]
          rfl
        refine pure_ (i := 25) (N := some 37) (v := undef) (a' := ?_) #[true, true, true, true, true, true, true, true, true, true, true, true, true, true, true, true, true, true, true, true, true, true, true, true, true, true, false, false, false, false, false, false, false, false, false] rfl rfl (by kernel_rfl) (fun _ _ _ h => h) (Or.inr ⟨by rfl, rfl⟩) ?_ ?_
        rotate_left
        · simp only [Act.put, List.setIfInBounds_toArray, List.set_cons_zero, List.set_cons_succ]
          rfl
        refine pure_ (i := 26) (N := some 38) (v := undef) (a' := ?_) #[true, true, true, true, true, true, true, true, true, true, true, true, true, true, true, true, true, true, true, true, true, true, true, true, true, true, true, false, false, false, false, false, false, false, false] rfl rfl (by kernel_rfl) (fun _ _ _ h => h) (Or.inr ⟨by rfl, rfl⟩) ?_ ?_
        rotate_left
        · simp only [Act.put, List.setIfInBounds_toArray, List.set_cons_zero, List.set_cons_succ]
          rfl
        refine pure_ (i := 27) (N := some 39) (v := undef) (a' := ?_) #[true, true, true, true, true, true, true, true, true, true, true, true, true, true, true, true, true, true, true, true, true, true, true, true, true, true, true, true, false, false, false, false, false, false, false] rfl rfl (by kernel_rfl) (fun _ _ _ h => h) (Or.inr ⟨by rfl, rfl⟩) ?_ ?_
        rotate_left
        · simp only [Act.put, List.setIfInBounds_toArray, List.set_cons_zero, List.set_cons_succ]
          rfl
        refine pure_ (i := 28) (N := some 40) (v := undef) (a' := ?_) #[true, true, true, true, true, true, true, true, true, true, true, true, true, true, true, true, true, true, true, true, true, true, true, true, true, true, true, true, true, false, false, false, false, false, false] rfl rfl (by kernel_rfl) (fun _ _ _ h => h) (Or.inr ⟨by rfl, rfl⟩) ?_ ?_
        rotate_left
        · simp only [Act.put, List.setIfInBounds_toArray, List.set_cons_zero, List.set_cons_succ]
          rfl
        refine pure_ (i := 29) (N := some 41) (v := undef) (a' := ?_) #[true, true, true, true, true, true, true, true, true, true, true, true, true, true, true, true, true, true, true, true, true, true, true, true, true, true, true, true, true, true, false, false, false, false, false] rfl rfl (by kernel_rfl) (fun _ _ _ h => h) (Or.inr ⟨by rfl, rfl⟩) ?_ ?_
        rotate_left
        · simp only [Act.put, List.setIfInBounds_toArray, List.set_cons_zero, List.set_cons_succ]
          rfl
        refine pure_ (i := 30) (N := some 42) (v := undef) (a' := ?_) #[true, true, true, true, true, true, true, true, true, true, true, true, true, true, true, true, true, true, true, true, true, true, true, true, true, true, true, true, true, true, true, false, false, false, false] rfl rfl (by kernel_rfl) (fun _ _ _ h => h) (Or.inr ⟨by rfl, rfl⟩) ?_ ?_
        rotate_left
        · simp only [Act.put, List.setIfInBounds_toArray, List.set_cons_zero, List.set_cons_succ]
          rfl
        refine pure_ (i := 31) (N := some 43) (v := undef) (a' := ?_) #[true, true, true, true, true, true, true, true, true, true, true, true, true, true, true, true, true, true, true, true, true, true, true, true, true, true, true, true, true, true, true, true, false, false, false] rfl rfl (by kernel_rfl) (fun _ _ _ h => h) (Or.inr ⟨by rfl, rfl⟩) ?_ ?_
        rotate_left
        · simp only [Act.put, List.setIfInBounds_toArray, List.set_cons_zero, List.set_cons_succ]
          rfl
        refine pure_ (i := 32) (N := some 44) (v := undef) (a' := ?_) #[true, true, true, true, true, true, true, true, true, true, true, true, true, true, true, true, true, true, true, true, true, true, true, true, true, true, true, true, true, true, true, true, true, false, false] rfl rfl (by kernel_rfl) (fun _ _ _ h => h) (Or.inr ⟨by rfl, rfl⟩) ?_ ?_
        rotate_left
        · simp only [Act.put, List.setIfInBounds_toArray, List.set_cons_zero, List.set_cons_succ]
          rfl
        refine pure_ (i := 33) (N := some 45) (v := undef) (a' := ?_) #[true, true, true, true, true, true, true, true, true, true, true, true, true, true, true, true, true, true, true, true, true, true, true, true, true, true, true, true, true, true, true, true, true, true, false] rfl rfl (by kernel_rfl) (fun _ _ _ h => h) (Or.inr ⟨by rfl, rfl⟩) ?_ ?_
        rotate_left
        · simp only [Act.put, List.setIfInBounds_toArray, List.set_cons_zero, List.set_cons_succ]
          rfl
        refine pure_ (i := 34) (N := some 46) (v := ?_) (a' := ?_) #[true, true, true, true, true, true, true, true, true, true, true, true, true, true, true, true, true, true, true, true, true, true, true, true, true, true, true, true, true, true, true, true, true, true, true] rfl rfl (by kernel_rfl) (fun _ _ _ h => h) (Or.inl ⟨by rfl, ?_⟩) ?_ ?_
        rotate_left
        · intro w'
          go_simp
          with_reducible rfl
        rotate_left
        · simp only [Act.put, List.setIfInBounds_toArray, List.set_cons_zero, List.set_cons_succ]
          rfl
        refine done_ (by kernel_rfl) ?_
        go_wp2_with fail
        go_ret
        refine ⟨ret_bool ?_, below_box HB.out HB.out.size HB1.out⟩
        have : stepB l k = false := by simp [stepB, HX.out, itB, HRC.out]
        rw [bagB_false this HR.out.len hlt]
      | true =>
        have HRC := Lib.hid hr
        clear hr
        cases hz : (x.n == 0) with
        | true =>
          clear hRk
          go_wp2_with fail
          refine start_ (n := 35) (S := fun w' => w'.cell? ⟨wr.heap.size, 0, none⟩ = some (.int .i64 x.r.at_) ∧ w'.cell? ⟨wr.heap.size, 1, none⟩ = some (.int .i64 x.r.key) ∧ w'.cell? ⟨wr.heap.size, 2, none⟩ = some (.int .i64 x.r.val) ∧ w'.cell? ⟨wr.heap.size, 3, none⟩ = some (.int .i64 x.n)) (ds := []) #[false, false, false, false, false, false, false, false, false, false, false, false, false, false, false, false, false, false, false, false, false, false, false, false, false, false, false, false, false, false, false, false, false, false, false] (by kernel_rfl) rfl rfl ⟨f0, f1, f2, f3⟩ (fun hHeld => ?_)
          refine pure_ (i := 0) (N := some 12) (v := ?_) (a' := ?_) #[true, false, false, false, false, false, false, false, false, false, false, false, false, false, false, false, false, false, false, false, false, false, false, false, false, false, false, false, false, false, false, false, false, false, false] rfl rfl (by kernel_rfl) (fun _ _ _ h => h) (Or.inl ⟨by rfl, ?_⟩) ?_ ?_
          rotate_left
          · intro w'
            go_simp
            with_reducible rfl
          rotate_left
          · simp only [Act.put, List.setIfInBounds_toArray, List.set_cons_zero, List.set_cons_succ]
            rfl
          refine take_ (i := 1) (N := some 13) (v := ?_) (a' := ?_) #[true, true, false, false, false, false, false, false, false, false, false, false, false, false, false, false, false, false, false, false, false, false, false, false, false, false, false, false, false, false, false, false, false, false, false] rfl rfl (by kernel_rfl) (fun _ _ _ h => h) (Or.inl ⟨by rfl, ?_⟩) hHeld ?_ ?_
          rotate_left
          · rintro w' ⟨s0, s1, s2, s3⟩
            go_simp
            with_reducible rfl
          rotate_left
          · simp only [Act.put, List.setIfInBounds_toArray, List.set_cons_zero, List.set_cons_succ]
            rfl
          refine one_ (i := 2) (N := some 14) #[true, true, true, false, false, false, false, false, false, false, false, false, false, false, false, false, false, false, false, false, false, false, false, false, false, false, false, false, false, false, false, false, false, false, false] rfl rfl (by kernel_rfl) (by decide) (fun K hK => ?_)
          refine goes_ Tryz.func69 (by kernel_rfl) rfl #[.agg #[.int .i64 x.r.at_, .int .i64 x.r.key, .int .i64 x.r.val]] (by rfl) rfl rfl (by (try simp only [List.map_toArray, List.map_cons, List.map_nil]); first | done | rfl) ?_
          with_reducible refine (Rec_any x.r _).mono ?_
          rintro e w1 ⟨rfl, hb1⟩
          rw [HRC.out]
          refine ⟨_, rfl, ?_⟩
          have HB1 := Lib.hid hb1.drew_left
          obtain ⟨f0, f1, f2, f3⟩ := box4 HB1.out
          refine hK.out _ _ ⟨f0, f1, f2, f3⟩ (fun hHeld => ?_)
          clear hK K hb1
          refine norm_ (a' := ?_) ?_ ?_
          rotate_left
          · show Act.put _ (some 14) _ = _
            simp only [Act.put, List.setIfInBounds_toArray, List.set_cons_zero, List.set_cons_succ]
            rfl
          refine pure_ (i := 3) (N := some 15) (v := ?_) (a' := ?_) #[true, true, true, true, false, false, false, false, false, false, false, false, false, false, false, false, false, false, false, false, false, false, false, false, false, false, false, false, false, false, false, false, false, false, false] rfl rfl (by kernel_rfl) (fun _ _ _ h => h) (Or.inl ⟨by rfl, ?_⟩) ?_ ?_
          rotate_left
          · intro w'
            go_simp
            with_reducible rfl
          rotate_left
          · simp only [Act.put, List.setIfInBounds_toArray, List.set_cons_zero, List.set_cons_succ]
            rfl
          refine pure_ (i := 4) (N := some 16) (v := ?_) (a' := ?_) #[true, true, true, true, true, false, false, false, false, false, false, false, false, false, false, false, false, false, false, false, false, false, false, false, false, false, false, false, false, false, false, false, false, false, false] rfl rfl (by kernel_rfl) (fun _ _ _ h => h) (Or.inl ⟨by rfl, ?_⟩) ?_ ?_
          rotate_left
          · intro w'
            go_simp
            with_reducible rfl
          rotate_left
          · simp only [Act.put, List.setIfInBounds_toArray, List.set_cons_zero, List.set_cons_succ]
            rfl
          refine pure_ (i := 5) (N := some 17) (v := ?_) (a' := ?_) #[true, true, true, true, true, true, false, false, false, false, false, false, false, false, false, false, false, false, false, false, false, false, false, false, false, false, false, false, false, false, false, false, false, false, false] rfl rfl (by kernel_rfl) (fun _ _ _ h => h) (Or.inl ⟨by rfl, ?_⟩) ?_ ?_
          rotate_left
          · intro w'
            go_simp
            with_reducible rfl
          rotate_left
          · simp only [Act.put, List.setIfInBounds_toArray, List.set_cons_zero, List.set_cons_succ]
            rfl
          refine take_ (i := 6) (N := some 18) (v := ?_) (a' := ?_) #[true, true, true, true, true, true, true, false, false, false, false, false, false, false, false, false, false, false, false, false, false, false, false, false, false, false, false, false, false, false, false, false, false, false, false] rfl rfl (by kernel_rfl) (fun _ _ _ h => h) (Or.inl ⟨by rfl, ?_⟩) hHeld ?_ ?_
          rotate_left
          · rintro w' ⟨s0, s1, s2, s3⟩
            go_simp
            with_reducible rfl
          rotate_left
          · simp only [Act.put, List.setIfInBounds_toArray, List.set_cons_zero, List.set_cons_succ]
            rfl
          refine pure_ (i := 7) (N := some 19) (v := ?_) (a' := ?_) #[true, true, true, true, true, true, true, true, false, false, false, false, false, false, false, false, false, false, false, false, false, false, false, false, false, false, false, false, false, false, false, false, false, false, false] rfl rfl (by kernel_rfl) (fun _ _ _ h => h) (Or.inl ⟨by rfl, ?_⟩) ?_ ?_
          rotate_left
          · intro w'
            go_simp
            with_reducible rfl
          rotate_left
          · simp only [Act.put, List.setIfInBounds_toArray, List.set_cons_zero, List.set_cons_succ]
            rfl
          refine pure_ (i := 8) (N := some 20) (v := ?_) (a' := ?_) #[true, true, true, true, true, true, true, true, true, false, false, false, false, false, false, false, false, false, false, false, false, false, false, false, false, false, false, false, false, false, false, false, false, false, false] rfl rfl (by kernel_rfl) (fun _ _ _ h => h) (Or.inl ⟨by rfl, ?_⟩) ?_ ?_
          rotate_left
          · intro w'
            go_simp
            with_reducible rfl
          rotate_left
          · simp only [Act.put, List.setIfInBounds_toArray, List.set_cons_zero, List.set_cons_succ]
            rfl
          refine pure_ (i := 9) (N := some 21) (v := ?_) (a' := ?_) #[true, true, true, true, true, true, true, true, true, true, false, false, false, false, false, false, false, false, false, false, false, false, false, false, false, false, false, false, false, false, false, false, false, false, false] rfl rfl (by kernel_rfl) (fun _ _ _ h => h) (Or.inl ⟨by rfl, ?_⟩) ?_ ?_
          rotate_left
          · intro w'
            go_simp
            with_reducible rfl
          rotate_left
          · simp only [Act.put, List.setIfInBounds_toArray, List.set_cons_zero, List.set_cons_succ]
            rfl
          refine pure_ (i := 10) (N := some 22) (v := undef) (a' := ?_) #[true, true, true, true, true, true, true, true, true, true, true, false, false, false, false, false, false, false, false, false, false, false, false, false, false, false, false, false, false, false, false, false, false, false, false] rfl rfl (by kernel_rfl) (fun _ _ _ h => h) (Or.inr ⟨by rfl, rfl⟩) ?_ ?_
          rotate_left
          · simp only [Act.put, List.setIfInBounds_toArray, List.set_cons_zero, List.set_cons_succ]
            rfl
          refine pure_ (i := 11) (N := some 23) (v := undef) (a' := ?_) #[true, true, true, true, true, true, true, true, true, true, true, true, false, false, false, false, false, false, false, false, false, false, false, false, false, false, false, false, false, false, false, false, false, false, false] rfl rfl (by kernel_rfl) (fun _ _ _ h => h) (Or.inr ⟨by rfl, rfl⟩) ?_ ?_
          rotate_left
          · simp only [Act.put, List.setIfInBounds_toArray, List.set_cons_zero, List.set_cons_succ]
            rfl
          refine pure_ (i := 12) (N := some 24) (v := undef) (a' := ?_) #[true, true, true, true, true, true, true, true, true, true, true, true, true, false, false, false, false, false, false, false, false, false, false, false, false, false, false, false, false, false, false, false, false, false, false] rfl rfl (by kernel_rfl) (fun _ _ _ h => h) (Or.inr ⟨by rfl, rfl⟩) ?_ ?_
          rotate_left
          · simp only [Act.put, List.setIfInBounds_toArray, List.set_cons_zero, List.set_cons_succ]
            rfl
          refine pure_ (i := 13) (N := some 25) (v := ?_) (a' := ?_) #[true, true, true, true, true, true, true, true, true, true, true, true, true, true, false, false, false, false, false, false, false, false, false, false, false, false, false, false, false, false, false, false, false, false, false] rfl rfl (by kernel_rfl) (fun _ _ _ h => h) (Or.inl ⟨by rfl, ?_⟩) ?_ ?_
          rotate_left
          · intro w'
            go_simp
            with_reducible rfl
          rotate_left
          · simp only [Act.put, List.setIfInBounds_toArray, List.set_cons_zero, List.set_cons_succ]
            rfl
          refine pure_ (i := 14) (N := some 26) (v := ?_) (a' := ?_) #[true, true, true, true, true, true, true, true, true, true, true, true, true, true, true, false, false, false, false, false, false, false, false, false, false, false, false, false, false, false, false, false, false, false, false] rfl rfl (by kernel_rfl) (fun _ _ _ h => h) (Or.inl ⟨by rfl, ?_⟩) ?_ ?_
          rotate_left
          · intro w'
            go_simp
            with_reducible rfl
          rotate_left
          · simp only [Act.put, List.setIfInBounds_toArray, List.set_cons_zero, List.set_cons_succ]
            rfl
          refine pure_ (i := 15) (N := some 27) (v := undef) (a' := ?_) #[true, true, true, true, true, true, true, true, true, true, true, true, true, true, true, true, false, false, false, false, false, false, false, false, false, false, false, false, false, false, false, false, false, false, false] rfl rfl (by kernel_rfl) (fun _ _ _ h => h) (Or.inr ⟨by rfl, rfl⟩) ?_ ?_
          rotate_left
          · simp only [Act.put, List.setIfInBounds_toArray, List.set_cons_zero, List.set_cons_succ]
            rfl
          refine pure_ (i := 16) (N := some 28) (v := undef) (a' := ?_) #[true, true, true, true, true, true, true, true, true, true, true, true, true, true, true, true, true, false, false, false, false, false, false, false, false, false, false, false, false, false, false, false, false, false, false] rfl rfl (by kernel_rfl) (fun _ _ _ h => h) (Or.inr ⟨by rfl, rfl⟩) ?_ ?_
          rotate_left
          · simp only [Act.put, List.setIfInBounds_toArray, List.set_cons_zero, List.set_cons_succ]
            rfl
          refine pure_ (i := 17) (N := some 29) (v := undef) (a' := ?_) #[true, true, true, true, true, true, true, true, true, true, true, true, true, true, true, true, true, true, false, false, false, false, false, false, false, false, false, false, false, false, false, false, false, false, false] rfl rfl (by kernel_rfl) (fun _ _ _ h => h) (Or.inr ⟨by rfl, rfl⟩) ?_ ?_
          rotate_left
          · simp only [Act.put, List.setIfInBounds_toArray, List.set_cons_zero, List.set_cons_succ]
            rfl
          refine pure_ (i := 18) (N := some 30) (v := ?_) (a' := ?_) #[true, true, true, true, true, true, true, true, true, true, true, true, true, true, true, true, true, true, true, false, false, false, false, false, false, false, false, false, false, false, false, false, false, false, false] rfl rfl (by kernel_rfl) (fun _ _ _ h => h) (Or.inl ⟨by rfl, ?_⟩) ?_ ?_
          rotate_left
          · intro w'
            go_simp
            with_reducible rfl
          rotate_left
          · simp only [Act.put, List.setIfInBounds_toArray, List.set_cons_zero, List.set_cons_succ]
            rfl
          refine pure_ (i := 19) (N := some 31) (v := ?_) (a' := ?_) #[true, true, true, true, true, true, true, true, true, true, true, true, true, true, true, true, true, true, true, true, false, false, false, false, false, false, false, false, false, false, false, false, false, false, false] rfl rfl (by kernel_rfl) (fun _ _ _ h => h) (Or.inl ⟨by rfl, ?_⟩) ?_ ?_
          rotate_left
          · intro w'
            go_simp
            with_reducible rfl
          rotate_left
          · simp only [Act.put, List.setIfInBounds_toArray, List.set_cons_zero, List.set_cons_succ]
            rfl
          refine pure_ (i := 20) (N := some 32) (v := undef) (a' := ?_) #[true, true, true, true, true, true, true, true, true, true, true, true, true, true, true, true, true, true, true, true, true, false, false, false, false, false, false, false, false, false, false, false, false, false, false] rfl rfl (by kernel_rfl) (fun _ _ _ h => h) (Or.inr ⟨by rfl, rfl⟩) ?_ ?_
          rotate_left
          · simp only [Act.put, List.setIfInBounds_toArray, List.set_cons_zero, List.set_cons_succ]
            rfl
          refine pure_ (i := 21) (N := some 33) (v := undef) (a' := ?_) #[true, true, true, true, true, true, true, true, true, true, true, true, true, true, true, true, true, true, true, true, true, true, false, false, false, false, false, false, false, false, false, false, false, false, false] rfl rfl (by kernel_rfl) (fun _ _ _ h => h) (Or.inr ⟨by rfl, rfl⟩) ?_ ?_
          rotate_left
          · simp only [Act.put, List.setIfInBounds_toArray, List.set_cons_zero, List.set_cons_succ]
            rfl
          refine pure_ (i := 22) (N := some 34) (v := undef) (a' := ?_) #[true, true, true, true, true, true, true, true, true, true, true, true, true, true, true, true, true, true, true, true, true, true, true, false, false, false, false, false, false, false, false, false, false, false, false] rfl rfl (by kernel_rfl) (fun _ _ _ h => h) (Or.inr ⟨by rfl, rfl⟩) ?_ ?_
          rotate_left
          · simp only [Act.put, List.setIfInBounds_toArray, List.set_cons_zero, List.set_cons_succ]
            rfl
          refine pure_ (i := 23) (N := some 35) (v := undef) (a' := ?_) #[true, true, true, true, true, true, true, true, true, true, true, true, true, true, true, true, true, true, true, true, true, true, true, true, false, false, false, false, false, false, false, false, false, false, false] rfl rfl (by kernel_rfl) (fun _ _ _ h => h) (Or.inr ⟨by rfl, rfl⟩) ?_ ?_
          rotate_left
          · simp only [Act.put, List.setIfInBounds_toArray, List.set_cons_zero, List.set_cons_succ]
            rfl
          refine pure_ (i := 24) (N := some 36) (v := undef) (a' := ?_) #[true, true, true, true, true, true, true, true, true, true, true, true, true, true, true, true, true, true, true, true, true, true, true, true, true, false, false, false, false, false, false, false, false, false, false] rfl rfl (by kernel_rfl) (fun _ _ _ h => h) (Or.inr ⟨by rfl, rfl⟩) ?_ ?_
          rotate_left
          · simp only [Act.put, List.setIfInBounds_toArray, List.set_cons_zero, List.set_cons_succ]
            rfl
          refine pure_ (i := 25) (N := some 37) (v := undef) (a' := ?_) #[true, true, true, true, true, true, true, true, true, true, true, true, true, true, true, true, true, true, true, true, true, true, true, true, true, true, false, false, false, false, false, false, false, false, false] rfl rfl (by kernel_rfl) (fun _ _ _ h => h) (Or.inr ⟨by rfl, rfl⟩) ?_ ?_
          rotate_left
          · simp only [Act.put, List.setIfInBounds_toArray, List.set_cons_zero, List.set_cons_succ]
            rfl
          refine pure_ (i := 26) (N := some 38) (v := undef) (a' := ?_) #[true, true, true, true, true, true, true, true, true, true, true, true, true, true, true, true, true, true, true, true, true, true, true, true, true, true, true, false, false, false, false, false, false, false, false] rfl rfl (by kernel_rfl) (fun _ _ _ h => h) (Or.inr ⟨by rfl, rfl⟩) ?_ ?_
          rotate_left
          · simp only [Act.put, List.setIfInBounds_toArray, List.set_cons_zero, List.set_cons_succ]
            rfl
          refine pure_ (i := 27) (N := some 39) (v := undef) (a' := ?_) #[true, true, true, true, true, true, true, true, true, true, true, true, true, true, true, true, true, true, true, true, true, true, true, true, true, true, true, true, false, false, false, false, false, false, false] rfl rfl (by kernel_rfl) (fun _ _ _ h => h) (Or.inr ⟨by rfl, rfl⟩) ?_ ?_
          rotate_left
          · simp only [Act.put, List.setIfInBounds_toArray, List.set_cons_zero, List.set_cons_succ]
            rfl
          refine pure_ (i := 28) (N := some 40) (v := undef) (a' := ?_) #[true, true, true, true, true, true, true, true, true, true, true, true, true, true, true, true, true, true, true, true, true, true, true, true, true, true, true, true, true, false, false, false, false, false, false] rfl rfl (by kernel_rfl) (fun _ _ _ h => h) (Or.inr ⟨by rfl, rfl⟩) ?_ ?_
          rotate_left
          · simp only [Act.put, List.setIfInBounds_toArray, List.set_cons_zero, List.set_cons_succ]
            rfl
          refine pure_ (i := 29) (N := some 41) (v := undef) (a' := ?_) #[true, true, true, true, true, true, true, true, true, true, true, true, true, true, true, true, true, true, true, true, true, true, true, true, true, true, true, true, true, true, false, false, false, false, false] rfl rfl (by kernel_rfl) (fun _ _ _ h => h) (Or.inr ⟨by rfl, rfl⟩) ?_ ?_
          rotate_left
          · simp only [Act.put, List.setIfInBounds_toArray, List.set_cons_zero, List.set_cons_succ]
            rfl
          refine pure_ (i := 30) (N := some 42) (v := undef) (a' := ?_) #[true, true, true, true, true, true, true, true, true, true, true, true, true, true, true, true, true, true, true, true, true, true, true, true, true, true, true, true, true, true, true, false, false, false, false] rfl rfl (by kernel_rfl) (fun _ _ _ h => h) (Or.inr ⟨by rfl, rfl⟩) ?_ ?_
          rotate_left
          · simp only [Act.put, List.setIfInBounds_toArray, List.set_cons_zero, List.set_cons_succ]
            rfl
          refine pure_ (i := 31) (N := some 43) (v := undef) (a' := ?_) #[true, true, true, true, true, true, true, true, true, true, true, true, true, true, true, true, true, true, true, true, true, true, true, true, true, true, true, true, true, true, true, true, false, false, false] rfl rfl (by kernel_rfl) (fun _ _ _ h => h) (Or.inr ⟨by rfl, rfl⟩) ?_ ?_
          rotate_left
          · simp only [Act.put, List.setIfInBounds_toArray, List.set_cons_zero, List.set_cons_succ]
            rfl
          refine pure_ (i := 32) (N := some 44) (v := undef) (a' := ?_) #[true, true, true, true, true, true, true, true, true, true, true, true, true, true, true, true, true, true, true, true, true, true, true, true, true, true, true, true, true, true, true, true, true, false, false] rfl rfl (by kernel_rfl) (fun _ _ _ h => h) (Or.inr ⟨by rfl, rfl⟩) ?_ ?_
          rotate_left
          · simp only [Act.put, List.setIfInBounds_toArray, List.set_cons_zero, List.set_cons_succ]
            rfl
          refine pure_ (i := 33) (N := some 45) (v := undef) (a' := ?_) #[true, true, true, true, true, true, true, true, true, true, true, true, true, true, true, true, true, true, true, true, true, true, true, true, true, true, true, true, true, true, true, true, true, true, false] rfl rfl (by kernel_rfl) (fun _ _ _ h => h) (Or.inr ⟨by rfl, rfl⟩) ?_ ?_
          rotate_left
          · simp only [Act.put, List.setIfInBounds_toArray, List.set_cons_zero, List.set_cons_succ]
            rfl
          refine pure_ (i := 34) (N := some 46) (v := ?_) (a' := ?_) #[true, true, true, true, true, true, true, true, true, true, true, true, true, true, true, true, true, true, true, true, true, true, true, true, true, true, true, true, true, true, true, true, true, true, true] rfl rfl (by kernel_rfl) (fun _ _ _ h => h) (Or.inl ⟨by rfl, ?_⟩) ?_ ?_
          rotate_left
          · intro w'
            go_simp
            with_reducible rfl
          rotate_left
          · simp only [Act.put, List.setIfInBounds_toArray, List.set_cons_zero, List.set_cons_succ]
            rfl
          refine done_ (by kernel_rfl) ?_
          go_wp2_with fail
          go_ret
          refine ⟨ret_bool ?_, below_box HB.out HB.out.size HB1.out⟩
          have : stepB l k = false := by simp [stepB, HX.out, itB, HRC.out, hz]
          rw [bagB_false this HR.out.len hlt]
        | false =>
          by_cases hlo : x.n < -1000000
          · have hlod : decide (x.n < -1000000) = true := by simpa using hlo
            have HM : Hid (withinB x.n (-1000000) 1000000 = false) := by show _ = _; simp [withinB]; omega
            clear hRk hlo
            go_wp2_with fail
            refine start_ (n := 35) (S := fun w' => w'.cell? ⟨wr.heap.size, 0, none⟩ = some (.int .i64 x.r.at_) ∧ w'.cell? ⟨wr.heap.size, 1, none⟩ = some (.int .i64 x.r.key) ∧ w'.cell? ⟨wr.heap.size, 2, none⟩ = some (.int .i64 x.r.val) ∧ w'.cell? ⟨wr.heap.size, 3, none⟩ = some (.int .i64 x.n)) (ds := []) #[false, false, false, false, false, false, false, false, false, false, false, false, false, false, false, false, false, false, false, false, false, false, false, false, false, false, false, false, false, false, false, false, false, false, false] (by kernel_rfl) rfl rfl ⟨f0, f1, f2, f3⟩ (fun hHeld => ?_)
            refine pure_ (i := 0) (N := some 12) (v := ?_) (a' := ?_) #[true, false, false, false, false, false, false, false, false, false, false, false, false, false, false, false, false, false, false, false, false, false, false, false, false, false, false, false, false, false, false, false, false, false, false] rfl rfl (by kernel_rfl) (fun _ _ _ h => h) (Or.inl ⟨by rfl, ?_⟩) ?_ ?_
            rotate_left
            · intro w'
              go_simp
              with_reducible rfl
            rotate_left
            · simp only [Act.put, List.setIfInBounds_toArray, List.set_cons_zero, List.set_cons_succ]
              rfl
            refine take_ (i := 1) (N := some 13) (v := ?_) (a' := ?_) #[true, true, false, false, false, false, false, false, false, false, false, false, false, false, false, false, false, false, false, false, false, false, false, false, false, false, false, false, false, false, false, false, false, false, false] rfl rfl (by kernel_rfl) (fun _ _ _ h => h) (Or.inl ⟨by rfl, ?_⟩) hHeld ?_ ?_
            rotate_left
            · rintro w' ⟨s0, s1, s2, s3⟩
              go_simp
              with_reducible rfl
            rotate_left
            · simp only [Act.put, List.setIfInBounds_toArray, List.set_cons_zero, List.set_cons_succ]
              rfl
            refine one_ (i := 2) (N := some 14) #[true, true, true, false, false, false, false, false, false, false, false, false, false, false, false, false, false, false, false, false, false, false, false, false, false, false, false, false, false, false, false, false, false, false, false] rfl rfl (by kernel_rfl) (by decide) (fun K hK => ?_)
            refine goes_ Tryz.func69 (by kernel_rfl) rfl #[.agg #[.int .i64 x.r.at_, .int .i64 x.r.key, .int .i64 x.r.val]] (by rfl) rfl rfl (by (try simp only [List.map_toArray, List.map_cons, List.map_nil]); first | done | rfl) ?_
            with_reducible refine (Rec_any x.r _).mono ?_
            rintro e w1 ⟨rfl, hb1⟩
            rw [HRC.out]
            refine ⟨_, rfl, ?_⟩
            have HB1 := Lib.hid hb1.drew_left
            obtain ⟨f0, f1, f2, f3⟩ := box4 HB1.out
            refine hK.out _ _ ⟨f0, f1, f2, f3⟩ (fun hHeld => ?_)
            clear hK K hb1
            refine norm_ (a' := ?_) ?_ ?_
            rotate_left
            · show Act.put _ (some 14) _ = _
              simp only [Act.put, List.setIfInBounds_toArray, List.set_cons_zero, List.set_cons_succ]
              rfl
            refine pure_ (i := 3) (N := some 15) (v := ?_) (a' := ?_) #[true, true, true, true, false, false, false, false, false, false, false, false, false, false, false, false, false, false, false, false, false, false, false, false, false, false, false, false, false, false, false, false, false, false, false] rfl rfl (by kernel_rfl) (fun _ _ _ h => h) (Or.inl ⟨by rfl, ?_⟩) ?_ ?_
            rotate_left
            · intro w'
              go_simp
              with_reducible rfl
            rotate_left
            · simp only [Act.put, List.setIfInBounds_toArray, List.set_cons_zero, List.set_cons_succ]
              rfl
            refine pure_ (i := 4) (N := some 16) (v := ?_) (a' := ?_) #[true, true, true, true, true, false, false, false, false, false, false, false, false, false, false, false, false, false, false, false, false, false, false, false, false, false, false, false, false, false, false, false, false, false, false] rfl rfl (by kernel_rfl) (fun _ _ _ h => h) (Or.inl ⟨by rfl, ?_⟩) ?_ ?_
            rotate_left
            · intro w'
              go_simp
              with_reducible rfl
            rotate_left
            · simp only [Act.put, List.setIfInBounds_toArray, List.set_cons_zero, List.set_cons_succ]
              rfl
            refine pure_ (i := 5) (N := some 17) (v := ?_) (a' := ?_) #[true, true, true, true, true, true, false, false, false, false, false, false, false, false, false, false, false, false, false, false, false, false, false, false, false, false, false, false, false, false, false, false, false, false, false] rfl rfl (by kernel_rfl) (fun _ _ _ h => h) (Or.inl ⟨by rfl, ?_⟩) ?_ ?_
            rotate_left
            · intro w'
              go_simp
              with_reducible rfl
            rotate_left
            · simp only [Act.put, List.setIfInBounds_toArray, List.set_cons_zero, List.set_cons_succ]
              rfl
            refine take_ (i := 6) (N := some 18) (v := ?_) (a' := ?_) #[true, true, true, true, true, true, true, false, false, false, false, false, false, false, false, false, false, false, false, false, false, false, false, false, false, false, false, false, false, false, false, false, false, false, false] rfl rfl (by kernel_rfl) (fun _ _ _ h => h) (Or.inl ⟨by rfl, ?_⟩) hHeld ?_ ?_
            rotate_left
            · rintro w' ⟨s0, s1, s2, s3⟩
              go_simp
              with_reducible rfl
            rotate_left
            · simp only [Act.put, List.setIfInBounds_toArray, List.set_cons_zero, List.set_cons_succ]
              rfl
            refine pure_ (i := 7) (N := some 19) (v := ?_) (a' := ?_) #[true, true, true, true, true, true, true, true, false, false, false, false, false, false, false, false, false, false, false, false, false, false, false, false, false, false, false, false, false, false, false, false, false, false, false] rfl rfl (by kernel_rfl) (fun _ _ _ h => h) (Or.inl ⟨by rfl, ?_⟩) ?_ ?_
            rotate_left
            · intro w'
              go_simp
              with_reducible rfl
            rotate_left
            · simp only [Act.put, List.setIfInBounds_toArray, List.set_cons_zero, List.set_cons_succ]
              rfl
            refine pure_ (i := 8) (N := some 20) (v := ?_) (a' := ?_) #[true, true, true, true, true, true, true, true, true, false, false, false, false, false, false, false, false, false, false, false, false, false, false, false, false, false, false, false, false, false, false, false, false, false, false] rfl rfl (by kernel_rfl) (fun _ _ _ h => h) (Or.inl ⟨by rfl, ?_⟩) ?_ ?_
            rotate_left
            · intro w'
              go_simp
              with_reducible rfl
            rotate_left
            · simp only [Act.put, List.setIfInBounds_toArray, List.set_cons_zero, List.set_cons_succ]
              rfl
            refine pure_ (i := 9) (N := some 21) (v := ?_) (a' := ?_) #[true, true, true, true, true, true, true, true, true, true, false, false, false, false, false, false, false, false, false, false, false, false, false, false, false, false, false, false, false, false, false, false, false, false, false] rfl rfl (by kernel_rfl) (fun _ _ _ h => h) (Or.inl ⟨by rfl, ?_⟩) ?_ ?_
            rotate_left
            · intro w'
              go_simp
              with_reducible rfl
            rotate_left
            · simp only [Act.put, List.setIfInBounds_toArray, List.set_cons_zero, List.set_cons_succ]
              rfl
            refine pure_ (i := 10) (N := some 22) (v := ?_) (a' := ?_) #[true, true, true, true, true, true, true, true, true, true, true, false, false, false, false, false, false, false, false, false, false, false, false, false, false, false, false, false, false, false, false, false, false, false, false] rfl rfl (by kernel_rfl) (fun _ _ _ h => h) (Or.inl ⟨by rfl, ?_⟩) ?_ ?_
            rotate_left
            · intro w'
              go_simp
              with_reducible rfl
            rotate_left
            · simp only [Act.put, List.setIfInBounds_toArray, List.set_cons_zero, List.set_cons_succ]
              rfl
            refine take_ (i := 11) (N := some 23) (v := ?_) (a' := ?_) #[true, true, true, true, true, true, true, true, true, true, true, true, false, false, false, false, false, false, false, false, false, false, false, false, false, false, false, false, false, false, false, false, false, false, false] rfl rfl (by kernel_rfl) (fun _ _ _ h => h) (Or.inl ⟨by rfl, ?_⟩) hHeld ?_ ?_
            rotate_left
            · rintro w' ⟨s0, s1, s2, s3⟩
              go_simp
              with_reducible rfl
            rotate_left
            · simp only [Act.put, List.setIfInBounds_toArray, List.set_cons_zero, List.set_cons_succ]
              rfl
            refine pure_ (i := 12) (N := some 24) (v := ?_) (a' := ?_) #[true, true, true, true, true, true, true, true, true, true, true, true, true, false, false, false, false, false, false, false, false, false, false, false, false, false, false, false, false, false, false, false, false, false, false] rfl rfl (by kernel_rfl) (fun _ _ _ h => h) (Or.inl ⟨by rfl, ?_⟩) ?_ ?_
            rotate_left
            · intro w'
              go_simp
              with_reducible rfl
            rotate_left
            · simp only [Act.put, List.setIfInBounds_toArray, List.set_cons_zero, List.set_cons_succ]
              rfl
            refine pure_ (i := 13) (N := some 25) (v := ?_) (a' := ?_) #[true, true, true, true, true, true, true, true, true, true, true, true, true, true, false, false, false, false, false, false, false, false, false, false, false, false, false, false, false, false, false, false, false, false, false] rfl rfl (by kernel_rfl) (fun _ _ _ h => h) (Or.inl ⟨by rfl, ?_⟩) ?_ ?_
            rotate_left
            · intro w'
              go_simp
              with_reducible rfl
            rotate_left
            · simp only [Act.put, List.setIfInBounds_toArray, List.set_cons_zero, List.set_cons_succ]
              rfl
            refine pure_ (i := 14) (N := some 26) (v := ?_) (a' := ?_) #[true, true, true, true, true, true, true, true, true, true, true, true, true, true, true, false, false, false, false, false, false, false, false, false, false, false, false, false, false, false, false, false, false, false, false] rfl rfl (by kernel_rfl) (fun _ _ _ h => h) (Or.inl ⟨by rfl, ?_⟩) ?_ ?_
            rotate_left
            · intro w'
              go_simp
              with_reducible rfl
            rotate_left
            · simp only [Act.put, List.setIfInBounds_toArray, List.set_cons_zero, List.set_cons_succ]
              rfl
            refine pure_ (i := 15) (N := some 27) (v := undef) (a' := ?_) #[true, true, true, true, true, true, true, true, true, true, true, true, true, true, true, true, false, false, false, false, false, false, false, false, false, false, false, false, false, false, false, false, false, false, false] rfl rfl (by kernel_rfl) (fun _ _ _ h => h) (Or.inr ⟨by rfl, rfl⟩) ?_ ?_
            rotate_left
            · simp only [Act.put, List.setIfInBounds_toArray, List.set_cons_zero, List.set_cons_succ]
              rfl
            refine pure_ (i := 16) (N := some 28) (v := undef) (a' := ?_) #[true, true, true, true, true, true, true, true, true, true, true, true, true, true, true, true, true, false, false, false, false, false, false, false, false, false, false, false, false, false, false, false, false, false, false] rfl rfl (by kernel_rfl) (fun _ _ _ h => h) (Or.inr ⟨by rfl, rfl⟩) ?_ ?_
            rotate_left
            · simp only [Act.put, List.setIfInBounds_toArray, List.set_cons_zero, List.set_cons_succ]
              rfl
            refine pure_ (i := 17) (N := some 29) (v := undef) (a' := ?_) #[true, true, true, true, true, true, true, true, true, true, true, true, true, true, true, true, true, true, false, false, false, false, false, false, false, false, false, false, false, false, false, false, false, false, false] rfl rfl (by kernel_rfl) (fun _ _ _ h => h) (Or.inr ⟨by rfl, rfl⟩) ?_ ?_
            rotate_left
            · simp only [Act.put, List.setIfInBounds_toArray, List.set_cons_zero, List.set_cons_succ]
              rfl
            refine pure_ (i := 18) (N := some 30) (v := ?_) (a' := ?_) #[true, true, true, true, true, true, true, true, true, true, true, true, true, true, true, true, true, true, true, false, false, false, false, false, false, false, false, false, false, false, false, false, false, false, false] rfl rfl (by kernel_rfl) (fun _ _ _ h => h) (Or.inl ⟨by rfl, ?_⟩) ?_ ?_
            rotate_left
            · intro w'
              go_simp
              with_reducible rfl
            rotate_left
            · simp only [Act.put, List.setIfInBounds_toArray, List.set_cons_zero, List.set_cons_succ]
              rfl
            refine pure_ (i := 19) (N := some 31) (v := ?_) (a' := ?_) #[true, true, true, true, true, true, true, true, true, true, true, true, true, true, true, true, true, true, true, true, false, false, false, false, false, false, false, false, false, false, false, false, false, false, false] rfl rfl (by kernel_rfl) (fun _ _ _ h => h) (Or.inl ⟨by rfl, ?_⟩) ?_ ?_
            rotate_left
            · intro w'
              go_simp
              with_reducible rfl
            rotate_left
            · simp only [Act.put, List.setIfInBounds_toArray, List.set_cons_zero, List.set_cons_succ]
              rfl
            refine pure_ (i := 20) (N := some 32) (v := undef) (a' := ?_) #[true, true, true, true, true, true, true, true, true, true, true, true, true, true, true, true, true, true, true, true, true, false, false, false, false, false, false, false, false, false, false, false, false, false, false] rfl rfl (by kernel_rfl) (fun _ _ _ h => h) (Or.inr ⟨by rfl, rfl⟩) ?_ ?_
            rotate_left
            · simp only [Act.put, List.setIfInBounds_toArray, List.set_cons_zero, List.set_cons_succ]
              rfl
            refine pure_ (i := 21) (N := some 33) (v := undef) (a' := ?_) #[true, true, true, true, true, true, true, true, true, true, true, true, true, true, true, true, true, true, true, true, true, true, false, false, false, false, false, false, false, false, false, false, false, false, false] rfl rfl (by kernel_rfl) (fun _ _ _ h => h) (Or.inr ⟨by rfl, rfl⟩) ?_ ?_
            rotate_left
            · simp only [Act.put, List.setIfInBounds_toArray, List.set_cons_zero, List.set_cons_succ]
              rfl
            refine pure_ (i := 22) (N := some 34) (v := undef) (a' := ?_) #[true, true, true, true, true, true, true, true, true, true, true, true, true, true, true, true, true, true, true, true, true, true, true, false, false, false, false, false, false, false, false, false, false, false, false] rfl rfl (by kernel_rfl) (fun _ _ _ h => h) (Or.inr ⟨by rfl, rfl⟩) ?_ ?_
            rotate_left
            · simp only [Act.put, List.setIfInBounds_toArray, List.set_cons_zero, List.set_cons_succ]
              rfl
            refine pure_ (i := 23) (N := some 35) (v := undef) (a' := ?_) #[true, true, true, true, true, true, true, true, true, true, true, true, true, true, true, true, true, true, true, true, true, true, true, true, false, false, false, false, false, false, false, false, false, false, false] rfl rfl (by kernel_rfl) (fun _ _ _ h => h) (Or.inr ⟨by rfl, rfl⟩) ?_ ?_
            rotate_left
            · simp only [Act.put, List.setIfInBounds_toArray, List.set_cons_zero, List.set_cons_succ]
              rfl
            refine pure_ (i := 24) (N := some 36) (v := undef) (a' := ?_) #[true, true, true, true, true, true, true, true, true, true, true, true, true, true, true, true, true, true, true, true, true, true, true, true, true, false, false, false, false, false, false, false, false, false, false] rfl rfl (by kernel_rfl) (fun _ _ _ h => h) (Or.inr ⟨by rfl, rfl⟩) ?_ ?_
            rotate_left
            · simp only [Act.put, List.setIfInBounds_toArray, List.set_cons_zero, List.set_cons_succ]
              rfl
            refine pure_ (i := 25) (N := some 37) (v := undef) (a' := ?_) #[true, true, true, true, true, true, true, true, true, true, true, true, true, true, true, true, true, true, true, true, true, true, true, true, true, true, false, false, false, false, false, false, false, false, false] rfl rfl (by kernel_rfl) (fun _ _ _ h => h) (Or.inr ⟨by rfl, rfl⟩) ?_ ?_
            rotate_left
            · simp only [Act.put, List.setIfInBounds_toArray, List.set_cons_zero, List.set_cons_succ]
              rfl
            refine pure_ (i := 26) (N := some 38) (v := undef) (a' := ?_) #[true, true, true, true, true, true, true, true, true, true, true, true, true, true, true, true, true, true, true, true, true, true, true, true, true, true, true, false, false, false, false, false, false, false, false] rfl rfl (by kernel_rfl) (fun _ _ _ h => h) (Or.inr ⟨by rfl, rfl⟩) ?_ ?_
            rotate_left
            · simp only [Act.put, List.setIfInBounds_toArray, List.set_cons_zero, List.set_cons_succ]
              rfl
            refine pure_ (i := 27) (N := some 39) (v := undef) (a' := ?_) #[true, true, true, true, true, true, true, true, true, true, true, true, true, true, true, true, true, true, true, true, true, true, true, true, true, true, true, true, false, false, false, false, false, false, false] rfl rfl (by kernel_rfl) (fun _ _ _ h => h) (Or.inr ⟨by rfl, rfl⟩) ?_ ?_
            rotate_left
            · simp only [Act.put, List.setIfInBounds_toArray, List.set_cons_zero, List.set_cons_succ]
              rfl
            refine pure_ (i := 28) (N := some 40) (v := undef) (a' := ?_) #[true, true, true, true, true, true, true, true, true, true, true, true, true, true, true, true, true, true, true, true, true, true, true, true, true, true, true, true, true, false, false, false, false, false, false] rfl rfl (by kernel_rfl) (fun _ _ _ h => h) (Or.inr ⟨by rfl, rfl⟩) ?_ ?_
            rotate_left
            · simp only [Act.put, List.setIfInBounds_toArray, List.set_cons_zero, List.set_cons_succ]
              rfl
            refine pure_ (i := 29) (N := some 41) (v := undef) (a' := ?_) #[true, true, true, true, true, true, true, true, true, true, true, true, true, true, true, true, true, true, true, true, true, true, true, true, true, true, true, true, true, true, false, false, false, false, false] rfl rfl (by kernel_rfl) (fun _ _ _ h => h) (Or.inr ⟨by rfl, rfl⟩) ?_ ?_
            rotate_left
            · simp only [Act.put, List.setIfInBounds_toArray, List.set_cons_zero, List.set_cons_succ]
              rfl
            refine pure_ (i := 30) (N := some 42) (v := undef) (a' := ?_) #[true, true, true, true, true, true, true, true, true, true, true, true, true, true, true, true, true, true, true, true, true, true, true, true, true, true, true, true, true, true, true, false, false, false, false] rfl rfl (by kernel_rfl) (fun _ _ _ h => h) (Or.inr ⟨by rfl, rfl⟩) ?_ ?_
            rotate_left
            · simp only [Act.put, List.setIfInBounds_toArray, List.set_cons_zero, List.set_cons_succ]
              rfl
            refine pure_ (i := 31) (N := some 43) (v := undef) (a' := ?_) #[true, true, true, true, true, true, true, true, true, true, true, true, true, true, true, true, true, true, true, true, true, true, true, true, true, true, true, true, true, true, true, true, false, false, false] rfl rfl (by kernel_rfl) (fun _ _ _ h => h) (Or.inr ⟨by rfl, rfl⟩) ?_ ?_
            rotate_left
            · simp only [Act.put, List.setIfInBounds_toArray, List.set_cons_zero, List.set_cons_succ]
              rfl
            refine pure_ (i := 32) (N := some 44) (v := undef) (a' := ?_) #[true, true, true, true, true, true, true, true, true, true, true, true, true, true, true, true, true, true, true, true, true, true, true, true, true, true, true, true, true, true, true, true, true, false, false] rfl rfl (by kernel_rfl) (fun _ _ _ h => h) (Or.inr ⟨by rfl, rfl⟩) ?_ ?_
            rotate_left
            · simp only [Act.put, List.setIfInBounds_toArray, List.set_cons_zero, List.set_cons_succ]
              rfl
            refine pure_ (i := 33) (N := some 45) (v := undef) (a' := ?_) #[true, true, true, true, true, true, true, true, true, true, true, true, true, true, true, true, true, true, true, true, true, true, true, true, true, true, true, true, true, true, true, true, true, true, false] rfl rfl (by kernel_rfl) (fun _ _ _ h => h) (Or.inr ⟨by rfl, rfl⟩) ?_ ?_
            rotate_left
            · simp only [Act.put, List.setIfInBounds_toArray, List.set_cons_zero, List.set_cons_succ]
              rfl
            refine pure_ (i := 34) (N := some 46) (v := ?_) (a' := ?_) #[true, true, true, true, true, true, true, true, true, true, true, true, true, true, true, true, true, true, true, true, true, true, true, true, true, true, true, true, true, true, true, true, true, true, true] rfl rfl (by kernel_rfl) (fun _ _ _ h => h) (Or.inl ⟨by rfl, ?_⟩) ?_ ?_
            rotate_left
            · intro w'
              go_simp
              with_reducible rfl
            rotate_left
            · simp only [Act.put, List.setIfInBounds_toArray, List.set_cons_zero, List.set_cons_succ]
              rfl
            refine done_ (by kernel_rfl) ?_
            go_wp2_with fail
            go_ret
            refine ⟨ret_bool ?_, below_box HB.out HB.out.size HB1.out⟩
            have : stepB l k = false := by simp [stepB, HX.out, itB, HRC.out, HM.out]
            rw [bagB_false this HR.out.len hlt]
          · have hlod : decide (x.n < -1000000) = false := by simpa using hlo
            by_cases hhi : 1000000 < x.n
            · have hhid : decide (1000000 < x.n) = true := by simpa using hhi
              have HM : Hid (withinB x.n (-1000000) 1000000 = false) := by show _ = _; simp [withinB]; omega
              clear hRk hhi hlo
              go_wp2_with fail
              refine start_ (n := 35) (S := fun w' => w'.cell? ⟨wr.heap.size, 0, none⟩ = some (.int .i64 x.r.at_) ∧ w'.cell? ⟨wr.heap.size, 1, none⟩ = some (.int .i64 x.r.key) ∧ w'.cell? ⟨wr.heap.size, 2, none⟩ = some (.int .i64 x.r.val) ∧ w'.cell? ⟨wr.heap.size, 3, none⟩ = some (.int .i64 x.n)) (ds := []) #[false, false, false, false, false, false, false, false, false, false, false, false, false, false, false, false, false, false, false, false, false, false, false, false, false, false, false, false, false, false, false, false, false, false, false] (by kernel_rfl) rfl rfl ⟨f0, f1, f2, f3⟩ (fun hHeld => ?_)
              refine pure_ (i := 0) (N := some 12) (v := ?_) (a' := ?_) #[true, false, false, false, false, false, false, false, false, false, false, false, false, false, false, false, false, false, false, false, false, false, false, false, false, false, false, false, false, false, false, false, false, false, false] rfl rfl (by kernel_rfl) (fun _ _ _ h => h) (Or.inl ⟨by rfl, ?_⟩) ?_ ?_
              rotate_left
              · intro w'
                go_simp
                with_reducible rfl
              rotate_left
              · simp only [Act.put, List.setIfInBounds_toArray, List.set_cons_zero, List.set_cons_succ]
                rfl
              refine take_ (i := 1) (N := some 13) (v := ?_) (a' := ?_) #[true, true, false, false, false, false, false, false, false, false, false, false, false, false, false, false, false, false, false, false, false, false, false, false, false, false, false, false, false, false, false, false, false, false, false] rfl rfl (by kernel_rfl) (fun _ _ _ h => h) (Or.inl ⟨by rfl, ?_⟩) hHeld ?_ ?_
              rotate_left
              · rintro w' ⟨s0, s1, s2, s3⟩
                go_simp
                with_reducible rfl
              rotate_left
              · simp only [Act.put, List.setIfInBounds_toArray, List.set_cons_zero, List.set_cons_succ]
                rfl
              refine one_ (i := 2) (N := some 14) #[true, true, true, false, false, false, false, false, false, false, false, false, false, false, false, false, false, false, false, false, false, false, false, false, false, false, false, false, false, false, false, false, false, false, false] rfl rfl (by kernel_rfl) (by decide) (fun K hK => ?_)
              refine goes_ Tryz.func69 (by kernel_rfl) rfl #[.agg #[.int .i64 x.r.at_, .int .i64 x.r.key, .int .i64 x.r.val]] (by rfl) rfl rfl (by (try simp only [List.map_toArray, List.map_cons, List.map_nil]); first | done | rfl) ?_
              with_reducible refine (Rec_any x.r _).mono ?_
              rintro e w1 ⟨rfl, hb1⟩
              rw [HRC.out]
              refine ⟨_, rfl, ?_⟩
              have HB1 := Lib.hid hb1.drew_left
              obtain ⟨f0, f1, f2, f3⟩ := box4 HB1.out
              refine hK.out _ _ ⟨f0, f1, f2, f3⟩ (fun hHeld => ?_)
              clear hK K hb1
              refine norm_ (a' := ?_) ?_ ?_
              rotate_left
              · show Act.put _ (some 14) _ = _
                simp only [Act.put, List.setIfInBounds_toArray, List.set_cons_zero, List.set_cons_succ]
                rfl
              refine pure_ (i := 3) (N := some 15) (v := ?_) (a' := ?_) #[true, true, true, true, false, false, false, false, false, false, false, false, false, false, false, false, false, false, false, false, false, false, false, false, false, false, false, false, false, false, false, false, false, false, false] rfl rfl (by kernel_rfl) (fun _ _ _ h => h) (Or.inl ⟨by rfl, ?_⟩) ?_ ?_
              rotate_left
              · intro w'
                go_simp
                with_reducible rfl
              rotate_left
              · simp only [Act.put, List.setIfInBounds_toArray, List.set_cons_zero, List.set_cons_succ]
                rfl
              refine pure_ (i := 4) (N := some 16) (v := ?_) (a' := ?_) #[true, true, true, true, true, false, false, false, false, false, false, false, false, false, false, false, false, false, false, false, false, false, false, false, false, false, false, false, false, false, false, false, false, false, false] rfl rfl (by kernel_rfl) (fun _ _ _ h => h) (Or.inl ⟨by rfl, ?_⟩) ?_ ?_
              rotate_left
              · intro w'
                go_simp
                with_reducible rfl
              rotate_left
              · simp only [Act.put, List.setIfInBounds_toArray, List.set_cons_zero, List.set_cons_succ]
                rfl
              refine pure_ (i := 5) (N := some 17) (v := ?_) (a' := ?_) #[true, true, true, true, true, true, false, false, false, false, false, false, false, false, false, false, false, false, false, false, false, false, false, false, false, false, false, false, false, false, false, false, false, false, false] rfl rfl (by kernel_rfl) (fun _ _ _ h => h) (Or.inl ⟨by rfl, ?_⟩) ?_ ?_
              rotate_left
              · intro w'
                go_simp
                with_reducible rfl
              rotate_left
              · simp only [Act.put, List.setIfInBounds_toArray, List.set_cons_zero, List.set_cons_succ]
                rfl
              refine take_ (i := 6) (N := some 18) (v := ?_) (a' := ?_) #[true, true, true, true, true, true, true, false, false, false, false, false, false, false, false, false, false, false, false, false, false, false, false, false, false, false, false, false, false, false, false, false, false, false, false] rfl rfl (by kernel_rfl) (fun _ _ _ h => h) (Or.inl ⟨by rfl, ?_⟩) hHeld ?_ ?_
              rotate_left
              · rintro w' ⟨s0, s1, s2, s3⟩
                go_simp
                with_reducible rfl
              rotate_left
              · simp only [Act.put, List.setIfInBounds_toArray, List.set_cons_zero, List.set_cons_succ]
                rfl
              refine pure_ (i := 7) (N := some 19) (v := ?_) (a' := ?_) #[true, true, true, true, true, true, true, true, false, false, false, false, false, false, false, false, false, false, false, false, false, false, false, false, false, false, false, false, false, false, false, false, false, false, false] rfl rfl (by kernel_rfl) (fun _ _ _ h => h) (Or.inl ⟨by rfl, ?_⟩) ?_ ?_
              rotate_left
              · intro w'
                go_simp
                with_reducible rfl
              rotate_left
              · simp only [Act.put, List.setIfInBounds_toArray, List.set_cons_zero, List.set_cons_succ]
                rfl
              refine pure_ (i := 8) (N := some 20) (v := ?_) (a' := ?_) #[true, true, true, true, true, true, true, true, true, false, false, false, false, false, false, false, false, false, false, false, false, false, false, false, false, false, false, false, false, false, false, false, false, false, false] rfl rfl (by kernel_rfl) (fun _ _ _ h => h) (Or.inl ⟨by rfl, ?_⟩) ?_ ?_
              rotate_left
              · intro w'
                go_simp
                with_reducible rfl
              rotate_left
              · simp only [Act.put, List.setIfInBounds_toArray, List.set_cons_zero, List.set_cons_succ]
                rfl
              refine pure_ (i := 9) (N := some 21) (v := ?_) (a' := ?_) #[true, true, true, true, true, true, true, true, true, true, false, false, false, false, false, false, false, false, false, false, false, false, false, false, false, false, false, false, false, false, false, false, false, false, false] rfl rfl (by kernel_rfl) (fun _ _ _ h => h) (Or.inl ⟨by rfl, ?_⟩) ?_ ?_
              rotate_left
              · intro w'
                go_simp
                with_reducible rfl
              rotate_left
              · simp only [Act.put, List.setIfInBounds_toArray, List.set_cons_zero, List.set_cons_succ]
                rfl
              refine pure_ (i := 10) (N := some 22) (v := ?_) (a' := ?_) #[true, true, true, true, true, true, true, true, true, true, true, false, false, false, false, false, false, false, false, false, false, false, false, false, false, false, false, false, false, false, false, false, false, false, false] rfl rfl (by kernel_rfl) (fun _ _ _ h => h) (Or.inl ⟨by rfl, ?_⟩) ?_ ?_
              rotate_left
              · intro w'
                go_simp
                with_reducible rfl
              rotate_left
              · simp only [Act.put, List.setIfInBounds_toArray, List.set_cons_zero, List.set_cons_succ]
                rfl
              refine take_ (i := 11) (N := some 23) (v := ?_) (a' := ?_) #[true, true, true, true, true, true, true, true, true, true, true, true, false, false, false, false, false, false, false, false, false, false, false, false, false, false, false, false, false, false, false, false, false, false, false] rfl rfl (by kernel_rfl) (fun _ _ _ h => h) (Or.inl ⟨by rfl, ?_⟩) hHeld ?_ ?_
              rotate_left
              · rintro w' ⟨s0, s1, s2, s3⟩
                go_simp
                with_reducible rfl
              rotate_left
              · simp only [Act.put, List.setIfInBounds_toArray, List.set_cons_zero, List.set_cons_succ]
                rfl
              refine pure_ (i := 12) (N := some 24) (v := ?_) (a' := ?_) #[true, true, true, true, true, true, true, true, true, true, true, true, true, false, false, false, false, false, false, false, false, false, false, false, false, false, false, false, false, false, false, false, false, false, false] rfl rfl (by kernel_rfl) (fun _ _ _ h => h) (Or.inl ⟨by rfl, ?_⟩) ?_ ?_
              rotate_left
              · intro w'
                go_simp
                with_reducible rfl
              rotate_left
              · simp only [Act.put, List.setIfInBounds_toArray, List.set_cons_zero, List.set_cons_succ]
                rfl
              refine pure_ (i := 13) (N := some 25) (v := ?_) (a' := ?_) #[true, true, true, true, true, true, true, true, true, true, true, true, true, true, false, false, false, false, false, false, false, false, false, false, false, false, false, false, false, false, false, false, false, false, false] rfl rfl (by kernel_rfl) (fun _ _ _ h => h) (Or.inl ⟨by rfl, ?_⟩) ?_ ?_
              rotate_left
              · intro w'
                go_simp
                with_reducible rfl
              rotate_left
              · simp only [Act.put, List.setIfInBounds_toArray, List.set_cons_zero, List.set_cons_succ]
                rfl
              refine pure_ (i := 14) (N := some 26) (v := ?_) (a' := ?_) #[true, true, true, true, true, true, true, true, true, true, true, true, true, true, true, false, false, false, false, false, false, false, false, false, false, false, false, false, false, false, false, false, false, false, false] rfl rfl (by kernel_rfl) (fun _ _ _ h => h) (Or.inl ⟨by rfl, ?_⟩) ?_ ?_
              rotate_left
              · intro w'
                go_simp
                with_reducible rfl
              rotate_left
              · simp only [Act.put, List.setIfInBounds_toArray, List.set_cons_zero, List.set_cons_succ]
                rfl
              refine pure_ (i := 15) (N := some 27) (v := ?_) (a' := ?_) #[true, true, true, true, true, true, true, true, true, true, true, true, true, true, true, true, false, false, false, false, false, false, false, false, false, false, false, false, false, false, false, false, false, false, false] rfl rfl (by kernel_rfl) (fun _ _ _ h => h) (Or.inl ⟨by rfl, ?_⟩) ?_ ?_
              rotate_left
              · intro w'
                go_simp
                with_reducible rfl
              rotate_left
              · simp only [Act.put, List.setIfInBounds_toArray, List.set_cons_zero, List.set_cons_succ]
                rfl
              refine take_ (i := 16) (N := some 28) (v := ?_) (a' := ?_) #[true, true, true, true, true, true, true, true, true, true, true, true, true, true, true, true, true, false, false, false, false, false, false, false, false, false, false, false, false, false, false, false, false, false, false] rfl rfl (by kernel_rfl) (fun _ _ _ h => h) (Or.inl ⟨by rfl, ?_⟩) hHeld ?_ ?_
              rotate_left
              · rintro w' ⟨s0, s1, s2, s3⟩
                go_simp
                with_reducible rfl
              rotate_left
              · simp only [Act.put, List.setIfInBounds_toArray, List.set_cons_zero, List.set_cons_succ]
                rfl
              refine pure_ (i := 17) (N := some 29) (v := ?_) (a' := ?_) #[true, true, true, true, true, true, true, true, true, true, true, true, true, true, true, true, true, true, false, false, false, false, false, false, false, false, false, false, false, false, false, false, false, false, false] rfl rfl (by kernel_rfl) (fun _ _ _ h => h) (Or.inl ⟨by rfl, ?_⟩) ?_ ?_
              rotate_left
              · intro w'
                go_simp
                with_reducible rfl
              rotate_left
              · simp only [Act.put, List.setIfInBounds_toArray, List.set_cons_zero, List.set_cons_succ]
                rfl
              refine pure_ (i := 18) (N := some 30) (v := ?_) (a' := ?_) #[true, true, true, true, true, true, true, true, true, true, true, true, true, true, true, true, true, true, true, false, false, false, false, false, false, false, false, false, false, false, false, false, false, false, false] rfl rfl (by kernel_rfl) (fun _ _ _ h => h) (Or.inl ⟨by rfl, ?_⟩) ?_ ?_
              rotate_left
              · intro w'
                go_simp
                with_reducible rfl
              rotate_left
              · simp only [Act.put, List.setIfInBounds_toArray, List.set_cons_zero, List.set_cons_succ]
                rfl
              refine pure_ (i := 19) (N := some 31) (v := ?_) (a' := ?_) #[true, true, true, true, true, true, true, true, true, true, true, true, true, true, true, true, true, true, true, true, false, false, false, false, false, false, false, false, false, false, false, false, false, false, false] rfl rfl (by kernel_rfl) (fun _ _ _ h => h) (Or.inl ⟨by rfl, ?_⟩) ?_ ?_
              rotate_left
              · intro w'
                go_simp
                with_reducible rfl
              rotate_left
              · simp only [Act.put, List.setIfInBounds_toArray, List.set_cons_zero, List.set_cons_succ]
                rfl
              refine pure_ (i := 20) (N := some 32) (v := undef) (a' := ?_) #[true, true, true, true, true, true, true, true, true, true, true, true, true, true, true, true, true, true, true, true, true, false, false, false, false, false, false, false, false, false, false, false, false, false, false] rfl rfl (by kernel_rfl) (fun _ _ _ h => h) (Or.inr ⟨by rfl, rfl⟩) ?_ ?_
              rotate_left
              · simp only [Act.put, List.setIfInBounds_toArray, List.set_cons_zero, List.set_cons_succ]
                rfl
              refine pure_ (i := 21) (N := some 33) (v := undef) (a' := ?_) #[true, true, true, true, true, true, true, true, true, true, true, true, true, true, true, true, true, true, true, true, true, true, false, false, false, false, false, false, false, false, false, false, false, false, false] rfl rfl (by kernel_rfl) (fun _ _ _ h => h) (Or.inr ⟨by rfl, rfl⟩) ?_ ?_
              rotate_left
              · simp only [Act.put, List.setIfInBounds_toArray, List.set_cons_zero, List.set_cons_succ]
                rfl
              refine pure_ (i := 22) (N := some 34) (v := undef) (a' := ?_) #[true, true, true, true, true, true, true, true, true, true, true, true, true, true, true, true, true, true, true, true, true, true, true, false, false, false, false, false, false, false, false, false, false, false, false] rfl rfl (by kernel_rfl) (fun _ _ _ h => h) (Or.inr ⟨by rfl, rfl⟩) ?_ ?_
              rotate_left
              · simp only [Act.put, List.setIfInBounds_toArray, List.set_cons_zero, List.set_cons_succ]
                rfl
              refine pure_ (i := 23) (N := some 35) (v := undef) (a' := ?_) #[true, true, true, true, true, true, true, true, true, true, true, true, true, true, true, true, true, true, true, true, true, true, true, true, false, false, false, false, false, false, false, false, false, false, false] rfl rfl (by kernel_rfl) (fun _ _ _ h => h) (Or.inr ⟨by rfl, rfl⟩) ?_ ?_
              rotate_left
              · simp only [Act.put, List.setIfInBounds_toArray, List.set_cons_zero, List.set_cons_succ]
                rfl
              refine pure_ (i := 24) (N := some 36) (v := undef) (a' := ?_) #[true, true, true, true, true, true, true, true, true, true, true, true, true, true, true, true, true, true, true, true, true, true, true, true, true, false, false, false, false, false, false, false, false, false, false] rfl rfl (by kernel_rfl) (fun _ _ _ h => h) (Or.inr ⟨by rfl, rfl⟩) ?_ ?_
              rotate_left
              · simp only [Act.put, List.setIfInBounds_toArray, List.set_cons_zero, List.set_cons_succ]
                rfl
              refine pure_ (i := 25) (N := some 37) (v := undef) (a' := ?_) #[true, true, true, true, true, true, true, true, true, true, true, true, true, true, true, true, true, true, true, true, true, true, true, true, true, true, false, false, false, false, false, false, false, false, false] rfl rfl (by kernel_rfl) (fun _ _ _ h => h) (Or.inr ⟨by rfl, rfl⟩) ?_ ?_
              rotate_left
              · simp only [Act.put, List.setIfInBounds_toArray, List.set_cons_zero, List.set_cons_succ]
                rfl
              refine pure_ (i := 26) (N := some 38) (v := undef) (a' := ?_) #[true, true, true, true, true, true, true, true, true, true, true, true, true, true, true, true, true, true, true, true, true, true, true, true, true, true, true, false, false, false, false, false, false, false, false] rfl rfl (by kernel_rfl) (fun _ _ _ h => h) (Or.inr ⟨by rfl, rfl⟩) ?_ ?_
              rotate_left
              · simp only [Act.put, List.setIfInBounds_toArray, List.set_cons_zero, List.set_cons_succ]
                rfl
              refine pure_ (i := 27) (N := some 39) (v := undef) (a' := ?_) #[true, true, true, true, true, true, true, true, true, true, true, true, true, true, true, true, true, true, true, true, true, true, true, true, true, true, true, true, false, false, false, false, false, false, false] rfl rfl (by kernel_rfl) (fun _ _ _ h => h) (Or.inr ⟨by rfl, rfl⟩) ?_ ?_
              rotate_left
              · simp only [Act.put, List.setIfInBounds_toArray, List.set_cons_zero, List.set_cons_succ]
                rfl
              refine pure_ (i := 28) (N := some 40) (v := undef) (a' := ?_) #[true, true, true, true, true, true, true, true, true, true, true, true, true, true, true, true, true, true, true, true, true, true, true, true, true, true, true, true, true, false, false, false, false, false, false] rfl rfl (by kernel_rfl) (fun _ _ _ h => h) (Or.inr ⟨by rfl, rfl⟩) ?_ ?_
              rotate_left
              · simp only [Act.put, List.setIfInBounds_toArray, List.set_cons_zero, List.set_cons_succ]
                rfl
              refine pure_ (i := 29) (N := some 41) (v := undef) (a' := ?_) #[true, true, true, true, true, true, true, true, true, true, true, true, true, true, true, true, true, true, true, true, true, true, true, true, true, true, true, true, true, true, false, false, false, false, false] rfl rfl (by kernel_rfl) (fun _ _ _ h => h) (Or.inr ⟨by rfl, rfl⟩) ?_ ?_
              rotate_left
              · simp only [Act.put, List.setIfInBounds_toArray, List.set_cons_zero, List.set_cons_succ]
                rfl
              refine pure_ (i := 30) (N := some 42) (v := undef) (a' := ?_) #[true, true, true, true, true, true, true, true, true, true, true, true, true, true, true, true, true, true, true, true, true, true, true, true, true, true, true, true, true, true, true, false, false, false, false] rfl rfl (by kernel_rfl) (fun _ _ _ h => h) (Or.inr ⟨by rfl, rfl⟩) ?_ ?_
              rotate_left
              · simp only [Act.put, List.setIfInBounds_toArray, List.set_cons_zero, List.set_cons_succ]
                rfl
              refine pure_ (i := 31) (N := some 43) (v := undef) (a' := ?_) #[true, true, true, true, true, true, true, true, true, true, true, true, true, true, true, true, true, true, true, true, true, true, true, true, true, true, true, true, true, true, true, true, false, false, false] rfl rfl (by kernel_rfl) (fun _ _ _ h => h) (Or.inr ⟨by rfl, rfl⟩) ?_ ?_
              rotate_left
              · simp only [Act.put, List.setIfInBounds_toArray, List.set_cons_zero, List.set_cons_succ]
                rfl
              refine pure_ (i := 32) (N := some 44) (v := undef) (a' := ?_) #[true, true, true, true, true, true, true, true, true, true, true, true, true, true, true, true, true, true, true, true, true, true, true, true, true, true, true, true, true, true, true, true, true, false, false] rfl rfl (by kernel_rfl) (fun _ _ _ h => h) (Or.inr ⟨by rfl, rfl⟩) ?_ ?_
              rotate_left
              · simp only [Act.put, List.setIfInBounds_toArray, List.set_cons_zero, List.set_cons_succ]
                rfl
              refine pure_ (i := 33) (N := some 45) (v := undef) (a' := ?_) #[true, true, true, true, true, true, true, true, true, true, true, true, true, true, true, true, true, true, true, true, true, true, true, true, true, true, true, true, true, true, true, true, true, true, false] rfl rfl (by kernel_rfl) (fun _ _ _ h => h) (Or.inr ⟨by rfl, rfl⟩) ?_ ?_
              rotate_left
              · simp only [Act.put, List.setIfInBounds_toArray, List.set_cons_zero, List.set_cons_succ]
                rfl
              refine pure_ (i := 34) (N := some 46) (v := ?_) (a' := ?_) #[true, true, true, true, true, true, true, true, true, true, true, true, true, true, true, true, true, true, true, true, true, true, true, true, true, true, true, true, true, true, true, true, true, true, true] rfl rfl (by kernel_rfl) (fun _ _ _ h => h) (Or.inl ⟨by rfl, ?_⟩) ?_ ?_
              rotate_left
              · intro w'
                go_simp
                with_reducible rfl
              rotate_left
              · simp only [Act.put, List.setIfInBounds_toArray, List.set_cons_zero, List.set_cons_succ]
                rfl
              refine done_ (by kernel_rfl) ?_
              go_wp2_with fail
              go_ret
              refine ⟨ret_bool ?_, below_box HB.out HB.out.size HB1.out⟩
              have : stepB l k = false := by simp [stepB, HX.out, itB, HRC.out, HM.out]
              rw [bagB_false this HR.out.len hlt]
            · have hhid : decide (1000000 < x.n) = false := by simpa using hhi
              have HM : Hid (withinB x.n (-1000000) 1000000 = true) := by show _ = _; simp [withinB]; omega
              clear hhi hlo
              cases k with
              | zero =>
                clear hRk
                simp only [Nat.zero_mul, Nat.add_zero] at c0 c1 c2 c3
                go_wp2_with fail
                refine start_ (n := 35) (S := fun w' => w'.cell? ⟨wr.heap.size, 0, none⟩ = some (.int .i64 x.r.at_) ∧ w'.cell? ⟨wr.heap.size, 1, none⟩ = some (.int .i64 x.r.key) ∧ w'.cell? ⟨wr.heap.size, 2, none⟩ = some (.int .i64 x.r.val) ∧ w'.cell? ⟨wr.heap.size, 3, none⟩ = some (.int .i64 x.n)) (ds := []) #[false, false, false, false, false, false, false, false, false, false, false, false, false, false, false, false, false, false, false, false, false, false, false, false, false, false, false, false, false, false, false, false, false, false, false] (by kernel_rfl) rfl rfl ⟨f0, f1, f2, f3⟩ (fun hHeld => ?_)
                refine pure_ (i := 0) (N := some 12) (v := ?_) (a' := ?_) #[true, false, false, false, false, false, false, false, false, false, false, false, false, false, false, false, false, false, false, false, false, false, false, false, false, false, false, false, false, false, false, false, false, false, false] rfl rfl (by kernel_rfl) (fun _ _ _ h => h) (Or.inl ⟨by rfl, ?_⟩) ?_ ?_
                rotate_left
                · intro w'
                  go_simp
                  with_reducible rfl
                rotate_left
                · simp only [Act.put, List.setIfInBounds_toArray, List.set_cons_zero, List.set_cons_succ]
                  rfl
                refine take_ (i := 1) (N := some 13) (v := ?_) (a' := ?_) #[true, true, false, false, false, false, false, false, false, false, false, false, false, false, false, false, false, false, false, false, false, false, false, false, false, false, false, false, false, false, false, false, false, false, false] rfl rfl (by kernel_rfl) (fun _ _ _ h => h) (Or.inl ⟨by rfl, ?_⟩) hHeld ?_ ?_
                rotate_left
                · rintro w' ⟨s0, s1, s2, s3⟩
                  go_simp
                  with_reducible rfl
                rotate_left
                · simp only [Act.put, List.setIfInBounds_toArray, List.set_cons_zero, List.set_cons_succ]
                  rfl
                refine one_ (i := 2) (N := some 14) #[true, true, true, false, false, false, false, false, false, false, false, false, false, false, false, false, false, false, false, false, false, false, false, false, false, false, false, false, false, false, false, false, false, false, false] rfl rfl (by kernel_rfl) (by decide) (fun K hK => ?_)
                refine goes_ Tryz.func69 (by kernel_rfl) rfl #[.agg #[.int .i64 x.r.at_, .int .i64 x.r.key, .int .i64 x.r.val]] (by rfl) rfl rfl (by (try simp only [List.map_toArray, List.map_cons, List.map_nil]); first | done | rfl) ?_
                with_reducible refine (Rec_any x.r _).mono ?_
                rintro e w1 ⟨rfl, hb1⟩
                rw [HRC.out]
                refine ⟨_, rfl, ?_⟩
                have HB1 := Lib.hid hb1.drew_left
                obtain ⟨f0, f1, f2, f3⟩ := box4 HB1.out
                refine hK.out _ _ ⟨f0, f1, f2, f3⟩ (fun hHeld => ?_)
                clear hK K hb1
                refine norm_ (a' := ?_) ?_ ?_
                rotate_left
                · show Act.put _ (some 14) _ = _
                  simp only [Act.put, List.setIfInBounds_toArray, List.set_cons_zero, List.set_cons_succ]
                  rfl
                refine pure_ (i := 3) (N := some 15) (v := ?_) (a' := ?_) #[true, true, true, true, false, false, false, false, false, false, false, false, false, false, false, false, false, false, false, false, false, false, false, false, false, false, false, false, false, false, false, false, false, false, false] rfl rfl (by kernel_rfl) (fun _ _ _ h => h) (Or.inl ⟨by rfl, ?_⟩) ?_ ?_
                rotate_left
                · intro w'
                  go_simp
                  with_reducible rfl
                rotate_left
                · simp only [Act.put, List.setIfInBounds_toArray, List.set_cons_zero, List.set_cons_succ]
                  rfl
                refine pure_ (i := 4) (N := some 16) (v := ?_) (a' := ?_) #[true, true, true, true, true, false, false, false, false, false, false, false, false, false, false, false, false, false, false, false, false, false, false, false, false, false, false, false, false, false, false, false, false, false, false] rfl rfl (by kernel_rfl) (fun _ _ _ h => h) (Or.inl ⟨by rfl, ?_⟩) ?_ ?_
                rotate_left
                · intro w'
                  go_simp
                  with_reducible rfl
                rotate_left
                · simp only [Act.put, List.setIfInBounds_toArray, List.set_cons_zero, List.set_cons_succ]
                  rfl
                refine pure_ (i := 5) (N := some 17) (v := ?_) (a' := ?_) #[true, true, true, true, true, true, false, false, false, false, false, false, false, false, false, false, false, false, false, false, false, false, false, false, false, false, false, false, false, false, false, false, false, false, false] rfl rfl (by kernel_rfl) (fun _ _ _ h => h) (Or.inl ⟨by rfl, ?_⟩) ?_ ?_
                rotate_left
                · intro w'
                  go_simp
                  with_reducible rfl
                rotate_left
                · simp only [Act.put, List.setIfInBounds_toArray, List.set_cons_zero, List.set_cons_succ]
                  rfl
                refine take_ (i := 6) (N := some 18) (v := ?_) (a' := ?_) #[true, true, true, true, true, true, true, false, false, false, false, false, false, false, false, false, false, false, false, false, false, false, false, false, false, false, false, false, false, false, false, false, false, false, false] rfl rfl (by kernel_rfl) (fun _ _ _ h => h) (Or.inl ⟨by rfl, ?_⟩) hHeld ?_ ?_
                rotate_left
                · rintro w' ⟨s0, s1, s2, s3⟩
                  go_simp
                  with_reducible rfl
                rotate_left
                · simp only [Act.put, List.setIfInBounds_toArray, List.set_cons_zero, List.set_cons_succ]
                  rfl
                refine pure_ (i := 7) (N := some 19) (v := ?_) (a' := ?_) #[true, true, true, true, true, true, true, true, false, false, false, false, false, false, false, false, false, false, false, false, false, false, false, false, false, false, false, false, false, false, false, false, false, false, false] rfl rfl (by kernel_rfl) (fun _ _ _ h => h) (Or.inl ⟨by rfl, ?_⟩) ?_ ?_
                rotate_left
                · intro w'
                  go_simp
                  with_reducible rfl
                rotate_left
                · simp only [Act.put, List.setIfInBounds_toArray, List.set_cons_zero, List.set_cons_succ]
                  rfl
                refine pure_ (i := 8) (N := some 20) (v := ?_) (a' := ?_) #[true, true, true, true, true, true, true, true, true, false, false, false, false, false, false, false, false, false, false, false, false, false, false, false, false, false, false, false, false, false, false, false, false, false, false] rfl rfl (by kernel_rfl) (fun _ _ _ h => h) (Or.inl ⟨by rfl, ?_⟩) ?_ ?_
                rotate_left
                · intro w'
                  go_simp
                  with_reducible rfl
                rotate_left
                · simp only [Act.put, List.setIfInBounds_toArray, List.set_cons_zero, List.set_cons_succ]
                  rfl
                refine pure_ (i := 9) (N := some 21) (v := ?_) (a' := ?_) #[true, true, true, true, true, true, true, true, true, true, false, false, false, false, false, false, false, false, false, false, false, false, false, false, false, false, false, false, false, false, false, false, false, false, false] rfl rfl (by kernel_rfl) (fun _ _ _ h => h) (Or.inl ⟨by rfl, ?_⟩) ?_ ?_
                rotate_left
                · intro w'
                  go_simp
                  with_reducible rfl
                rotate_left
                · simp only [Act.put, List.setIfInBounds_toArray, List.set_cons_zero, List.set_cons_succ]
                  rfl
                refine pure_ (i := 10) (N := some 22) (v := ?_) (a' := ?_) #[true, true, true, true, true, true, true, true, true, true, true, false, false, false, false, false, false, false, false, false, false, false, false, false, false, false, false, false, false, false, false, false, false, false, false] rfl rfl (by kernel_rfl) (fun _ _ _ h => h) (Or.inl ⟨by rfl, ?_⟩) ?_ ?_
                rotate_left
                · intro w'
                  go_simp
                  with_reducible rfl
                rotate_left
                · simp only [Act.put, List.setIfInBounds_toArray, List.set_cons_zero, List.set_cons_succ]
                  rfl
                refine take_ (i := 11) (N := some 23) (v := ?_) (a' := ?_) #[true, true, true, true, true, true, true, true, true, true, true, true, false, false, false, false, false, false, false, false, false, false, false, false, false, false, false, false, false, false, false, false, false, false, false] rfl rfl (by kernel_rfl) (fun _ _ _ h => h) (Or.inl ⟨by rfl, ?_⟩) hHeld ?_ ?_
                rotate_left
                · rintro w' ⟨s0, s1, s2, s3⟩
                  go_simp
                  with_reducible rfl
                rotate_left
                · simp only [Act.put, List.setIfInBounds_toArray, List.set_cons_zero, List.set_cons_succ]
                  rfl
                refine pure_ (i := 12) (N := some 24) (v := ?_) (a' := ?_) #[true, true, true, true, true, true, true, true, true, true, true, true, true, false, false, false, false, false, false, false, false, false, false, false, false, false, false, false, false, false, false, false, false, false, false] rfl rfl (by kernel_rfl) (fun _ _ _ h => h) (Or.inl ⟨by rfl, ?_⟩) ?_ ?_
                rotate_left
                · intro w'
                  go_simp
                  with_reducible rfl
                rotate_left
                · simp only [Act.put, List.setIfInBounds_toArray, List.set_cons_zero, List.set_cons_succ]
                  rfl
                refine pure_ (i := 13) (N := some 25) (v := ?_) (a' := ?_) #[true, true, true, true, true, true, true, true, true, true, true, true, true, true, false, false, false, false, false, false, false, false, false, false, false, false, false, false, false, false, false, false, false, false, false] rfl rfl (by kernel_rfl) (fun _ _ _ h => h) (Or.inl ⟨by rfl, ?_⟩) ?_ ?_
                rotate_left
                · intro w'
                  go_simp
                  with_reducible rfl
                rotate_left
                · simp only [Act.put, List.setIfInBounds_toArray, List.set_cons_zero, List.set_cons_succ]
                  rfl
                refine pure_ (i := 14) (N := some 26) (v := ?_) (a' := ?_) #[true, true, true, true, true, true, true, true, true, true, true, true, true, true, true, false, false, false, false, false, false, false, false, false, false, false, false, false, false, false, false, false, false, false, false] rfl rfl (by kernel_rfl) (fun _ _ _ h => h) (Or.inl ⟨by rfl, ?_⟩) ?_ ?_
                rotate_left
                · intro w'
                  go_simp
                  with_reducible rfl
                rotate_left
                · simp only [Act.put, List.setIfInBounds_toArray, List.set_cons_zero, List.set_cons_succ]
                  rfl
                refine pure_ (i := 15) (N := some 27) (v := ?_) (a' := ?_) #[true, true, true, true, true, true, true, true, true, true, true, true, true, true, true, true, false, false, false, false, false, false, false, false, false, false, false, false, false, false, false, false, false, false, false] rfl rfl (by kernel_rfl) (fun _ _ _ h => h) (Or.inl ⟨by rfl, ?_⟩) ?_ ?_
                rotate_left
                · intro w'
                  go_simp
                  with_reducible rfl
                rotate_left
                · simp only [Act.put, List.setIfInBounds_toArray, List.set_cons_zero, List.set_cons_succ]
                  rfl
                refine take_ (i := 16) (N := some 28) (v := ?_) (a' := ?_) #[true, true, true, true, true, true, true, true, true, true, true, true, true, true, true, true, true, false, false, false, false, false, false, false, false, false, false, false, false, false, false, false, false, false, false] rfl rfl (by kernel_rfl) (fun _ _ _ h => h) (Or.inl ⟨by rfl, ?_⟩) hHeld ?_ ?_
                rotate_left
                · rintro w' ⟨s0, s1, s2, s3⟩
                  go_simp
                  with_reducible rfl
                rotate_left
                · simp only [Act.put, List.setIfInBounds_toArray, List.set_cons_zero, List.set_cons_succ]
                  rfl
                refine pure_ (i := 17) (N := some 29) (v := ?_) (a' := ?_) #[true, true, true, true, true, true, true, true, true, true, true, true, true, true, true, true, true, true, false, false, false, false, false, false, false, false, false, false, false, false, false, false, false, false, false] rfl rfl (by kernel_rfl) (fun _ _ _ h => h) (Or.inl ⟨by rfl, ?_⟩) ?_ ?_
                rotate_left
                · intro w'
                  go_simp
                  with_reducible rfl
                rotate_left
                · simp only [Act.put, List.setIfInBounds_toArray, List.set_cons_zero, List.set_cons_succ]
                  rfl
                refine pure_ (i := 18) (N := some 30) (v := ?_) (a' := ?_) #[true, true, true, true, true, true, true, true, true, true, true, true, true, true, true, true, true, true, true, false, false, false, false, false, false, false, false, false, false, false, false, false, false, false, false] rfl rfl (by kernel_rfl) (fun _ _ _ h => h) (Or.inl ⟨by rfl, ?_⟩) ?_ ?_
                rotate_left
                · intro w'
                  go_simp
                  with_reducible rfl
                rotate_left
                · simp only [Act.put, List.setIfInBounds_toArray, List.set_cons_zero, List.set_cons_succ]
                  rfl
                refine pure_ (i := 19) (N := some 31) (v := ?_) (a' := ?_) #[true, true, true, true, true, true, true, true, true, true, true, true, true, true, true, true, true, true, true, true, false, false, false, false, false, false, false, false, false, false, false, false, false, false, false] rfl rfl (by kernel_rfl) (fun _ _ _ h => h) (Or.inl ⟨by rfl, ?_⟩) ?_ ?_
                rotate_left
                · intro w'
                  go_simp
                  with_reducible rfl
                rotate_left
                · simp only [Act.put, List.setIfInBounds_toArray, List.set_cons_zero, List.set_cons_succ]
                  rfl
                refine pure_ (i := 20) (N := some 32) (v := ?_) (a' := ?_) #[true, true, true, true, true, true, true, true, true, true, true, true, true, true, true, true, true, true, true, true, true, false, false, false, false, false, false, false, false, false, false, false, false, false, false] rfl rfl (by kernel_rfl) (fun _ _ _ h => h) (Or.inl ⟨by rfl, ?_⟩) ?_ ?_
                rotate_left
                · intro w'
                  go_simp
                  with_reducible rfl
                rotate_left
                · simp only [Act.put, List.setIfInBounds_toArray, List.set_cons_zero, List.set_cons_succ]
                  rfl
                refine pure_ (i := 21) (N := some 33) (v := ?_) (a' := ?_) #[true, true, true, true, true, true, true, true, true, true, true, true, true, true, true, true, true, true, true, true, true, true, false, false, false, false, false, false, false, false, false, false, false, false, false] rfl rfl (by kernel_rfl) (fun _ _ _ h => h) (Or.inl ⟨by rfl, ?_⟩) ?_ ?_
                rotate_left
                · intro w'
                  go_simp
                  with_reducible rfl
                rotate_left
                · simp only [Act.put, List.setIfInBounds_toArray, List.set_cons_zero, List.set_cons_succ]
                  rfl
                refine pure_ (i := 22) (N := some 34) (v := ?_) (a' := ?_) #[true, true, true, true, true, true, true, true, true, true, true, true, true, true, true, true, true, true, true, true, true, true, true, false, false, false, false, false, false, false, false, false, false, false, false] rfl rfl (by kernel_rfl) (fun _ _ _ h => h) (Or.inl ⟨by rfl, ?_⟩) ?_ ?_
                rotate_left
                · intro w'
                  go_simp
                  with_reducible rfl
                rotate_left
                · simp only [Act.put, List.setIfInBounds_toArray, List.set_cons_zero, List.set_cons_succ]
                  rfl
                refine pure_ (i := 23) (N := some 35) (v := undef) (a' := ?_) #[true, true, true, true, true, true, true, true, true, true, true, true, true, true, true, true, true, true, true, true, true, true, true, true, false, false, false, false, false, false, false, false, false, false, false] rfl rfl (by kernel_rfl) (fun _ _ _ h => h) (Or.inr ⟨by rfl, rfl⟩) ?_ ?_
                rotate_left
                · simp only [Act.put, List.setIfInBounds_toArray, List.set_cons_zero, List.set_cons_succ]
                  rfl
                refine pure_ (i := 24) (N := some 36) (v := undef) (a' := ?_) #[true, true, true, true, true, true, true, true, true, true, true, true, true, true, true, true, true, true, true, true, true, true, true, true, true, false, false, false, false, false, false, false, false, false, false] rfl rfl (by kernel_rfl) (fun _ _ _ h => h) (Or.inr ⟨by rfl, rfl⟩) ?_ ?_
                rotate_left
                · simp only [Act.put, List.setIfInBounds_toArray, List.set_cons_zero, List.set_cons_succ]
                  rfl
                refine pure_ (i := 25) (N := some 37) (v := undef) (a' := ?_) #[true, true, true, true, true, true, true, true, true, true, true, true, true, true, true, true, true, true, true, true, true, true, true, true, true, true, false, false, false, false, false, false, false, false, false] rfl rfl (by kernel_rfl) (fun _ _ _ h => h) (Or.inr ⟨by rfl, rfl⟩) ?_ ?_
                rotate_left
                · simp only [Act.put, List.setIfInBounds_toArray, List.set_cons_zero, List.set_cons_succ]
                  rfl
                refine pure_ (i := 26) (N := some 38) (v := undef) (a' := ?_) #[true, true, true, true, true, true, true, true, true, true, true, true, true, true, true, true, true, true, true, true, true, true, true, true, true, true, true, false, false, false, false, false, false, false, false] rfl rfl (by kernel_rfl) (fun _ _ _ h => h) (Or.inr ⟨by rfl, rfl⟩) ?_ ?_
                rotate_left
                · simp only [Act.put, List.setIfInBounds_toArray, List.set_cons_zero, List.set_cons_succ]
                  rfl
                refine pure_ (i := 27) (N := some 39) (v := undef) (a' := ?_) #[true, true, true, true, true, true, true, true, true, true, true, true, true, true, true, true, true, true, true, true, true, true, true, true, true, true, true, true, false, false, false, false, false, false, false] rfl rfl (by kernel_rfl) (fun _ _ _ h => h) (Or.inr ⟨by rfl, rfl⟩) ?_ ?_
                rotate_left
                · simp only [Act.put, List.setIfInBounds_toArray, List.set_cons_zero, List.set_cons_succ]
                  rfl
                refine pure_ (i := 28) (N := some 40) (v := undef) (a' := ?_) #[true, true, true, true, true, true, true, true, true, true, true, true, true, true, true, true, true, true, true, true, true, true, true, true, true, true, true, true, true, false, false, false, false, false, false] rfl rfl (by kernel_rfl) (fun _ _ _ h => h) (Or.inr ⟨by rfl, rfl⟩) ?_ ?_
                rotate_left
                · simp only [Act.put, List.setIfInBounds_toArray, List.set_cons_zero, List.set_cons_succ]
                  rfl
                refine pure_ (i := 29) (N := some 41) (v := undef) (a' := ?_) #[true, true, true, true, true, true, true, true, true, true, true, true, true, true, true, true, true, true, true, true, true, true, true, true, true, true, true, true, true, true, false, false, false, false, false] rfl rfl (by kernel_rfl) (fun _ _ _ h => h) (Or.inr ⟨by rfl, rfl⟩) ?_ ?_
                rotate_left
                · simp only [Act.put, List.setIfInBounds_toArray, List.set_cons_zero, List.set_cons_succ]
                  rfl
                refine pure_ (i := 30) (N := some 42) (v := undef) (a' := ?_) #[true, true, true, true, true, true, true, true, true, true, true, true, true, true, true, true, true, true, true, true, true, true, true, true, true, true, true, true, true, true, true, false, false, false, false] rfl rfl (by kernel_rfl) (fun _ _ _ h => h) (Or.inr ⟨by rfl, rfl⟩) ?_ ?_
                rotate_left
                · simp only [Act.put, List.setIfInBounds_toArray, List.set_cons_zero, List.set_cons_succ]
                  rfl
                refine pure_ (i := 31) (N := some 43) (v := undef) (a' := ?_) #[true, true, true, true, true, true, true, true, true, true, true, true, true, true, true, true, true, true, true, true, true, true, true, true, true, true, true, true, true, true, true, true, false, false, false] rfl rfl (by kernel_rfl) (fun _ _ _ h => h) (Or.inr ⟨by rfl, rfl⟩) ?_ ?_
                rotate_left
                · simp only [Act.put, List.setIfInBounds_toArray, List.set_cons_zero, List.set_cons_succ]
                  rfl
                refine pure_ (i := 32) (N := some 44) (v := undef) (a' := ?_) #[true, true, true, true, true, true, true, true, true, true, true, true, true, true, true, true, true, true, true, true, true, true, true, true, true, true, true, true, true, true, true, true, true, false, false] rfl rfl (by kernel_rfl) (fun _ _ _ h => h) (Or.inr ⟨by rfl, rfl⟩) ?_ ?_
                rotate_left
                · simp only [Act.put, List.setIfInBounds_toArray, List.set_cons_zero, List.set_cons_succ]
                  rfl
                refine pure_ (i := 33) (N := some 45) (v := ?_) (a' := ?_) #[true, true, true, true, true, true, true, true, true, true, true, true, true, true, true, true, true, true, true, true, true, true, true, true, true, true, true, true, true, true, true, true, true, true, false] rfl rfl (by kernel_rfl) (fun _ _ _ h => h) (Or.inl ⟨by rfl, ?_⟩) ?_ ?_
                rotate_left
                · intro w'
                  go_simp
                  with_reducible rfl
                rotate_left
                · simp only [Act.put, List.setIfInBounds_toArray, List.set_cons_zero, List.set_cons_succ]
                  rfl
                refine pure_ (i := 34) (N := some 46) (v := ?_) (a' := ?_) #[true, true, true, true, true, true, true, true, true, true, true, true, true, true, true, true, true, true, true, true, true, true, true, true, true, true, true, true, true, true, true, true, true, true, true] rfl rfl (by kernel_rfl) (fun _ _ _ h => h) (Or.inl ⟨by rfl, ?_⟩) ?_ ?_
                rotate_left
                · intro w'
                  go_simp
                  with_reducible rfl
                rotate_left
                · simp only [Act.put, List.setIfInBounds_toArray, List.set_cons_zero, List.set_cons_succ]
                  rfl
                refine done_ (by kernel_rfl) ?_
                go_wp2_with fail
                refine ⟨⟨1, by omega, rfl, ?_, below_box HB.out HB.out.size HB1.out⟩, by simp [intOf]; omega⟩
                rw [bagTo_succ]; simp [bagTo, stepB, HX.out, itB, HRC.out, HM.out, hz]
              | succ j =>
                obtain ⟨b', off', y, hbb, _, hy, d0, d1, d2, d3⟩ := hRk.it_at (show j < n by omega)
                cases hbb
                have HY := Lib.hid hy
                have hw : IntKind.i64.wrap (j : Int) = j := IntWalk.i64_in _ (by omega)
                have hw0 : (0 : Int) ≤ j := by omega
                have hw1 : (j : Int) < n := by omega
                have hw2 : (j : Int).toNat = j := by omega
                clear hy hRk
                cases hls : lessB y.r x.r with
                | true =>
                  have HLS := Lib.hid hls
                  have hcmp : rcmp y.r x.r < 0 := by simpa [lessB] using hls
                  have HCMP := Lib.hid hcmp
                  clear hls hcmp
                  go_wp2_with fail
                  have keep0 : ∀ {b o : Nat} {v : Value}, wr.cell? ⟨b, o, none⟩ = some v → (wr.alloc (.cells #[.int .i64 x.r.at_, .int .i64 x.r.key, .int .i64 x.r.val, .int .i64 x.n] 40)).cell? ⟨b, o, none⟩ = some v := fun h => keep_cell (Below.refl _ _) h
                  refine start_ (n := 35) (S := fun w' => w'.cell? ⟨wr.heap.size, 0, none⟩ = some (.int .i64 x.r.at_) ∧ w'.cell? ⟨wr.heap.size, 1, none⟩ = some (.int .i64 x.r.key) ∧ w'.cell? ⟨wr.heap.size, 2, none⟩ = some (.int .i64 x.r.val) ∧ w'.cell? ⟨wr.heap.size, 3, none⟩ = some (.int .i64 x.n) ∧ w'.cell? ⟨b, off + j * 4, none⟩ = some (.int .i64 y.r.at_) ∧ w'.cell? ⟨b, off + j * 4 + 1, none⟩ = some (.int .i64 y.r.key) ∧ w'.cell? ⟨b, off + j * 4 + 2, none⟩ = some (.int .i64 y.r.val)) (ds := []) #[false, false, false, false, false, false, false, false, false, false, false, false, false, false, false, false, false, false, false, false, false, false, false, false, false, false, false, false, false, false, false, false, false, false, false] (by kernel_rfl) rfl rfl ⟨f0, f1, f2, f3, keep0 d0, keep0 d1, keep0 d2⟩ (fun hHeld => ?_)
                  refine pure_ (i := 0) (N := some 12) (v := ?_) (a' := ?_) #[true, false, false, false, false, false, false, false, false, false, false, false, false, false, false, false, false, false, false, false, false, false, false, false, false, false, false, false, false, false, false, false, false, false, false] rfl rfl (by kernel_rfl) (fun _ _ _ h => h) (Or.inl ⟨by rfl, ?_⟩) ?_ ?_
                  rotate_left
                  · intro w'
                    go_simp
                    with_reducible rfl
                  rotate_left
                  · simp only [Act.put, List.setIfInBounds_toArray, List.set_cons_zero, List.set_cons_succ]
                    rfl
                  refine take_ (i := 1) (N := some 13) (v := ?_) (a' := ?_) #[true, true, false, false, false, false, false, false, false, false, false, false, false, false, false, false, false, false, false, false, false, false, false, false, false, false, false, false, false, false, false, false, false, false, false] rfl rfl (by kernel_rfl) (fun _ _ _ h => h) (Or.inl ⟨by rfl, ?_⟩) hHeld ?_ ?_
                  rotate_left
                  · rintro w' ⟨s0, s1, s2, s3, s4, s5, s6⟩
                    go_simp
                    with_reducible rfl
                  rotate_left
                  · simp only [Act.put, List.setIfInBounds_toArray, List.set_cons_zero, List.set_cons_succ]
                    rfl
                  refine one_ (i := 2) (N := some 14) #[true, true, true, false, false, false, false, false, false, false, false, false, false, false, false, false, false, false, false, false, false, false, false, false, false, false, false, false, false, false, false, false, false, false, false] rfl rfl (by kernel_rfl) (by decide) (fun K hK => ?_)
                  refine goes_ Tryz.func69 (by kernel_rfl) rfl #[.agg #[.int .i64 x.r.at_, .int .i64 x.r.key, .int .i64 x.r.val]] (by rfl) rfl rfl (by (try simp only [List.map_toArray, List.map_cons, List.map_nil]); first | done | rfl) ?_
                  with_reducible refine (Rec_any x.r _).mono ?_
                  rintro e w1 ⟨rfl, hb1⟩
                  rw [HRC.out]
                  refine ⟨_, rfl, ?_⟩
                  have HB1 := Lib.hid hb1.drew_left
                  obtain ⟨f0, f1, f2, f3⟩ := box4 HB1.out
                  refine hK.out _ _ ⟨f0, f1, f2, f3, keep_cell HB1.out d0, keep_cell HB1.out d1, keep_cell HB1.out d2⟩ (fun hHeld => ?_)
                  clear hK K hb1
                  refine norm_ (a' := ?_) ?_ ?_
                  rotate_left
                  · show Act.put _ (some 14) _ = _
                    simp only [Act.put, List.setIfInBounds_toArray, List.set_cons_zero, List.set_cons_succ]
                    rfl
                  refine pure_ (i := 3) (N := some 15) (v := ?_) (a' := ?_) #[true, true, true, true, false, false, false, false, false, false, false, false, false, false, false, false, false, false, false, false, false, false, false, false, false, false, false, false, false, false, false, false, false, false, false] rfl rfl (by kernel_rfl) (fun _ _ _ h => h) (Or.inl ⟨by rfl, ?_⟩) ?_ ?_
                  rotate_left
                  · intro w'
                    go_simp
                    with_reducible rfl
                  rotate_left
                  · simp only [Act.put, List.setIfInBounds_toArray, List.set_cons_zero, List.set_cons_succ]
                    rfl
                  refine pure_ (i := 4) (N := some 16) (v := ?_) (a' := ?_) #[true, true, true, true, true, false, false, false, false, false, false, false, false, false, false, false, false, false, false, false, false, false, false, false, false, false, false, false, false, false, false, false, false, false, false] rfl rfl (by kernel_rfl) (fun _ _ _ h => h) (Or.inl ⟨by rfl, ?_⟩) ?_ ?_
                  rotate_left
                  · intro w'
                    go_simp
                    with_reducible rfl
                  rotate_left
                  · simp only [Act.put, List.setIfInBounds_toArray, List.set_cons_zero, List.set_cons_succ]
                    rfl
                  refine pure_ (i := 5) (N := some 17) (v := ?_) (a' := ?_) #[true, true, true, true, true, true, false, false, false, false, false, false, false, false, false, false, false, false, false, false, false, false, false, false, false, false, false, false, false, false, false, false, false, false, false] rfl rfl (by kernel_rfl) (fun _ _ _ h => h) (Or.inl ⟨by rfl, ?_⟩) ?_ ?_
                  rotate_left
                  · intro w'
                    go_simp
                    with_reducible rfl
                  rotate_left
                  · simp only [Act.put, List.setIfInBounds_toArray, List.set_cons_zero, List.set_cons_succ]
                    rfl
                  refine take_ (i := 6) (N := some 18) (v := ?_) (a' := ?_) #[true, true, true, true, true, true, true, false, false, false, false, false, false, false, false, false, false, false, false, false, false, false, false, false, false, false, false, false, false, false, false, false, false, false, false] rfl rfl (by kernel_rfl) (fun _ _ _ h => h) (Or.inl ⟨by rfl, ?_⟩) hHeld ?_ ?_
                  rotate_left
                  · rintro w' ⟨s0, s1, s2, s3, s4, s5, s6⟩
                    go_simp
                    with_reducible rfl
                  rotate_left
                  · simp only [Act.put, List.setIfInBounds_toArray, List.set_cons_zero, List.set_cons_succ]
                    rfl
                  refine pure_ (i := 7) (N := some 19) (v := ?_) (a' := ?_) #[true, true, true, true, true, true, true, true, false, false, false, false, false, false, false, false, false, false, false, false, false, false, false, false, false, false, false, false, false, false, false, false, false, false, false] rfl rfl (by kernel_rfl) (fun _ _ _ h => h) (Or.inl ⟨by rfl, ?_⟩) ?_ ?_
                  rotate_left
                  · intro w'
                    go_simp
                    with_reducible rfl
                  rotate_left
                  · simp only [Act.put, List.setIfInBounds_toArray, List.set_cons_zero, List.set_cons_succ]
                    rfl
                  refine pure_ (i := 8) (N := some 20) (v := ?_) (a' := ?_) #[true, true, true, true, true, true, true, true, true, false, false, false, false, false, false, false, false, false, false, false, false, false, false, false, false, false, false, false, false, false, false, false, false, false, false] rfl rfl (by kernel_rfl) (fun _ _ _ h => h) (Or.inl ⟨by rfl, ?_⟩) ?_ ?_
                  rotate_left
                  · intro w'
                    go_simp
                    with_reducible rfl
                  rotate_left
                  · simp only [Act.put, List.setIfInBounds_toArray, List.set_cons_zero, List.set_cons_succ]
                    rfl
                  refine pure_ (i := 9) (N := some 21) (v := ?_) (a' := ?_) #[true, true, true, true, true, true, true, true, true, true, false, false, false, false, false, false, false, false, false, false, false, false, false, false, false, false, false, false, false, false, false, false, false, false, false] rfl rfl (by kernel_rfl) (fun _ _ _ h => h) (Or.inl ⟨by rfl, ?_⟩) ?_ ?_
                  rotate_left
                  · intro w'
                    go_simp
                    with_reducible rfl
                  rotate_left
                  · simp only [Act.put, List.setIfInBounds_toArray, List.set_cons_zero, List.set_cons_succ]
                    rfl
                  refine pure_ (i := 10) (N := some 22) (v := ?_) (a' := ?_) #[true, true, true, true, true, true, true, true, true, true, true, false, false, false, false, false, false, false, false, false, false, false, false, false, false, false, false, false, false, false, false, false, false, false, false] rfl rfl (by kernel_rfl) (fun _ _ _ h => h) (Or.inl ⟨by rfl, ?_⟩) ?_ ?_
                  rotate_left
                  · intro w'
                    go_simp
                    with_reducible rfl
                  rotate_left
                  · simp only [Act.put, List.setIfInBounds_toArray, List.set_cons_zero, List.set_cons_succ]
                    rfl
                  refine take_ (i := 11) (N := some 23) (v := ?_) (a' := ?_) #[true, true, true, true, true, true, true, true, true, true, true, true, false, false, false, false, false, false, false, false, false, false, false, false, false, false, false, false, false, false, false, false, false, false, false] rfl rfl (by kernel_rfl) (fun _ _ _ h => h) (Or.inl ⟨by rfl, ?_⟩) hHeld ?_ ?_
                  rotate_left
                  · rintro w' ⟨s0, s1, s2, s3, s4, s5, s6⟩
                    go_simp
                    with_reducible rfl
                  rotate_left
                  · simp only [Act.put, List.setIfInBounds_toArray, List.set_cons_zero, List.set_cons_succ]
                    rfl
                  refine pure_ (i := 12) (N := some 24) (v := ?_) (a' := ?_) #[true, true, true, true, true, true, true, true, true, true, true, true, true, false, false, false, false, false, false, false, false, false, false, false, false, false, false, false, false, false, false, false, false, false, false] rfl rfl (by kernel_rfl) (fun _ _ _ h => h) (Or.inl ⟨by rfl, ?_⟩) ?_ ?_
                  rotate_left
                  · intro w'
                    go_simp
                    with_reducible rfl
                  rotate_left
                  · simp only [Act.put, List.setIfInBounds_toArray, List.set_cons_zero, List.set_cons_succ]
                    rfl
                  refine pure_ (i := 13) (N := some 25) (v := ?_) (a' := ?_) #[true, true, true, true, true, true, true, true, true, true, true, true, true, true, false, false, false, false, false, false, false, false, false, false, false, false, false, false, false, false, false, false, false, false, false] rfl rfl (by kernel_rfl) (fun _ _ _ h => h) (Or.inl ⟨by rfl, ?_⟩) ?_ ?_
                  rotate_left
                  · intro w'
                    go_simp
                    with_reducible rfl
                  rotate_left
                  · simp only [Act.put, List.setIfInBounds_toArray, List.set_cons_zero, List.set_cons_succ]
                    rfl
                  refine pure_ (i := 14) (N := some 26) (v := ?_) (a' := ?_) #[true, true, true, true, true, true, true, true, true, true, true, true, true, true, true, false, false, false, false, false, false, false, false, false, false, false, false, false, false, false, false, false, false, false, false] rfl rfl (by kernel_rfl) (fun _ _ _ h => h) (Or.inl ⟨by rfl, ?_⟩) ?_ ?_
                  rotate_left
                  · intro w'
                    go_simp
                    with_reducible rfl
                  rotate_left
                  · simp only [Act.put, List.setIfInBounds_toArray, List.set_cons_zero, List.set_cons_succ]
                    rfl
                  refine pure_ (i := 15) (N := some 27) (v := ?_) (a' := ?_) #[true, true, true, true, true, true, true, true, true, true, true, true, true, true, true, true, false, false, false, false, false, false, false, false, false, false, false, false, false, false, false, false, false, false, false] rfl rfl (by kernel_rfl) (fun _ _ _ h => h) (Or.inl ⟨by rfl, ?_⟩) ?_ ?_
                  rotate_left
                  · intro w'
                    go_simp
                    with_reducible rfl
                  rotate_left
                  · simp only [Act.put, List.setIfInBounds_toArray, List.set_cons_zero, List.set_cons_succ]
                    rfl
                  refine take_ (i := 16) (N := some 28) (v := ?_) (a' := ?_) #[true, true, true, true, true, true, true, true, true, true, true, true, true, true, true, true, true, false, false, false, false, false, false, false, false, false, false, false, false, false, false, false, false, false, false] rfl rfl (by kernel_rfl) (fun _ _ _ h => h) (Or.inl ⟨by rfl, ?_⟩) hHeld ?_ ?_
                  rotate_left
                  · rintro w' ⟨s0, s1, s2, s3, s4, s5, s6⟩
                    go_simp
                    with_reducible rfl
                  rotate_left
                  · simp only [Act.put, List.setIfInBounds_toArray, List.set_cons_zero, List.set_cons_succ]
                    rfl
                  refine pure_ (i := 17) (N := some 29) (v := ?_) (a' := ?_) #[true, true, true, true, true, true, true, true, true, true, true, true, true, true, true, true, true, true, false, false, false, false, false, false, false, false, false, false, false, false, false, false, false, false, false] rfl rfl (by kernel_rfl) (fun _ _ _ h => h) (Or.inl ⟨by rfl, ?_⟩) ?_ ?_
                  rotate_left
                  · intro w'
                    go_simp
                    with_reducible rfl
                  rotate_left
                  · simp only [Act.put, List.setIfInBounds_toArray, List.set_cons_zero, List.set_cons_succ]
                    rfl
                  refine pure_ (i := 18) (N := some 30) (v := ?_) (a' := ?_) #[true, true, true, true, true, true, true, true, true, true, true, true, true, true, true, true, true, true, true, false, false, false, false, false, false, false, false, false, false, false, false, false, false, false, false] rfl rfl (by kernel_rfl) (fun _ _ _ h => h) (Or.inl ⟨by rfl, ?_⟩) ?_ ?_
                  rotate_left
                  · intro w'
                    go_simp
                    with_reducible rfl
                  rotate_left
                  · simp only [Act.put, List.setIfInBounds_toArray, List.set_cons_zero, List.set_cons_succ]
                    rfl
                  refine pure_ (i := 19) (N := some 31) (v := ?_) (a' := ?_) #[true, true, true, true, true, true, true, true, true, true, true, true, true, true, true, true, true, true, true, true, false, false, false, false, false, false, false, false, false, false, false, false, false, false, false] rfl rfl (by kernel_rfl) (fun _ _ _ h => h) (Or.inl ⟨by rfl, ?_⟩) ?_ ?_
                  rotate_left
                  · intro w'
                    go_simp
                    with_reducible rfl
                  rotate_left
                  · simp only [Act.put, List.setIfInBounds_toArray, List.set_cons_zero, List.set_cons_succ]
                    rfl
                  refine pure_ (i := 20) (N := some 32) (v := ?_) (a' := ?_) #[true, true, true, true, true, true, true, true, true, true, true, true, true, true, true, true, true, true, true, true, true, false, false, false, false, false, false, false, false, false, false, false, false, false, false] rfl rfl (by kernel_rfl) (fun _ _ _ h => h) (Or.inl ⟨by rfl, ?_⟩) ?_ ?_
                  rotate_left
                  · intro w'
                    go_simp
                    with_reducible rfl
                  rotate_left
                  · simp only [Act.put, List.setIfInBounds_toArray, List.set_cons_zero, List.set_cons_succ]
                    rfl
                  refine pure_ (i := 21) (N := some 33) (v := ?_) (a' := ?_) #[true, true, true, true, true, true, true, true, true, true, true, true, true, true, true, true, true, true, true, true, true, true, false, false, false, false, false, false, false, false, false, false, false, false, false] rfl rfl (by kernel_rfl) (fun _ _ _ h => h) (Or.inl ⟨by rfl, ?_⟩) ?_ ?_
                  rotate_left
                  · intro w'
                    go_simp
                    with_reducible rfl
                  rotate_left
                  · simp only [Act.put, List.setIfInBounds_toArray, List.set_cons_zero, List.set_cons_succ]
                    rfl
                  refine pure_ (i := 22) (N := some 34) (v := ?_) (a' := ?_) #[true, true, true, true, true, true, true, true, true, true, true, true, true, true, true, true, true, true, true, true, true, true, true, false, false, false, false, false, false, false, false, false, false, false, false] rfl rfl (by kernel_rfl) (fun _ _ _ h => h) (Or.inl ⟨by rfl, ?_⟩) ?_ ?_
                  rotate_left
                  · intro w'
                    go_simp
                    with_reducible rfl
                  rotate_left
                  · simp only [Act.put, List.setIfInBounds_toArray, List.set_cons_zero, List.set_cons_succ]
                    rfl
                  refine pure_ (i := 23) (N := some 35) (v := ?_) (a' := ?_) #[true, true, true, true, true, true, true, true, true, true, true, true, true, true, true, true, true, true, true, true, true, true, true, true, false, false, false, false, false, false, false, false, false, false, false] rfl rfl (by kernel_rfl) (fun _ _ _ h => h) (Or.inl ⟨by rfl, ?_⟩) ?_ ?_
                  rotate_left
                  · intro w'
                    go_simp
                    with_reducible rfl
                  rotate_left
                  · simp only [Act.put, List.setIfInBounds_toArray, List.set_cons_zero, List.set_cons_succ]
                    rfl
                  refine pure_ (i := 24) (N := some 36) (v := ?_) (a' := ?_) #[true, true, true, true, true, true, true, true, true, true, true, true, true, true, true, true, true, true, true, true, true, true, true, true, true, false, false, false, false, false, false, false, false, false, false] rfl rfl (by kernel_rfl) (fun _ _ _ h => h) (Or.inl ⟨by rfl, ?_⟩) ?_ ?_
                  rotate_left
                  · intro w'
                    go_simp
                    with_reducible rfl
                  rotate_left
                  · simp only [Act.put, List.setIfInBounds_toArray, List.set_cons_zero, List.set_cons_succ]
                    rfl
                  refine pure_ (i := 25) (N := some 37) (v := ?_) (a' := ?_) #[true, true, true, true, true, true, true, true, true, true, true, true, true, true, true, true, true, true, true, true, true, true, true, true, true, true, false, false, false, false, false, false, false, false, false] rfl rfl (by kernel_rfl) (fun _ _ _ h => h) (Or.inl ⟨by rfl, ?_⟩) ?_ ?_
                  rotate_left
                  · intro w'
                    go_simp
                    with_reducible rfl
                  rotate_left
                  · simp only [Act.put, List.setIfInBounds_toArray, List.set_cons_zero, List.set_cons_succ]
                    rfl
                  refine pure_ (i := 26) (N := some 38) (v := ?_) (a' := ?_) #[true, true, true, true, true, true, true, true, true, true, true, true, true, true, true, true, true, true, true, true, true, true, true, true, true, true, true, false, false, false, false, false, false, false, false] rfl rfl (by kernel_rfl) (fun _ _ _ h => h) (Or.inl ⟨by rfl, ?_⟩) ?_ ?_
                  rotate_left
                  · intro w'
                    go_simp
                    with_reducible rfl
                  rotate_left
                  · simp only [Act.put, List.setIfInBounds_toArray, List.set_cons_zero, List.set_cons_succ]
                    rfl
                  refine pure_ (i := 27) (N := some 39) (v := ?_) (a' := ?_) #[true, true, true, true, true, true, true, true, true, true, true, true, true, true, true, true, true, true, true, true, true, true, true, true, true, true, true, true, false, false, false, false, false, false, false] rfl rfl (by kernel_rfl) (fun _ _ _ h => h) (Or.inl ⟨by rfl, ?_⟩) ?_ ?_
                  rotate_left
                  · intro w'
                    go_simp
                    with_reducible rfl
                  rotate_left
                  · simp only [Act.put, List.setIfInBounds_toArray, List.set_cons_zero, List.set_cons_succ]
                    rfl
                  refine take_ (i := 28) (N := some 40) (v := ?_) (a' := ?_) #[true, true, true, true, true, true, true, true, true, true, true, true, true, true, true, true, true, true, true, true, true, true, true, true, true, true, true, true, true, false, false, false, false, false, false] rfl rfl (by kernel_rfl) (fun _ _ _ h => h) (Or.inl ⟨by rfl, ?_⟩) hHeld ?_ ?_
                  rotate_left
                  · rintro w' ⟨s0, s1, s2, s3, s4, s5, s6⟩
                    go_simp
                    with_reducible rfl
                  rotate_left
                  · simp only [Act.put, List.setIfInBounds_toArray, List.set_cons_zero, List.set_cons_succ]
                    rfl
                  refine pure_ (i := 29) (N := some 41) (v := ?_) (a' := ?_) #[true, true, true, true, true, true, true, true, true, true, true, true, true, true, true, true, true, true, true, true, true, true, true, true, true, true, true, true, true, true, false, false, false, false, false] rfl rfl (by kernel_rfl) (fun _ _ _ h => h) (Or.inl ⟨by rfl, ?_⟩) ?_ ?_
                  rotate_left
                  · intro w'
                    go_simp
                    with_reducible rfl
                  rotate_left
                  · simp only [Act.put, List.setIfInBounds_toArray, List.set_cons_zero, List.set_cons_succ]
                    rfl
                  refine take_ (i := 30) (N := some 42) (v := ?_) (a' := ?_) #[true, true, true, true, true, true, true, true, true, true, true, true, true, true, true, true, true, true, true, true, true, true, true, true, true, true, true, true, true, true, true, false, false, false, false] rfl rfl (by kernel_rfl) (fun _ _ _ h => h) (Or.inl ⟨by rfl, ?_⟩) hHeld ?_ ?_
                  rotate_left
                  · rintro w' ⟨s0, s1, s2, s3, s4, s5, s6⟩
                    go_simp
                    with_reducible rfl
                  rotate_left
                  · simp only [Act.put, List.setIfInBounds_toArray, List.set_cons_zero, List.set_cons_succ]
                    rfl
                  refine one_ (i := 31) (N := some 43) #[true, true, true, true, true, true, true, true, true, true, true, true, true, true, true, true, true, true, true, true, true, true, true, true, true, true, true, true, true, true, true, true, false, false, false] rfl rfl (by kernel_rfl) (by decide) (fun K hK => ?_)
                  refine goes_ Tryz.func95 (by kernel_rfl) rfl #[.agg #[.int .i64 y.r.at_, .int .i64 y.r.key, .int .i64 y.r.val], .agg #[.int .i64 x.r.at_, .int .i64 x.r.key, .int .i64 x.r.val]] (by rfl) rfl rfl (by (try simp only [List.map_toArray, List.map_cons, List.map_nil]); first | done | rfl) ?_
                  with_reducible refine (Less_any y.r x.r _).mono ?_
                  rintro e w2 ⟨rfl, hb2⟩
                  rw [HLS.out]
                  refine ⟨_, rfl, ?_⟩
                  have HB2 := Lib.hid hb2
                  have kk : ∀ b o v, w1.cell? ⟨b, o, none⟩ = some v → w2.cell? ⟨b, o, none⟩ = some v := fun b o v h => (hb2.cell (World.block_lt_of_cell? w1 _ h)).trans h
                  obtain ⟨s0, s1, s2, s3, s4, s5, s6⟩ := hHeld
                  refine hK.out _ _ ⟨kk _ _ _ s0, kk _ _ _ s1, kk _ _ _ s2, kk _ _ _ s3, kk _ _ _ s4, kk _ _ _ s5, kk _ _ _ s6⟩ (fun hHeld => ?_)
                  clear hK K hb2 kk
                  refine norm_ (a' := ?_) ?_ ?_
                  rotate_left
                  · show Act.put _ (some 43) _ = _
                    simp only [Act.put, List.setIfInBounds_toArray, List.set_cons_zero, List.set_cons_succ]
                    rfl
                  refine pure_ (i := 32) (N := some 44) (v := ?_) (a' := ?_) #[true, true, true, true, true, true, true, true, true, true, true, true, true, true, true, true, true, true, true, true, true, true, true, true, true, true, true, true, true, true, true, true, true, false, false] rfl rfl (by kernel_rfl) (fun _ _ _ h => h) (Or.inl ⟨by rfl, ?_⟩) ?_ ?_
                  rotate_left
                  · intro w'
                    go_simp
                    with_reducible rfl
                  rotate_left
                  · simp only [Act.put, List.setIfInBounds_toArray, List.set_cons_zero, List.set_cons_succ]
                    rfl
                  refine pure_ (i := 33) (N := some 45) (v := ?_) (a' := ?_) #[true, true, true, true, true, true, true, true, true, true, true, true, true, true, true, true, true, true, true, true, true, true, true, true, true, true, true, true, true, true, true, true, true, true, false] rfl rfl (by kernel_rfl) (fun _ _ _ h => h) (Or.inl ⟨by rfl, ?_⟩) ?_ ?_
                  rotate_left
                  · intro w'
                    go_simp
                    with_reducible rfl
                  rotate_left
                  · simp only [Act.put, List.setIfInBounds_toArray, List.set_cons_zero, List.set_cons_succ]
                    rfl
                  refine pure_ (i := 34) (N := some 46) (v := ?_) (a' := ?_) #[true, true, true, true, true, true, true, true, true, true, true, true, true, true, true, true, true, true, true, true, true, true, true, true, true, true, true, true, true, true, true, true, true, true, true] rfl rfl (by kernel_rfl) (fun _ _ _ h => h) (Or.inl ⟨by rfl, ?_⟩) ?_ ?_
                  rotate_left
                  · intro w'
                    go_simp
                    with_reducible rfl
                  rotate_left
                  · simp only [Act.put, List.setIfInBounds_toArray, List.set_cons_zero, List.set_cons_succ]
                    rfl
                  refine done_ (by kernel_rfl) ?_
                  clear hw hw0 hw1 hw2 hHeld
                  go_wp2_with fail
                  refine ⟨⟨j + 1 + 1, by omega, by go_num, ?_, (below_box HB.out HB.out.size HB1.out).trans (HB2.out.mono (by have := HB.out.size; have := HB1.out.size; simp at this; omega))⟩, by simp [intOf]; omega⟩
                  rw [bagTo_succ, HT.out]; simp [stepB, HX.out, HY.out, itB, HRC.out, HM.out, hz, HCMP.out]
                | false =>
                  have HLS := Lib.hid hls
                  have hcmp : ¬ rcmp y.r x.r < 0 := by simpa [lessB] using hls
                  have HCMP := Lib.hid hcmp
                  clear hls hcmp
                  go_wp2_with fail
                  have keep0 : ∀ {b o : Nat} {v : Value}, wr.cell? ⟨b, o, none⟩ = some v → (wr.alloc (.cells #[.int .i64 x.r.at_, .int .i64 x.r.key, .int .i64 x.r.val, .int .i64 x.n] 40)).cell? ⟨b, o, none⟩ = some v := fun h => keep_cell (Below.refl _ _) h
                  refine start_ (n := 35) (S := fun w' => w'.cell? ⟨wr.heap.size, 0, none⟩ = some (.int .i64 x.r.at_) ∧ w'.cell? ⟨wr.heap.size, 1, none⟩ = some (.int .i64 x.r.key) ∧ w'.cell? ⟨wr.heap.size, 2, none⟩ = some (.int .i64 x.r.val) ∧ w'.cell? ⟨wr.heap.size, 3, none⟩ = some (.int .i64 x.n) ∧ w'.cell? ⟨b, off + j * 4, none⟩ = some (.int .i64 y.r.at_) ∧ w'.cell? ⟨b, off + j * 4 + 1, none⟩ = some (.int .i64 y.r.key) ∧ w'.cell? ⟨b, off + j * 4 + 2, none⟩ = some (.int .i64 y.r.val)) (ds := []) #[false, false, false, false, false, false, false, false, false, false, false, false, false, false, false, false, false, false, false, false, false, false, false, false, false, false, false, false, false, false, false, false, false, false, false] (by kernel_rfl) rfl rfl ⟨f0, f1, f2, f3, keep0 d0, keep0 d1, keep0 d2⟩ (fun hHeld => ?_)
                  refine pure_ (i := 0) (N := some 12) (v := ?_) (a' := ?_) #[true, false, false, false, false, false, false, false, false, false, false, false, false, false, false, false, false, false, false, false, false, false, false, false, false, false, false, false, false, false, false, false, false, false, false] rfl rfl (by kernel_rfl) (fun _ _ _ h => h) (Or.inl ⟨by rfl, ?_⟩) ?_ ?_
                  rotate_left
                  · intro w'
                    go_simp
                    with_reducible rfl
                  rotate_left
                  · simp only [Act.put, List.setIfInBounds_toArray, List.set_cons_zero, List.set_cons_succ]
                    rfl
                  refine take_ (i := 1) (N := some 13) (v := ?_) (a' := ?_) #[true, true, false, false, false, false, false, false, false, false, false, false, false, false, false, false, false, false, false, false, false, false, false, false, false, false, false, false, false, false, false, false, false, false, false] rfl rfl (by kernel_rfl) (fun _ _ _ h => h) (Or.inl ⟨by rfl, ?_⟩) hHeld ?_ ?_
                  rotate_left
                  · rintro w' ⟨s0, s1, s2, s3, s4, s5, s6⟩
                    go_simp
                    with_reducible rfl
                  rotate_left
                  · simp only [Act.put, List.setIfInBounds_toArray, List.set_cons_zero, List.set_cons_succ]
                    rfl
                  refine one_ (i := 2) (N := some 14) #[true, true, true, false, false, false, false, false, false, false, false, false, false, false, false, false, false, false, false, false, false, false, false, false, false, false, false, false, false, false, false, false, false, false, false] rfl rfl (by kernel_rfl) (by decide) (fun K hK => ?_)
                  refine goes_ Tryz.func69 (by kernel_rfl) rfl #[.agg #[.int .i64 x.r.at_, .int .i64 x.r.key, .int .i64 x.r.val]] (by rfl) rfl rfl (by (try simp only [List.map_toArray, List.map_cons, List.map_nil]); first | done | rfl) ?_
                  with_reducible refine (Rec_any x.r _).mono ?_
                  rintro e w1 ⟨rfl, hb1⟩
                  rw [HRC.out]
                  refine ⟨_, rfl, ?_⟩
                  have HB1 := Lib.hid hb1.drew_left
                  obtain ⟨f0, f1, f2, f3⟩ := box4 HB1.out
                  refine hK.out _ _ ⟨f0, f1, f2, f3, keep_cell HB1.out d0, keep_cell HB1.out d1, keep_cell HB1.out d2⟩ (fun hHeld => ?_)
                  clear hK K hb1
                  refine norm_ (a' := ?_) ?_ ?_
                  rotate_left
                  · show Act.put _ (some 14) _ = _
                    simp only [Act.put, List.setIfInBounds_toArray, List.set_cons_zero, List.set_cons_succ]
                    rfl
                  refine pure_ (i := 3) (N := some 15) (v := ?_) (a' := ?_) #[true, true, true, true, false, false, false, false, false, false, false, false, false, false, false, false, false, false, false, false, false, false, false, false, false, false, false, false, false, false, false, false, false, false, false] rfl rfl (by kernel_rfl) (fun _ _ _ h => h) (Or.inl ⟨by rfl, ?_⟩) ?_ ?_
                  rotate_left
                  · intro w'
                    go_simp
                    with_reducible rfl
                  rotate_left
                  · simp only [Act.put, List.setIfInBounds_toArray, List.set_cons_zero, List.set_cons_succ]
                    rfl
                  refine pure_ (i := 4) (N := some 16) (v := ?_) (a' := ?_) #[true, true, true, true, true, false, false, false, false, false, false, false, false, false, false, false, false, false, false, false, false, false, false, false, false, false, false, false, false, false, false, false, false, false, false] rfl rfl (by kernel_rfl) (fun _ _ _ h => h) (Or.inl ⟨by rfl, ?_⟩) ?_ ?_
                  rotate_left
                  · intro w'
                    go_simp
                    with_reducible rfl
                  rotate_left
                  · simp only [Act.put, List.setIfInBounds_toArray, List.set_cons_zero, List.set_cons_succ]
                    rfl
                  refine pure_ (i := 5) (N := some 17) (v := ?_) (a' := ?_) #[true, true, true, true, true, true, false, false, false, false, false, false, false, false, false, false, false, false, false, false, false, false, false, false, false, false, false, false, false, false, false, false, false, false, false] rfl rfl (by kernel_rfl) (fun _ _ _ h => h) (Or.inl ⟨by rfl, ?_⟩) ?_ ?_
                  rotate_left
                  · intro w'
                    go_simp
                    with_reducible rfl
                  rotate_left
                  · simp only [Act.put, List.setIfInBounds_toArray, List.set_cons_zero, List.set_cons_succ]
                    rfl
                  refine take_ (i := 6) (N := some 18) (v := ?_) (a' := ?_) #[true, true, true, true, true, true, true, false, false, false, false, false, false, false, false, false, false, false, false, false, false, false, false, false, false, false, false, false, false, false, false, false, false, false, false] rfl rfl (by kernel_rfl) (fun _ _ _ h => h) (Or.inl ⟨by rfl, ?_⟩) hHeld ?_ ?_
                  rotate_left
                  · rintro w' ⟨s0, s1, s2, s3, s4, s5, s6⟩
                    go_simp
                    with_reducible rfl
                  rotate_left
                  · simp only [Act.put, List.setIfInBounds_toArray, List.set_cons_zero, List.set_cons_succ]
                    rfl
                  refine pure_ (i := 7) (N := some 19) (v := ?_) (a' := ?_) #[true, true, true, true, true, true, true, true, false, false, false, false, false, false, false, false, false, false, false, false, false, false, false, false, false, false, false, false, false, false, false, false, false, false, false] rfl rfl (by kernel_rfl) (fun _ _ _ h => h) (Or.inl ⟨by rfl, ?_⟩) ?_ ?_
                  rotate_left
                  · intro w'
                    go_simp
                    with_reducible rfl
                  rotate_left
                  · simp only [Act.put, List.setIfInBounds_toArray, List.set_cons_zero, List.set_cons_succ]
                    rfl
                  refine pure_ (i := 8) (N := some 20) (v := ?_) (a' := ?_) #[true, true, true, true, true, true, true, true, true, false, false, false, false, false, false, false, false, false, false, false, false, false, false, false, false, false, false, false, false, false, false, false, false, false, false] rfl rfl (by kernel_rfl) (fun _ _ _ h => h) (Or.inl ⟨by rfl, ?_⟩) ?_ ?_
                  rotate_left
                  · intro w'
                    go_simp
                    with_reducible rfl
                  rotate_left
                  · simp only [Act.put, List.setIfInBounds_toArray, List.set_cons_zero, List.set_cons_succ]
                    rfl
                  refine pure_ (i := 9) (N := some 21) (v := ?_) (a' := ?_) #[true, true, true, true, true, true, true, true, true, true, false, false, false, false, false, false, false, false, false, false, false, false, false, false, false, false, false, false, false, false, false, false, false, false, false] rfl rfl (by kernel_rfl) (fun _ _ _ h => h) (Or.inl ⟨by rfl, ?_⟩) ?_ ?_
                  rotate_left
                  · intro w'
                    go_simp
                    with_reducible rfl
                  rotate_left
                  · simp only [Act.put, List.setIfInBounds_toArray, List.set_cons_zero, List.set_cons_succ]
                    rfl
                  refine pure_ (i := 10) (N := some 22) (v := ?_) (a' := ?_) #[true, true, true, true, true, true, true, true, true, true, true, false, false, false, false, false, false, false, false, false, false, false, false, false, false, false, false, false, false, false, false, false, false, false, false] rfl rfl (by kernel_rfl) (fun _ _ _ h => h) (Or.inl ⟨by rfl, ?_⟩) ?_ ?_
                  rotate_left
                  · intro w'
                    go_simp
                    with_reducible rfl
                  rotate_left
                  · simp only [Act.put, List.setIfInBounds_toArray, List.set_cons_zero, List.set_cons_succ]
                    rfl
                  refine take_ (i := 11) (N := some 23) (v := ?_) (a' := ?_) #[true, true, true, true, true, true, true, true, true, true, true, true, false, false, false, false, false, false, false, false, false, false, false, false, false, false, false, false, false, false, false, false, false, false, false] rfl rfl (by kernel_rfl) (fun _ _ _ h => h) (Or.inl ⟨by rfl, ?_⟩) hHeld ?_ ?_
                  rotate_left
                  · rintro w' ⟨s0, s1, s2, s3, s4, s5, s6⟩
                    go_simp
                    with_reducible rfl
                  rotate_left
                  · simp only [Act.put, List.setIfInBounds_toArray, List.set_cons_zero, List.set_cons_succ]
                    rfl
                  refine pure_ (i := 12) (N := some 24) (v := ?_) (a' := ?_) #[true, true, true, true, true, true, true, true, true, true, true, true, true, false, false, false, false, false, false, false, false, false, false, false, false, false, false, false, false, false, false, false, false, false, false] rfl rfl (by kernel_rfl) (fun _ _ _ h => h) (Or.inl ⟨by rfl, ?_⟩) ?_ ?_
                  rotate_left
                  · intro w'
                    go_simp
                    with_reducible rfl
                  rotate_left
                  · simp only [Act.put, List.setIfInBounds_toArray, List.set_cons_zero, List.set_cons_succ]
                    rfl
                  refine pure_ (i := 13) (N := some 25) (v := ?_) (a' := ?_) #[true, true, true, true, true, true, true, true, true, true, true, true, true, true, false, false, false, false, false, false, false, false, false, false, false, false, false, false, false, false, false, false, false, false, false] rfl rfl (by kernel_rfl) (fun _ _ _ h => h) (Or.inl ⟨by rfl, ?_⟩) ?_ ?_
                  rotate_left
                  · intro w'
                    go_simp
                    with_reducible rfl
                  rotate_left
                  · simp only [Act.put, List.setIfInBounds_toArray, List.set_cons_zero, List.set_cons_succ]
                    rfl
                  refine pure_ (i := 14) (N := some 26) (v := ?_) (a' := ?_) #[true, true, true, true, true, true, true, true, true, true, true, true, true, true, true, false, false, false, false, false, false, false, false, false, false, false, false, false, false, false, false, false, false, false, false] rfl rfl (by kernel_rfl) (fun _ _ _ h => h) (Or.inl ⟨by rfl, ?_⟩) ?_ ?_
                  rotate_left
                  · intro w'
                    go_simp
                    with_reducible rfl
                  rotate_left
                  · simp only [Act.put, List.setIfInBounds_toArray, List.set_cons_zero, List.set_cons_succ]
                    rfl
                  refine pure_ (i := 15) (N := some 27) (v := ?_) (a' := ?_) #[true, true, true, true, true, true, true, true, true, true, true, true, true, true, true, true, false, false, false, false, false, false, false, false, false, false, false, false, false, false, false, false, false, false, false] rfl rfl (by kernel_rfl) (fun _ _ _ h => h) (Or.inl ⟨by rfl, ?_⟩) ?_ ?_
                  rotate_left
                  · intro w'
                    go_simp
                    with_reducible rfl
                  rotate_left
                  · simp only [Act.put, List.setIfInBounds_toArray, List.set_cons_zero, List.set_cons_succ]
                    rfl
                  refine take_ (i := 16) (N := some 28) (v := ?_) (a' := ?_) #[true, true, true, true, true, true, true, true, true, true, true, true, true, true, true, true, true, false, false, false, false, false, false, false, false, false, false, false, false, false, false, false, false, false, false] rfl rfl (by kernel_rfl) (fun _ _ _ h => h) (Or.inl ⟨by rfl, ?_⟩) hHeld ?_ ?_
                  rotate_left
                  · rintro w' ⟨s0, s1, s2, s3, s4, s5, s6⟩
                    go_simp
                    with_reducible rfl
                  rotate_left
                  · simp only [Act.put, List.setIfInBounds_toArray, List.set_cons_zero, List.set_cons_succ]
                    rfl
                  refine pure_ (i := 17) (N := some 29) (v := ?_) (a' := ?_) #[true, true, true, true, true, true, true, true, true, true, true, true, true, true, true, true, true, true, false, false, false, false, false, false, false, false, false, false, false, false, false, false, false, false, false] rfl rfl (by kernel_rfl) (fun _ _ _ h => h) (Or.inl ⟨by rfl, ?_⟩) ?_ ?_
                  rotate_left
                  · intro w'
                    go_simp
                    with_reducible rfl
                  rotate_left
                  · simp only [Act.put, List.setIfInBounds_toArray, List.set_cons_zero, List.set_cons_succ]
                    rfl
                  refine pure_ (i := 18) (N := some 30) (v := ?_) (a' := ?_) #[true, true, true, true, true, true, true, true, true, true, true, true, true, true, true, true, true, true, true, false, false, false, false, false, false, false, false, false, false, false, false, false, false, false, false] rfl rfl (by kernel_rfl) (fun _ _ _ h => h) (Or.inl ⟨by rfl, ?_⟩) ?_ ?_
                  rotate_left
                  · intro w'
                    go_simp
                    with_reducible rfl
                  rotate_left
                  · simp only [Act.put, List.setIfInBounds_toArray, List.set_cons_zero, List.set_cons_succ]
                    rfl
                  refine pure_ (i := 19) (N := some 31) (v := ?_) (a' := ?_) #[true, true, true, true, true, true, true, true, true, true, true, true, true, true, true, true, true, true, true, true, false, false, false, false, false, false, false, false, false, false, false, false, false, false, false] rfl rfl (by kernel_rfl) (fun _ _ _ h => h) (Or.inl ⟨by rfl, ?_⟩) ?_ ?_
                  rotate_left
                  · intro w'
                    go_simp
                    with_reducible rfl
                  rotate_left
                  · simp only [Act.put, List.setIfInBounds_toArray, List.set_cons_zero, List.set_cons_succ]
                    rfl
                  refine pure_ (i := 20) (N := some 32) (v := ?_) (a' := ?_) #[true, true, true, true, true, true, true, true, true, true, true, true, true, true, true, true, true, true, true, true, true, false, false, false, false, false, false, false, false, false, false, false, false, false, false] rfl rfl (by kernel_rfl) (fun _ _ _ h => h) (Or.inl ⟨by rfl, ?_⟩) ?_ ?_
                  rotate_left
                  · intro w'
                    go_simp
                    with_reducible rfl
                  rotate_left
                  · simp only [Act.put, List.setIfInBounds_toArray, List.set_cons_zero, List.set_cons_succ]
                    rfl
                  refine pure_ (i := 21) (N := some 33) (v := ?_) (a' := ?_) #[true, true, true, true, true, true, true, true, true, true, true, true, true, true, true, true, true, true, true, true, true, true, false, false, false, false, false, false, false, false, false, false, false, false, false] rfl rfl (by kernel_rfl) (fun _ _ _ h => h) (Or.inl ⟨by rfl, ?_⟩) ?_ ?_
                  rotate_left
                  · intro w'
                    go_simp
                    with_reducible rfl
                  rotate_left
                  · simp only [Act.put, List.setIfInBounds_toArray, List.set_cons_zero, List.set_cons_succ]
                    rfl
                  refine pure_ (i := 22) (N := some 34) (v := ?_) (a' := ?_) #[true, true, true, true, true, true, true, true, true, true, true, true, true, true, true, true, true, true, true, true, true, true, true, false, false, false, false, false, false, false, false, false, false, false, false] rfl rfl (by kernel_rfl) (fun _ _ _ h => h) (Or.inl ⟨by rfl, ?_⟩) ?_ ?_
                  rotate_left
                  · intro w'
                    go_simp
                    with_reducible rfl
                  rotate_left
                  · simp only [Act.put, List.setIfInBounds_toArray, List.set_cons_zero, List.set_cons_succ]
                    rfl
                  refine pure_ (i := 23) (N := some 35) (v := ?_) (a' := ?_) #[true, true, true, true, true, true, true, true, true, true, true, true, true, true, true, true, true, true, true, true, true, true, true, true, false, false, false, false, false, false, false, false, false, false, false] rfl rfl (by kernel_rfl) (fun _ _ _ h => h) (Or.inl ⟨by rfl, ?_⟩) ?_ ?_
                  rotate_left
                  · intro w'
                    go_simp
                    with_reducible rfl
                  rotate_left
                  · simp only [Act.put, List.setIfInBounds_toArray, List.set_cons_zero, List.set_cons_succ]
                    rfl
                  refine pure_ (i := 24) (N := some 36) (v := ?_) (a' := ?_) #[true, true, true, true, true, true, true, true, true, true, true, true, true, true, true, true, true, true, true, true, true, true, true, true, true, false, false, false, false, false, false, false, false, false, false] rfl rfl (by kernel_rfl) (fun _ _ _ h => h) (Or.inl ⟨by rfl, ?_⟩) ?_ ?_
                  rotate_left
                  · intro w'
                    go_simp
                    with_reducible rfl
                  rotate_left
                  · simp only [Act.put, List.setIfInBounds_toArray, List.set_cons_zero, List.set_cons_succ]
                    rfl
                  refine pure_ (i := 25) (N := some 37) (v := ?_) (a' := ?_) #[true, true, true, true, true, true, true, true, true, true, true, true, true, true, true, true, true, true, true, true, true, true, true, true, true, true, false, false, false, false, false, false, false, false, false] rfl rfl (by kernel_rfl) (fun _ _ _ h => h) (Or.inl ⟨by rfl, ?_⟩) ?_ ?_
                  rotate_left
                  · intro w'
                    go_simp
                    with_reducible rfl
                  rotate_left
                  · simp only [Act.put, List.setIfInBounds_toArray, List.set_cons_zero, List.set_cons_succ]
                    rfl
                  refine pure_ (i := 26) (N := some 38) (v := ?_) (a' := ?_) #[true, true, true, true, true, true, true, true, true, true, true, true, true, true, true, true, true, true, true, true, true, true, true, true, true, true, true, false, false, false, false, false, false, false, false] rfl rfl (by kernel_rfl) (fun _ _ _ h => h) (Or.inl ⟨by rfl, ?_⟩) ?_ ?_
                  rotate_left
                  · intro w'
                    go_simp
                    with_reducible rfl
                  rotate_left
                  · simp only [Act.put, List.setIfInBounds_toArray, List.set_cons_zero, List.set_cons_succ]
                    rfl
                  refine pure_ (i := 27) (N := some 39) (v := ?_) (a' := ?_) #[true, true, true, true, true, true, true, true, true, true, true, true, true, true, true, true, true, true, true, true, true, true, true, true, true, true, true, true, false, false, false, false, false, false, false] rfl rfl (by kernel_rfl) (fun _ _ _ h => h) (Or.inl ⟨by rfl, ?_⟩) ?_ ?_
                  rotate_left
                  · intro w'
                    go_simp
                    with_reducible rfl
                  rotate_left
                  · simp only [Act.put, List.setIfInBounds_toArray, List.set_cons_zero, List.set_cons_succ]
                    rfl
                  refine take_ (i := 28) (N := some 40) (v := ?_) (a' := ?_) #[true, true, true, true, true, true, true, true, true, true, true, true, true, true, true, true, true, true, true, true, true, true, true, true, true, true, true, true, true, false, false, false, false, false, false] rfl rfl (by kernel_rfl) (fun _ _ _ h => h) (Or.inl ⟨by rfl, ?_⟩) hHeld ?_ ?_
                  rotate_left
                  · rintro w' ⟨s0, s1, s2, s3, s4, s5, s6⟩
                    go_simp
                    with_reducible rfl
                  rotate_left
                  · simp only [Act.put, List.setIfInBounds_toArray, List.set_cons_zero, List.set_cons_succ]
                    rfl
                  refine pure_ (i := 29) (N := some 41) (v := ?_) (a' := ?_) #[true, true, true, true, true, true, true, true, true, true, true, true, true, true, true, true, true, true, true, true, true, true, true, true, true, true, true, true, true, true, false, false, false, false, false] rfl rfl (by kernel_rfl) (fun _ _ _ h => h) (Or.inl ⟨by rfl, ?_⟩) ?_ ?_
                  rotate_left
                  · intro w'
                    go_simp
                    with_reducible rfl
                  rotate_left
                  · simp only [Act.put, List.setIfInBounds_toArray, List.set_cons_zero, List.set_cons_succ]
                    rfl
                  refine take_ (i := 30) (N := some 42) (v := ?_) (a' := ?_) #[true, true, true, true, true, true, true, true, true, true, true, true, true, true, true, true, true, true, true, true, true, true, true, true, true, true, true, true, true, true, true, false, false, false, false] rfl rfl (by kernel_rfl) (fun _ _ _ h => h) (Or.inl ⟨by rfl, ?_⟩) hHeld ?_ ?_
                  rotate_left
                  · rintro w' ⟨s0, s1, s2, s3, s4, s5, s6⟩
                    go_simp
                    with_reducible rfl
                  rotate_left
                  · simp only [Act.put, List.setIfInBounds_toArray, List.set_cons_zero, List.set_cons_succ]
                    rfl
                  refine one_ (i := 31) (N := some 43) #[true, true, true, true, true, true, true, true, true, true, true, true, true, true, true, true, true, true, true, true, true, true, true, true, true, true, true, true, true, true, true, true, false, false, false] rfl rfl (by kernel_rfl) (by decide) (fun K hK => ?_)
                  refine goes_ Tryz.func95 (by kernel_rfl) rfl #[.agg #[.int .i64 y.r.at_, .int .i64 y.r.key, .int .i64 y.r.val], .agg #[.int .i64 x.r.at_, .int .i64 x.r.key, .int .i64 x.r.val]] (by rfl) rfl rfl (by (try simp only [List.map_toArray, List.map_cons, List.map_nil]); first | done | rfl) ?_
                  with_reducible refine (Less_any y.r x.r _).mono ?_
                  rintro e w2 ⟨rfl, hb2⟩
                  rw [HLS.out]
                  refine ⟨_, rfl, ?_⟩
                  have HB2 := Lib.hid hb2
                  have kk : ∀ b o v, w1.cell? ⟨b, o, none⟩ = some v → w2.cell? ⟨b, o, none⟩ = some v := fun b o v h => (hb2.cell (World.block_lt_of_cell? w1 _ h)).trans h
                  obtain ⟨s0, s1, s2, s3, s4, s5, s6⟩ := hHeld
                  refine hK.out _ _ ⟨kk _ _ _ s0, kk _ _ _ s1, kk _ _ _ s2, kk _ _ _ s3, kk _ _ _ s4, kk _ _ _ s5, kk _ _ _ s6⟩ (fun hHeld => ?_)
                  clear hK K hb2 kk
                  refine norm_ (a' := ?_) ?_ ?_
                  rotate_left
                  · show Act.put _ (some 43) _ = _
                    simp only [Act.put, List.setIfInBounds_toArray, List.set_cons_zero, List.set_cons_succ]
                    rfl
                  refine pure_ (i := 32) (N := some 44) (v := ?_) (a' := ?_) #[true, true, true, true, true, true, true, true, true, true, true, true, true, true, true, true, true, true, true, true, true, true, true, true, true, true, true, true, true, true, true, true, true, false, false] rfl rfl (by kernel_rfl) (fun _ _ _ h => h) (Or.inl ⟨by rfl, ?_⟩) ?_ ?_
                  rotate_left
                  · intro w'
                    go_simp
                    with_reducible rfl
                  rotate_left
                  · simp only [Act.put, List.setIfInBounds_toArray, List.set_cons_zero, List.set_cons_succ]
                    rfl
                  refine pure_ (i := 33) (N := some 45) (v := ?_) (a' := ?_) #[true, true, true, true, true, true, true, true, true, true, true, true, true, true, true, true, true, true, true, true, true, true, true, true, true, true, true, true, true, true, true, true, true, true, false] rfl rfl (by kernel_rfl) (fun _ _ _ h => h) (Or.inl ⟨by rfl, ?_⟩) ?_ ?_
                  rotate_left
                  · intro w'
                    go_simp
                    with_reducible rfl
                  rotate_left
                  · simp only [Act.put, List.setIfInBounds_toArray, List.set_cons_zero, List.set_cons_succ]
                    rfl
                  refine pure_ (i := 34) (N := some 46) (v := ?_) (a' := ?_) #[true, true, true, true, true, true, true, true, true, true, true, true, true, true, true, true, true, true, true, true, true, true, true, true, true, true, true, true, true, true, true, true, true, true, true] rfl rfl (by kernel_rfl) (fun _ _ _ h => h) (Or.inl ⟨by rfl, ?_⟩) ?_ ?_
                  rotate_left
                  · intro w'
                    go_simp
                    with_reducible rfl
                  rotate_left
                  · simp only [Act.put, List.setIfInBounds_toArray, List.set_cons_zero, List.set_cons_succ]
                    rfl
                  refine done_ (by kernel_rfl) ?_
                  clear hw hw0 hw1 hw2 hHeld
                  go_wp2_with fail
                  go_ret
                  refine ⟨ret_bool ?_, (below_box HB.out HB.out.size HB1.out).trans (HB2.out.mono (by have := HB.out.size; have := HB1.out.size; simp at this; omega))⟩
                  have : stepB l (j + 1) = false := by simp [stepB, HX.out, HY.out, HCMP.out]
                  rw [bagB_false this HR.out.len hlt]
    · have hk' : k = n := by omega
      subst hk'
      clear hRk hlt
      go_wp2
      go_ret
      exact ⟨ret_bool (by rw [bagB_true HT.out HR.out.len]; simp; omega), HB.out⟩

def longR (l : List It) : List It × Int := if bagB l then (l, 0) else ([], 3)
theorem long_any (A : Option Addr) (n cap : Nat) (l : List It) (w : World) (hR : Rd It.vs 4 w 0 A n l) :
    Calls Tryz.prog 51 #[.slice A n cap] w fun e w' => (∃ A' n' cap', e = .returned (.tuple #[.slice A' n' cap', .int .i64 (longR l).2]) ∧ Rd It.vs 4 w' 0 A' n' (longR l).1) ∧ Below w.heap.size w w' := by
  have HG := Lib.hid (Good_any A n cap l w hR)
  have HR := Lib.hid hR
  clear hR
  cases hg : bagB l with
  | true =>
    have e1 : longR l = (l, 0) := by simp [longR, hg]
    rw [e1]
    have HGB := Lib.hid hg
    clear hg e1
    go_enter Tryz.func51, Tryz.ntmps51
    go_wp2_with (go_at_call 44; (with_reducible refine HG.out.mono ?_); rintro e w1 ⟨rfl, hb⟩; rw [HGB.out]; have HB := Lib.hid hb; clear hb)
    go_ret2
    exact ⟨⟨_, _, _, rfl, HR.out.below HB.out⟩, HB.out⟩
  | false =>
    have e1 : longR l = ([], 3) := by simp [longR, hg]
    rw [e1]
    have HGB := Lib.hid hg
    clear hg e1
    go_enter Tryz.func51, Tryz.ntmps51
    go_wp2_with (go_at_call 44; (with_reducible refine HG.out.mono ?_); rintro e w1 ⟨rfl, hb⟩; rw [HGB.out]; have HB := Lib.hid hb; clear hb)
    go_ret2
    exact ⟨⟨_, _, _, rfl, Rd.nil _ _ _⟩, HB.out⟩
end Go.Proofs.Bg
end

section
/- The reference: number, integer, BytesOf, Bytes. -/
namespace Go.Proofs.Bg
open Go.RowKit

set_option maxRecDepth 100000 in
set_option maxHeartbeats 1000000 in
theorem rnumber_any (base : Nat) (v : Value) (L : List Int) (n : Int) (w : World) (h : Own bv 1 5 base w v L) (hb : base ≤ w.heap.size) (h0 : 0 ≤ n) (h1 : n < 4611686018427387904) (hl : L.length ≤ 70368744177664) :
    Calls Tryz.prog 112 #[v, .int .i64 n] w fun e w' => ∃ v', e = .returned v' ∧ Own bv 1 5 base w' v' (L ++ numB n) ∧ w.grownBy w' v.ownBlock ∧ Loc w v v' := by
  have hr0 : NumRel base w v L n v n 9 w := ⟨L, h, rfl, h0, by simp [lim]; omega, World.grownBy.refl _ _, Loc.refl _ _⟩
  have HR0 := Lib.hid hr0
  clear h hr0
  go_enter Tryz.func112, Tryz.ntmps112
  go_wp2_with fail
  go_loopw [0, 1] (fun v' i wr => ∃ (m : Int) (f : Nat), i = .int .i64 m ∧ m < 4611686018427387904 ∧ NumRel base w v L n v' m f wr) (fun _ i _ => (intOf i).toNat)
  case atStart => exact ⟨n, 9, rfl, h1, HR0.out⟩
  case round =>
    clear HR0
    obtain ⟨m, f, rfl, hm2, L', hown, he, hm0, hml, hg, hloc⟩ := hrel
    have hll : L'.length ≤ L.length + 10 := by
      have e1 := congrArg List.length he
      have e2 := numB_length n
      simp only [List.length_append] at e1
      omega
    have hsz := hg.size
    have HG := Lib.hid hg
    have HE := Lib.hid he
    have HL := Lib.hid hloc
    clear hg he hloc
    obtain ⟨A, cap, rfl⟩ := hown.shape
    by_cases hbig : 128 ≤ m
    · have hr1 : 0 ≤ m % 128 := by omega
      have hr2 : m % 128 < 128 := by omega
      go_wp2_with (at_builtin; refine wpList_app1 bv 1 5 _ 1 infoU8 rfl (by decide) rfl _ _ _ rfl Tryz.underlying59 base _ L' rfl (hown.alloc _) (m % 128 + 128) _ _ rfl rfl (newAt _ _ _ _ (by simp)) (by simp [bv, Value.oneCell']) (by omega) (by unfold maxLen; omega) (by simp; omega) (fun v4 w4 hown4 hg4 hloc4 => ?_))
      have hf : ∃ f', f = f' + 1 := by
        cases f with
        | zero => simp [lim] at hml; omega
        | succ f' => exact ⟨f', rfl⟩
      obtain ⟨f', rfl⟩ := hf
      have hd : m / 128 < m := by omega
      refine ⟨⟨m / 128, f', rfl, by omega, L' ++ [m % 128 + 128], hown4, ?_, by omega, by simp only [lim] at hml; omega, Loc.grown HG.out HL.out ((World.grownBy_alloc wr _ _).andThen hg4 (fun j e => .inr e)), HL.out.step (w1 := wr.alloc _) (by simp; omega) hloc4⟩, by simp [intOf]; omega⟩
      rw [← HE.out, numF, if_neg (by omega)]
      simp
    · have hm3 : m < 128 := by omega
      go_wp2_with (at_builtin; refine wpList_app1 bv 1 5 _ 1 infoU8 rfl (by decide) rfl _ _ _ rfl Tryz.underlying59 base _ L' rfl (hown.alloc _) m _ _ rfl rfl (newAt _ _ _ _ (by simp)) (by simp [bv, Value.oneCell']) (by omega) (by unfold maxLen; omega) (by simp; omega) (fun v4 w4 hown4 hg4 hloc4 => ?_))
      obtain ⟨A4, cap4, rfl⟩ := hown4.shape
      go_ret
      have hn : numF f m = [m] := by cases f <;> simp [numF, hm3]
      refine ⟨_, rfl, by rw [← HE.out, hn]; exact hown4, Loc.grown HG.out HL.out ((World.grownBy_alloc wr _ _).andThen hg4 (fun j e => .inr e)), HL.out.step (w1 := wr.alloc _) (by simp; omega) hloc4⟩

theorem rsigned_any (base : Nat) (v : Value) (L : List Int) (n : Int) (w : World) (h : Own bv 1 5 base w v L) (hb : base ≤ w.heap.size) (h0 : -1000000000000 ≤ n) (h1 : n ≤ 1000000000000) (hl : L.length ≤ 70368744177664) :
    Calls Tryz.prog 113 #[v, .int .i64 n] w fun e w' => ∃ v', e = .returned v' ∧ Own bv 1 5 base w' v' (L ++ intB n) ∧ w.grownBy w' v.ownBlock ∧ Loc w v v' := by
  obtain ⟨A, cap, rfl⟩ := h.shape
  by_cases hn : n < 0
  · have HN := Lib.hid (rnumber_any base _ L (-2 * n - 1) w h hb (by omega) (by omega) hl)
    have e1 : intB n = numB (-2 * n - 1) := by rw [intB, if_pos hn]
    rw [e1]
    clear e1
    go_enter Tryz.func113, Tryz.ntmps113
    go_wp2_with fail
    refine HN.out.mono ?_
    rintro e w' ⟨v', rfl, hown, hg, hloc⟩
    have HO := Lib.hid hown
    have HG := Lib.hid hg
    have HL := Lib.hid hloc
    clear hown hg hloc
    go_wp2_with fail
    go_ret
    exact ⟨_, rfl, HO.out, HG.out, HL.out⟩
  · have HN := Lib.hid (rnumber_any base _ L (2 * n) w h hb (by omega) (by omega) hl)
    have e1 : intB n = numB (2 * n) := by rw [intB, if_neg hn]
    rw [e1]
    clear e1
    go_enter Tryz.func113, Tryz.ntmps113
    go_wp2_with fail
    refine HN.out.mono ?_
    rintro e w' ⟨v', rfl, hown, hg, hloc⟩
    have HO := Lib.hid hown
    have HG := Lib.hid hg
    have HL := Lib.hid hloc
    clear hown hg hloc
    go_wp2_with fail
    go_ret
    exact ⟨_, rfl, HO.out, HG.out, HL.out⟩

/-- What a round of BytesOf holds between two calls. -/
structure RSt (base bx br : Nat) (w0 : World) (cx cr : Array Value) (w : World) (v : Value) (L : List Int) : Prop where
  own : Own bv 1 5 base w v L
  nx : v.ownBlock ≠ some bx
  nr : v.ownBlock ≠ some br
  hx : w.heap[bx]? = some (.cells cx 40)
  hr : w.heap[br]? = some (.cells cr 38)
  below : Below w0.heap.size w0 w
  lob : base ≤ w.heap.size
  lo0 : w0.heap.size ≤ base
theorem rst0 {base : Nat} {w0 wr : World} {a b c d a' b' c' : Value} {v : Value} {L : List Int} (ho : Own bv 1 5 base wr v L) (hB : Below w0.heap.size w0 wr) (hlo : base ≤ wr.heap.size) (hlo0 : w0.heap.size ≤ base) :
    RSt base wr.heap.size (wr.heap.size + 1) w0 #[a, b, c, d] #[a', b', c'] ((wr.alloc (.cells #[a, b, c, d] 40)).alloc (.cells #[a', b', c'] 38)) v L where
  own := (ho.alloc _).alloc _
  nx := fun e => by have := (ho.blk _ e).2; omega
  nr := fun e => by have := (ho.blk _ e).2; omega
  hx := by
    rw [Below.heap_alloc _ _ _ (by simp)]
    exact new_block _ _ _
  hr := by
    have := new_block (wr.alloc (.cells #[a, b, c, d] 40)) #[a', b', c'] 38
    simpa using this
  below := (hB.alloc hB.size _).alloc (by have := hB.size; simp; omega) _
  lob := by simp; omega
  lo0 := hlo0
theorem RSt.step {base bx br : Nat} {w0 : World} {cx cr : Array Value} {w w' : World} {v v' : Value} {L L' : List Int} (h : RSt base bx br w0 cx cr w v L) (hown : Own bv 1 5 base w' v' L') (hg : w.grownBy w' v.ownBlock) (hloc : Loc w v v') : RSt base bx br w0 cx cr w' v' L' where
  own := hown
  nx := hloc.ne (Array.getElem?_eq_some_iff.1 h.hx).1 h.nx
  nr := hloc.ne (Array.getElem?_eq_some_iff.1 h.hr).1 h.nr
  hx := (hg.block bx (Array.getElem?_eq_some_iff.1 h.hx).1 (fun e => h.nx e.symm)).trans h.hx
  hr := (hg.block br (Array.getElem?_eq_some_iff.1 h.hr).1 (fun e => h.nr e.symm)).trans h.hr
  below := h.below.grown hg h.below.size (fun k hk => Nat.le_trans h.lo0 (h.own.blk k hk).1)
  lob := Nat.le_trans h.lob hg.size
  lo0 := h.lo0
/-- What the loop holds at its head. -/
def RRel (base : Nat) (w0 : World) (l : List It) (k : Nat) (v : Value) (wr : World) : Prop :=
  Own bv 1 5 base wr v (numB l.length ++ encTo l k) ∧ Below w0.heap.size w0 wr ∧ base ≤ wr.heap.size ∧ w0.heap.size ≤ base

set_option maxRecDepth 100000 in
set_option maxHeartbeats 4000000 in
theorem BytesOf_any (A : Option Addr) (n cap : Nat) (l : List It) (w : World) (hA : Rd It.vs 4 w 0 A n l) (ga : bagB l = true) :
    Calls Tryz.prog 88 #[.slice A n cap] w fun e w' => ∃ A' cap', e = .returned (.slice A' (bytesOf l).length cap') ∧ Rd bv 1 w' w.heap.size A' (bytesOf l).length (bytesOf l) ∧ Below w.heap.size w w' := by
  have HA := Lib.hid hA
  have HLL : Hid (l.length = n) := hA.len
  have HS := Lib.hid ((bagB_spec l).1 ga)
  have hn300 : n ≤ 300 := by have := HS.out.2.2; have := HA.out.len; omega
  have HN0 := Lib.hid (rnumber_any w.heap.size (.slice none 0 0) [] n w (Own.nil _ _ _ _ _) (Nat.le_refl _) (by omega) (by omega) (by simp))
  clear hA ga
  go_enter Tryz.func88, Tryz.ntmps88
  go_wp2_with fail
  (with_reducible refine HN0.out.mono ?_)
  rintro e w2 ⟨v2, rfl, hown2, hg2, hloc2⟩
  rw [List.nil_append] at hown2
  have hsz2 := hg2.size
  have hb2 : Below w.heap.size w w2 := (Below.refl _ _).grown hg2 (Nat.le_refl _) (by simp [Value.ownBlock])
  have hst : RRel w.heap.size w l 0 v2 w2 := ⟨by rw [HLL.out]; simpa [encTo] using hown2, hb2, hsz2, Nat.le_refl _⟩
  have HST := Lib.hid hst
  clear hst hown2 hg2 hloc2 hb2 HN0 hsz2
  go_wp2_with fail
  go_loopw [3, 4, 5, 6, 7, 8, 14] (fun v _ _ _ _ _ i wr => ∃ k : Nat, k ≤ n ∧ i = .int .i64 k ∧ RRel w.heap.size w l k v wr) (fun _ _ _ _ _ _ i _ => n - (intOf i).toNat)
  case atStart => exact ⟨0, by omega, rfl, HST.out⟩
  case round =>
    clear HST
    obtain ⟨k, hk, rfl, hown, hB, hlo, hlo0⟩ := hrel
    have hRk := HA.out.below hB
    have HO := Lib.hid hown
    have HB := Lib.hid hB
    clear hown hB
    by_cases hlt : k < n
    · obtain ⟨b, off, x, rfl, _, hx, c0, c1, c2, c3⟩ := hRk.it_at hlt
      have HX := Lib.hid hx
      have HXI := Lib.hid ((itB_spec x).1 (HS.out.1 x (List.mem_of_getElem? hx)))
      have hbl := bef_le HS.out.2.1 HS.out.1 hx
      have henc : encTo l (k + 1) = encTo l k ++ encOne (sameB l k x) (befR l k) x := by rw [encTo_succ, encAt, hx]
      have HEN := Lib.hid henc
      have hll3 := encTo_length l k
      have hll4 := numB_length l.length
      have hsm : sameB l k x = (decide (0 < k) && (x.r.at_ == (befR l k).at_)) := rfl
      obtain ⟨L, hL⟩ : ∃ L, numB l.length ++ encTo l k = L := ⟨_, rfl⟩
      have hLl : L.length ≤ 12010 := by rw [← hL, List.length_append]; omega
      have HLE := Lib.hid hL
      have ho := HO.out
      rw [hL] at ho
      clear hx henc hll3 hll4 hL HO
      obtain ⟨⟨x1, x2, x3, x4, x5, x6⟩, _, x8, x9⟩ := HXI.out
      obtain ⟨b1, b2, b3, b4, b5, b6, b7⟩ := hbl
      have HSL := Lib.hid b3
      clear b3
      cases k with
      | zero =>
        have hs : sameB l 0 x = false := by rw [hsm]; simp
        have HSM := Lib.hid hs
        clear hs hsm hRk
        simp only [befR, zeroRc] at b1 b2 b4 b5 b6 b7
        simp only [Nat.zero_mul, Nat.add_zero] at c0 c1 c2 c3
        have q1 := numB_length (x.r.at_)
        have q2 := intB_length x.r.key
        have q3 := intB_length x.r.val
        have st0 : RSt w.heap.size wr.heap.size (wr.heap.size + 1) w #[.int .i64 x.r.at_, .int .i64 x.r.key, .int .i64 x.r.val, .int .i64 x.n] #[.int .i64 0, .int .i64 0, .int .i64 0] ((wr.alloc (.cells #[.int .i64 x.r.at_, .int .i64 x.r.key, .int .i64 x.r.val, .int .i64 x.n] 40)).alloc (.cells #[.int .i64 0, .int .i64 0, .int .i64 0] 38)) u3 L := rst0 ho HB.out hlo hlo0
        clear ho
        have C1 := Lib.hid (rnumber_any w.heap.size _ (L) (x.r.at_) _ st0.own st0.lob (by omega) (by omega) (by first | omega | (simp only [List.length_append]; omega)))
        have ST0 := Lib.hid st0
        clear st0
        go_wp2_with fail
        (with_reducible refine C1.out.mono ?_)
        rintro e y1 ⟨v3, rfl, hown, hg, hloc⟩
        have st1 := ST0.out.step hown hg hloc
        clear hown hg hloc C1 c0 c1 c2 c3
        have fx0 := cell_at_block (off := 0) st1.hx rfl
        have fx1 := cell_at_block (off := 1) st1.hx rfl
        have fx2 := cell_at_block (off := 2) st1.hx rfl
        have fx3 := cell_at_block (off := 3) st1.hx rfl
        have fr0 := cell_at_block (off := 0) st1.hr rfl
        have fr1 := cell_at_block (off := 1) st1.hr rfl
        have fr2 := cell_at_block (off := 2) st1.hr rfl
        have C2 := Lib.hid (rsigned_any w.heap.size _ (L ++ numB (x.r.at_)) (x.r.key) _ st1.own st1.lob (by omega) (by omega) (by first | omega | (simp only [List.length_append]; omega)))
        have ST1 := Lib.hid st1
        clear st1
        go_wp2_with fail
        (with_reducible refine C2.out.mono ?_)
        rintro e y2 ⟨v4, rfl, hown, hg, hloc⟩
        have st2 := ST1.out.step hown hg hloc
        clear hown hg hloc C2 fx0 fx1 fx2 fx3 fr0 fr1 fr2
        have fx0 := cell_at_block (off := 0) st2.hx rfl
        have fx1 := cell_at_block (off := 1) st2.hx rfl
        have fx2 := cell_at_block (off := 2) st2.hx rfl
        have fx3 := cell_at_block (off := 3) st2.hx rfl
        have fr0 := cell_at_block (off := 0) st2.hr rfl
        have fr1 := cell_at_block (off := 1) st2.hr rfl
        have fr2 := cell_at_block (off := 2) st2.hr rfl
        have C3 := Lib.hid (rsigned_any w.heap.size _ ((L ++ numB (x.r.at_)) ++ intB x.r.key) (x.r.val) _ st2.own st2.lob (by omega) (by omega) (by first | omega | (simp only [List.length_append]; omega)))
        have ST2 := Lib.hid st2
        clear st2
        go_wp2_with fail
        (with_reducible refine C3.out.mono ?_)
        rintro e y3 ⟨v5, rfl, hown, hg, hloc⟩
        have st3 := ST2.out.step hown hg hloc
        clear hown hg hloc C3 fx0 fx1 fx2 fx3 fr0 fr1 fr2
        have fx0 := cell_at_block (off := 0) st3.hx rfl
        have fx1 := cell_at_block (off := 1) st3.hx rfl
        have fx2 := cell_at_block (off := 2) st3.hx rfl
        have fx3 := cell_at_block (off := 3) st3.hx rfl
        have fr0 := cell_at_block (off := 0) st3.hr rfl
        have fr1 := cell_at_block (off := 1) st3.hr rfl
        have fr2 := cell_at_block (off := 2) st3.hr rfl
        have C4 := Lib.hid (rsigned_any w.heap.size _ (((L ++ numB (x.r.at_)) ++ intB x.r.key) ++ intB x.r.val) (x.n) _ st3.own st3.lob (by omega) (by omega) (by first | omega | (simp only [List.length_append]; omega)))
        have ST3 := Lib.hid st3
        clear st3
        go_wp2_with fail
        (with_reducible refine C4.out.mono ?_)
        rintro e y4 ⟨v6, rfl, hown, hg, hloc⟩
        have st4 := ST3.out.step hown hg hloc
        clear hown hg hloc C4 fx0 fx1 fx2 fx3 fr0 fr1 fr2
        have fx0 := cell_at_block (off := 0) st4.hx rfl
        have fx1 := cell_at_block (off := 1) st4.hx rfl
        have fx2 := cell_at_block (off := 2) st4.hx rfl
        have fx3 := cell_at_block (off := 3) st4.hx rfl
        have fr0 := cell_at_block (off := 0) st4.hr rfl
        have fr1 := cell_at_block (off := 1) st4.hr rfl
        have fr2 := cell_at_block (off := 2) st4.hr rfl
        have ST4 := Lib.hid st4
        clear st4
        go_wp2_with fail
        refine ⟨⟨0 + 1, by omega, by go_num, ?_, ST4.out.below, ST4.out.lob, hlo0⟩, by simp [intOf]; omega⟩
        have e5 : numB l.length ++ encTo l (0 + 1) = (((L ++ numB (x.r.at_)) ++ intB x.r.key) ++ intB x.r.val) ++ intB x.n := by
          rw [HEN.out, ← List.append_assoc, HLE.out, HSM.out]
          simp [encOne, keyB, valB, befR, zeroRc]
        rw [e5]
        exact ST4.out.own
      | succ j =>
        have hB2 : Below wr.heap.size wr ((wr.alloc (.cells #[.int .i64 x.r.at_, .int .i64 x.r.key, .int .i64 x.r.val, .int .i64 x.n] 40)).alloc (.cells #[.int .i64 0, .int .i64 0, .int .i64 0] 38)) := ((Below.refl _ _).alloc (Nat.le_refl _) _).alloc (by simp) _
        obtain ⟨b', off', y, hbb, _, hy, d0, d1, d2, d3⟩ := (hRk.below hB2).it_at (show j < n by omega)
        cases hbb
        have hbf : befR l (j + 1) = y.r := by simp only [befR, hy]
        have HBF := Lib.hid hbf
        rw [hbf] at hsm b1 b2 b4 b5 b6 b7
        have hw : IntKind.i64.wrap (j : Int) = j := IntWalk.i64_in _ (by omega)
        have hw0 : (0 : Int) ≤ j := by omega
        have hw1 : (j : Int) < n := by omega
        have hw2 : (j : Int).toNat = j := by omega
        have hg0 : decide ((0 : Int) < ((j + 1 : Nat) : Int)) = true := decide_eq_true (by omega)
        have HYI := Lib.hid ((itB_spec y).1 (HS.out.1 y (List.mem_of_getElem? hy)))
        clear hy hbf hRk hB2
        cases hat : (y.r.at_ == x.r.at_) with
        | true =>
          have hat2 : (x.r.at_ == y.r.at_) = true := by rw [beq_iff_eq.1 hat]; simp
          have hs : sameB l (j + 1) x = true := by rw [hsm, hat2]; simp
          have HSM := Lib.hid hs
          obtain ⟨b8, b9⟩ := HSL.out hs
          rw [HBF.out] at b8 b9
          have HB9 := Lib.hid b9
          clear hs hsm b9 hat2
          cases hke : (y.r.key == x.r.key) with
          | true =>
            have HKE : Hid ((x.r.key == y.r.key) = true) := by show _ = _; rw [beq_iff_eq.1 hke]; simp
            have b10 := HB9.out (beq_iff_eq.1 hke)
            have q1 := numB_length (x.r.at_ - y.r.at_)
            have q2 := numB_length (x.r.key - y.r.key)
            have q3 := numB_length (x.r.val - y.r.val)
            have st0 : RSt w.heap.size wr.heap.size (wr.heap.size + 1) w #[.int .i64 x.r.at_, .int .i64 x.r.key, .int .i64 x.r.val, .int .i64 x.n] #[.int .i64 y.r.at_, .int .i64 y.r.key, .int .i64 y.r.val] ((wr.alloc (.cells #[.int .i64 x.r.at_, .int .i64 x.r.key, .int .i64 x.r.val, .int .i64 x.n] 40)).alloc (.cells #[.int .i64 y.r.at_, .int .i64 y.r.key, .int .i64 y.r.val] 38)) u3 L := rst0 ho HB.out hlo hlo0
            clear ho
            have C1 := Lib.hid (rnumber_any w.heap.size _ (L) (x.r.at_ - y.r.at_) _ st0.own st0.lob (by omega) (by omega) (by first | omega | (simp only [List.length_append]; omega)))
            have ST0 := Lib.hid st0
            clear st0
            go_wp2_with fail
            (with_reducible refine C1.out.mono ?_)
            rintro e y1 ⟨v3, rfl, hown, hg, hloc⟩
            have st1 := ST0.out.step hown hg hloc
            clear hown hg hloc C1 c0 c1 c2 c3 d0 d1 d2 d3
            have fx0 := cell_at_block (off := 0) st1.hx rfl
            have fx1 := cell_at_block (off := 1) st1.hx rfl
            have fx2 := cell_at_block (off := 2) st1.hx rfl
            have fx3 := cell_at_block (off := 3) st1.hx rfl
            have fr0 := cell_at_block (off := 0) st1.hr rfl
            have fr1 := cell_at_block (off := 1) st1.hr rfl
            have fr2 := cell_at_block (off := 2) st1.hr rfl
            have C2 := Lib.hid (rnumber_any w.heap.size _ (L ++ numB (x.r.at_ - y.r.at_)) (x.r.key - y.r.key) _ st1.own st1.lob (by omega) (by omega) (by first | omega | (simp only [List.length_append]; omega)))
            have ST1 := Lib.hid st1
            clear st1
            go_wp2_with fail
            (with_reducible refine C2.out.mono ?_)
            rintro e y2 ⟨v4, rfl, hown, hg, hloc⟩
            have st2 := ST1.out.step hown hg hloc
            clear hown hg hloc C2 fx0 fx1 fx2 fx3 fr0 fr1 fr2
            have fx0 := cell_at_block (off := 0) st2.hx rfl
            have fx1 := cell_at_block (off := 1) st2.hx rfl
            have fx2 := cell_at_block (off := 2) st2.hx rfl
            have fx3 := cell_at_block (off := 3) st2.hx rfl
            have fr0 := cell_at_block (off := 0) st2.hr rfl
            have fr1 := cell_at_block (off := 1) st2.hr rfl
            have fr2 := cell_at_block (off := 2) st2.hr rfl
            have C3 := Lib.hid (rnumber_any w.heap.size _ ((L ++ numB (x.r.at_ - y.r.at_)) ++ numB (x.r.key - y.r.key)) (x.r.val - y.r.val) _ st2.own st2.lob (by omega) (by omega) (by first | omega | (simp only [List.length_append]; omega)))
            have ST2 := Lib.hid st2
            clear st2
            go_wp2_with fail
            (with_reducible refine C3.out.mono ?_)
            rintro e y3 ⟨v5, rfl, hown, hg, hloc⟩
            have st3 := ST2.out.step hown hg hloc
            clear hown hg hloc C3 fx0 fx1 fx2 fx3 fr0 fr1 fr2
            have fx0 := cell_at_block (off := 0) st3.hx rfl
            have fx1 := cell_at_block (off := 1) st3.hx rfl
            have fx2 := cell_at_block (off := 2) st3.hx rfl
            have fx3 := cell_at_block (off := 3) st3.hx rfl
            have fr0 := cell_at_block (off := 0) st3.hr rfl
            have fr1 := cell_at_block (off := 1) st3.hr rfl
            have fr2 := cell_at_block (off := 2) st3.hr rfl
            have C4 := Lib.hid (rsigned_any w.heap.size _ (((L ++ numB (x.r.at_ - y.r.at_)) ++ numB (x.r.key - y.r.key)) ++ numB (x.r.val - y.r.val)) (x.n) _ st3.own st3.lob (by omega) (by omega) (by first | omega | (simp only [List.length_append]; omega)))
            have ST3 := Lib.hid st3
            clear st3
            go_wp2_with fail
            (with_reducible refine C4.out.mono ?_)
            rintro e y4 ⟨v6, rfl, hown, hg, hloc⟩
            have st4 := ST3.out.step hown hg hloc
            clear hown hg hloc C4 fx0 fx1 fx2 fx3 fr0 fr1 fr2
            have fx0 := cell_at_block (off := 0) st4.hx rfl
            have fx1 := cell_at_block (off := 1) st4.hx rfl
            have fx2 := cell_at_block (off := 2) st4.hx rfl
            have fx3 := cell_at_block (off := 3) st4.hx rfl
            have fr0 := cell_at_block (off := 0) st4.hr rfl
            have fr1 := cell_at_block (off := 1) st4.hr rfl
            have fr2 := cell_at_block (off := 2) st4.hr rfl
            have ST4 := Lib.hid st4
            clear st4
            go_wp2_with fail
            refine ⟨⟨(j + 1) + 1, by omega, by go_num, ?_, ST4.out.below, ST4.out.lob, hlo0⟩, by simp [intOf]; omega⟩
            have e5 : numB l.length ++ encTo l ((j + 1) + 1) = (((L ++ numB (x.r.at_ - y.r.at_)) ++ numB (x.r.key - y.r.key)) ++ numB (x.r.val - y.r.val)) ++ intB x.n := by
              rw [HEN.out, ← List.append_assoc, HLE.out, HSM.out, HBF.out]
              simp [encOne, keyB, valB, HKE.out]
            rw [e5]
            exact ST4.out.own
          | false =>
            have HKE : Hid ((x.r.key == y.r.key) = false) := by show _ = _; have h := hke; simp at h ⊢; omega
            have q1 := numB_length (x.r.at_ - y.r.at_)
            have q2 := numB_length (x.r.key - y.r.key)
            have q3 := intB_length x.r.val
            have st0 : RSt w.heap.size wr.heap.size (wr.heap.size + 1) w #[.int .i64 x.r.at_, .int .i64 x.r.key, .int .i64 x.r.val, .int .i64 x.n] #[.int .i64 y.r.at_, .int .i64 y.r.key, .int .i64 y.r.val] ((wr.alloc (.cells #[.int .i64 x.r.at_, .int .i64 x.r.key, .int .i64 x.r.val, .int .i64 x.n] 40)).alloc (.cells #[.int .i64 y.r.at_, .int .i64 y.r.key, .int .i64 y.r.val] 38)) u3 L := rst0 ho HB.out hlo hlo0
            clear ho
            have C1 := Lib.hid (rnumber_any w.heap.size _ (L) (x.r.at_ - y.r.at_) _ st0.own st0.lob (by omega) (by omega) (by first | omega | (simp only [List.length_append]; omega)))
            have ST0 := Lib.hid st0
            clear st0
            go_wp2_with fail
            (with_reducible refine C1.out.mono ?_)
            rintro e y1 ⟨v3, rfl, hown, hg, hloc⟩
            have st1 := ST0.out.step hown hg hloc
            clear hown hg hloc C1 c0 c1 c2 c3 d0 d1 d2 d3
            have fx0 := cell_at_block (off := 0) st1.hx rfl
            have fx1 := cell_at_block (off := 1) st1.hx rfl
            have fx2 := cell_at_block (off := 2) st1.hx rfl
            have fx3 := cell_at_block (off := 3) st1.hx rfl
            have fr0 := cell_at_block (off := 0) st1.hr rfl
            have fr1 := cell_at_block (off := 1) st1.hr rfl
            have fr2 := cell_at_block (off := 2) st1.hr rfl
            have C2 := Lib.hid (rnumber_any w.heap.size _ (L ++ numB (x.r.at_ - y.r.at_)) (x.r.key - y.r.key) _ st1.own st1.lob (by omega) (by omega) (by first | omega | (simp only [List.length_append]; omega)))
            have ST1 := Lib.hid st1
            clear st1
            go_wp2_with fail
            (with_reducible refine C2.out.mono ?_)
            rintro e y2 ⟨v4, rfl, hown, hg, hloc⟩
            have st2 := ST1.out.step hown hg hloc
            clear hown hg hloc C2 fx0 fx1 fx2 fx3 fr0 fr1 fr2
            have fx0 := cell_at_block (off := 0) st2.hx rfl
            have fx1 := cell_at_block (off := 1) st2.hx rfl
            have fx2 := cell_at_block (off := 2) st2.hx rfl
            have fx3 := cell_at_block (off := 3) st2.hx rfl
            have fr0 := cell_at_block (off := 0) st2.hr rfl
            have fr1 := cell_at_block (off := 1) st2.hr rfl
            have fr2 := cell_at_block (off := 2) st2.hr rfl
            have C3 := Lib.hid (rsigned_any w.heap.size _ ((L ++ numB (x.r.at_ - y.r.at_)) ++ numB (x.r.key - y.r.key)) (x.r.val) _ st2.own st2.lob (by omega) (by omega) (by first | omega | (simp only [List.length_append]; omega)))
            have ST2 := Lib.hid st2
            clear st2
            go_wp2_with fail
            (with_reducible refine C3.out.mono ?_)
            rintro e y3 ⟨v5, rfl, hown, hg, hloc⟩
            have st3 := ST2.out.step hown hg hloc
            clear hown hg hloc C3 fx0 fx1 fx2 fx3 fr0 fr1 fr2
            have fx0 := cell_at_block (off := 0) st3.hx rfl
            have fx1 := cell_at_block (off := 1) st3.hx rfl
            have fx2 := cell_at_block (off := 2) st3.hx rfl
            have fx3 := cell_at_block (off := 3) st3.hx rfl
            have fr0 := cell_at_block (off := 0) st3.hr rfl
            have fr1 := cell_at_block (off := 1) st3.hr rfl
            have fr2 := cell_at_block (off := 2) st3.hr rfl
            have C4 := Lib.hid (rsigned_any w.heap.size _ (((L ++ numB (x.r.at_ - y.r.at_)) ++ numB (x.r.key - y.r.key)) ++ intB x.r.val) (x.n) _ st3.own st3.lob (by omega) (by omega) (by first | omega | (simp only [List.length_append]; omega)))
            have ST3 := Lib.hid st3
            clear st3
            go_wp2_with fail
            (with_reducible refine C4.out.mono ?_)
            rintro e y4 ⟨v6, rfl, hown, hg, hloc⟩
            have st4 := ST3.out.step hown hg hloc
            clear hown hg hloc C4 fx0 fx1 fx2 fx3 fr0 fr1 fr2
            have fx0 := cell_at_block (off := 0) st4.hx rfl
            have fx1 := cell_at_block (off := 1) st4.hx rfl
            have fx2 := cell_at_block (off := 2) st4.hx rfl
            have fx3 := cell_at_block (off := 3) st4.hx rfl
            have fr0 := cell_at_block (off := 0) st4.hr rfl
            have fr1 := cell_at_block (off := 1) st4.hr rfl
            have fr2 := cell_at_block (off := 2) st4.hr rfl
            have ST4 := Lib.hid st4
            clear st4
            go_wp2_with fail
            refine ⟨⟨(j + 1) + 1, by omega, by go_num, ?_, ST4.out.below, ST4.out.lob, hlo0⟩, by simp [intOf]; omega⟩
            have e5 : numB l.length ++ encTo l ((j + 1) + 1) = (((L ++ numB (x.r.at_ - y.r.at_)) ++ numB (x.r.key - y.r.key)) ++ intB x.r.val) ++ intB x.n := by
              rw [HEN.out, ← List.append_assoc, HLE.out, HSM.out, HBF.out]
              simp [encOne, keyB, valB, HKE.out]
            rw [e5]
            exact ST4.out.own
        | false =>
          have hs : sameB l (j + 1) x = false := by rw [hsm]; have h := hat; simp at h ⊢; omega
          have HSM := Lib.hid hs
          clear hs hsm
          have q1 := numB_length (x.r.at_ - y.r.at_)
          have q2 := intB_length x.r.key
          have q3 := intB_length x.r.val
          have st0 : RSt w.heap.size wr.heap.size (wr.heap.size + 1) w #[.int .i64 x.r.at_, .int .i64 x.r.key, .int .i64 x.r.val, .int .i64 x.n] #[.int .i64 y.r.at_, .int .i64 y.r.key, .int .i64 y.r.val] ((wr.alloc (.cells #[.int .i64 x.r.at_, .int .i64 x.r.key, .int .i64 x.r.val, .int .i64 x.n] 40)).alloc (.cells #[.int .i64 y.r.at_, .int .i64 y.r.key, .int .i64 y.r.val] 38)) u3 L := rst0 ho HB.out hlo hlo0
          clear ho
          have C1 := Lib.hid (rnumber_any w.heap.size _ (L) (x.r.at_ - y.r.at_) _ st0.own st0.lob (by omega) (by omega) (by first | omega | (simp only [List.length_append]; omega)))
          have ST0 := Lib.hid st0
          clear st0
          go_wp2_with fail
          (with_reducible refine C1.out.mono ?_)
          rintro e y1 ⟨v3, rfl, hown, hg, hloc⟩
          have st1 := ST0.out.step hown hg hloc
          clear hown hg hloc C1 c0 c1 c2 c3 d0 d1 d2 d3
          have fx0 := cell_at_block (off := 0) st1.hx rfl
          have fx1 := cell_at_block (off := 1) st1.hx rfl
          have fx2 := cell_at_block (off := 2) st1.hx rfl
          have fx3 := cell_at_block (off := 3) st1.hx rfl
          have fr0 := cell_at_block (off := 0) st1.hr rfl
          have fr1 := cell_at_block (off := 1) st1.hr rfl
          have fr2 := cell_at_block (off := 2) st1.hr rfl
          have C2 := Lib.hid (rsigned_any w.heap.size _ (L ++ numB (x.r.at_ - y.r.at_)) (x.r.key) _ st1.own st1.lob (by omega) (by omega) (by first | omega | (simp only [List.length_append]; omega)))
          have ST1 := Lib.hid st1
          clear st1
          go_wp2_with fail
          (with_reducible refine C2.out.mono ?_)
          rintro e y2 ⟨v4, rfl, hown, hg, hloc⟩
          have st2 := ST1.out.step hown hg hloc
          clear hown hg hloc C2 fx0 fx1 fx2 fx3 fr0 fr1 fr2
          have fx0 := cell_at_block (off := 0) st2.hx rfl
          have fx1 := cell_at_block (off := 1) st2.hx rfl
          have fx2 := cell_at_block (off := 2) st2.hx rfl
          have fx3 := cell_at_block (off := 3) st2.hx rfl
          have fr0 := cell_at_block (off := 0) st2.hr rfl
          have fr1 := cell_at_block (off := 1) st2.hr rfl
          have fr2 := cell_at_block (off := 2) st2.hr rfl
          have C3 := Lib.hid (rsigned_any w.heap.size _ ((L ++ numB (x.r.at_ - y.r.at_)) ++ intB x.r.key) (x.r.val) _ st2.own st2.lob (by omega) (by omega) (by first | omega | (simp only [List.length_append]; omega)))
          have ST2 := Lib.hid st2
          clear st2
          go_wp2_with fail
          (with_reducible refine C3.out.mono ?_)
          rintro e y3 ⟨v5, rfl, hown, hg, hloc⟩
          have st3 := ST2.out.step hown hg hloc
          clear hown hg hloc C3 fx0 fx1 fx2 fx3 fr0 fr1 fr2
          have fx0 := cell_at_block (off := 0) st3.hx rfl
          have fx1 := cell_at_block (off := 1) st3.hx rfl
          have fx2 := cell_at_block (off := 2) st3.hx rfl
          have fx3 := cell_at_block (off := 3) st3.hx rfl
          have fr0 := cell_at_block (off := 0) st3.hr rfl
          have fr1 := cell_at_block (off := 1) st3.hr rfl
          have fr2 := cell_at_block (off := 2) st3.hr rfl
          have C4 := Lib.hid (rsigned_any w.heap.size _ (((L ++ numB (x.r.at_ - y.r.at_)) ++ intB x.r.key) ++ intB x.r.val) (x.n) _ st3.own st3.lob (by omega) (by omega) (by first | omega | (simp only [List.length_append]; omega)))
          have ST3 := Lib.hid st3
          clear st3
          go_wp2_with fail
          (with_reducible refine C4.out.mono ?_)
          rintro e y4 ⟨v6, rfl, hown, hg, hloc⟩
          have st4 := ST3.out.step hown hg hloc
          clear hown hg hloc C4 fx0 fx1 fx2 fx3 fr0 fr1 fr2
          have fx0 := cell_at_block (off := 0) st4.hx rfl
          have fx1 := cell_at_block (off := 1) st4.hx rfl
          have fx2 := cell_at_block (off := 2) st4.hx rfl
          have fx3 := cell_at_block (off := 3) st4.hx rfl
          have fr0 := cell_at_block (off := 0) st4.hr rfl
          have fr1 := cell_at_block (off := 1) st4.hr rfl
          have fr2 := cell_at_block (off := 2) st4.hr rfl
          have ST4 := Lib.hid st4
          clear st4
          go_wp2_with fail
          refine ⟨⟨(j + 1) + 1, by omega, by go_num, ?_, ST4.out.below, ST4.out.lob, hlo0⟩, by simp [intOf]; omega⟩
          have e5 : numB l.length ++ encTo l ((j + 1) + 1) = (((L ++ numB (x.r.at_ - y.r.at_)) ++ intB x.r.key) ++ intB x.r.val) ++ intB x.n := by
            rw [HEN.out, ← List.append_assoc, HLE.out, HSM.out, HBF.out]
            simp [encOne, keyB, valB]
          rw [e5]
          exact ST4.out.own
    · have hk' : k = n := by omega
      have HE : Hid (numB l.length ++ encTo l k = bytesOf l) := by show _ = _; rw [hk', ← HLL.out]; rfl
      clear hk' hRk
      have hown := HO.out
      rw [HE.out] at hown
      have hown2 := Lib.hid hown
      obtain ⟨A2, cap2, e2, hR2⟩ := hown.rd (enc := bv) (sz := 1) (fun _ => rfl)
      have HR2 := Lib.hid hR2
      subst e2
      clear hown hR2
      go_wp2_with fail
      go_ret
      exact ⟨_, _, rfl, HR2.out, HB.out⟩

set_option maxRecDepth 100000 in
theorem BytesRef_any (A : Option Addr) (n cap : Nat) (l : List It) (w : World) (hA : Rd It.vs 4 w 0 A n l) :
    Calls Tryz.prog 41 #[.slice A n cap] w (RetBytes w (bytesR l)) := by
  have Q1 := Lib.hid (Good_any A n cap l w hA)
  have HA := Lib.hid hA
  clear hA
  cases ga : bagB l with
  | false =>
    have e1 : bytesR l = ([], 2) := by simp [bytesR, ga]
    rw [e1]
    have GA := Lib.hid ga
    clear ga e1
    go_enter Tryz.func41, Tryz.ntmps41
    go_wp2_with (go_at_call 44; refine Q1.out.mono ?_; rintro e w1 ⟨rfl, hb1⟩; rw [GA.out]; have HB1 := Lib.hid hb1; clear hb1)
    go_ret2
    exact ⟨none, 0, rfl, Rd.nil _ _ _, HB1.out⟩
  | true =>
    have e1 : bytesR l = (bytesOf l, 0) := by simp [bytesR, ga]
    rw [e1]
    have GA := Lib.hid ga
    clear ga e1
    go_enter Tryz.func41, Tryz.ntmps41
    go_wp2_with fail
    (with_reducible refine Q1.out.mono ?_)
    rintro e w1 ⟨rfl, hb1⟩
    rw [GA.out]
    have HB1 := Lib.hid hb1
    have C := Lib.hid (BytesOf_any A n cap l w1 (HA.out.below hb1) GA.out)
    clear hb1 Q1
    go_wp2_with fail
    (with_reducible refine C.out.mono ?_)
    rintro e w2 ⟨A2, cap2, rfl, hr, hb⟩
    have HR := Lib.hid hr
    have HB2 := Lib.hid hb
    clear hr hb C
    go_wp2_with fail
    go_ret2
    exact ⟨A2, cap2, rfl, HR.out.low HB1.out.size, bchain HB1.out HB2.out⟩
end Go.Proofs.Bg
end

section
/- Plain law: a bag comes back from its bytes, and what is taken as bytes is what is written for it. No memory. -/
namespace Go.Proofs.Bg

/-! ### reading -/
/-- A number from 0 on, so many groups at most; i groups, of the value n, have been read. -/
def dNumF : Nat → Nat → Int → List Int → Option (Int × List Int)
  | 0, _, _, _ => none
  | _ + 1, _, _, [] => none
  | f + 1, i, n, x :: r => if x < 128 then (if 0 < x ∨ i = 0 then some (n + x * 128 ^ i, r) else none) else dNumF f (i + 1) (n + (x - 128) * 128 ^ i) r
def dNum (s : List Int) : Option (Int × List Int) := dNumF 5 0 0 s
def unzig (n : Int) : Int := if n % 2 = 1 then -((n + 1) / 2) else n / 2
def dInt (s : List Int) : Option (Int × List Int) := match dNum s with | some (n, r) => some (unzig n, r) | none => none
def dKey (same : Bool) (b : Int) (s : List Int) : Option (Int × List Int) := if same then (match dNum s with | some (n, r) => some (b + n, r) | none => none) else dInt s
def dItem (b : Rc) (first : Bool) (s : List Int) : Option (It × List Int) :=
  match dNum s with
  | none => none
  | some (a, s1) => match dKey (!first && (b.at_ + a == b.at_)) b.key s1 with
    | none => none
    | some (k, s2) => match dKey ((!first && (b.at_ + a == b.at_)) && (k == b.key)) b.val s2 with
      | none => none
      | some (v, s3) => match dInt s3 with
        | none => none
        | some (n, s4) => some (⟨⟨b.at_ + a, k, v⟩, n⟩, s4)
def lastR : List It → Rc
  | [] => zeroRc
  | [x] => x.r
  | _ :: y :: r => lastR (y :: r)
theorem lastR_snoc (L : List It) (x : It) : lastR (L ++ [x]) = x.r := by
  induction L with
  | nil => rfl
  | cons y r ih =>
    cases r with
    | nil => rfl
    | cons z t => exact ih
def dAll : Nat → List Int → List It → Option (List It × List Int)
  | 0, s, L => some (L, s)
  | m + 1, s, L => match dItem (lastR L) L.isEmpty s with
    | none => none
    | some (x, r) => dAll m r (L ++ [x])
/-- What bytes say, before it is asked whether that is a bag. -/
def dBag (s : List Int) : Option (List It) :=
  match dNum s with
  | none => none
  | some (m, r) => if m ≤ 300 then (match dAll m.toNat r [] with | some (l, []) => some l | _ => none) else none
def readR (s : List Int) : List It × Int := readB (dBag s)

/-! ### numbers -/
theorem pow_step (i : Nat) : (128 : Int) ^ (i + 1) = 128 ^ i * 128 := Int.pow_succ 128 i
theorem dNumF_num : ∀ (f g i : Nat) (n acc : Int) (t : List Int), 0 < f → 0 ≤ n → n < 128 ^ f → f ≤ g + 1 → (0 < n ∨ i = 0) → dNumF f i acc (numF g n ++ t) = some (acc + n * 128 ^ i, t)
  | 0, _, _, _, _, _, hf, _, _, _, _ => absurd hf (by omega)
  | f + 1, g, i, n, acc, t, _, h0, h1, hg, hi => by
    by_cases hs : n < 128
    · have e : numF g n = [n] := by cases g <;> simp [numF, hs]
      simp only [e, List.cons_append, List.nil_append, dNumF, hs, if_true, hi]
    · obtain ⟨g', rfl⟩ : ∃ g', g = g' + 1 := by
        cases g with
        | zero =>
          have : f = 0 := by omega
          subst this
          simp at h1
          omega
        | succ g' => exact ⟨g', rfl⟩
      have h1' : n / 128 < 128 ^ f := by
        rw [Int.pow_succ] at h1
        exact Int.ediv_lt_of_lt_mul (by omega) h1
      have hf : 0 < f := by
        cases f with
        | zero => simp at h1'; omega
        | succ f => omega
      have ih := dNumF_num f g' (i + 1) (n / 128) (acc + (n % 128) * 128 ^ i) t hf (by omega) h1' (by omega) (.inl (by omega))
      have e : numF (g' + 1) n = (n % 128 + 128) :: numF g' (n / 128) := by rw [numF, if_neg hs]
      have e2 : n % 128 + 128 - 128 = n % 128 := by omega
      simp only [e, List.cons_append, dNumF, e2]
      rw [if_neg (by omega), ih, pow_step]
      congr 2
      have e3 : n = n % 128 + 128 * (n / 128) := by omega
      conv => rhs; rw [e3, Int.add_mul]
      rw [Int.add_assoc]
      congr 2
      rw [Int.mul_comm ((128 : Int) ^ i) 128, ← Int.mul_assoc, Int.mul_comm (n / 128) 128]
/-- Bytes. -/
def Byt (s : List Int) : Prop := ∀ x ∈ s, 0 ≤ x ∧ x ≤ 255
theorem dNumF_back : ∀ (f i : Nat) (acc m : Int) (s r : List Int), Byt s → dNumF f i acc s = some (m, r) → ∃ n, 0 ≤ n ∧ n < 128 ^ f ∧ (0 < n ∨ i = 0) ∧ m = acc + n * 128 ^ i ∧ Byt r ∧ ∀ g, f ≤ g + 1 → s = numF g n ++ r
  | 0, _, _, _, _, _, _, h => by cases h
  | f + 1, i, acc, m, [], r, _, h => by cases h
  | f + 1, i, acc, m, x :: s, r, hb, h => by
    have hx := hb x List.mem_cons_self
    have hs : Byt s := fun y hy => hb y (List.mem_cons_of_mem _ hy)
    rw [dNumF] at h
    have hp : (0 : Int) < 128 ^ f := Int.pow_pos (by omega)
    split at h
    · rename_i hlt
      split at h
      · rename_i hc
        simp only [Option.some.injEq, Prod.mk.injEq] at h
        obtain ⟨rfl, rfl⟩ := h
        refine ⟨x, hx.1, ?_, hc, rfl, hs, fun g _ => ?_⟩
        · rw [Int.pow_succ]; omega
        · have e : numF g x = [x] := by cases g <;> simp [numF, hlt]
          rw [e]
          rfl
      · cases h
    · rename_i hge
      obtain ⟨n, n0, n1, n2, n3, n4, n5⟩ := dNumF_back f (i + 1) _ m s r hs h
      have hn : 0 < n := by rcases n2 with h | h <;> omega
      refine ⟨(x - 128) + 128 * n, by omega, ?_, .inl (by omega), ?_, n4, fun g hg => ?_⟩
      · rw [Int.pow_succ]; omega
      · rw [n3, pow_step, Int.add_mul, Int.add_assoc]
        congr 2
        rw [Int.mul_comm ((128 : Int) ^ i) 128, ← Int.mul_assoc, Int.mul_comm n 128]
      · obtain ⟨g', rfl⟩ : ∃ g', g = g' + 1 := by
          cases g with
          | zero =>
            have : f = 0 := by omega
            subst this
            simp at n1
            omega
          | succ g' => exact ⟨g', rfl⟩
        have e : numF (g' + 1) (x - 128 + 128 * n) = x :: numF g' n := by
          rw [numF, if_neg (by omega)]
          have e1 : (x - 128 + 128 * n) % 128 + 128 = x := by omega
          have e2 : (x - 128 + 128 * n) / 128 = n := by omega
          rw [e1, e2]
        rw [e, n5 g' (by omega)]
        rfl
theorem dNum_num {n : Int} (h0 : 0 ≤ n) (h1 : n < 34359738368) (t : List Int) : dNum (numB n ++ t) = some (n, t) := by
  unfold dNum numB
  rw [dNumF_num 5 9 0 n 0 t (by omega) h0 (by simpa using h1) (by omega) (.inr rfl)]
  simp
theorem dNum_back {s r : List Int} {m : Int} (hb : Byt s) (h : dNum s = some (m, r)) : 0 ≤ m ∧ m < 34359738368 ∧ Byt r ∧ s = numB m ++ r := by
  obtain ⟨n, n0, n1, _, n3, n4, n5⟩ := dNumF_back 5 0 0 m s r hb h
  have e : m = n := by simpa using n3
  subst e
  exact ⟨n0, by simpa using n1, n4, n5 9 (by omega)⟩
theorem dInt_int {n : Int} (h0 : -1000000000 ≤ n) (h1 : n ≤ 1000000000) (t : List Int) : dInt (intB n ++ t) = some (n, t) := by
  unfold dInt intB
  by_cases hn : n < 0
  · rw [if_pos hn, dNum_num (by omega) (by omega)]
    simp only [unzig]
    rw [if_pos (by omega)]
    congr 2
    omega
  · rw [if_neg hn, dNum_num (by omega) (by omega)]
    simp only [unzig]
    rw [if_neg (by omega)]
    congr 2
    omega
theorem unzig_bd {n : Int} (h0 : 0 ≤ n) (h1 : n < 34359738368) : -17179869184 ≤ unzig n ∧ unzig n ≤ 17179869184 := by
  unfold unzig
  split <;> omega
theorem dInt_back {s r : List Int} {m : Int} (hb : Byt s) (h : dInt s = some (m, r)) : -17179869184 ≤ m ∧ m ≤ 17179869184 ∧ Byt r ∧ s = intB m ++ r := by
  unfold dInt at h
  cases e : dNum s with
  | none => rw [e] at h; cases h
  | some q =>
    obtain ⟨n, r'⟩ := q
    rw [e] at h
    simp only [Option.some.injEq, Prod.mk.injEq] at h
    obtain ⟨rfl, rfl⟩ := h
    obtain ⟨n0, n1, n2, n3⟩ := dNum_back hb e
    have hu := unzig_bd n0 n1
    refine ⟨hu.1, hu.2, n2, ?_⟩
    rw [n3]
    congr 1
    unfold intB unzig
    by_cases hp : n % 2 = 1
    · rw [if_pos hp, if_pos (by omega)]
      congr 1
      omega
    · rw [if_neg hp, if_neg (by omega)]
      congr 1
      omega

/-! ### items -/
theorem dKey_enc (same : Bool) (b k : Int) (hs : same = true → b ≤ k ∧ k - b < 34359738368) (hn : same = false → -1000000000 ≤ k ∧ k ≤ 1000000000) (t : List Int) : dKey same b ((if same then numB (k - b) else intB k) ++ t) = some (k, t) := by
  cases same with
  | true =>
    have := hs rfl
    simp only [dKey, if_true, dNum_num (n := k - b) (by omega) (by omega) t]
    congr 2
    omega
  | false =>
    have := hn rfl
    simp only [dKey, Bool.false_eq_true, if_false, dInt_int this.1 this.2 t]
theorem dKey_back {same : Bool} {b k : Int} {s r : List Int} (hb : Byt s) (h : dKey same b s = some (k, r)) : (b - 17179869184 ≤ k ∨ -17179869184 ≤ k) ∧ (k ≤ b + 34359738368 ∨ k ≤ 34359738368) ∧ Byt r ∧ s = (if same then numB (k - b) else intB k) ++ r := by
  cases same with
  | true =>
    simp only [dKey, if_true] at h
    cases e : dNum s with
    | none => rw [e] at h; cases h
    | some q =>
      obtain ⟨n, r'⟩ := q
      rw [e] at h
      simp only [Option.some.injEq, Prod.mk.injEq] at h
      obtain ⟨rfl, rfl⟩ := h
      obtain ⟨n0, n1, n2, n3⟩ := dNum_back hb e
      refine ⟨by omega, by omega, n2, ?_⟩
      have : b + n - b = n := by omega
      simp only [if_true, this]
      exact n3
  | false =>
    simp only [dKey, Bool.false_eq_true, if_false] at h
    obtain ⟨n0, n1, n2, n3⟩ := dInt_back hb h
    exact ⟨by omega, by omega, n2, by simpa using n3⟩
def sm (L : List It) (x : It) : Bool := !L.isEmpty && (x.r.at_ == (lastR L).at_)
theorem dItem_enc {L : List It} {x : It} (hx : itB x = true) (h1 : (lastR L).at_ ≤ x.r.at_ ∧ 0 ≤ (lastR L).at_) (h2 : sm L x = true → (lastR L).key ≤ x.r.key ∧ ((lastR L).key = x.r.key → (lastR L).val ≤ x.r.val)) (h3 : -1000000000 ≤ (lastR L).key ∧ (lastR L).key ≤ 1000000000 ∧ -1000000000 ≤ (lastR L).val ∧ (lastR L).val ≤ 1000000000) (t : List Int) :
    dItem (lastR L) L.isEmpty (encOne (sm L x) (lastR L) x ++ t) = some (x, t) := by
  have hb := (itB_spec x).1 hx
  unfold encOne dItem
  have e1 : (lastR L).at_ + (x.r.at_ - (lastR L).at_) = x.r.at_ := by omega
  simp only [List.append_assoc, dNum_num (n := x.r.at_ - (lastR L).at_) (by omega) (by omega), e1]
  have e2 : (!L.isEmpty && (x.r.at_ == (lastR L).at_)) = sm L x := rfl
  simp only [e2]
  unfold keyB
  rw [dKey_enc _ _ _ (fun h => by have := h2 h; omega) (fun _ => by omega)]
  simp only
  unfold valB
  have e3 : (x.r.key == (lastR L).key) = true → x.r.key = (lastR L).key := fun h => by simpa using h
  rw [dKey_enc _ _ _ (fun h => by
    rw [Bool.and_eq_true] at h
    have := (h2 h.1).2 (e3 h.2).symm
    omega) (fun _ => by omega)]
  simp only [dInt_int (n := x.n) (by omega) (by omega)]
theorem dItem_back {L : List It} {x : It} {s r : List Int} (hb : Byt s) (h : dItem (lastR L) L.isEmpty s = some (x, r)) : Byt r ∧ s = encOne (sm L x) (lastR L) x ++ r := by
  unfold dItem at h
  cases h1 : dNum s with
  | none => rw [h1] at h; cases h
  | some p1 =>
    obtain ⟨a, s1⟩ := p1
    rw [h1] at h
    simp only at h
    obtain ⟨a0, a1, a2, a3⟩ := dNum_back hb h1
    cases h2 : dKey (!L.isEmpty && ((lastR L).at_ + a == (lastR L).at_)) (lastR L).key s1 with
    | none => rw [h2] at h; cases h
    | some p2 =>
      obtain ⟨k, s2⟩ := p2
      rw [h2] at h
      simp only at h
      obtain ⟨_, _, b2, b3⟩ := dKey_back a2 h2
      cases h3 : dKey ((!L.isEmpty && ((lastR L).at_ + a == (lastR L).at_)) && (k == (lastR L).key)) (lastR L).val s2 with
      | none => rw [h3] at h; cases h
      | some p3 =>
        obtain ⟨v, s3⟩ := p3
        rw [h3] at h
        simp only at h
        obtain ⟨_, _, c2, c3⟩ := dKey_back b2 h3
        cases h4 : dInt s3 with
        | none => rw [h4] at h; cases h
        | some p4 =>
          obtain ⟨n, s4⟩ := p4
          rw [h4] at h
          simp only [Option.some.injEq, Prod.mk.injEq] at h
          obtain ⟨rfl, rfl⟩ := h
          obtain ⟨_, _, d2, d3⟩ := dInt_back c2 h4
          refine ⟨d2, ?_⟩
          rw [a3, b3, c3, d3]
          have e1 : (lastR L).at_ + a - (lastR L).at_ = a := by omega
          simp only [encOne, keyB, valB, sm, e1, List.append_assoc]
          rfl

/-! ### bags -/
def encF : List It → List It → List Int
  | _, [] => []
  | L, x :: r => encOne (sm L x) (lastR L) x ++ encF (L ++ [x]) r
theorem befR_last (L R : List It) : befR (L ++ R) L.length = lastR L := by
  cases h : L.length with
  | zero =>
    rw [List.length_eq_zero_iff.1 h]
    rfl
  | succ k =>
    have hne : L ≠ [] := fun e => by rw [e] at h; simp at h
    obtain ⟨L', x, rfl⟩ : ∃ L' x, L = L' ++ [x] := ⟨L.dropLast, L.getLast hne, (List.dropLast_concat_getLast _).symm⟩
    have hk : k = L'.length := by simp at h; omega
    subst hk
    have : ((L' ++ [x]) ++ R)[L'.length]? = some x := by simp
    simp only [befR, this, lastR_snoc]
theorem encAt_mid (L R : List It) (x : It) : encAt (L ++ x :: R) L.length = encOne (sm L x) (lastR L) x := by
  have hx : (L ++ x :: R)[L.length]? = some x := by simp
  unfold encAt
  rw [hx]
  simp only [sameB, befR_last]
  have : decide (0 < L.length) = !L.isEmpty := by cases L <;> simp
  rw [this]
  rfl
theorem encTo_encF : ∀ (R L : List It), encTo (L ++ R) (L.length + R.length) = encTo (L ++ R) L.length ++ encF L R
  | [], L => by simp [encF]
  | x :: r, L => by
    have ih := encTo_encF r (L ++ [x])
    have e1 : L ++ [x] ++ r = L ++ x :: r := by simp
    have e2 : (L ++ [x]).length = L.length + 1 := by simp
    rw [e1, e2, encTo_succ, encAt_mid] at ih
    have e3 : L.length + (x :: r).length = L.length + 1 + r.length := by simp; omega
    rw [e3, ih, encF, List.append_assoc]
theorem bytesOf_encF (l : List It) : bytesOf l = numB l.length ++ encF [] l := by
  have := encTo_encF l []
  simp only [List.nil_append, List.length_nil, Nat.zero_add] at this
  rw [bytesOf, this]
  simp [encTo]
theorem dAll_enc (l : List It) (hl : bagB l = true) : ∀ (R L : List It) (t : List Int), L ++ R = l → dAll R.length (encF L R ++ t) L = some (l, t)
  | [], L, t, e => by
    rw [← e]
    simp [dAll, encF]
  | x :: r, L, t, e => by
    have hx : l[L.length]? = some x := by rw [← e]; simp
    have hb := bef_le ((bagB_spec l).1 hl).2.1 ((bagB_spec l).1 hl).1 hx
    have hbr : befR l L.length = lastR L := by rw [← e]; exact befR_last L (x :: r)
    have hsm : sameB l L.length x = sm L x := by
      unfold sameB sm
      rw [hbr]
      congr 1
      cases L <;> simp
    rw [hbr, hsm] at hb
    obtain ⟨b1, b2, b3, b4⟩ := hb
    have hi := dItem_enc (L := L) (((bagB_spec l).1 hl).1 x (List.mem_of_getElem? hx)) ⟨b1, b2⟩ b3 b4 (encF (L ++ [x]) r ++ t)
    have ih := dAll_enc l hl r (L ++ [x]) t (by rw [← e]; simp)
    rw [List.length_cons, encF, List.append_assoc, dAll, hi]
    exact ih
theorem dAll_back : ∀ (m : Nat) (s r : List Int) (L l : List It), Byt s → dAll m s L = some (l, r) → ∃ R, l = L ++ R ∧ R.length = m ∧ s = encF L R ++ r
  | 0, s, r, L, l, _, h => by
    simp only [dAll, Option.some.injEq, Prod.mk.injEq] at h
    obtain ⟨rfl, rfl⟩ := h
    exact ⟨[], by simp, rfl, by simp [encF]⟩
  | m + 1, s, r, L, l, hb, h => by
    rw [dAll] at h
    cases h1 : dItem (lastR L) L.isEmpty s with
    | none => rw [h1] at h; cases h
    | some p =>
      obtain ⟨x, s1⟩ := p
      rw [h1] at h
      simp only at h
      obtain ⟨b1, e1⟩ := dItem_back hb h1
      obtain ⟨R, e2, e3, e4⟩ := dAll_back m s1 r (L ++ [x]) l b1 h
      exact ⟨x :: R, by rw [e2]; simp, by simp [e3], by rw [e1, e4, encF, List.append_assoc]⟩
/-- A bag comes back from its bytes. -/
theorem read_bytes {b : List It} (h : bagB b = true) : readR (bytesOf b) = (b, 0) := by
  have hl := ((bagB_spec b).1 h).2.2
  have h1 := dAll_enc b h b [] [] (by simp)
  rw [List.append_nil] at h1
  have e : dBag (bytesOf b) = some b := by
    unfold dBag
    rw [bytesOf_encF, dNum_num (by omega) (by omega)]
    simp only [Int.toNat_natCast, h1]
    rw [if_pos (by omega)]
  unfold readR
  rw [e]
  simp [readB, h]
/-- What is taken is what is written. -/
theorem read_back {s : List Int} (hs : Byt s) (h : (readR s).2 = 0) : bagB (readR s).1 = true ∧ bytesOf (readR s).1 = s := by
  unfold readR at *
  cases e : dBag s with
  | none => rw [e] at h; simp [readB] at h
  | some l =>
    rw [e] at h
    cases hb : bagB l with
    | false => simp [readB, hb] at h
    | true =>
      simp only [readB, hb, if_true]
      refine ⟨trivial, ?_⟩
      unfold dBag at e
      cases h1 : dNum s with
      | none => rw [h1] at e; cases e
      | some p =>
        obtain ⟨m, r⟩ := p
        rw [h1] at e
        simp only at e
        obtain ⟨m0, m1, m2, m3⟩ := dNum_back hs h1
        split at e
        · cases h2 : dAll m.toNat r [] with
          | none => rw [h2] at e; cases e
          | some q =>
            obtain ⟨l2, t⟩ := q
            rw [h2] at e
            cases t with
            | cons _ _ => cases e
            | nil =>
              simp only [Option.some.injEq] at e
              subst e
              obtain ⟨R, e2, e3, e4⟩ := dAll_back m.toNat r [] [] l2 m2 h2
              have : R = l2 := by simpa using e2.symm
              subst this
              rw [bytesOf_encF, m3, e4, e3]
              have : ((m.toNat : Nat) : Int) = m := by omega
              rw [this]
              simp
        · cases e
theorem read_err (s : List Int) : (readR s).2 = 0 ∨ readR s = ([], 4) := by
  unfold readR readB
  cases dBag s with
  | none => exact .inr rfl
  | some l =>
    simp only
    split
    · exact .inl rfl
    · exact .inr rfl
end Go.Proofs.Bg
end
