/- Texts of our own, merged: BgGood BgProd BgApp2 BgNewsR BgNewR BgSumsR BgDo. -/
import Derived.Deep.RegionWith
import Derived.BigQuiet
import Derived.Test.YtcbemmlhpinjkaaGreatDoorWLast
import Derived.Test.YtcbemmlhpinjkaaGreatDoorBgMPa3
import Derived.StillTactics
import Derived.Deep.RegionHeld3
import Derived.Deep.AppendLies
import Derived.Test.YtcbemmlhpinjkaaGreatDoorBgMPa2

section
/- The reference: Good, long. -/
namespace Go.Proofs.Bg
open Go.RowKit Go.Proofs.YtcbemmlhpinjkaaGreatDoorW.PrintLast

set_option maxRecDepth 100000 in
set_option maxHeartbeats 8000000 in
theorem Good_any (A : Option Addr) (n cap : Nat) (l : List It) (w : World) (hR : Rd It.vs 4 w 0 A n l) :
    Calls Tryz.prog 44 #[.slice A n cap] w fun e w' => e = .returned (.bool (bagB l)) ∧ Below w.heap.size w w' := by
  have hn := hR.le
  have HR := Lib.hid hR
  clear hR
  go_enter Tryz.func44, Tryz.ntmps44
  go_wp2_with fail
  go_loopw [3, 4, 7] (fun _ _ i wr => ∃ k : Nat, k ≤ n ∧ i = .int .i64 k ∧ BagRel l w k wr) (fun _ _ i _ => n - (intOf i).toNat)
  case atStart => exact ⟨0, by omega, rfl, rfl, Below.refl _ _⟩
  case round =>
    obtain ⟨k, hk, rfl, hto, hB⟩ := hrel
    have hRk := HR.out.below hB
    have HB := Lib.hid hB
    have HT := Lib.hid hto
    clear hB hto
    by_cases hlt : k < n
    · obtain ⟨b, off, x, rfl, _, hx, c0, c1, c2, c3⟩ := hRk.it_at hlt
      have HX := Lib.hid hx
      have hx0 := new_block wr #[.int .i64 x.r.at_, .int .i64 x.r.key, .int .i64 x.r.val, .int .i64 x.n] 40
      have f0 := cell_at_block (off := 0) hx0 rfl
      have f1 := cell_at_block (off := 1) hx0 rfl
      have f2 := cell_at_block (off := 2) hx0 rfl
      have f3 := cell_at_block (off := 3) hx0 rfl
      clear hx hx0
      cases hr : recB x.r with
      | false =>
        have HRC := Lib.hid hr
        clear hr hRk
        go_wp2_with fail
        refine start_ (n := 35) (S := fun w' => w'.cell? ⟨wr.heap.size, 0, none⟩ = some (.int .i64 x.r.at_) ∧ w'.cell? ⟨wr.heap.size, 1, none⟩ = some (.int .i64 x.r.key) ∧ w'.cell? ⟨wr.heap.size, 2, none⟩ = some (.int .i64 x.r.val) ∧ w'.cell? ⟨wr.heap.size, 3, none⟩ = some (.int .i64 x.n)) (ds := []) #[false, false, false, false, false, false, false, false, false, false, false, false, false, false, false, false, false, false, false, false, false, false, false, false, false, false, false, false, false, false, false, false, false, false, false] (by kernel_rfl) rfl rfl ⟨f0, f1, f2, f3⟩ (fun hHeld => ?_)
        refine pure_ (i := 0) (N := some 12) (v := ?_) (a' := ?_) #[true, false, false, false, false, false, false, false, false, false, false, false, false, false, false, false, false, false, false, false, false, false, false, false, false, false, false, false, false, false, false, false, false, false, false] rfl rfl (by kernel_rfl) (fun _ _ _ h => h) (Or.inl ⟨by rfl, ?_⟩) ?_ ?_
        rotate_left
        · intro w'
          go_simp
          with_reducible rfl
        rotate_left
        · simp only [Act.put, List.setIfInBounds_toArray, List.set_cons_zero, List.set_cons_succ]
          rfl
        refine take_ (i := 1) (N := some 13) (v := ?_) (a' := ?_) #[true, true, false, false, false, false, false, false, false, false, false, false, false, false, false, false, false, false, false, false, false, false, false, false, false, false, false, false, false, false, false, false, false, false, false] rfl rfl (by kernel_rfl) (fun _ _ _ h => h) (Or.inl ⟨by rfl, ?_⟩) hHeld ?_ ?_
        rotate_left
        · rintro w' ⟨s0, s1, s2, s3⟩
          go_simp
          with_reducible rfl
        rotate_left
        · simp only [Act.put, List.setIfInBounds_toArray, List.set_cons_zero, List.set_cons_succ]
          rfl
        refine one_ (i := 2) (N := some 14) #[true, true, true, false, false, false, false, false, false, false, false, false, false, false, false, false, false, false, false, false, false, false, false, false, false, false, false, false, false, false, false, false, false, false, false] rfl rfl (by kernel_rfl) (by decide) (fun K hK => ?_)
        refine goes_ Tryz.func69 (by kernel_rfl) rfl #[.agg #[.int .i64 x.r.at_, .int .i64 x.r.key, .int .i64 x.r.val]] (by rfl) rfl rfl (by (try simp only [List.map_toArray, List.map_cons, List.map_nil]); first | done | rfl) ?_
        with_reducible refine (Rec_any x.r _).mono ?_
        rintro e w1 ⟨rfl, hb1⟩
        rw [HRC.out]
        refine ⟨_, rfl, ?_⟩
        have HB1 := Lib.hid hb1.drew_left
        obtain ⟨f0, f1, f2, f3⟩ := box4 HB1.out
        refine hK.out _ _ ⟨f0, f1, f2, f3⟩ (fun hHeld => ?_)
        clear hK K hb1
        refine norm_ (a' := ?_) ?_ ?_
        rotate_left
        · show Act.put _ (some 14) _ = _
          simp only [Act.put, List.setIfInBounds_toArray, List.set_cons_zero, List.set_cons_succ]
          rfl
        refine pure_ (i := 3) (N := some 15) (v := ?_) (a' := ?_) #[true, true, true, true, false, false, false, false, false, false, false, false, false, false, false, false, false, false, false, false, false, false, false, false, false, false, false, false, false, false, false, false, false, false, false] rfl rfl (by kernel_rfl) (fun _ _ _ h => h) (Or.inl ⟨by rfl, ?_⟩) ?_ ?_
        rotate_left
        · intro w'
          go_simp
          with_reducible rfl
        rotate_left
        · simp only [Act.put, List.setIfInBounds_toArray, List.set_cons_zero, List.set_cons_succ]
          rfl
        refine pure_ (i := 4) (N := some 16) (v := ?_) (a' := ?_) #[true, true, true, true, true, false, false, false, false, false, false, false, false, false, false, false, false, false, false, false, false, false, false, false, false, false, false, false, false, false, false, false, false, false, false] rfl rfl (by kernel_rfl) (fun _ _ _ h => h) (Or.inl ⟨by rfl, ?_⟩) ?_ ?_
        rotate_left
        · intro w'
          go_simp
          with_reducible rfl
        rotate_left
        · simp only [Act.put, List.setIfInBounds_toArray, List.set_cons_zero, List.set_cons_succ]
          rfl
        refine pure_ (i := 5) (N := some 17) (v := undef) (a' := ?_) #[true, true, true, true, true, true, false, false, false, false, false, false, false, false, false, false, false, false, false, false, false, false, false, false, false, false, false, false, false, false, false, false, false, false, false] rfl rfl (by kernel_rfl) (fun _ _ _ h => h) (Or.inr ⟨by rfl, rfl⟩) ?_ ?_
        rotate_left
        · simp only [Act.put, List.setIfInBounds_toArray, List.set_cons_zero, List.set_cons_succ]
          rfl
        refine pure_ (i := 6) (N := some 18) (v := undef) (a' := ?_) #[true, true, true, true, true, true, true, false, false, false, false, false, false, false, false, false, false, false, false, false, false, false, false, false, false, false, false, false, false, false, false, false, false, false, false] rfl rfl (by kernel_rfl) (fun _ _ _ h => h) (Or.inr ⟨by rfl, rfl⟩) ?_ ?_
        rotate_left
        · simp only [Act.put, List.setIfInBounds_toArray, List.set_cons_zero, List.set_cons_succ]
          rfl
        refine pure_ (i := 7) (N := some 19) (v := undef) (a' := ?_) #[true, true, true, true, true, true, true, true, false, false, false, false, false, false, false, false, false, false, false, false, false, false, false, false, false, false, false, false, false, false, false, false, false, false, false] rfl rfl (by kernel_rfl) (fun _ _ _ h => h) (Or.inr ⟨by rfl, rfl⟩) ?_ ?_
        rotate_left
        · simp only [Act.put, List.setIfInBounds_toArray, List.set_cons_zero, List.set_cons_succ]
          rfl
        refine pure_ (i := 8) (N := some 20) (v := ?_) (a' := ?_) #[true, true, true, true, true, true, true, true, true, false, false, false, false, false, false, false, false, false, false, false, false, false, false, false, false, false, false, false, false, false, false, false, false, false, false] rfl rfl (by kernel_rfl) (fun _ _ _ h => h) (Or.inl ⟨by rfl, ?_⟩) ?_ ?_
        rotate_left
        · intro w'
          go_simp
          with_reducible rfl
        rotate_left
        · simp only [Act.put, List.setIfInBounds_toArray, List.set_cons_zero, List.set_cons_succ]
          rfl
        refine pure_ (i := 9) (N := some 21) (v := ?_) (a' := ?_) #[true, true, true, true, true, true, true, true, true, true, false, false, false, false, false, false, false, false, false, false, false, false, false, false, false, false, false, false, false, false, false, false, false, false, false] rfl rfl (by kernel_rfl) (fun _ _ _ h => h) (Or.inl ⟨by rfl, ?_⟩) ?_ ?_
        rotate_left
        · intro w'
          go_simp
          with_reducible rfl
        rotate_left
        · simp only [Act.put, List.setIfInBounds_toArray, List.set_cons_zero, List.set_cons_succ]
          rfl
        refine pure_ (i := 10) (N := some 22) (v := undef) (a' := ?_) #[true, true, true, true, true, true, true, true, true, true, true, false, false, false, false, false, false, false, false, false, false, false, false, false, false, false, false, false, false, false, false, false, false, false, false] rfl rfl (by kernel_rfl) (fun _ _ _ h => h) (Or.inr ⟨by rfl, rfl⟩) ?_ ?_
        rotate_left
        · simp only [Act.put, List.setIfInBounds_toArray, List.set_cons_zero, List.set_cons_succ]
          rfl
        refine pure_ (i := 11) (N := some 23) (v := undef) (a' := ?_) #[true, true, true, true, true, true, true, true, true, true, true, true, false, false, false, false, false, false, false, false, false, false, false, false, false, false, false, false, false, false, false, false, false, false, false] rfl rfl (by kernel_rfl) (fun _ _ _ h => h) (Or.inr ⟨by rfl, rfl⟩) ?_ ?_
        rotate_left
        · simp only [Act.put, List.setIfInBounds_toArray, List.set_cons_zero, List.set_cons_succ]
          rfl
        refine pure_ (i := 12) (N := some 24) (v := undef) (a' := ?_) #[true, true, true, true, true, true, true, true, true, true, true, true, true, false, false, false, false, false, false, false, false, false, false, false, false, false, false, false, false, false, false, false, false, false, false] rfl rfl (by kernel_rfl) (fun _ _ _ h => h) (Or.inr ⟨by rfl, rfl⟩) ?_ ?_
        rotate_left
        · simp only [Act.put, List.setIfInBounds_toArray, List.set_cons_zero, List.set_cons_succ]
          rfl
        refine pure_ (i := 13) (N := some 25) (v := ?_) (a' := ?_) #[true, true, true, true, true, true, true, true, true, true, true, true, true, true, false, false, false, false, false, false, false, false, false, false, false, false, false, false, false, false, false, false, false, false, false] rfl rfl (by kernel_rfl) (fun _ _ _ h => h) (Or.inl ⟨by rfl, ?_⟩) ?_ ?_
        rotate_left
        · intro w'
          go_simp
          with_reducible rfl
        rotate_left
        · simp only [Act.put, List.setIfInBounds_toArray, List.set_cons_zero, List.set_cons_succ]
          rfl
        refine pure_ (i := 14) (N := some 26) (v := ?_) (a' := ?_) #[true, true, true, true, true, true, true, true, true, true, true, true, true, true, true, false, false, false, false, false, false, false, false, false, false, false, false, false, false, false, false, false, false, false, false] rfl rfl (by kernel_rfl) (fun _ _ _ h => h) (Or.inl ⟨by rfl, ?_⟩) ?_ ?_
        rotate_left
        · intro w'
          go_simp
          with_reducible rfl
        rotate_left
        · simp only [Act.put, List.setIfInBounds_toArray, List.set_cons_zero, List.set_cons_succ]
          rfl
        refine pure_ (i := 15) (N := some 27) (v := undef) (a' := ?_) #[true, true, true, true, true, true, true, true, true, true, true, true, true, true, true, true, false, false, false, false, false, false, false, false, false, false, false, false, false, false, false, false, false, false, false] rfl rfl (by kernel_rfl) (fun _ _ _ h => h) (Or.inr ⟨by rfl, rfl⟩) ?_ ?_
        rotate_left
        · simp only [Act.put, List.setIfInBounds_toArray, List.set_cons_zero, List.set_cons_succ]
          rfl
        refine pure_ (i := 16) (N := some 28) (v := undef) (a' := ?_) #[true, true, true, true, true, true, true, true, true, true, true, true, true, true, true, true, true, false, false, false, false, false, false, false, false, false, false, false, false, false, false, false, false, false, false] rfl rfl (by kernel_rfl) (fun _ _ _ h => h) (Or.inr ⟨by rfl, rfl⟩) ?_ ?_
        rotate_left
        · simp only [Act.put, List.setIfInBounds_toArray, List.set_cons_zero, List.set_cons_succ]
          rfl
        refine pure_ (i := 17) (N := some 29) (v := undef) (a' := ?_) #[true, true, true, true, true, true, true, true, true, true, true, true, true, true, true, true, true, true, false, false, false, false, false, false, false, false, false, false, false, false, false, false, false, false, false] rfl rfl (by kernel_rfl) (fun _ _ _ h => h) (Or.inr ⟨by rfl, rfl⟩) ?_ ?_
        rotate_left
        · simp only [Act.put, List.setIfInBounds_toArray, List.set_cons_zero, List.set_cons_succ]
          rfl
        refine pure_ (i := 18) (N := some 30) (v := ?_) (a' := ?_) #[true, true, true, true, true, true, true, true, true, true, true, true, true, true, true, true, true, true, true, false, false, false, false, false, false, false, false, false, false, false, false, false, false, false, false] rfl rfl (by kernel_rfl) (fun _ _ _ h => h) (Or.inl ⟨by rfl, ?_⟩) ?_ ?_
        rotate_left
        · intro w'
          go_simp
          with_reducible rfl
        rotate_left
        · simp only [Act.put, List.setIfInBounds_toArray, List.set_cons_zero, List.set_cons_succ]
          rfl
        refine pure_ (i := 19) (N := some 31) (v := ?_) (a' := ?_) #[true, true, true, true, true, true, true, true, true, true, true, true, true, true, true, true, true, true, true, true, false, false, false, false, false, false, false, false, false, false, false, false, false, false, false] rfl rfl (by kernel_rfl) (fun _ _ _ h => h) (Or.inl ⟨by rfl, ?_⟩) ?_ ?_
        rotate_left
        · intro w'
          go_simp
          with_reducible rfl
        rotate_left
        · simp only [Act.put, List.setIfInBounds_toArray, List.set_cons_zero, List.set_cons_succ]
          rfl
        refine pure_ (i := 20) (N := some 32) (v := undef) (a' := ?_) #[true, true, true, true, true, true, true, true, true, true, true, true, true, true, true, true, true, true, true, true, true, false, false, false, false, false, false, false, false, false, false, false, false, false, false] rfl rfl (by kernel_rfl) (fun _ _ _ h => h) (Or.inr ⟨by rfl, rfl⟩) ?_ ?_
        rotate_left
        · simp only [Act.put, List.setIfInBounds_toArray, List.set_cons_zero, List.set_cons_succ]
          rfl
        refine pure_ (i := 21) (N := some 33) (v := undef) (a' := ?_) #[true, true, true, true, true, true, true, true, true, true, true, true, true, true, true, true, true, true, true, true, true, true, false, false, false, false, false, false, false, false, false, false, false, false, false] rfl rfl (by kernel_rfl) (fun _ _ _ h => h) (Or.inr ⟨by rfl, rfl⟩) ?_ ?_
        rotate_left
        · simp only [Act.put, List.setIfInBounds_toArray, List.set_cons_zero, List.set_cons_succ]
          rfl
        refine pure_ (i := 22) (N := some 34) (v := undef) (a' := ?_) #[true, true, true, true, true, true, true, true, true, true, true, true, true, true, true, true, true, true, true, true, true, true, true, false, false, false, false, false, false, false, false, false, false, false, false] rfl rfl (by kernel_rfl) (fun _ _ _ h => h) (Or.inr ⟨by rfl, rfl⟩) ?_ ?_
        rotate_left
        · simp only [Act.put, List.setIfInBounds_toArray, List.set_cons_zero, List.set_cons_succ]
          rfl
        refine pure_ (i := 23) (N := some 35) (v := undef) (a' := ?_) #[true, true, true, true, true, true, true, true, true, true, true, true, true, true, true, true, true, true, true, true, true, true, true, true, false, false, false, false, false, false, false, false, false, false, false] rfl rfl (by kernel_rfl) (fun _ _ _ h => h) (Or.inr ⟨by rfl, rfl⟩) ?_ ?_
        rotate_left
        · simp only [Act.put, List.setIfInBounds_toArray, List.set_cons_zero, List.set_cons_succ]
          rfl
        refine pure_ (i := 24) (N := some 36) (v := undef) (a' := ?_) #[true, true, true, true, true, true, true, true, true, true, true, true, true, true, true, true, true, true, true, true, true, true, true, true, true, false, false, false, false, false, false, false, false, false, false] rfl rfl (by kernel_rfl) (fun _ _ _ h => h) (Or.inr ⟨by rfl, rfl⟩) ?_ ?_
        rotate_left
        · simp only [Act.put, List.setIfInBounds_toArray, List.set_cons_zero, List.set_cons_succ]
          rfl
        refine pure_ (i := 25) (N := some 37) (v := undef) (a' := ?_) #[true, true, true, true, true, true, true, true, true, true, true, true, true, true, true, true, true, true, true, true, true, true, true, true, true, true, false, false, false, false, false, false, false, false, false] rfl rfl (by kernel_rfl) (fun _ _ _ h => h) (Or.inr ⟨by rfl, rfl⟩) ?_ ?_
        rotate_left
        · simp only [Act.put, List.setIfInBounds_toArray, List.set_cons_zero, List.set_cons_succ]
          rfl
        refine pure_ (i := 26) (N := some 38) (v := undef) (a' := ?_) #[true, true, true, true, true, true, true, true, true, true, true, true, true, true, true, true, true, true, true, true, true, true, true, true, true, true, true, false, false, false, false, false, false, false, false] rfl rfl (by kernel_rfl) (fun _ _ _ h => h) (Or.inr ⟨by rfl, rfl⟩) ?_ ?_
        rotate_left
        · simp only [Act.put, List.setIfInBounds_toArray, List.set_cons_zero, List.set_cons_succ]
          rfl
        refine pure_ (i := 27) (N := some 39) (v := undef) (a' := ?_) #[true, true, true, true, true, true, true, true, true, true, true, true, true, true, true, true, true, true, true, true, true, true, true, true, true, true, true, true, false, false, false, false, false, false, false] rfl rfl (by kernel_rfl) (fun _ _ _ h => h) (Or.inr ⟨by rfl, rfl⟩) ?_ ?_
        rotate_left
        · simp only [Act.put, List.setIfInBounds_toArray, List.set_cons_zero, List.set_cons_succ]
          rfl
        refine pure_ (i := 28) (N := some 40) (v := undef) (a' := ?_) #[true, true, true, true, true, true, true, true, true, true, true, true, true, true, true, true, true, true, true, true, true, true, true, true, true, true, true, true, true, false, false, false, false, false, false] rfl rfl (by kernel_rfl) (fun _ _ _ h => h) (Or.inr ⟨by rfl, rfl⟩) ?_ ?_
        rotate_left
        · simp only [Act.put, List.setIfInBounds_toArray, List.set_cons_zero, List.set_cons_succ]
          rfl
        refine pure_ (i := 29) (N := some 41) (v := undef) (a' := ?_) #[true, true, true, true, true, true, true, true, true, true, true, true, true, true, true, true, true, true, true, true, true, true, true, true, true, true, true, true, true, true, false, false, false, false, false] rfl rfl (by kernel_rfl) (fun _ _ _ h => h) (Or.inr ⟨by rfl, rfl⟩) ?_ ?_
        rotate_left
        · simp only [Act.put, List.setIfInBounds_toArray, List.set_cons_zero, List.set_cons_succ]
          rfl
        refine pure_ (i := 30) (N := some 42) (v := undef) (a' := ?_) #[true, true, true, true, true, true, true, true, true, true, true, true, true, true, true, true, true, true, true, true, true, true, true, true, true, true, true, true, true, true, true, false, false, false, false] rfl rfl (by kernel_rfl) (fun _ _ _ h => h) (Or.inr ⟨by rfl, rfl⟩) ?_ ?_
        rotate_left
        · simp only [Act.put, List.setIfInBounds_toArray, List.set_cons_zero, List.set_cons_succ]
          rfl
        refine pure_ (i := 31) (N := some 43) (v := undef) (a' := ?_) #[true, true, true, true, true, true, true, true, true, true, true, true, true, true, true, true, true, true, true, true, true, true, true, true, true, true, true, true, true, true, true, true, false, false, false] rfl rfl (by kernel_rfl) (fun _ _ _ h => h) (Or.inr ⟨by rfl, rfl⟩) ?_ ?_
        rotate_left
        · simp only [Act.put, List.setIfInBounds_toArray, List.set_cons_zero, List.set_cons_succ]
          rfl
        refine pure_ (i := 32) (N := some 44) (v := undef) (a' := ?_) #[true, true, true, true, true, true, true, true, true, true, true, true, true, true, true, true, true, true, true, true, true, true, true, true, true, true, true, true, true, true, true, true, true, false, false] rfl rfl (by kernel_rfl) (fun _ _ _ h => h) (Or.inr ⟨by rfl, rfl⟩) ?_ ?_
        rotate_left
        · simp only [Act.put, List.setIfInBounds_toArray, List.set_cons_zero, List.set_cons_succ]
          rfl
        refine pure_ (i := 33) (N := some 45) (v := undef) (a' := ?_) #[true, true, true, true, true, true, true, true, true, true, true, true, true, true, true, true, true, true, true, true, true, true, true, true, true, true, true, true, true, true, true, true, true, true, false] rfl rfl (by kernel_rfl) (fun _ _ _ h => h) (Or.inr ⟨by rfl, rfl⟩) ?_ ?_
        rotate_left
        · simp only [Act.put, List.setIfInBounds_toArray, List.set_cons_zero, List.set_cons_succ]
          rfl
        refine pure_ (i := 34) (N := some 46) (v := ?_) (a' := ?_) #[true, true, true, true, true, true, true, true, true, true, true, true, true, true, true, true, true, true, true, true, true, true, true, true, true, true, true, true, true, true, true, true, true, true, true] rfl rfl (by kernel_rfl) (fun _ _ _ h => h) (Or.inl ⟨by rfl, ?_⟩) ?_ ?_
        rotate_left
        · intro w'
          go_simp
          with_reducible rfl
        rotate_left
        · simp only [Act.put, List.setIfInBounds_toArray, List.set_cons_zero, List.set_cons_succ]
          rfl
        refine done_ (by kernel_rfl) ?_
        go_wp2_with fail
        go_ret
        refine ⟨ret_bool ?_, below_box HB.out HB.out.size HB1.out⟩
        have : stepB l k = false := by simp [stepB, HX.out, itB, HRC.out]
        rw [bagB_false this HR.out.len hlt]
      | true =>
        have HRC := Lib.hid hr
        clear hr
        cases hz : (x.n == 0) with
        | true =>
          clear hRk
          go_wp2_with fail
          refine start_ (n := 35) (S := fun w' => w'.cell? ⟨wr.heap.size, 0, none⟩ = some (.int .i64 x.r.at_) ∧ w'.cell? ⟨wr.heap.size, 1, none⟩ = some (.int .i64 x.r.key) ∧ w'.cell? ⟨wr.heap.size, 2, none⟩ = some (.int .i64 x.r.val) ∧ w'.cell? ⟨wr.heap.size, 3, none⟩ = some (.int .i64 x.n)) (ds := []) #[false, false, false, false, false, false, false, false, false, false, false, false, false, false, false, false, false, false, false, false, false, false, false, false, false, false, false, false, false, false, false, false, false, false, false] (by kernel_rfl) rfl rfl ⟨f0, f1, f2, f3⟩ (fun hHeld => ?_)
          refine pure_ (i := 0) (N := some 12) (v := ?_) (a' := ?_) #[true, false, false, false, false, false, false, false, false, false, false, false, false, false, false, false, false, false, false, false, false, false, false, false, false, false, false, false, false, false, false, false, false, false, false] rfl rfl (by kernel_rfl) (fun _ _ _ h => h) (Or.inl ⟨by rfl, ?_⟩) ?_ ?_
          rotate_left
          · intro w'
            go_simp
            with_reducible rfl
          rotate_left
          · simp only [Act.put, List.setIfInBounds_toArray, List.set_cons_zero, List.set_cons_succ]
            rfl
          refine take_ (i := 1) (N := some 13) (v := ?_) (a' := ?_) #[true, true, false, false, false, false, false, false, false, false, false, false, false, false, false, false, false, false, false, false, false, false, false, false, false, false, false, false, false, false, false, false, false, false, false] rfl rfl (by kernel_rfl) (fun _ _ _ h => h) (Or.inl ⟨by rfl, ?_⟩) hHeld ?_ ?_
          rotate_left
          · rintro w' ⟨s0, s1, s2, s3⟩
            go_simp
            with_reducible rfl
          rotate_left
          · simp only [Act.put, List.setIfInBounds_toArray, List.set_cons_zero, List.set_cons_succ]
            rfl
          refine one_ (i := 2) (N := some 14) #[true, true, true, false, false, false, false, false, false, false, false, false, false, false, false, false, false, false, false, false, false, false, false, false, false, false, false, false, false, false, false, false, false, false, false] rfl rfl (by kernel_rfl) (by decide) (fun K hK => ?_)
          refine goes_ Tryz.func69 (by kernel_rfl) rfl #[.agg #[.int .i64 x.r.at_, .int .i64 x.r.key, .int .i64 x.r.val]] (by rfl) rfl rfl (by (try simp only [List.map_toArray, List.map_cons, List.map_nil]); first | done | rfl) ?_
          with_reducible refine (Rec_any x.r _).mono ?_
          rintro e w1 ⟨rfl, hb1⟩
          rw [HRC.out]
          refine ⟨_, rfl, ?_⟩
          have HB1 := Lib.hid hb1.drew_left
          obtain ⟨f0, f1, f2, f3⟩ := box4 HB1.out
          refine hK.out _ _ ⟨f0, f1, f2, f3⟩ (fun hHeld => ?_)
          clear hK K hb1
          refine norm_ (a' := ?_) ?_ ?_
          rotate_left
          · show Act.put _ (some 14) _ = _
            simp only [Act.put, List.setIfInBounds_toArray, List.set_cons_zero, List.set_cons_succ]
            rfl
          refine pure_ (i := 3) (N := some 15) (v := ?_) (a' := ?_) #[true, true, true, true, false, false, false, false, false, false, false, false, false, false, false, false, false, false, false, false, false, false, false, false, false, false, false, false, false, false, false, false, false, false, false] rfl rfl (by kernel_rfl) (fun _ _ _ h => h) (Or.inl ⟨by rfl, ?_⟩) ?_ ?_
          rotate_left
          · intro w'
            go_simp
            with_reducible rfl
          rotate_left
          · simp only [Act.put, List.setIfInBounds_toArray, List.set_cons_zero, List.set_cons_succ]
            rfl
          refine pure_ (i := 4) (N := some 16) (v := ?_) (a' := ?_) #[true, true, true, true, true, false, false, false, false, false, false, false, false, false, false, false, false, false, false, false, false, false, false, false, false, false, false, false, false, false, false, false, false, false, false] rfl rfl (by kernel_rfl) (fun _ _ _ h => h) (Or.inl ⟨by rfl, ?_⟩) ?_ ?_
          rotate_left
          · intro w'
            go_simp
            with_reducible rfl
          rotate_left
          · simp only [Act.put, List.setIfInBounds_toArray, List.set_cons_zero, List.set_cons_succ]
            rfl
          refine pure_ (i := 5) (N := some 17) (v := ?_) (a' := ?_) #[true, true, true, true, true, true, false, false, false, false, false, false, false, false, false, false, false, false, false, false, false, false, false, false, false, false, false, false, false, false, false, false, false, false, false] rfl rfl (by kernel_rfl) (fun _ _ _ h => h) (Or.inl ⟨by rfl, ?_⟩) ?_ ?_
          rotate_left
          · intro w'
            go_simp
            with_reducible rfl
          rotate_left
          · simp only [Act.put, List.setIfInBounds_toArray, List.set_cons_zero, List.set_cons_succ]
            rfl
          refine take_ (i := 6) (N := some 18) (v := ?_) (a' := ?_) #[true, true, true, true, true, true, true, false, false, false, false, false, false, false, false, false, false, false, false, false, false, false, false, false, false, false, false, false, false, false, false, false, false, false, false] rfl rfl (by kernel_rfl) (fun _ _ _ h => h) (Or.inl ⟨by rfl, ?_⟩) hHeld ?_ ?_
          rotate_left
          · rintro w' ⟨s0, s1, s2, s3⟩
            go_simp
            with_reducible rfl
          rotate_left
          · simp only [Act.put, List.setIfInBounds_toArray, List.set_cons_zero, List.set_cons_succ]
            rfl
          refine pure_ (i := 7) (N := some 19) (v := ?_) (a' := ?_) #[true, true, true, true, true, true, true, true, false, false, false, false, false, false, false, false, false, false, false, false, false, false, false, false, false, false, false, false, false, false, false, false, false, false, false] rfl rfl (by kernel_rfl) (fun _ _ _ h => h) (Or.inl ⟨by rfl, ?_⟩) ?_ ?_
          rotate_left
          · intro w'
            go_simp
            with_reducible rfl
          rotate_left
          · simp only [Act.put, List.setIfInBounds_toArray, List.set_cons_zero, List.set_cons_succ]
            rfl
          refine pure_ (i := 8) (N := some 20) (v := ?_) (a' := ?_) #[true, true, true, true, true, true, true, true, true, false, false, false, false, false, false, false, false, false, false, false, false, false, false, false, false, false, false, false, false, false, false, false, false, false, false] rfl rfl (by kernel_rfl) (fun _ _ _ h => h) (Or.inl ⟨by rfl, ?_⟩) ?_ ?_
          rotate_left
          · intro w'
            go_simp
            with_reducible rfl
          rotate_left
          · simp only [Act.put, List.setIfInBounds_toArray, List.set_cons_zero, List.set_cons_succ]
            rfl
          refine pure_ (i := 9) (N := some 21) (v := ?_) (a' := ?_) #[true, true, true, true, true, true, true, true, true, true, false, false, false, false, false, false, false, false, false, false, false, false, false, false, false, false, false, false, false, false, false, false, false, false, false] rfl rfl (by kernel_rfl) (fun _ _ _ h => h) (Or.inl ⟨by rfl, ?_⟩) ?_ ?_
          rotate_left
          · intro w'
            go_simp
            with_reducible rfl
          rotate_left
          · simp only [Act.put, List.setIfInBounds_toArray, List.set_cons_zero, List.set_cons_succ]
            rfl
          refine pure_ (i := 10) (N := some 22) (v := undef) (a' := ?_) #[true, true, true, true, true, true, true, true, true, true, true, false, false, false, false, false, false, false, false, false, false, false, false, false, false, false, false, false, false, false, false, false, false, false, false] rfl rfl (by kernel_rfl) (fun _ _ _ h => h) (Or.inr ⟨by rfl, rfl⟩) ?_ ?_
          rotate_left
          · simp only [Act.put, List.setIfInBounds_toArray, List.set_cons_zero, List.set_cons_succ]
            rfl
          refine pure_ (i := 11) (N := some 23) (v := undef) (a' := ?_) #[true, true, true, true, true, true, true, true, true, true, true, true, false, false, false, false, false, false, false, false, false, false, false, false, false, false, false, false, false, false, false, false, false, false, false] rfl rfl (by kernel_rfl) (fun _ _ _ h => h) (Or.inr ⟨by rfl, rfl⟩) ?_ ?_
          rotate_left
          · simp only [Act.put, List.setIfInBounds_toArray, List.set_cons_zero, List.set_cons_succ]
            rfl
          refine pure_ (i := 12) (N := some 24) (v := undef) (a' := ?_) #[true, true, true, true, true, true, true, true, true, true, true, true, true, false, false, false, false, false, false, false, false, false, false, false, false, false, false, false, false, false, false, false, false, false, false] rfl rfl (by kernel_rfl) (fun _ _ _ h => h) (Or.inr ⟨by rfl, rfl⟩) ?_ ?_
          rotate_left
          · simp only [Act.put, List.setIfInBounds_toArray, List.set_cons_zero, List.set_cons_succ]
            rfl
          refine pure_ (i := 13) (N := some 25) (v := ?_) (a' := ?_) #[true, true, true, true, true, true, true, true, true, true, true, true, true, true, false, false, false, false, false, false, false, false, false, false, false, false, false, false, false, false, false, false, false, false, false] rfl rfl (by kernel_rfl) (fun _ _ _ h => h) (Or.inl ⟨by rfl, ?_⟩) ?_ ?_
          rotate_left
          · intro w'
            go_simp
            with_reducible rfl
          rotate_left
          · simp only [Act.put, List.setIfInBounds_toArray, List.set_cons_zero, List.set_cons_succ]
            rfl
          refine pure_ (i := 14) (N := some 26) (v := ?_) (a' := ?_) #[true, true, true, true, true, true, true, true, true, true, true, true, true, true, true, false, false, false, false, false, false, false, false, false, false, false, false, false, false, false, false, false, false, false, false] rfl rfl (by kernel_rfl) (fun _ _ _ h => h) (Or.inl ⟨by rfl, ?_⟩) ?_ ?_
          rotate_left
          · intro w'
            go_simp
            with_reducible rfl
          rotate_left
          · simp only [Act.put, List.setIfInBounds_toArray, List.set_cons_zero, List.set_cons_succ]
            rfl
          refine pure_ (i := 15) (N := some 27) (v := undef) (a' := ?_) #[true, true, true, true, true, true, true, true, true, true, true, true, true, true, true, true, false, false, false, false, false, false, false, false, false, false, false, false, false, false, false, false, false, false, false] rfl rfl (by kernel_rfl) (fun _ _ _ h => h) (Or.inr ⟨by rfl, rfl⟩) ?_ ?_
          rotate_left
          · simp only [Act.put, List.setIfInBounds_toArray, List.set_cons_zero, List.set_cons_succ]
            rfl
          refine pure_ (i := 16) (N := some 28) (v := undef) (a' := ?_) #[true, true, true, true, true, true, true, true, true, true, true, true, true, true, true, true, true, false, false, false, false, false, false, false, false, false, false, false, false, false, false, false, false, false, false] rfl rfl (by kernel_rfl) (fun _ _ _ h => h) (Or.inr ⟨by rfl, rfl⟩) ?_ ?_
          rotate_left
          · simp only [Act.put, List.setIfInBounds_toArray, List.set_cons_zero, List.set_cons_succ]
            rfl
          refine pure_ (i := 17) (N := some 29) (v := undef) (a' := ?_) #[true, true, true, true, true, true, true, true, true, true, true, true, true, true, true, true, true, true, false, false, false, false, false, false, false, false, false, false, false, false, false, false, false, false, false] rfl rfl (by kernel_rfl) (fun _ _ _ h => h) (Or.inr ⟨by rfl, rfl⟩) ?_ ?_
          rotate_left
          · simp only [Act.put, List.setIfInBounds_toArray, List.set_cons_zero, List.set_cons_succ]
            rfl
          refine pure_ (i := 18) (N := some 30) (v := ?_) (a' := ?_) #[true, true, true, true, true, true, true, true, true, true, true, true, true, true, true, true, true, true, true, false, false, false, false, false, false, false, false, false, false, false, false, false, false, false, false] rfl rfl (by kernel_rfl) (fun _ _ _ h => h) (Or.inl ⟨by rfl, ?_⟩) ?_ ?_
          rotate_left
          · intro w'
            go_simp
            with_reducible rfl
          rotate_left
          · simp only [Act.put, List.setIfInBounds_toArray, List.set_cons_zero, List.set_cons_succ]
            rfl
          refine pure_ (i := 19) (N := some 31) (v := ?_) (a' := ?_) #[true, true, true, true, true, true, true, true, true, true, true, true, true, true, true, true, true, true, true, true, false, false, false, false, false, false, false, false, false, false, false, false, false, false, false] rfl rfl (by kernel_rfl) (fun _ _ _ h => h) (Or.inl ⟨by rfl, ?_⟩) ?_ ?_
          rotate_left
          · intro w'
            go_simp
            with_reducible rfl
          rotate_left
          · simp only [Act.put, List.setIfInBounds_toArray, List.set_cons_zero, List.set_cons_succ]
            rfl
          refine pure_ (i := 20) (N := some 32) (v := undef) (a' := ?_) #[true, true, true, true, true, true, true, true, true, true, true, true, true, true, true, true, true, true, true, true, true, false, false, false, false, false, false, false, false, false, false, false, false, false, false] rfl rfl (by kernel_rfl) (fun _ _ _ h => h) (Or.inr ⟨by rfl, rfl⟩) ?_ ?_
          rotate_left
          · simp only [Act.put, List.setIfInBounds_toArray, List.set_cons_zero, List.set_cons_succ]
            rfl
          refine pure_ (i := 21) (N := some 33) (v := undef) (a' := ?_) #[true, true, true, true, true, true, true, true, true, true, true, true, true, true, true, true, true, true, true, true, true, true, false, false, false, false, false, false, false, false, false, false, false, false, false] rfl rfl (by kernel_rfl) (fun _ _ _ h => h) (Or.inr ⟨by rfl, rfl⟩) ?_ ?_
          rotate_left
          · simp only [Act.put, List.setIfInBounds_toArray, List.set_cons_zero, List.set_cons_succ]
            rfl
          refine pure_ (i := 22) (N := some 34) (v := undef) (a' := ?_) #[true, true, true, true, true, true, true, true, true, true, true, true, true, true, true, true, true, true, true, true, true, true, true, false, false, false, false, false, false, false, false, false, false, false, false] rfl rfl (by kernel_rfl) (fun _ _ _ h => h) (Or.inr ⟨by rfl, rfl⟩) ?_ ?_
          rotate_left
          · simp only [Act.put, List.setIfInBounds_toArray, List.set_cons_zero, List.set_cons_succ]
            rfl
          refine pure_ (i := 23) (N := some 35) (v := undef) (a' := ?_) #[true, true, true, true, true, true, true, true, true, true, true, true, true, true, true, true, true, true, true, true, true, true, true, true, false, false, false, false, false, false, false, false, false, false, false] rfl rfl (by kernel_rfl) (fun _ _ _ h => h) (Or.inr ⟨by rfl, rfl⟩) ?_ ?_
          rotate_left
          · simp only [Act.put, List.setIfInBounds_toArray, List.set_cons_zero, List.set_cons_succ]
            rfl
          refine pure_ (i := 24) (N := some 36) (v := undef) (a' := ?_) #[true, true, true, true, true, true, true, true, true, true, true, true, true, true, true, true, true, true, true, true, true, true, true, true, true, false, false, false, false, false, false, false, false, false, false] rfl rfl (by kernel_rfl) (fun _ _ _ h => h) (Or.inr ⟨by rfl, rfl⟩) ?_ ?_
          rotate_left
          · simp only [Act.put, List.setIfInBounds_toArray, List.set_cons_zero, List.set_cons_succ]
            rfl
          refine pure_ (i := 25) (N := some 37) (v := undef) (a' := ?_) #[true, true, true, true, true, true, true, true, true, true, true, true, true, true, true, true, true, true, true, true, true, true, true, true, true, true, false, false, false, false, false, false, false, false, false] rfl rfl (by kernel_rfl) (fun _ _ _ h => h) (Or.inr ⟨by rfl, rfl⟩) ?_ ?_
          rotate_left
          · simp only [Act.put, List.setIfInBounds_toArray, List.set_cons_zero, List.set_cons_succ]
            rfl
          refine pure_ (i := 26) (N := some 38) (v := undef) (a' := ?_) #[true, true, true, true, true, true, true, true, true, true, true, true, true, true, true, true, true, true, true, true, true, true, true, true, true, true, true, false, false, false, false, false, false, false, false] rfl rfl (by kernel_rfl) (fun _ _ _ h => h) (Or.inr ⟨by rfl, rfl⟩) ?_ ?_
          rotate_left
          · simp only [Act.put, List.setIfInBounds_toArray, List.set_cons_zero, List.set_cons_succ]
            rfl
          refine pure_ (i := 27) (N := some 39) (v := undef) (a' := ?_) #[true, true, true, true, true, true, true, true, true, true, true, true, true, true, true, true, true, true, true, true, true, true, true, true, true, true, true, true, false, false, false, false, false, false, false] rfl rfl (by kernel_rfl) (fun _ _ _ h => h) (Or.inr ⟨by rfl, rfl⟩) ?_ ?_
          rotate_left
          · simp only [Act.put, List.setIfInBounds_toArray, List.set_cons_zero, List.set_cons_succ]
            rfl
          refine pure_ (i := 28) (N := some 40) (v := undef) (a' := ?_) #[true, true, true, true, true, true, true, true, true, true, true, true, true, true, true, true, true, true, true, true, true, true, true, true, true, true, true, true, true, false, false, false, false, false, false] rfl rfl (by kernel_rfl) (fun _ _ _ h => h) (Or.inr ⟨by rfl, rfl⟩) ?_ ?_
          rotate_left
          · simp only [Act.put, List.setIfInBounds_toArray, List.set_cons_zero, List.set_cons_succ]
            rfl
          refine pure_ (i := 29) (N := some 41) (v := undef) (a' := ?_) #[true, true, true, true, true, true, true, true, true, true, true, true, true, true, true, true, true, true, true, true, true, true, true, true, true, true, true, true, true, true, false, false, false, false, false] rfl rfl (by kernel_rfl) (fun _ _ _ h => h) (Or.inr ⟨by rfl, rfl⟩) ?_ ?_
          rotate_left
          · simp only [Act.put, List.setIfInBounds_toArray, List.set_cons_zero, List.set_cons_succ]
            rfl
          refine pure_ (i := 30) (N := some 42) (v := undef) (a' := ?_) #[true, true, true, true, true, true, true, true, true, true, true, true, true, true, true, true, true, true, true, true, true, true, true, true, true, true, true, true, true, true, true, false, false, false, false] rfl rfl (by kernel_rfl) (fun _ _ _ h => h) (Or.inr ⟨by rfl, rfl⟩) ?_ ?_
          rotate_left
          · simp only [Act.put, List.setIfInBounds_toArray, List.set_cons_zero, List.set_cons_succ]
            rfl
          refine pure_ (i := 31) (N := some 43) (v := undef) (a' := ?_) #[true, true, true, true, true, true, true, true, true, true, true, true, true, true, true, true, true, true, true, true, true, true, true, true, true, true, true, true, true, true, true, true, false, false, false] rfl rfl (by kernel_rfl) (fun _ _ _ h => h) (Or.inr ⟨by rfl, rfl⟩) ?_ ?_
          rotate_left
          · simp only [Act.put, List.setIfInBounds_toArray, List.set_cons_zero, List.set_cons_succ]
            rfl
          refine pure_ (i := 32) (N := some 44) (v := undef) (a' := ?_) #[true, true, true, true, true, true, true, true, true, true, true, true, true, true, true, true, true, true, true, true, true, true, true, true, true, true, true, true, true, true, true, true, true, false, false] rfl rfl (by kernel_rfl) (fun _ _ _ h => h) (Or.inr ⟨by rfl, rfl⟩) ?_ ?_
          rotate_left
          · simp only [Act.put, List.setIfInBounds_toArray, List.set_cons_zero, List.set_cons_succ]
            rfl
          refine pure_ (i := 33) (N := some 45) (v := undef) (a' := ?_) #[true, true, true, true, true, true, true, true, true, true, true, true, true, true, true, true, true, true, true, true, true, true, true, true, true, true, true, true, true, true, true, true, true, true, false] rfl rfl (by kernel_rfl) (fun _ _ _ h => h) (Or.inr ⟨by rfl, rfl⟩) ?_ ?_
          rotate_left
          · simp only [Act.put, List.setIfInBounds_toArray, List.set_cons_zero, List.set_cons_succ]
            rfl
          refine pure_ (i := 34) (N := some 46) (v := ?_) (a' := ?_) #[true, true, true, true, true, true, true, true, true, true, true, true, true, true, true, true, true, true, true, true, true, true, true, true, true, true, true, true, true, true, true, true, true, true, true] rfl rfl (by kernel_rfl) (fun _ _ _ h => h) (Or.inl ⟨by rfl, ?_⟩) ?_ ?_
          rotate_left
          · intro w'
            go_simp
            with_reducible rfl
          rotate_left
          · simp only [Act.put, List.setIfInBounds_toArray, List.set_cons_zero, List.set_cons_succ]
            rfl
          refine done_ (by kernel_rfl) ?_
          go_wp2_with fail
          go_ret
          refine ⟨ret_bool ?_, below_box HB.out HB.out.size HB1.out⟩
          have : stepB l k = false := by simp [stepB, HX.out, itB, HRC.out, hz]
          rw [bagB_false this HR.out.len hlt]
        | false =>
          by_cases hlo : x.n < -1000000
          · have hlod : decide (x.n < -1000000) = true := by simpa using hlo
            have HM : Hid (withinB x.n (-1000000) 1000000 = false) := by show _ = _; simp [withinB]; omega
            clear hRk hlo
            go_wp2_with fail
            refine start_ (n := 35) (S := fun w' => w'.cell? ⟨wr.heap.size, 0, none⟩ = some (.int .i64 x.r.at_) ∧ w'.cell? ⟨wr.heap.size, 1, none⟩ = some (.int .i64 x.r.key) ∧ w'.cell? ⟨wr.heap.size, 2, none⟩ = some (.int .i64 x.r.val) ∧ w'.cell? ⟨wr.heap.size, 3, none⟩ = some (.int .i64 x.n)) (ds := []) #[false, false, false, false, false, false, false, false, false, false, false, false, false, false, false, false, false, false, false, false, false, false, false, false, false, false, false, false, false, false, false, false, false, false, false] (by kernel_rfl) rfl rfl ⟨f0, f1, f2, f3⟩ (fun hHeld => ?_)
            refine pure_ (i := 0) (N := some 12) (v := ?_) (a' := ?_) #[true, false, false, false, false, false, false, false, false, false, false, false, false, false, false, false, false, false, false, false, false, false, false, false, false, false, false, false, false, false, false, false, false, false, false] rfl rfl (by kernel_rfl) (fun _ _ _ h => h) (Or.inl ⟨by rfl, ?_⟩) ?_ ?_
            rotate_left
            · intro w'
              go_simp
              with_reducible rfl
            rotate_left
            · simp only [Act.put, List.setIfInBounds_toArray, List.set_cons_zero, List.set_cons_succ]
              rfl
            refine take_ (i := 1) (N := some 13) (v := ?_) (a' := ?_) #[true, true, false, false, false, false, false, false, false, false, false, false, false, false, false, false, false, false, false, false, false, false, false, false, false, false, false, false, false, false, false, false, false, false, false] rfl rfl (by kernel_rfl) (fun _ _ _ h => h) (Or.inl ⟨by rfl, ?_⟩) hHeld ?_ ?_
            rotate_left
            · rintro w' ⟨s0, s1, s2, s3⟩
              go_simp
              with_reducible rfl
            rotate_left
            · simp only [Act.put, List.setIfInBounds_toArray, List.set_cons_zero, List.set_cons_succ]
              rfl
            refine one_ (i := 2) (N := some 14) #[true, true, true, false, false, false, false, false, false, false, false, false, false, false, false, false, false, false, false, false, false, false, false, false, false, false, false, false, false, false, false, false, false, false, false] rfl rfl (by kernel_rfl) (by decide) (fun K hK => ?_)
            refine goes_ Tryz.func69 (by kernel_rfl) rfl #[.agg #[.int .i64 x.r.at_, .int .i64 x.r.key, .int .i64 x.r.val]] (by rfl) rfl rfl (by (try simp only [List.map_toArray, List.map_cons, List.map_nil]); first | done | rfl) ?_
            with_reducible refine (Rec_any x.r _).mono ?_
            rintro e w1 ⟨rfl, hb1⟩
            rw [HRC.out]
            refine ⟨_, rfl, ?_⟩
            have HB1 := Lib.hid hb1.drew_left
            obtain ⟨f0, f1, f2, f3⟩ := box4 HB1.out
            refine hK.out _ _ ⟨f0, f1, f2, f3⟩ (fun hHeld => ?_)
            clear hK K hb1
            refine norm_ (a' := ?_) ?_ ?_
            rotate_left
            · show Act.put _ (some 14) _ = _
              simp only [Act.put, List.setIfInBounds_toArray, List.set_cons_zero, List.set_cons_succ]
              rfl
            refine pure_ (i := 3) (N := some 15) (v := ?_) (a' := ?_) #[true, true, true, true, false, false, false, false, false, false, false, false, false, false, false, false, false, false, false, false, false, false, false, false, false, false, false, false, false, false, false, false, false, false, false] rfl rfl (by kernel_rfl) (fun _ _ _ h => h) (Or.inl ⟨by rfl, ?_⟩) ?_ ?_
            rotate_left
            · intro w'
              go_simp
              with_reducible rfl
            rotate_left
            · simp only [Act.put, List.setIfInBounds_toArray, List.set_cons_zero, List.set_cons_succ]
              rfl
            refine pure_ (i := 4) (N := some 16) (v := ?_) (a' := ?_) #[true, true, true, true, true, false, false, false, false, false, false, false, false, false, false, false, false, false, false, false, false, false, false, false, false, false, false, false, false, false, false, false, false, false, false] rfl rfl (by kernel_rfl) (fun _ _ _ h => h) (Or.inl ⟨by rfl, ?_⟩) ?_ ?_
            rotate_left
            · intro w'
              go_simp
              with_reducible rfl
            rotate_left
            · simp only [Act.put, List.setIfInBounds_toArray, List.set_cons_zero, List.set_cons_succ]
              rfl
            refine pure_ (i := 5) (N := some 17) (v := ?_) (a' := ?_) #[true, true, true, true, true, true, false, false, false, false, false, false, false, false, false, false, false, false, false, false, false, false, false, false, false, false, false, false, false, false, false, false, false, false, false] rfl rfl (by kernel_rfl) (fun _ _ _ h => h) (Or.inl ⟨by rfl, ?_⟩) ?_ ?_
            rotate_left
            · intro w'
              go_simp
              with_reducible rfl
            rotate_left
            · simp only [Act.put, List.setIfInBounds_toArray, List.set_cons_zero, List.set_cons_succ]
              rfl
            refine take_ (i := 6) (N := some 18) (v := ?_) (a' := ?_) #[true, true, true, true, true, true, true, false, false, false, false, false, false, false, false, false, false, false, false, false, false, false, false, false, false, false, false, false, false, false, false, false, false, false, false] rfl rfl (by kernel_rfl) (fun _ _ _ h => h) (Or.inl ⟨by rfl, ?_⟩) hHeld ?_ ?_
            rotate_left
            · rintro w' ⟨s0, s1, s2, s3⟩
              go_simp
              with_reducible rfl
            rotate_left
            · simp only [Act.put, List.setIfInBounds_toArray, List.set_cons_zero, List.set_cons_succ]
              rfl
            refine pure_ (i := 7) (N := some 19) (v := ?_) (a' := ?_) #[true, true, true, true, true, true, true, true, false, false, false, false, false, false, false, false, false, false, false, false, false, false, false, false, false, false, false, false, false, false, false, false, false, false, false] rfl rfl (by kernel_rfl) (fun _ _ _ h => h) (Or.inl ⟨by rfl, ?_⟩) ?_ ?_
            rotate_left
            · intro w'
              go_simp
              with_reducible rfl
            rotate_left
            · simp only [Act.put, List.setIfInBounds_toArray, List.set_cons_zero, List.set_cons_succ]
              rfl
            refine pure_ (i := 8) (N := some 20) (v := ?_) (a' := ?_) #[true, true, true, true, true, true, true, true, true, false, false, false, false, false, false, false, false, false, false, false, false, false, false, false, false, false, false, false, false, false, false, false, false, false, false] rfl rfl (by kernel_rfl) (fun _ _ _ h => h) (Or.inl ⟨by rfl, ?_⟩) ?_ ?_
            rotate_left
            · intro w'
              go_simp
              with_reducible rfl
            rotate_left
            · simp only [Act.put, List.setIfInBounds_toArray, List.set_cons_zero, List.set_cons_succ]
              rfl
            refine pure_ (i := 9) (N := some 21) (v := ?_) (a' := ?_) #[true, true, true, true, true, true, true, true, true, true, false, false, false, false, false, false, false, false, false, false, false, false, false, false, false, false, false, false, false, false, false, false, false, false, false] rfl rfl (by kernel_rfl) (fun _ _ _ h => h) (Or.inl ⟨by rfl, ?_⟩) ?_ ?_
            rotate_left
            · intro w'
              go_simp
              with_reducible rfl
            rotate_left
            · simp only [Act.put, List.setIfInBounds_toArray, List.set_cons_zero, List.set_cons_succ]
              rfl
            refine pure_ (i := 10) (N := some 22) (v := ?_) (a' := ?_) #[true, true, true, true, true, true, true, true, true, true, true, false, false, false, false, false, false, false, false, false, false, false, false, false, false, false, false, false, false, false, false, false, false, false, false] rfl rfl (by kernel_rfl) (fun _ _ _ h => h) (Or.inl ⟨by rfl, ?_⟩) ?_ ?_
            rotate_left
            · intro w'
              go_simp
              with_reducible rfl
            rotate_left
            · simp only [Act.put, List.setIfInBounds_toArray, List.set_cons_zero, List.set_cons_succ]
              rfl
            refine take_ (i := 11) (N := some 23) (v := ?_) (a' := ?_) #[true, true, true, true, true, true, true, true, true, true, true, true, false, false, false, false, false, false, false, false, false, false, false, false, false, false, false, false, false, false, false, false, false, false, false] rfl rfl (by kernel_rfl) (fun _ _ _ h => h) (Or.inl ⟨by rfl, ?_⟩) hHeld ?_ ?_
            rotate_left
            · rintro w' ⟨s0, s1, s2, s3⟩
              go_simp
              with_reducible rfl
            rotate_left
            · simp only [Act.put, List.setIfInBounds_toArray, List.set_cons_zero, List.set_cons_succ]
              rfl
            refine pure_ (i := 12) (N := some 24) (v := ?_) (a' := ?_) #[true, true, true, true, true, true, true, true, true, true, true, true, true, false, false, false, false, false, false, false, false, false, false, false, false, false, false, false, false, false, false, false, false, false, false] rfl rfl (by kernel_rfl) (fun _ _ _ h => h) (Or.inl ⟨by rfl, ?_⟩) ?_ ?_
            rotate_left
            · intro w'
              go_simp
              with_reducible rfl
            rotate_left
            · simp only [Act.put, List.setIfInBounds_toArray, List.set_cons_zero, List.set_cons_succ]
              rfl
            refine pure_ (i := 13) (N := some 25) (v := ?_) (a' := ?_) #[true, true, true, true, true, true, true, true, true, true, true, true, true, true, false, false, false, false, false, false, false, false, false, false, false, false, false, false, false, false, false, false, false, false, false] rfl rfl (by kernel_rfl) (fun _ _ _ h => h) (Or.inl ⟨by rfl, ?_⟩) ?_ ?_
            rotate_left
            · intro w'
              go_simp
              with_reducible rfl
            rotate_left
            · simp only [Act.put, List.setIfInBounds_toArray, List.set_cons_zero, List.set_cons_succ]
              rfl
            refine pure_ (i := 14) (N := some 26) (v := ?_) (a' := ?_) #[true, true, true, true, true, true, true, true, true, true, true, true, true, true, true, false, false, false, false, false, false, false, false, false, false, false, false, false, false, false, false, false, false, false, false] rfl rfl (by kernel_rfl) (fun _ _ _ h => h) (Or.inl ⟨by rfl, ?_⟩) ?_ ?_
            rotate_left
            · intro w'
              go_simp
              with_reducible rfl
            rotate_left
            · simp only [Act.put, List.setIfInBounds_toArray, List.set_cons_zero, List.set_cons_succ]
              rfl
            refine pure_ (i := 15) (N := some 27) (v := undef) (a' := ?_) #[true, true, true, true, true, true, true, true, true, true, true, true, true, true, true, true, false, false, false, false, false, false, false, false, false, false, false, false, false, false, false, false, false, false, false] rfl rfl (by kernel_rfl) (fun _ _ _ h => h) (Or.inr ⟨by rfl, rfl⟩) ?_ ?_
            rotate_left
            · simp only [Act.put, List.setIfInBounds_toArray, List.set_cons_zero, List.set_cons_succ]
              rfl
            refine pure_ (i := 16) (N := some 28) (v := undef) (a' := ?_) #[true, true, true, true, true, true, true, true, true, true, true, true, true, true, true, true, true, false, false, false, false, false, false, false, false, false, false, false, false, false, false, false, false, false, false] rfl rfl (by kernel_rfl) (fun _ _ _ h => h) (Or.inr ⟨by rfl, rfl⟩) ?_ ?_
            rotate_left
            · simp only [Act.put, List.setIfInBounds_toArray, List.set_cons_zero, List.set_cons_succ]
              rfl
            refine pure_ (i := 17) (N := some 29) (v := undef) (a' := ?_) #[true, true, true, true, true, true, true, true, true, true, true, true, true, true, true, true, true, true, false, false, false, false, false, false, false, false, false, false, false, false, false, false, false, false, false] rfl rfl (by kernel_rfl) (fun _ _ _ h => h) (Or.inr ⟨by rfl, rfl⟩) ?_ ?_
            rotate_left
            · simp only [Act.put, List.setIfInBounds_toArray, List.set_cons_zero, List.set_cons_succ]
              rfl
            refine pure_ (i := 18) (N := some 30) (v := ?_) (a' := ?_) #[true, true, true, true, true, true, true, true, true, true, true, true, true, true, true, true, true, true, true, false, false, false, false, false, false, false, false, false, false, false, false, false, false, false, false] rfl rfl (by kernel_rfl) (fun _ _ _ h => h) (Or.inl ⟨by rfl, ?_⟩) ?_ ?_
            rotate_left
            · intro w'
              go_simp
              with_reducible rfl
            rotate_left
            · simp only [Act.put, List.setIfInBounds_toArray, List.set_cons_zero, List.set_cons_succ]
              rfl
            refine pure_ (i := 19) (N := some 31) (v := ?_) (a' := ?_) #[true, true, true, true, true, true, true, true, true, true, true, true, true, true, true, true, true, true, true, true, false, false, false, false, false, false, false, false, false, false, false, false, false, false, false] rfl rfl (by kernel_rfl) (fun _ _ _ h => h) (Or.inl ⟨by rfl, ?_⟩) ?_ ?_
            rotate_left
            · intro w'
              go_simp
              with_reducible rfl
            rotate_left
            · simp only [Act.put, List.setIfInBounds_toArray, List.set_cons_zero, List.set_cons_succ]
              rfl
            refine pure_ (i := 20) (N := some 32) (v := undef) (a' := ?_) #[true, true, true, true, true, true, true, true, true, true, true, true, true, true, true, true, true, true, true, true, true, false, false, false, false, false, false, false, false, false, false, false, false, false, false] rfl rfl (by kernel_rfl) (fun _ _ _ h => h) (Or.inr ⟨by rfl, rfl⟩) ?_ ?_
            rotate_left
            · simp only [Act.put, List.setIfInBounds_toArray, List.set_cons_zero, List.set_cons_succ]
              rfl
            refine pure_ (i := 21) (N := some 33) (v := undef) (a' := ?_) #[true, true, true, true, true, true, true, true, true, true, true, true, true, true, true, true, true, true, true, true, true, true, false, false, false, false, false, false, false, false, false, false, false, false, false] rfl rfl (by kernel_rfl) (fun _ _ _ h => h) (Or.inr ⟨by rfl, rfl⟩) ?_ ?_
            rotate_left
            · simp only [Act.put, List.setIfInBounds_toArray, List.set_cons_zero, List.set_cons_succ]
              rfl
            refine pure_ (i := 22) (N := some 34) (v := undef) (a' := ?_) #[true, true, true, true, true, true, true, true, true, true, true, true, true, true, true, true, true, true, true, true, true, true, true, false, false, false, false, false, false, false, false, false, false, false, false] rfl rfl (by kernel_rfl) (fun _ _ _ h => h) (Or.inr ⟨by rfl, rfl⟩) ?_ ?_
            rotate_left
            · simp only [Act.put, List.setIfInBounds_toArray, List.set_cons_zero, List.set_cons_succ]
              rfl
            refine pure_ (i := 23) (N := some 35) (v := undef) (a' := ?_) #[true, true, true, true, true, true, true, true, true, true, true, true, true, true, true, true, true, true, true, true, true, true, true, true, false, false, false, false, false, false, false, false, false, false, false] rfl rfl (by kernel_rfl) (fun _ _ _ h => h) (Or.inr ⟨by rfl, rfl⟩) ?_ ?_
            rotate_left
            · simp only [Act.put, List.setIfInBounds_toArray, List.set_cons_zero, List.set_cons_succ]
              rfl
            refine pure_ (i := 24) (N := some 36) (v := undef) (a' := ?_) #[true, true, true, true, true, true, true, true, true, true, true, true, true, true, true, true, true, true, true, true, true, true, true, true, true, false, false, false, false, false, false, false, false, false, false] rfl rfl (by kernel_rfl) (fun _ _ _ h => h) (Or.inr ⟨by rfl, rfl⟩) ?_ ?_
            rotate_left
            · simp only [Act.put, List.setIfInBounds_toArray, List.set_cons_zero, List.set_cons_succ]
              rfl
            refine pure_ (i := 25) (N := some 37) (v := undef) (a' := ?_) #[true, true, true, true, true, true, true, true, true, true, true, true, true, true, true, true, true, true, true, true, true, true, true, true, true, true, false, false, false, false, false, false, false, false, false] rfl rfl (by kernel_rfl) (fun _ _ _ h => h) (Or.inr ⟨by rfl, rfl⟩) ?_ ?_
            rotate_left
            · simp only [Act.put, List.setIfInBounds_toArray, List.set_cons_zero, List.set_cons_succ]
              rfl
            refine pure_ (i := 26) (N := some 38) (v := undef) (a' := ?_) #[true, true, true, true, true, true, true, true, true, true, true, true, true, true, true, true, true, true, true, true, true, true, true, true, true, true, true, false, false, false, false, false, false, false, false] rfl rfl (by kernel_rfl) (fun _ _ _ h => h) (Or.inr ⟨by rfl, rfl⟩) ?_ ?_
            rotate_left
            · simp only [Act.put, List.setIfInBounds_toArray, List.set_cons_zero, List.set_cons_succ]
              rfl
            refine pure_ (i := 27) (N := some 39) (v := undef) (a' := ?_) #[true, true, true, true, true, true, true, true, true, true, true, true, true, true, true, true, true, true, true, true, true, true, true, true, true, true, true, true, false, false, false, false, false, false, false] rfl rfl (by kernel_rfl) (fun _ _ _ h => h) (Or.inr ⟨by rfl, rfl⟩) ?_ ?_
            rotate_left
            · simp only [Act.put, List.setIfInBounds_toArray, List.set_cons_zero, List.set_cons_succ]
              rfl
            refine pure_ (i := 28) (N := some 40) (v := undef) (a' := ?_) #[true, true, true, true, true, true, true, true, true, true, true, true, true, true, true, true, true, true, true, true, true, true, true, true, true, true, true, true, true, false, false, false, false, false, false] rfl rfl (by kernel_rfl) (fun _ _ _ h => h) (Or.inr ⟨by rfl, rfl⟩) ?_ ?_
            rotate_left
            · simp only [Act.put, List.setIfInBounds_toArray, List.set_cons_zero, List.set_cons_succ]
              rfl
            refine pure_ (i := 29) (N := some 41) (v := undef) (a' := ?_) #[true, true, true, true, true, true, true, true, true, true, true, true, true, true, true, true, true, true, true, true, true, true, true, true, true, true, true, true, true, true, false, false, false, false, false] rfl rfl (by kernel_rfl) (fun _ _ _ h => h) (Or.inr ⟨by rfl, rfl⟩) ?_ ?_
            rotate_left
            · simp only [Act.put, List.setIfInBounds_toArray, List.set_cons_zero, List.set_cons_succ]
              rfl
            refine pure_ (i := 30) (N := some 42) (v := undef) (a' := ?_) #[true, true, true, true, true, true, true, true, true, true, true, true, true, true, true, true, true, true, true, true, true, true, true, true, true, true, true, true, true, true, true, false, false, false, false] rfl rfl (by kernel_rfl) (fun _ _ _ h => h) (Or.inr ⟨by rfl, rfl⟩) ?_ ?_
            rotate_left
            · simp only [Act.put, List.setIfInBounds_toArray, List.set_cons_zero, List.set_cons_succ]
              rfl
            refine pure_ (i := 31) (N := some 43) (v := undef) (a' := ?_) #[true, true, true, true, true, true, true, true, true, true, true, true, true, true, true, true, true, true, true, true, true, true, true, true, true, true, true, true, true, true, true, true, false, false, false] rfl rfl (by kernel_rfl) (fun _ _ _ h => h) (Or.inr ⟨by rfl, rfl⟩) ?_ ?_
            rotate_left
            · simp only [Act.put, List.setIfInBounds_toArray, List.set_cons_zero, List.set_cons_succ]
              rfl
            refine pure_ (i := 32) (N := some 44) (v := undef) (a' := ?_) #[true, true, true, true, true, true, true, true, true, true, true, true, true, true, true, true, true, true, true, true, true, true, true, true, true, true, true, true, true, true, true, true, true, false, false] rfl rfl (by kernel_rfl) (fun _ _ _ h => h) (Or.inr ⟨by rfl, rfl⟩) ?_ ?_
            rotate_left
            · simp only [Act.put, List.setIfInBounds_toArray, List.set_cons_zero, List.set_cons_succ]
              rfl
            refine pure_ (i := 33) (N := some 45) (v := undef) (a' := ?_) #[true, true, true, true, true, true, true, true, true, true, true, true, true, true, true, true, true, true, true, true, true, true, true, true, true, true, true, true, true, true, true, true, true, true, false] rfl rfl (by kernel_rfl) (fun _ _ _ h => h) (Or.inr ⟨by rfl, rfl⟩) ?_ ?_
            rotate_left
            · simp only [Act.put, List.setIfInBounds_toArray, List.set_cons_zero, List.set_cons_succ]
              rfl
            refine pure_ (i := 34) (N := some 46) (v := ?_) (a' := ?_) #[true, true, true, true, true, true, true, true, true, true, true, true, true, true, true, true, true, true, true, true, true, true, true, true, true, true, true, true, true, true, true, true, true, true, true] rfl rfl (by kernel_rfl) (fun _ _ _ h => h) (Or.inl ⟨by rfl, ?_⟩) ?_ ?_
            rotate_left
            · intro w'
              go_simp
              with_reducible rfl
            rotate_left
            · simp only [Act.put, List.setIfInBounds_toArray, List.set_cons_zero, List.set_cons_succ]
              rfl
            refine done_ (by kernel_rfl) ?_
            go_wp2_with fail
            go_ret
            refine ⟨ret_bool ?_, below_box HB.out HB.out.size HB1.out⟩
            have : stepB l k = false := by simp [stepB, HX.out, itB, HRC.out, HM.out]
            rw [bagB_false this HR.out.len hlt]
          · have hlod : decide (x.n < -1000000) = false := by simpa using hlo
            by_cases hhi : 1000000 < x.n
            · have hhid : decide (1000000 < x.n) = true := by simpa using hhi
              have HM : Hid (withinB x.n (-1000000) 1000000 = false) := by show _ = _; simp [withinB]; omega
              clear hRk hhi hlo
              go_wp2_with fail
              refine start_ (n := 35) (S := fun w' => w'.cell? ⟨wr.heap.size, 0, none⟩ = some (.int .i64 x.r.at_) ∧ w'.cell? ⟨wr.heap.size, 1, none⟩ = some (.int .i64 x.r.key) ∧ w'.cell? ⟨wr.heap.size, 2, none⟩ = some (.int .i64 x.r.val) ∧ w'.cell? ⟨wr.heap.size, 3, none⟩ = some (.int .i64 x.n)) (ds := []) #[false, false, false, false, false, false, false, false, false, false, false, false, false, false, false, false, false, false, false, false, false, false, false, false, false, false, false, false, false, false, false, false, false, false, false] (by kernel_rfl) rfl rfl ⟨f0, f1, f2, f3⟩ (fun hHeld => ?_)
              refine pure_ (i := 0) (N := some 12) (v := ?_) (a' := ?_) #[true, false, false, false, false, false, false, false, false, false, false, false, false, false, false, false, false, false, false, false, false, false, false, false, false, false, false, false, false, false, false, false, false, false, false] rfl rfl (by kernel_rfl) (fun _ _ _ h => h) (Or.inl ⟨by rfl, ?_⟩) ?_ ?_
              rotate_left
              · intro w'
                go_simp
                with_reducible rfl
              rotate_left
              · simp only [Act.put, List.setIfInBounds_toArray, List.set_cons_zero, List.set_cons_succ]
                rfl
              refine take_ (i := 1) (N := some 13) (v := ?_) (a' := ?_) #[true, true, false, false, false, false, false, false, false, false, false, false, false, false, false, false, false, false, false, false, false, false, false, false, false, false, false, false, false, false, false, false, false, false, false] rfl rfl (by kernel_rfl) (fun _ _ _ h => h) (Or.inl ⟨by rfl, ?_⟩) hHeld ?_ ?_
              rotate_left
              · rintro w' ⟨s0, s1, s2, s3⟩
                go_simp
                with_reducible rfl
              rotate_left
              · simp only [Act.put, List.setIfInBounds_toArray, List.set_cons_zero, List.set_cons_succ]
                rfl
              refine one_ (i := 2) (N := some 14) #[true, true, true, false, false, false, false, false, false, false, false, false, false, false, false, false, false, false, false, false, false, false, false, false, false, false, false, false, false, false, false, false, false, false, false] rfl rfl (by kernel_rfl) (by decide) (fun K hK => ?_)
              refine goes_ Tryz.func69 (by kernel_rfl) rfl #[.agg #[.int .i64 x.r.at_, .int .i64 x.r.key, .int .i64 x.r.val]] (by rfl) rfl rfl (by (try simp only [List.map_toArray, List.map_cons, List.map_nil]); first | done | rfl) ?_
              with_reducible refine (Rec_any x.r _).mono ?_
              rintro e w1 ⟨rfl, hb1⟩
              rw [HRC.out]
              refine ⟨_, rfl, ?_⟩
              have HB1 := Lib.hid hb1.drew_left
              obtain ⟨f0, f1, f2, f3⟩ := box4 HB1.out
              refine hK.out _ _ ⟨f0, f1, f2, f3⟩ (fun hHeld => ?_)
              clear hK K hb1
              refine norm_ (a' := ?_) ?_ ?_
              rotate_left
              · show Act.put _ (some 14) _ = _
                simp only [Act.put, List.setIfInBounds_toArray, List.set_cons_zero, List.set_cons_succ]
                rfl
              refine pure_ (i := 3) (N := some 15) (v := ?_) (a' := ?_) #[true, true, true, true, false, false, false, false, false, false, false, false, false, false, false, false, false, false, false, false, false, false, false, false, false, false, false, false, false, false, false, false, false, false, false] rfl rfl (by kernel_rfl) (fun _ _ _ h => h) (Or.inl ⟨by rfl, ?_⟩) ?_ ?_
              rotate_left
              · intro w'
                go_simp
                with_reducible rfl
              rotate_left
              · simp only [Act.put, List.setIfInBounds_toArray, List.set_cons_zero, List.set_cons_succ]
                rfl
              refine pure_ (i := 4) (N := some 16) (v := ?_) (a' := ?_) #[true, true, true, true, true, false, false, false, false, false, false, false, false, false, false, false, false, false, false, false, false, false, false, false, false, false, false, false, false, false, false, false, false, false, false] rfl rfl (by kernel_rfl) (fun _ _ _ h => h) (Or.inl ⟨by rfl, ?_⟩) ?_ ?_
              rotate_left
              · intro w'
                go_simp
                with_reducible rfl
              rotate_left
              · simp only [Act.put, List.setIfInBounds_toArray, List.set_cons_zero, List.set_cons_succ]
                rfl
              refine pure_ (i := 5) (N := some 17) (v := ?_) (a' := ?_) #[true, true, true, true, true, true, false, false, false, false, false, false, false, false, false, false, false, false, false, false, false, false, false, false, false, false, false, false, false, false, false, false, false, false, false] rfl rfl (by kernel_rfl) (fun _ _ _ h => h) (Or.inl ⟨by rfl, ?_⟩) ?_ ?_
              rotate_left
              · intro w'
                go_simp
                with_reducible rfl
              rotate_left
              · simp only [Act.put, List.setIfInBounds_toArray, List.set_cons_zero, List.set_cons_succ]
                rfl
              refine take_ (i := 6) (N := some 18) (v := ?_) (a' := ?_) #[true, true, true, true, true, true, true, false, false, false, false, false, false, false, false, false, false, false, false, false, false, false, false, false, false, false, false, false, false, false, false, false, false, false, false] rfl rfl (by kernel_rfl) (fun _ _ _ h => h) (Or.inl ⟨by rfl, ?_⟩) hHeld ?_ ?_
              rotate_left
              · rintro w' ⟨s0, s1, s2, s3⟩
                go_simp
                with_reducible rfl
              rotate_left
              · simp only [Act.put, List.setIfInBounds_toArray, List.set_cons_zero, List.set_cons_succ]
                rfl
              refine pure_ (i := 7) (N := some 19) (v := ?_) (a' := ?_) #[true, true, true, true, true, true, true, true, false, false, false, false, false, false, false, false, false, false, false, false, false, false, false, false, false, false, false, false, false, false, false, false, false, false, false] rfl rfl (by kernel_rfl) (fun _ _ _ h => h) (Or.inl ⟨by rfl, ?_⟩) ?_ ?_
              rotate_left
              · intro w'
                go_simp
                with_reducible rfl
              rotate_left
              · simp only [Act.put, List.setIfInBounds_toArray, List.set_cons_zero, List.set_cons_succ]
                rfl
              refine pure_ (i := 8) (N := some 20) (v := ?_) (a' := ?_) #[true, true, true, true, true, true, true, true, true, false, false, false, false, false, false, false, false, false, false, false, false, false, false, false, false, false, false, false, false, false, false, false, false, false, false] rfl rfl (by kernel_rfl) (fun _ _ _ h => h) (Or.inl ⟨by rfl, ?_⟩) ?_ ?_
              rotate_left
              · intro w'
                go_simp
                with_reducible rfl
              rotate_left
              · simp only [Act.put, List.setIfInBounds_toArray, List.set_cons_zero, List.set_cons_succ]
                rfl
              refine pure_ (i := 9) (N := some 21) (v := ?_) (a' := ?_) #[true, true, true, true, true, true, true, true, true, true, false, false, false, false, false, false, false, false, false, false, false, false, false, false, false, false, false, false, false, false, false, false, false, false, false] rfl rfl (by kernel_rfl) (fun _ _ _ h => h) (Or.inl ⟨by rfl, ?_⟩) ?_ ?_
              rotate_left
              · intro w'
                go_simp
                with_reducible rfl
              rotate_left
              · simp only [Act.put, List.setIfInBounds_toArray, List.set_cons_zero, List.set_cons_succ]
                rfl
              refine pure_ (i := 10) (N := some 22) (v := ?_) (a' := ?_) #[true, true, true, true, true, true, true, true, true, true, true, false, false, false, false, false, false, false, false, false, false, false, false, false, false, false, false, false, false, false, false, false, false, false, false] rfl rfl (by kernel_rfl) (fun _ _ _ h => h) (Or.inl ⟨by rfl, ?_⟩) ?_ ?_
              rotate_left
              · intro w'
                go_simp
                with_reducible rfl
              rotate_left
              · simp only [Act.put, List.setIfInBounds_toArray, List.set_cons_zero, List.set_cons_succ]
                rfl
              refine take_ (i := 11) (N := some 23) (v := ?_) (a' := ?_) #[true, true, true, true, true, true, true, true, true, true, true, true, false, false, false, false, false, false, false, false, false, false, false, false, false, false, false, false, false, false, false, false, false, false, false] rfl rfl (by kernel_rfl) (fun _ _ _ h => h) (Or.inl ⟨by rfl, ?_⟩) hHeld ?_ ?_
              rotate_left
              · rintro w' ⟨s0, s1, s2, s3⟩
                go_simp
                with_reducible rfl
              rotate_left
              · simp only [Act.put, List.setIfInBounds_toArray, List.set_cons_zero, List.set_cons_succ]
                rfl
              refine pure_ (i := 12) (N := some 24) (v := ?_) (a' := ?_) #[true, true, true, true, true, true, true, true, true, true, true, true, true, false, false, false, false, false, false, false, false, false, false, false, false, false, false, false, false, false, false, false, false, false, false] rfl rfl (by kernel_rfl) (fun _ _ _ h => h) (Or.inl ⟨by rfl, ?_⟩) ?_ ?_
              rotate_left
              · intro w'
                go_simp
                with_reducible rfl
              rotate_left
              · simp only [Act.put, List.setIfInBounds_toArray, List.set_cons_zero, List.set_cons_succ]
                rfl
              refine pure_ (i := 13) (N := some 25) (v := ?_) (a' := ?_) #[true, true, true, true, true, true, true, true, true, true, true, true, true, true, false, false, false, false, false, false, false, false, false, false, false, false, false, false, false, false, false, false, false, false, false] rfl rfl (by kernel_rfl) (fun _ _ _ h => h) (Or.inl ⟨by rfl, ?_⟩) ?_ ?_
              rotate_left
              · intro w'
                go_simp
                with_reducible rfl
              rotate_left
              · simp only [Act.put, List.setIfInBounds_toArray, List.set_cons_zero, List.set_cons_succ]
                rfl
              refine pure_ (i := 14) (N := some 26) (v := ?_) (a' := ?_) #[true, true, true, true, true, true, true, true, true, true, true, true, true, true, true, false, false, false, false, false, false, false, false, false, false, false, false, false, false, false, false, false, false, false, false] rfl rfl (by kernel_rfl) (fun _ _ _ h => h) (Or.inl ⟨by rfl, ?_⟩) ?_ ?_
              rotate_left
              · intro w'
                go_simp
                with_reducible rfl
              rotate_left
              · simp only [Act.put, List.setIfInBounds_toArray, List.set_cons_zero, List.set_cons_succ]
                rfl
              refine pure_ (i := 15) (N := some 27) (v := ?_) (a' := ?_) #[true, true, true, true, true, true, true, true, true, true, true, true, true, true, true, true, false, false, false, false, false, false, false, false, false, false, false, false, false, false, false, false, false, false, false] rfl rfl (by kernel_rfl) (fun _ _ _ h => h) (Or.inl ⟨by rfl, ?_⟩) ?_ ?_
              rotate_left
              · intro w'
                go_simp
                with_reducible rfl
              rotate_left
              · simp only [Act.put, List.setIfInBounds_toArray, List.set_cons_zero, List.set_cons_succ]
                rfl
              refine take_ (i := 16) (N := some 28) (v := ?_) (a' := ?_) #[true, true, true, true, true, true, true, true, true, true, true, true, true, true, true, true, true, false, false, false, false, false, false, false, false, false, false, false, false, false, false, false, false, false, false] rfl rfl (by kernel_rfl) (fun _ _ _ h => h) (Or.inl ⟨by rfl, ?_⟩) hHeld ?_ ?_
              rotate_left
              · rintro w' ⟨s0, s1, s2, s3⟩
                go_simp
                with_reducible rfl
              rotate_left
              · simp only [Act.put, List.setIfInBounds_toArray, List.set_cons_zero, List.set_cons_succ]
                rfl
              refine pure_ (i := 17) (N := some 29) (v := ?_) (a' := ?_) #[true, true, true, true, true, true, true, true, true, true, true, true, true, true, true, true, true, true, false, false, false, false, false, false, false, false, false, false, false, false, false, false, false, false, false] rfl rfl (by kernel_rfl) (fun _ _ _ h => h) (Or.inl ⟨by rfl, ?_⟩) ?_ ?_
              rotate_left
              · intro w'
                go_simp
                with_reducible rfl
              rotate_left
              · simp only [Act.put, List.setIfInBounds_toArray, List.set_cons_zero, List.set_cons_succ]
                rfl
              refine pure_ (i := 18) (N := some 30) (v := ?_) (a' := ?_) #[true, true, true, true, true, true, true, true, true, true, true, true, true, true, true, true, true, true, true, false, false, false, false, false, false, false, false, false, false, false, false, false, false, false, false] rfl rfl (by kernel_rfl) (fun _ _ _ h => h) (Or.inl ⟨by rfl, ?_⟩) ?_ ?_
              rotate_left
              · intro w'
                go_simp
                with_reducible rfl
              rotate_left
              · simp only [Act.put, List.setIfInBounds_toArray, List.set_cons_zero, List.set_cons_succ]
                rfl
              refine pure_ (i := 19) (N := some 31) (v := ?_) (a' := ?_) #[true, true, true, true, true, true, true, true, true, true, true, true, true, true, true, true, true, true, true, true, false, false, false, false, false, false, false, false, false, false, false, false, false, false, false] rfl rfl (by kernel_rfl) (fun _ _ _ h => h) (Or.inl ⟨by rfl, ?_⟩) ?_ ?_
              rotate_left
              · intro w'
                go_simp
                with_reducible rfl
              rotate_left
              · simp only [Act.put, List.setIfInBounds_toArray, List.set_cons_zero, List.set_cons_succ]
                rfl
              refine pure_ (i := 20) (N := some 32) (v := undef) (a' := ?_) #[true, true, true, true, true, true, true, true, true, true, true, true, true, true, true, true, true, true, true, true, true, false, false, false, false, false, false, false, false, false, false, false, false, false, false] rfl rfl (by kernel_rfl) (fun _ _ _ h => h) (Or.inr ⟨by rfl, rfl⟩) ?_ ?_
              rotate_left
              · simp only [Act.put, List.setIfInBounds_toArray, List.set_cons_zero, List.set_cons_succ]
                rfl
              refine pure_ (i := 21) (N := some 33) (v := undef) (a' := ?_) #[true, true, true, true, true, true, true, true, true, true, true, true, true, true, true, true, true, true, true, true, true, true, false, false, false, false, false, false, false, false, false, false, false, false, false] rfl rfl (by kernel_rfl) (fun _ _ _ h => h) (Or.inr ⟨by rfl, rfl⟩) ?_ ?_
              rotate_left
              · simp only [Act.put, List.setIfInBounds_toArray, List.set_cons_zero, List.set_cons_succ]
                rfl
              refine pure_ (i := 22) (N := some 34) (v := undef) (a' := ?_) #[true, true, true, true, true, true, true, true, true, true, true, true, true, true, true, true, true, true, true, true, true, true, true, false, false, false, false, false, false, false, false, false, false, false, false] rfl rfl (by kernel_rfl) (fun _ _ _ h => h) (Or.inr ⟨by rfl, rfl⟩) ?_ ?_
              rotate_left
              · simp only [Act.put, List.setIfInBounds_toArray, List.set_cons_zero, List.set_cons_succ]
                rfl
              refine pure_ (i := 23) (N := some 35) (v := undef) (a' := ?_) #[true, true, true, true, true, true, true, true, true, true, true, true, true, true, true, true, true, true, true, true, true, true, true, true, false, false, false, false, false, false, false, false, false, false, false] rfl rfl (by kernel_rfl) (fun _ _ _ h => h) (Or.inr ⟨by rfl, rfl⟩) ?_ ?_
              rotate_left
              · simp only [Act.put, List.setIfInBounds_toArray, List.set_cons_zero, List.set_cons_succ]
                rfl
              refine pure_ (i := 24) (N := some 36) (v := undef) (a' := ?_) #[true, true, true, true, true, true, true, true, true, true, true, true, true, true, true, true, true, true, true, true, true, true, true, true, true, false, false, false, false, false, false, false, false, false, false] rfl rfl (by kernel_rfl) (fun _ _ _ h => h) (Or.inr ⟨by rfl, rfl⟩) ?_ ?_
              rotate_left
              · simp only [Act.put, List.setIfInBounds_toArray, List.set_cons_zero, List.set_cons_succ]
                rfl
              refine pure_ (i := 25) (N := some 37) (v := undef) (a' := ?_) #[true, true, true, true, true, true, true, true, true, true, true, true, true, true, true, true, true, true, true, true, true, true, true, true, true, true, false, false, false, false, false, false, false, false, false] rfl rfl (by kernel_rfl) (fun _ _ _ h => h) (Or.inr ⟨by rfl, rfl⟩) ?_ ?_
              rotate_left
              · simp only [Act.put, List.setIfInBounds_toArray, List.set_cons_zero, List.set_cons_succ]
                rfl
              refine pure_ (i := 26) (N := some 38) (v := undef) (a' := ?_) #[true, true, true, true, true, true, true, true, true, true, true, true, true, true, true, true, true, true, true, true, true, true, true, true, true, true, true, false, false, false, false, false, false, false, false] rfl rfl (by kernel_rfl) (fun _ _ _ h => h) (Or.inr ⟨by rfl, rfl⟩) ?_ ?_
              rotate_left
              · simp only [Act.put, List.setIfInBounds_toArray, List.set_cons_zero, List.set_cons_succ]
                rfl
              refine pure_ (i := 27) (N := some 39) (v := undef) (a' := ?_) #[true, true, true, true, true, true, true, true, true, true, true, true, true, true, true, true, true, true, true, true, true, true, true, true, true, true, true, true, false, false, false, false, false, false, false] rfl rfl (by kernel_rfl) (fun _ _ _ h => h) (Or.inr ⟨by rfl, rfl⟩) ?_ ?_
              rotate_left
              · simp only [Act.put, List.setIfInBounds_toArray, List.set_cons_zero, List.set_cons_succ]
                rfl
              refine pure_ (i := 28) (N := some 40) (v := undef) (a' := ?_) #[true, true, true, true, true, true, true, true, true, true, true, true, true, true, true, true, true, true, true, true, true, true, true, true, true, true, true, true, true, false, false, false, false, false, false] rfl rfl (by kernel_rfl) (fun _ _ _ h => h) (Or.inr ⟨by rfl, rfl⟩) ?_ ?_
              rotate_left
              · simp only [Act.put, List.setIfInBounds_toArray, List.set_cons_zero, List.set_cons_succ]
                rfl
              refine pure_ (i := 29) (N := some 41) (v := undef) (a' := ?_) #[true, true, true, true, true, true, true, true, true, true, true, true, true, true, true, true, true, true, true, true, true, true, true, true, true, true, true, true, true, true, false, false, false, false, false] rfl rfl (by kernel_rfl) (fun _ _ _ h => h) (Or.inr ⟨by rfl, rfl⟩) ?_ ?_
              rotate_left
              · simp only [Act.put, List.setIfInBounds_toArray, List.set_cons_zero, List.set_cons_succ]
                rfl
              refine pure_ (i := 30) (N := some 42) (v := undef) (a' := ?_) #[true, true, true, true, true, true, true, true, true, true, true, true, true, true, true, true, true, true, true, true, true, true, true, true, true, true, true, true, true, true, true, false, false, false, false] rfl rfl (by kernel_rfl) (fun _ _ _ h => h) (Or.inr ⟨by rfl, rfl⟩) ?_ ?_
              rotate_left
              · simp only [Act.put, List.setIfInBounds_toArray, List.set_cons_zero, List.set_cons_succ]
                rfl
              refine pure_ (i := 31) (N := some 43) (v := undef) (a' := ?_) #[true, true, true, true, true, true, true, true, true, true, true, true, true, true, true, true, true, true, true, true, true, true, true, true, true, true, true, true, true, true, true, true, false, false, false] rfl rfl (by kernel_rfl) (fun _ _ _ h => h) (Or.inr ⟨by rfl, rfl⟩) ?_ ?_
              rotate_left
              · simp only [Act.put, List.setIfInBounds_toArray, List.set_cons_zero, List.set_cons_succ]
                rfl
              refine pure_ (i := 32) (N := some 44) (v := undef) (a' := ?_) #[true, true, true, true, true, true, true, true, true, true, true, true, true, true, true, true, true, true, true, true, true, true, true, true, true, true, true, true, true, true, true, true, true, false, false] rfl rfl (by kernel_rfl) (fun _ _ _ h => h) (Or.inr ⟨by rfl, rfl⟩) ?_ ?_
              rotate_left
              · simp only [Act.put, List.setIfInBounds_toArray, List.set_cons_zero, List.set_cons_succ]
                rfl
              refine pure_ (i := 33) (N := some 45) (v := undef) (a' := ?_) #[true, true, true, true, true, true, true, true, true, true, true, true, true, true, true, true, true, true, true, true, true, true, true, true, true, true, true, true, true, true, true, true, true, true, false] rfl rfl (by kernel_rfl) (fun _ _ _ h => h) (Or.inr ⟨by rfl, rfl⟩) ?_ ?_
              rotate_left
              · simp only [Act.put, List.setIfInBounds_toArray, List.set_cons_zero, List.set_cons_succ]
                rfl
              refine pure_ (i := 34) (N := some 46) (v := ?_) (a' := ?_) #[true, true, true, true, true, true, true, true, true, true, true, true, true, true, true, true, true, true, true, true, true, true, true, true, true, true, true, true, true, true, true, true, true, true, true] rfl rfl (by kernel_rfl) (fun _ _ _ h => h) (Or.inl ⟨by rfl, ?_⟩) ?_ ?_
              rotate_left
              · intro w'
                go_simp
                with_reducible rfl
              rotate_left
              · simp only [Act.put, List.setIfInBounds_toArray, List.set_cons_zero, List.set_cons_succ]
                rfl
              refine done_ (by kernel_rfl) ?_
              go_wp2_with fail
              go_ret
              refine ⟨ret_bool ?_, below_box HB.out HB.out.size HB1.out⟩
              have : stepB l k = false := by simp [stepB, HX.out, itB, HRC.out, HM.out]
              rw [bagB_false this HR.out.len hlt]
            · have hhid : decide (1000000 < x.n) = false := by simpa using hhi
              have HM : Hid (withinB x.n (-1000000) 1000000 = true) := by show _ = _; simp [withinB]; omega
              clear hhi hlo
              cases k with
              | zero =>
                clear hRk
                simp only [Nat.zero_mul, Nat.add_zero] at c0 c1 c2 c3
                go_wp2_with fail
                refine start_ (n := 35) (S := fun w' => w'.cell? ⟨wr.heap.size, 0, none⟩ = some (.int .i64 x.r.at_) ∧ w'.cell? ⟨wr.heap.size, 1, none⟩ = some (.int .i64 x.r.key) ∧ w'.cell? ⟨wr.heap.size, 2, none⟩ = some (.int .i64 x.r.val) ∧ w'.cell? ⟨wr.heap.size, 3, none⟩ = some (.int .i64 x.n)) (ds := []) #[false, false, false, false, false, false, false, false, false, false, false, false, false, false, false, false, false, false, false, false, false, false, false, false, false, false, false, false, false, false, false, false, false, false, false] (by kernel_rfl) rfl rfl ⟨f0, f1, f2, f3⟩ (fun hHeld => ?_)
                refine pure_ (i := 0) (N := some 12) (v := ?_) (a' := ?_) #[true, false, false, false, false, false, false, false, false, false, false, false, false, false, false, false, false, false, false, false, false, false, false, false, false, false, false, false, false, false, false, false, false, false, false] rfl rfl (by kernel_rfl) (fun _ _ _ h => h) (Or.inl ⟨by rfl, ?_⟩) ?_ ?_
                rotate_left
                · intro w'
                  go_simp
                  with_reducible rfl
                rotate_left
                · simp only [Act.put, List.setIfInBounds_toArray, List.set_cons_zero, List.set_cons_succ]
                  rfl
                refine take_ (i := 1) (N := some 13) (v := ?_) (a' := ?_) #[true, true, false, false, false, false, false, false, false, false, false, false, false, false, false, false, false, false, false, false, false, false, false, false, false, false, false, false, false, false, false, false, false, false, false] rfl rfl (by kernel_rfl) (fun _ _ _ h => h) (Or.inl ⟨by rfl, ?_⟩) hHeld ?_ ?_
                rotate_left
                · rintro w' ⟨s0, s1, s2, s3⟩
                  go_simp
                  with_reducible rfl
                rotate_left
                · simp only [Act.put, List.setIfInBounds_toArray, List.set_cons_zero, List.set_cons_succ]
                  rfl
                refine one_ (i := 2) (N := some 14) #[true, true, true, false, false, false, false, false, false, false, false, false, false, false, false, false, false, false, false, false, false, false, false, false, false, false, false, false, false, false, false, false, false, false, false] rfl rfl (by kernel_rfl) (by decide) (fun K hK => ?_)
                refine goes_ Tryz.func69 (by kernel_rfl) rfl #[.agg #[.int .i64 x.r.at_, .int .i64 x.r.key, .int .i64 x.r.val]] (by rfl) rfl rfl (by (try simp only [List.map_toArray, List.map_cons, List.map_nil]); first | done | rfl) ?_
                with_reducible refine (Rec_any x.r _).mono ?_
                rintro e w1 ⟨rfl, hb1⟩
                rw [HRC.out]
                refine ⟨_, rfl, ?_⟩
                have HB1 := Lib.hid hb1.drew_left
                obtain ⟨f0, f1, f2, f3⟩ := box4 HB1.out
                refine hK.out _ _ ⟨f0, f1, f2, f3⟩ (fun hHeld => ?_)
                clear hK K hb1
                refine norm_ (a' := ?_) ?_ ?_
                rotate_left
                · show Act.put _ (some 14) _ = _
                  simp only [Act.put, List.setIfInBounds_toArray, List.set_cons_zero, List.set_cons_succ]
                  rfl
                refine pure_ (i := 3) (N := some 15) (v := ?_) (a' := ?_) #[true, true, true, true, false, false, false, false, false, false, false, false, false, false, false, false, false, false, false, false, false, false, false, false, false, false, false, false, false, false, false, false, false, false, false] rfl rfl (by kernel_rfl) (fun _ _ _ h => h) (Or.inl ⟨by rfl, ?_⟩) ?_ ?_
                rotate_left
                · intro w'
                  go_simp
                  with_reducible rfl
                rotate_left
                · simp only [Act.put, List.setIfInBounds_toArray, List.set_cons_zero, List.set_cons_succ]
                  rfl
                refine pure_ (i := 4) (N := some 16) (v := ?_) (a' := ?_) #[true, true, true, true, true, false, false, false, false, false, false, false, false, false, false, false, false, false, false, false, false, false, false, false, false, false, false, false, false, false, false, false, false, false, false] rfl rfl (by kernel_rfl) (fun _ _ _ h => h) (Or.inl ⟨by rfl, ?_⟩) ?_ ?_
                rotate_left
                · intro w'
                  go_simp
                  with_reducible rfl
                rotate_left
                · simp only [Act.put, List.setIfInBounds_toArray, List.set_cons_zero, List.set_cons_succ]
                  rfl
                refine pure_ (i := 5) (N := some 17) (v := ?_) (a' := ?_) #[true, true, true, true, true, true, false, false, false, false, false, false, false, false, false, false, false, false, false, false, false, false, false, false, false, false, false, false, false, false, false, false, false, false, false] rfl rfl (by kernel_rfl) (fun _ _ _ h => h) (Or.inl ⟨by rfl, ?_⟩) ?_ ?_
                rotate_left
                · intro w'
                  go_simp
                  with_reducible rfl
                rotate_left
                · simp only [Act.put, List.setIfInBounds_toArray, List.set_cons_zero, List.set_cons_succ]
                  rfl
                refine take_ (i := 6) (N := some 18) (v := ?_) (a' := ?_) #[true, true, true, true, true, true, true, false, false, false, false, false, false, false, false, false, false, false, false, false, false, false, false, false, false, false, false, false, false, false, false, false, false, false, false] rfl rfl (by kernel_rfl) (fun _ _ _ h => h) (Or.inl ⟨by rfl, ?_⟩) hHeld ?_ ?_
                rotate_left
                · rintro w' ⟨s0, s1, s2, s3⟩
                  go_simp
                  with_reducible rfl
                rotate_left
                · simp only [Act.put, List.setIfInBounds_toArray, List.set_cons_zero, List.set_cons_succ]
                  rfl
                refine pure_ (i := 7) (N := some 19) (v := ?_) (a' := ?_) #[true, true, true, true, true, true, true, true, false, false, false, false, false, false, false, false, false, false, false, false, false, false, false, false, false, false, false, false, false, false, false, false, false, false, false] rfl rfl (by kernel_rfl) (fun _ _ _ h => h) (Or.inl ⟨by rfl, ?_⟩) ?_ ?_
                rotate_left
                · intro w'
                  go_simp
                  with_reducible rfl
                rotate_left
                · simp only [Act.put, List.setIfInBounds_toArray, List.set_cons_zero, List.set_cons_succ]
                  rfl
                refine pure_ (i := 8) (N := some 20) (v := ?_) (a' := ?_) #[true, true, true, true, true, true, true, true, true, false, false, false, false, false, false, false, false, false, false, false, false, false, false, false, false, false, false, false, false, false, false, false, false, false, false] rfl rfl (by kernel_rfl) (fun _ _ _ h => h) (Or.inl ⟨by rfl, ?_⟩) ?_ ?_
                rotate_left
                · intro w'
                  go_simp
                  with_reducible rfl
                rotate_left
                · simp only [Act.put, List.setIfInBounds_toArray, List.set_cons_zero, List.set_cons_succ]
                  rfl
                refine pure_ (i := 9) (N := some 21) (v := ?_) (a' := ?_) #[true, true, true, true, true, true, true, true, true, true, false, false, false, false, false, false, false, false, false, false, false, false, false, false, false, false, false, false, false, false, false, false, false, false, false] rfl rfl (by kernel_rfl) (fun _ _ _ h => h) (Or.inl ⟨by rfl, ?_⟩) ?_ ?_
                rotate_left
                · intro w'
                  go_simp
                  with_reducible rfl
                rotate_left
                · simp only [Act.put, List.setIfInBounds_toArray, List.set_cons_zero, List.set_cons_succ]
                  rfl
                refine pure_ (i := 10) (N := some 22) (v := ?_) (a' := ?_) #[true, true, true, true, true, true, true, true, true, true, true, false, false, false, false, false, false, false, false, false, false, false, false, false, false, false, false, false, false, false, false, false, false, false, false] rfl rfl (by kernel_rfl) (fun _ _ _ h => h) (Or.inl ⟨by rfl, ?_⟩) ?_ ?_
                rotate_left
                · intro w'
                  go_simp
                  with_reducible rfl
                rotate_left
                · simp only [Act.put, List.setIfInBounds_toArray, List.set_cons_zero, List.set_cons_succ]
                  rfl
                refine take_ (i := 11) (N := some 23) (v := ?_) (a' := ?_) #[true, true, true, true, true, true, true, true, true, true, true, true, false, false, false, false, false, false, false, false, false, false, false, false, false, false, false, false, false, false, false, false, false, false, false] rfl rfl (by kernel_rfl) (fun _ _ _ h => h) (Or.inl ⟨by rfl, ?_⟩) hHeld ?_ ?_
                rotate_left
                · rintro w' ⟨s0, s1, s2, s3⟩
                  go_simp
                  with_reducible rfl
                rotate_left
                · simp only [Act.put, List.setIfInBounds_toArray, List.set_cons_zero, List.set_cons_succ]
                  rfl
                refine pure_ (i := 12) (N := some 24) (v := ?_) (a' := ?_) #[true, true, true, true, true, true, true, true, true, true, true, true, true, false, false, false, false, false, false, false, false, false, false, false, false, false, false, false, false, false, false, false, false, false, false] rfl rfl (by kernel_rfl) (fun _ _ _ h => h) (Or.inl ⟨by rfl, ?_⟩) ?_ ?_
                rotate_left
                · intro w'
                  go_simp
                  with_reducible rfl
                rotate_left
                · simp only [Act.put, List.setIfInBounds_toArray, List.set_cons_zero, List.set_cons_succ]
                  rfl
                refine pure_ (i := 13) (N := some 25) (v := ?_) (a' := ?_) #[true, true, true, true, true, true, true, true, true, true, true, true, true, true, false, false, false, false, false, false, false, false, false, false, false, false, false, false, false, false, false, false, false, false, false] rfl rfl (by kernel_rfl) (fun _ _ _ h => h) (Or.inl ⟨by rfl, ?_⟩) ?_ ?_
                rotate_left
                · intro w'
                  go_simp
                  with_reducible rfl
                rotate_left
                · simp only [Act.put, List.setIfInBounds_toArray, List.set_cons_zero, List.set_cons_succ]
                  rfl
                refine pure_ (i := 14) (N := some 26) (v := ?_) (a' := ?_) #[true, true, true, true, true, true, true, true, true, true, true, true, true, true, true, false, false, false, false, false, false, false, false, false, false, false, false, false, false, false, false, false, false, false, false] rfl rfl (by kernel_rfl) (fun _ _ _ h => h) (Or.inl ⟨by rfl, ?_⟩) ?_ ?_
                rotate_left
                · intro w'
                  go_simp
                  with_reducible rfl
                rotate_left
                · simp only [Act.put, List.setIfInBounds_toArray, List.set_cons_zero, List.set_cons_succ]
                  rfl
                refine pure_ (i := 15) (N := some 27) (v := ?_) (a' := ?_) #[true, true, true, true, true, true, true, true, true, true, true, true, true, true, true, true, false, false, false, false, false, false, false, false, false, false, false, false, false, false, false, false, false, false, false] rfl rfl (by kernel_rfl) (fun _ _ _ h => h) (Or.inl ⟨by rfl, ?_⟩) ?_ ?_
                rotate_left
                · intro w'
                  go_simp
                  with_reducible rfl
                rotate_left
                · simp only [Act.put, List.setIfInBounds_toArray, List.set_cons_zero, List.set_cons_succ]
                  rfl
                refine take_ (i := 16) (N := some 28) (v := ?_) (a' := ?_) #[true, true, true, true, true, true, true, true, true, true, true, true, true, true, true, true, true, false, false, false, false, false, false, false, false, false, false, false, false, false, false, false, false, false, false] rfl rfl (by kernel_rfl) (fun _ _ _ h => h) (Or.inl ⟨by rfl, ?_⟩) hHeld ?_ ?_
                rotate_left
                · rintro w' ⟨s0, s1, s2, s3⟩
                  go_simp
                  with_reducible rfl
                rotate_left
                · simp only [Act.put, List.setIfInBounds_toArray, List.set_cons_zero, List.set_cons_succ]
                  rfl
                refine pure_ (i := 17) (N := some 29) (v := ?_) (a' := ?_) #[true, true, true, true, true, true, true, true, true, true, true, true, true, true, true, true, true, true, false, false, false, false, false, false, false, false, false, false, false, false, false, false, false, false, false] rfl rfl (by kernel_rfl) (fun _ _ _ h => h) (Or.inl ⟨by rfl, ?_⟩) ?_ ?_
                rotate_left
                · intro w'
                  go_simp
                  with_reducible rfl
                rotate_left
                · simp only [Act.put, List.setIfInBounds_toArray, List.set_cons_zero, List.set_cons_succ]
                  rfl
                refine pure_ (i := 18) (N := some 30) (v := ?_) (a' := ?_) #[true, true, true, true, true, true, true, true, true, true, true, true, true, true, true, true, true, true, true, false, false, false, false, false, false, false, false, false, false, false, false, false, false, false, false] rfl rfl (by kernel_rfl) (fun _ _ _ h => h) (Or.inl ⟨by rfl, ?_⟩) ?_ ?_
                rotate_left
                · intro w'
                  go_simp
                  with_reducible rfl
                rotate_left
                · simp only [Act.put, List.setIfInBounds_toArray, List.set_cons_zero, List.set_cons_succ]
                  rfl
                refine pure_ (i := 19) (N := some 31) (v := ?_) (a' := ?_) #[true, true, true, true, true, true, true, true, true, true, true, true, true, true, true, true, true, true, true, true, false, false, false, false, false, false, false, false, false, false, false, false, false, false, false] rfl rfl (by kernel_rfl) (fun _ _ _ h => h) (Or.inl ⟨by rfl, ?_⟩) ?_ ?_
                rotate_left
                · intro w'
                  go_simp
                  with_reducible rfl
                rotate_left
                · simp only [Act.put, List.setIfInBounds_toArray, List.set_cons_zero, List.set_cons_succ]
                  rfl
                refine pure_ (i := 20) (N := some 32) (v := ?_) (a' := ?_) #[true, true, true, true, true, true, true, true, true, true, true, true, true, true, true, true, true, true, true, true, true, false, false, false, false, false, false, false, false, false, false, false, false, false, false] rfl rfl (by kernel_rfl) (fun _ _ _ h => h) (Or.inl ⟨by rfl, ?_⟩) ?_ ?_
                rotate_left
                · intro w'
                  go_simp
                  with_reducible rfl
                rotate_left
                · simp only [Act.put, List.setIfInBounds_toArray, List.set_cons_zero, List.set_cons_succ]
                  rfl
                refine pure_ (i := 21) (N := some 33) (v := ?_) (a' := ?_) #[true, true, true, true, true, true, true, true, true, true, true, true, true, true, true, true, true, true, true, true, true, true, false, false, false, false, false, false, false, false, false, false, false, false, false] rfl rfl (by kernel_rfl) (fun _ _ _ h => h) (Or.inl ⟨by rfl, ?_⟩) ?_ ?_
                rotate_left
                · intro w'
                  go_simp
                  with_reducible rfl
                rotate_left
                · simp only [Act.put, List.setIfInBounds_toArray, List.set_cons_zero, List.set_cons_succ]
                  rfl
                refine pure_ (i := 22) (N := some 34) (v := ?_) (a' := ?_) #[true, true, true, true, true, true, true, true, true, true, true, true, true, true, true, true, true, true, true, true, true, true, true, false, false, false, false, false, false, false, false, false, false, false, false] rfl rfl (by kernel_rfl) (fun _ _ _ h => h) (Or.inl ⟨by rfl, ?_⟩) ?_ ?_
                rotate_left
                · intro w'
                  go_simp
                  with_reducible rfl
                rotate_left
                · simp only [Act.put, List.setIfInBounds_toArray, List.set_cons_zero, List.set_cons_succ]
                  rfl
                refine pure_ (i := 23) (N := some 35) (v := undef) (a' := ?_) #[true, true, true, true, true, true, true, true, true, true, true, true, true, true, true, true, true, true, true, true, true, true, true, true, false, false, false, false, false, false, false, false, false, false, false] rfl rfl (by kernel_rfl) (fun _ _ _ h => h) (Or.inr ⟨by rfl, rfl⟩) ?_ ?_
                rotate_left
                · simp only [Act.put, List.setIfInBounds_toArray, List.set_cons_zero, List.set_cons_succ]
                  rfl
                refine pure_ (i := 24) (N := some 36) (v := undef) (a' := ?_) #[true, true, true, true, true, true, true, true, true, true, true, true, true, true, true, true, true, true, true, true, true, true, true, true, true, false, false, false, false, false, false, false, false, false, false] rfl rfl (by kernel_rfl) (fun _ _ _ h => h) (Or.inr ⟨by rfl, rfl⟩) ?_ ?_
                rotate_left
                · simp only [Act.put, List.setIfInBounds_toArray, List.set_cons_zero, List.set_cons_succ]
                  rfl
                refine pure_ (i := 25) (N := some 37) (v := undef) (a' := ?_) #[true, true, true, true, true, true, true, true, true, true, true, true, true, true, true, true, true, true, true, true, true, true, true, true, true, true, false, false, false, false, false, false, false, false, false] rfl rfl (by kernel_rfl) (fun _ _ _ h => h) (Or.inr ⟨by rfl, rfl⟩) ?_ ?_
                rotate_left
                · simp only [Act.put, List.setIfInBounds_toArray, List.set_cons_zero, List.set_cons_succ]
                  rfl
                refine pure_ (i := 26) (N := some 38) (v := undef) (a' := ?_) #[true, true, true, true, true, true, true, true, true, true, true, true, true, true, true, true, true, true, true, true, true, true, true, true, true, true, true, false, false, false, false, false, false, false, false] rfl rfl (by kernel_rfl) (fun _ _ _ h => h) (Or.inr ⟨by rfl, rfl⟩) ?_ ?_
                rotate_left
                · simp only [Act.put, List.setIfInBounds_toArray, List.set_cons_zero, List.set_cons_succ]
                  rfl
                refine pure_ (i := 27) (N := some 39) (v := undef) (a' := ?_) #[true, true, true, true, true, true, true, true, true, true, true, true, true, true, true, true, true, true, true, true, true, true, true, true, true, true, true, true, false, false, false, false, false, false, false] rfl rfl (by kernel_rfl) (fun _ _ _ h => h) (Or.inr ⟨by rfl, rfl⟩) ?_ ?_
                rotate_left
                · simp only [Act.put, List.setIfInBounds_toArray, List.set_cons_zero, List.set_cons_succ]
                  rfl
                refine pure_ (i := 28) (N := some 40) (v := undef) (a' := ?_) #[true, true, true, true, true, true, true, true, true, true, true, true, true, true, true, true, true, true, true, true, true, true, true, true, true, true, true, true, true, false, false, false, false, false, false] rfl rfl (by kernel_rfl) (fun _ _ _ h => h) (Or.inr ⟨by rfl, rfl⟩) ?_ ?_
                rotate_left
                · simp only [Act.put, List.setIfInBounds_toArray, List.set_cons_zero, List.set_cons_succ]
                  rfl
                refine pure_ (i := 29) (N := some 41) (v := undef) (a' := ?_) #[true, true, true, true, true, true, true, true, true, true, true, true, true, true, true, true, true, true, true, true, true, true, true, true, true, true, true, true, true, true, false, false, false, false, false] rfl rfl (by kernel_rfl) (fun _ _ _ h => h) (Or.inr ⟨by rfl, rfl⟩) ?_ ?_
                rotate_left
                · simp only [Act.put, List.setIfInBounds_toArray, List.set_cons_zero, List.set_cons_succ]
                  rfl
                refine pure_ (i := 30) (N := some 42) (v := undef) (a' := ?_) #[true, true, true, true, true, true, true, true, true, true, true, true, true, true, true, true, true, true, true, true, true, true, true, true, true, true, true, true, true, true, true, false, false, false, false] rfl rfl (by kernel_rfl) (fun _ _ _ h => h) (Or.inr ⟨by rfl, rfl⟩) ?_ ?_
                rotate_left
                · simp only [Act.put, List.setIfInBounds_toArray, List.set_cons_zero, List.set_cons_succ]
                  rfl
                refine pure_ (i := 31) (N := some 43) (v := undef) (a' := ?_) #[true, true, true, true, true, true, true, true, true, true, true, true, true, true, true, true, true, true, true, true, true, true, true, true, true, true, true, true, true, true, true, true, false, false, false] rfl rfl (by kernel_rfl) (fun _ _ _ h => h) (Or.inr ⟨by rfl, rfl⟩) ?_ ?_
                rotate_left
                · simp only [Act.put, List.setIfInBounds_toArray, List.set_cons_zero, List.set_cons_succ]
                  rfl
                refine pure_ (i := 32) (N := some 44) (v := undef) (a' := ?_) #[true, true, true, true, true, true, true, true, true, true, true, true, true, true, true, true, true, true, true, true, true, true, true, true, true, true, true, true, true, true, true, true, true, false, false] rfl rfl (by kernel_rfl) (fun _ _ _ h => h) (Or.inr ⟨by rfl, rfl⟩) ?_ ?_
                rotate_left
                · simp only [Act.put, List.setIfInBounds_toArray, List.set_cons_zero, List.set_cons_succ]
                  rfl
                refine pure_ (i := 33) (N := some 45) (v := ?_) (a' := ?_) #[true, true, true, true, true, true, true, true, true, true, true, true, true, true, true, true, true, true, true, true, true, true, true, true, true, true, true, true, true, true, true, true, true, true, false] rfl rfl (by kernel_rfl) (fun _ _ _ h => h) (Or.inl ⟨by rfl, ?_⟩) ?_ ?_
                rotate_left
                · intro w'
                  go_simp
                  with_reducible rfl
                rotate_left
                · simp only [Act.put, List.setIfInBounds_toArray, List.set_cons_zero, List.set_cons_succ]
                  rfl
                refine pure_ (i := 34) (N := some 46) (v := ?_) (a' := ?_) #[true, true, true, true, true, true, true, true, true, true, true, true, true, true, true, true, true, true, true, true, true, true, true, true, true, true, true, true, true, true, true, true, true, true, true] rfl rfl (by kernel_rfl) (fun _ _ _ h => h) (Or.inl ⟨by rfl, ?_⟩) ?_ ?_
                rotate_left
                · intro w'
                  go_simp
                  with_reducible rfl
                rotate_left
                · simp only [Act.put, List.setIfInBounds_toArray, List.set_cons_zero, List.set_cons_succ]
                  rfl
                refine done_ (by kernel_rfl) ?_
                go_wp2_with fail
                refine ⟨⟨1, by omega, rfl, ?_, below_box HB.out HB.out.size HB1.out⟩, by simp [intOf]; omega⟩
                rw [bagTo_succ]; simp [bagTo, stepB, HX.out, itB, HRC.out, HM.out, hz]
              | succ j =>
                obtain ⟨b', off', y, hbb, _, hy, d0, d1, d2, d3⟩ := hRk.it_at (show j < n by omega)
                cases hbb
                have HY := Lib.hid hy
                have hw : IntKind.i64.wrap (j : Int) = j := IntWalk.i64_in _ (by omega)
                have hw0 : (0 : Int) ≤ j := by omega
                have hw1 : (j : Int) < n := by omega
                have hw2 : (j : Int).toNat = j := by omega
                clear hy hRk
                cases hls : lessB y.r x.r with
                | true =>
                  have HLS := Lib.hid hls
                  have hcmp : rcmp y.r x.r < 0 := by simpa [lessB] using hls
                  have HCMP := Lib.hid hcmp
                  clear hls hcmp
                  go_wp2_with fail
                  have keep0 : ∀ {b o : Nat} {v : Value}, wr.cell? ⟨b, o, none⟩ = some v → (wr.alloc (.cells #[.int .i64 x.r.at_, .int .i64 x.r.key, .int .i64 x.r.val, .int .i64 x.n] 40)).cell? ⟨b, o, none⟩ = some v := fun h => keep_cell (Below.refl _ _) h
                  refine start_ (n := 35) (S := fun w' => w'.cell? ⟨wr.heap.size, 0, none⟩ = some (.int .i64 x.r.at_) ∧ w'.cell? ⟨wr.heap.size, 1, none⟩ = some (.int .i64 x.r.key) ∧ w'.cell? ⟨wr.heap.size, 2, none⟩ = some (.int .i64 x.r.val) ∧ w'.cell? ⟨wr.heap.size, 3, none⟩ = some (.int .i64 x.n) ∧ w'.cell? ⟨b, off + j * 4, none⟩ = some (.int .i64 y.r.at_) ∧ w'.cell? ⟨b, off + j * 4 + 1, none⟩ = some (.int .i64 y.r.key) ∧ w'.cell? ⟨b, off + j * 4 + 2, none⟩ = some (.int .i64 y.r.val)) (ds := []) #[false, false, false, false, false, false, false, false, false, false, false, false, false, false, false, false, false, false, false, false, false, false, false, false, false, false, false, false, false, false, false, false, false, false, false] (by kernel_rfl) rfl rfl ⟨f0, f1, f2, f3, keep0 d0, keep0 d1, keep0 d2⟩ (fun hHeld => ?_)
                  refine pure_ (i := 0) (N := some 12) (v := ?_) (a' := ?_) #[true, false, false, false, false, false, false, false, false, false, false, false, false, false, false, false, false, false, false, false, false, false, false, false, false, false, false, false, false, false, false, false, false, false, false] rfl rfl (by kernel_rfl) (fun _ _ _ h => h) (Or.inl ⟨by rfl, ?_⟩) ?_ ?_
                  rotate_left
                  · intro w'
                    go_simp
                    with_reducible rfl
                  rotate_left
                  · simp only [Act.put, List.setIfInBounds_toArray, List.set_cons_zero, List.set_cons_succ]
                    rfl
                  refine take_ (i := 1) (N := some 13) (v := ?_) (a' := ?_) #[true, true, false, false, false, false, false, false, false, false, false, false, false, false, false, false, false, false, false, false, false, false, false, false, false, false, false, false, false, false, false, false, false, false, false] rfl rfl (by kernel_rfl) (fun _ _ _ h => h) (Or.inl ⟨by rfl, ?_⟩) hHeld ?_ ?_
                  rotate_left
                  · rintro w' ⟨s0, s1, s2, s3, s4, s5, s6⟩
                    go_simp
                    with_reducible rfl
                  rotate_left
                  · simp only [Act.put, List.setIfInBounds_toArray, List.set_cons_zero, List.set_cons_succ]
                    rfl
                  refine one_ (i := 2) (N := some 14) #[true, true, true, false, false, false, false, false, false, false, false, false, false, false, false, false, false, false, false, false, false, false, false, false, false, false, false, false, false, false, false, false, false, false, false] rfl rfl (by kernel_rfl) (by decide) (fun K hK => ?_)
                  refine goes_ Tryz.func69 (by kernel_rfl) rfl #[.agg #[.int .i64 x.r.at_, .int .i64 x.r.key, .int .i64 x.r.val]] (by rfl) rfl rfl (by (try simp only [List.map_toArray, List.map_cons, List.map_nil]); first | done | rfl) ?_
                  with_reducible refine (Rec_any x.r _).mono ?_
                  rintro e w1 ⟨rfl, hb1⟩
                  rw [HRC.out]
                  refine ⟨_, rfl, ?_⟩
                  have HB1 := Lib.hid hb1.drew_left
                  obtain ⟨f0, f1, f2, f3⟩ := box4 HB1.out
                  refine hK.out _ _ ⟨f0, f1, f2, f3, keep_cell HB1.out d0, keep_cell HB1.out d1, keep_cell HB1.out d2⟩ (fun hHeld => ?_)
                  clear hK K hb1
                  refine norm_ (a' := ?_) ?_ ?_
                  rotate_left
                  · show Act.put _ (some 14) _ = _
                    simp only [Act.put, List.setIfInBounds_toArray, List.set_cons_zero, List.set_cons_succ]
                    rfl
                  refine pure_ (i := 3) (N := some 15) (v := ?_) (a' := ?_) #[true, true, true, true, false, false, false, false, false, false, false, false, false, false, false, false, false, false, false, false, false, false, false, false, false, false, false, false, false, false, false, false, false, false, false] rfl rfl (by kernel_rfl) (fun _ _ _ h => h) (Or.inl ⟨by rfl, ?_⟩) ?_ ?_
                  rotate_left
                  · intro w'
                    go_simp
                    with_reducible rfl
                  rotate_left
                  · simp only [Act.put, List.setIfInBounds_toArray, List.set_cons_zero, List.set_cons_succ]
                    rfl
                  refine pure_ (i := 4) (N := some 16) (v := ?_) (a' := ?_) #[true, true, true, true, true, false, false, false, false, false, false, false, false, false, false, false, false, false, false, false, false, false, false, false, false, false, false, false, false, false, false, false, false, false, false] rfl rfl (by kernel_rfl) (fun _ _ _ h => h) (Or.inl ⟨by rfl, ?_⟩) ?_ ?_
                  rotate_left
                  · intro w'
                    go_simp
                    with_reducible rfl
                  rotate_left
                  · simp only [Act.put, List.setIfInBounds_toArray, List.set_cons_zero, List.set_cons_succ]
                    rfl
                  refine pure_ (i := 5) (N := some 17) (v := ?_) (a' := ?_) #[true, true, true, true, true, true, false, false, false, false, false, false, false, false, false, false, false, false, false, false, false, false, false, false, false, false, false, false, false, false, false, false, false, false, false] rfl rfl (by kernel_rfl) (fun _ _ _ h => h) (Or.inl ⟨by rfl, ?_⟩) ?_ ?_
                  rotate_left
                  · intro w'
                    go_simp
                    with_reducible rfl
                  rotate_left
                  · simp only [Act.put, List.setIfInBounds_toArray, List.set_cons_zero, List.set_cons_succ]
                    rfl
                  refine take_ (i := 6) (N := some 18) (v := ?_) (a' := ?_) #[true, true, true, true, true, true, true, false, false, false, false, false, false, false, false, false, false, false, false, false, false, false, false, false, false, false, false, false, false, false, false, false, false, false, false] rfl rfl (by kernel_rfl) (fun _ _ _ h => h) (Or.inl ⟨by rfl, ?_⟩) hHeld ?_ ?_
                  rotate_left
                  · rintro w' ⟨s0, s1, s2, s3, s4, s5, s6⟩
                    go_simp
                    with_reducible rfl
                  rotate_left
                  · simp only [Act.put, List.setIfInBounds_toArray, List.set_cons_zero, List.set_cons_succ]
                    rfl
                  refine pure_ (i := 7) (N := some 19) (v := ?_) (a' := ?_) #[true, true, true, true, true, true, true, true, false, false, false, false, false, false, false, false, false, false, false, false, false, false, false, false, false, false, false, false, false, false, false, false, false, false, false] rfl rfl (by kernel_rfl) (fun _ _ _ h => h) (Or.inl ⟨by rfl, ?_⟩) ?_ ?_
                  rotate_left
                  · intro w'
                    go_simp
                    with_reducible rfl
                  rotate_left
                  · simp only [Act.put, List.setIfInBounds_toArray, List.set_cons_zero, List.set_cons_succ]
                    rfl
                  refine pure_ (i := 8) (N := some 20) (v := ?_) (a' := ?_) #[true, true, true, true, true, true, true, true, true, false, false, false, false, false, false, false, false, false, false, false, false, false, false, false, false, false, false, false, false, false, false, false, false, false, false] rfl rfl (by kernel_rfl) (fun _ _ _ h => h) (Or.inl ⟨by rfl, ?_⟩) ?_ ?_
                  rotate_left
                  · intro w'
                    go_simp
                    with_reducible rfl
                  rotate_left
                  · simp only [Act.put, List.setIfInBounds_toArray, List.set_cons_zero, List.set_cons_succ]
                    rfl
                  refine pure_ (i := 9) (N := some 21) (v := ?_) (a' := ?_) #[true, true, true, true, true, true, true, true, true, true, false, false, false, false, false, false, false, false, false, false, false, false, false, false, false, false, false, false, false, false, false, false, false, false, false] rfl rfl (by kernel_rfl) (fun _ _ _ h => h) (Or.inl ⟨by rfl, ?_⟩) ?_ ?_
                  rotate_left
                  · intro w'
                    go_simp
                    with_reducible rfl
                  rotate_left
                  · simp only [Act.put, List.setIfInBounds_toArray, List.set_cons_zero, List.set_cons_succ]
                    rfl
                  refine pure_ (i := 10) (N := some 22) (v := ?_) (a' := ?_) #[true, true, true, true, true, true, true, true, true, true, true, false, false, false, false, false, false, false, false, false, false, false, false, false, false, false, false, false, false, false, false, false, false, false, false] rfl rfl (by kernel_rfl) (fun _ _ _ h => h) (Or.inl ⟨by rfl, ?_⟩) ?_ ?_
                  rotate_left
                  · intro w'
                    go_simp
                    with_reducible rfl
                  rotate_left
                  · simp only [Act.put, List.setIfInBounds_toArray, List.set_cons_zero, List.set_cons_succ]
                    rfl
                  refine take_ (i := 11) (N := some 23) (v := ?_) (a' := ?_) #[true, true, true, true, true, true, true, true, true, true, true, true, false, false, false, false, false, false, false, false, false, false, false, false, false, false, false, false, false, false, false, false, false, false, false] rfl rfl (by kernel_rfl) (fun _ _ _ h => h) (Or.inl ⟨by rfl, ?_⟩) hHeld ?_ ?_
                  rotate_left
                  · rintro w' ⟨s0, s1, s2, s3, s4, s5, s6⟩
                    go_simp
                    with_reducible rfl
                  rotate_left
                  · simp only [Act.put, List.setIfInBounds_toArray, List.set_cons_zero, List.set_cons_succ]
                    rfl
                  refine pure_ (i := 12) (N := some 24) (v := ?_) (a' := ?_) #[true, true, true, true, true, true, true, true, true, true, true, true, true, false, false, false, false, false, false, false, false, false, false, false, false, false, false, false, false, false, false, false, false, false, false] rfl rfl (by kernel_rfl) (fun _ _ _ h => h) (Or.inl ⟨by rfl, ?_⟩) ?_ ?_
                  rotate_left
                  · intro w'
                    go_simp
                    with_reducible rfl
                  rotate_left
                  · simp only [Act.put, List.setIfInBounds_toArray, List.set_cons_zero, List.set_cons_succ]
                    rfl
                  refine pure_ (i := 13) (N := some 25) (v := ?_) (a' := ?_) #[true, true, true, true, true, true, true, true, true, true, true, true, true, true, false, false, false, false, false, false, false, false, false, false, false, false, false, false, false, false, false, false, false, false, false] rfl rfl (by kernel_rfl) (fun _ _ _ h => h) (Or.inl ⟨by rfl, ?_⟩) ?_ ?_
                  rotate_left
                  · intro w'
                    go_simp
                    with_reducible rfl
                  rotate_left
                  · simp only [Act.put, List.setIfInBounds_toArray, List.set_cons_zero, List.set_cons_succ]
                    rfl
                  refine pure_ (i := 14) (N := some 26) (v := ?_) (a' := ?_) #[true, true, true, true, true, true, true, true, true, true, true, true, true, true, true, false, false, false, false, false, false, false, false, false, false, false, false, false, false, false, false, false, false, false, false] rfl rfl (by kernel_rfl) (fun _ _ _ h => h) (Or.inl ⟨by rfl, ?_⟩) ?_ ?_
                  rotate_left
                  · intro w'
                    go_simp
                    with_reducible rfl
                  rotate_left
                  · simp only [Act.put, List.setIfInBounds_toArray, List.set_cons_zero, List.set_cons_succ]
                    rfl
                  refine pure_ (i := 15) (N := some 27) (v := ?_) (a' := ?_) #[true, true, true, true, true, true, true, true, true, true, true, true, true, true, true, true, false, false, false, false, false, false, false, false, false, false, false, false, false, false, false, false, false, false, false] rfl rfl (by kernel_rfl) (fun _ _ _ h => h) (Or.inl ⟨by rfl, ?_⟩) ?_ ?_
                  rotate_left
                  · intro w'
                    go_simp
                    with_reducible rfl
                  rotate_left
                  · simp only [Act.put, List.setIfInBounds_toArray, List.set_cons_zero, List.set_cons_succ]
                    rfl
                  refine take_ (i := 16) (N := some 28) (v := ?_) (a' := ?_) #[true, true, true, true, true, true, true, true, true, true, true, true, true, true, true, true, true, false, false, false, false, false, false, false, false, false, false, false, false, false, false, false, false, false, false] rfl rfl (by kernel_rfl) (fun _ _ _ h => h) (Or.inl ⟨by rfl, ?_⟩) hHeld ?_ ?_
                  rotate_left
                  · rintro w' ⟨s0, s1, s2, s3, s4, s5, s6⟩
                    go_simp
                    with_reducible rfl
                  rotate_left
                  · simp only [Act.put, List.setIfInBounds_toArray, List.set_cons_zero, List.set_cons_succ]
                    rfl
                  refine pure_ (i := 17) (N := some 29) (v := ?_) (a' := ?_) #[true, true, true, true, true, true, true, true, true, true, true, true, true, true, true, true, true, true, false, false, false, false, false, false, false, false, false, false, false, false, false, false, false, false, false] rfl rfl (by kernel_rfl) (fun _ _ _ h => h) (Or.inl ⟨by rfl, ?_⟩) ?_ ?_
                  rotate_left
                  · intro w'
                    go_simp
                    with_reducible rfl
                  rotate_left
                  · simp only [Act.put, List.setIfInBounds_toArray, List.set_cons_zero, List.set_cons_succ]
                    rfl
                  refine pure_ (i := 18) (N := some 30) (v := ?_) (a' := ?_) #[true, true, true, true, true, true, true, true, true, true, true, true, true, true, true, true, true, true, true, false, false, false, false, false, false, false, false, false, false, false, false, false, false, false, false] rfl rfl (by kernel_rfl) (fun _ _ _ h => h) (Or.inl ⟨by rfl, ?_⟩) ?_ ?_
                  rotate_left
                  · intro w'
                    go_simp
                    with_reducible rfl
                  rotate_left
                  · simp only [Act.put, List.setIfInBounds_toArray, List.set_cons_zero, List.set_cons_succ]
                    rfl
                  refine pure_ (i := 19) (N := some 31) (v := ?_) (a' := ?_) #[true, true, true, true, true, true, true, true, true, true, true, true, true, true, true, true, true, true, true, true, false, false, false, false, false, false, false, false, false, false, false, false, false, false, false] rfl rfl (by kernel_rfl) (fun _ _ _ h => h) (Or.inl ⟨by rfl, ?_⟩) ?_ ?_
                  rotate_left
                  · intro w'
                    go_simp
                    with_reducible rfl
                  rotate_left
                  · simp only [Act.put, List.setIfInBounds_toArray, List.set_cons_zero, List.set_cons_succ]
                    rfl
                  refine pure_ (i := 20) (N := some 32) (v := ?_) (a' := ?_) #[true, true, true, true, true, true, true, true, true, true, true, true, true, true, true, true, true, true, true, true, true, false, false, false, false, false, false, false, false, false, false, false, false, false, false] rfl rfl (by kernel_rfl) (fun _ _ _ h => h) (Or.inl ⟨by rfl, ?_⟩) ?_ ?_
                  rotate_left
                  · intro w'
                    go_simp
                    with_reducible rfl
                  rotate_left
                  · simp only [Act.put, List.setIfInBounds_toArray, List.set_cons_zero, List.set_cons_succ]
                    rfl
                  refine pure_ (i := 21) (N := some 33) (v := ?_) (a' := ?_) #[true, true, true, true, true, true, true, true, true, true, true, true, true, true, true, true, true, true, true, true, true, true, false, false, false, false, false, false, false, false, false, false, false, false, false] rfl rfl (by kernel_rfl) (fun _ _ _ h => h) (Or.inl ⟨by rfl, ?_⟩) ?_ ?_
                  rotate_left
                  · intro w'
                    go_simp
                    with_reducible rfl
                  rotate_left
                  · simp only [Act.put, List.setIfInBounds_toArray, List.set_cons_zero, List.set_cons_succ]
                    rfl
                  refine pure_ (i := 22) (N := some 34) (v := ?_) (a' := ?_) #[true, true, true, true, true, true, true, true, true, true, true, true, true, true, true, true, true, true, true, true, true, true, true, false, false, false, false, false, false, false, false, false, false, false, false] rfl rfl (by kernel_rfl) (fun _ _ _ h => h) (Or.inl ⟨by rfl, ?_⟩) ?_ ?_
                  rotate_left
                  · intro w'
                    go_simp
                    with_reducible rfl
                  rotate_left
                  · simp only [Act.put, List.setIfInBounds_toArray, List.set_cons_zero, List.set_cons_succ]
                    rfl
                  refine pure_ (i := 23) (N := some 35) (v := ?_) (a' := ?_) #[true, true, true, true, true, true, true, true, true, true, true, true, true, true, true, true, true, true, true, true, true, true, true, true, false, false, false, false, false, false, false, false, false, false, false] rfl rfl (by kernel_rfl) (fun _ _ _ h => h) (Or.inl ⟨by rfl, ?_⟩) ?_ ?_
                  rotate_left
                  · intro w'
                    go_simp
                    with_reducible rfl
                  rotate_left
                  · simp only [Act.put, List.setIfInBounds_toArray, List.set_cons_zero, List.set_cons_succ]
                    rfl
                  refine pure_ (i := 24) (N := some 36) (v := ?_) (a' := ?_) #[true, true, true, true, true, true, true, true, true, true, true, true, true, true, true, true, true, true, true, true, true, true, true, true, true, false, false, false, false, false, false, false, false, false, false] rfl rfl (by kernel_rfl) (fun _ _ _ h => h) (Or.inl ⟨by rfl, ?_⟩) ?_ ?_
                  rotate_left
                  · intro w'
                    go_simp
                    with_reducible rfl
                  rotate_left
                  · simp only [Act.put, List.setIfInBounds_toArray, List.set_cons_zero, List.set_cons_succ]
                    rfl
                  refine pure_ (i := 25) (N := some 37) (v := ?_) (a' := ?_) #[true, true, true, true, true, true, true, true, true, true, true, true, true, true, true, true, true, true, true, true, true, true, true, true, true, true, false, false, false, false, false, false, false, false, false] rfl rfl (by kernel_rfl) (fun _ _ _ h => h) (Or.inl ⟨by rfl, ?_⟩) ?_ ?_
                  rotate_left
                  · intro w'
                    go_simp
                    with_reducible rfl
                  rotate_left
                  · simp only [Act.put, List.setIfInBounds_toArray, List.set_cons_zero, List.set_cons_succ]
                    rfl
                  refine pure_ (i := 26) (N := some 38) (v := ?_) (a' := ?_) #[true, true, true, true, true, true, true, true, true, true, true, true, true, true, true, true, true, true, true, true, true, true, true, true, true, true, true, false, false, false, false, false, false, false, false] rfl rfl (by kernel_rfl) (fun _ _ _ h => h) (Or.inl ⟨by rfl, ?_⟩) ?_ ?_
                  rotate_left
                  · intro w'
                    go_simp
                    with_reducible rfl
                  rotate_left
                  · simp only [Act.put, List.setIfInBounds_toArray, List.set_cons_zero, List.set_cons_succ]
                    rfl
                  refine pure_ (i := 27) (N := some 39) (v := ?_) (a' := ?_) #[true, true, true, true, true, true, true, true, true, true, true, true, true, true, true, true, true, true, true, true, true, true, true, true, true, true, true, true, false, false, false, false, false, false, false] rfl rfl (by kernel_rfl) (fun _ _ _ h => h) (Or.inl ⟨by rfl, ?_⟩) ?_ ?_
                  rotate_left
                  · intro w'
                    go_simp
                    with_reducible rfl
                  rotate_left
                  · simp only [Act.put, List.setIfInBounds_toArray, List.set_cons_zero, List.set_cons_succ]
                    rfl
                  refine take_ (i := 28) (N := some 40) (v := ?_) (a' := ?_) #[true, true, true, true, true, true, true, true, true, true, true, true, true, true, true, true, true, true, true, true, true, true, true, true, true, true, true, true, true, false, false, false, false, false, false] rfl rfl (by kernel_rfl) (fun _ _ _ h => h) (Or.inl ⟨by rfl, ?_⟩) hHeld ?_ ?_
                  rotate_left
                  · rintro w' ⟨s0, s1, s2, s3, s4, s5, s6⟩
                    go_simp
                    with_reducible rfl
                  rotate_left
                  · simp only [Act.put, List.setIfInBounds_toArray, List.set_cons_zero, List.set_cons_succ]
                    rfl
                  refine pure_ (i := 29) (N := some 41) (v := ?_) (a' := ?_) #[true, true, true, true, true, true, true, true, true, true, true, true, true, true, true, true, true, true, true, true, true, true, true, true, true, true, true, true, true, true, false, false, false, false, false] rfl rfl (by kernel_rfl) (fun _ _ _ h => h) (Or.inl ⟨by rfl, ?_⟩) ?_ ?_
                  rotate_left
                  · intro w'
                    go_simp
                    with_reducible rfl
                  rotate_left
                  · simp only [Act.put, List.setIfInBounds_toArray, List.set_cons_zero, List.set_cons_succ]
                    rfl
                  refine take_ (i := 30) (N := some 42) (v := ?_) (a' := ?_) #[true, true, true, true, true, true, true, true, true, true, true, true, true, true, true, true, true, true, true, true, true, true, true, true, true, true, true, true, true, true, true, false, false, false, false] rfl rfl (by kernel_rfl) (fun _ _ _ h => h) (Or.inl ⟨by rfl, ?_⟩) hHeld ?_ ?_
                  rotate_left
                  · rintro w' ⟨s0, s1, s2, s3, s4, s5, s6⟩
                    go_simp
                    with_reducible rfl
                  rotate_left
                  · simp only [Act.put, List.setIfInBounds_toArray, List.set_cons_zero, List.set_cons_succ]
                    rfl
                  refine one_ (i := 31) (N := some 43) #[true, true, true, true, true, true, true, true, true, true, true, true, true, true, true, true, true, true, true, true, true, true, true, true, true, true, true, true, true, true, true, true, false, false, false] rfl rfl (by kernel_rfl) (by decide) (fun K hK => ?_)
                  refine goes_ Tryz.func95 (by kernel_rfl) rfl #[.agg #[.int .i64 y.r.at_, .int .i64 y.r.key, .int .i64 y.r.val], .agg #[.int .i64 x.r.at_, .int .i64 x.r.key, .int .i64 x.r.val]] (by rfl) rfl rfl (by (try simp only [List.map_toArray, List.map_cons, List.map_nil]); first | done | rfl) ?_
                  with_reducible refine (Less_any y.r x.r _).mono ?_
                  rintro e w2 ⟨rfl, hb2⟩
                  rw [HLS.out]
                  refine ⟨_, rfl, ?_⟩
                  have HB2 := Lib.hid hb2
                  have kk : ∀ b o v, w1.cell? ⟨b, o, none⟩ = some v → w2.cell? ⟨b, o, none⟩ = some v := fun b o v h => (hb2.cell (World.block_lt_of_cell? w1 _ h)).trans h
                  obtain ⟨s0, s1, s2, s3, s4, s5, s6⟩ := hHeld
                  refine hK.out _ _ ⟨kk _ _ _ s0, kk _ _ _ s1, kk _ _ _ s2, kk _ _ _ s3, kk _ _ _ s4, kk _ _ _ s5, kk _ _ _ s6⟩ (fun hHeld => ?_)
                  clear hK K hb2 kk
                  refine norm_ (a' := ?_) ?_ ?_
                  rotate_left
                  · show Act.put _ (some 43) _ = _
                    simp only [Act.put, List.setIfInBounds_toArray, List.set_cons_zero, List.set_cons_succ]
                    rfl
                  refine pure_ (i := 32) (N := some 44) (v := ?_) (a' := ?_) #[true, true, true, true, true, true, true, true, true, true, true, true, true, true, true, true, true, true, true, true, true, true, true, true, true, true, true, true, true, true, true, true, true, false, false] rfl rfl (by kernel_rfl) (fun _ _ _ h => h) (Or.inl ⟨by rfl, ?_⟩) ?_ ?_
                  rotate_left
                  · intro w'
                    go_simp
                    with_reducible rfl
                  rotate_left
                  · simp only [Act.put, List.setIfInBounds_toArray, List.set_cons_zero, List.set_cons_succ]
                    rfl
                  refine pure_ (i := 33) (N := some 45) (v := ?_) (a' := ?_) #[true, true, true, true, true, true, true, true, true, true, true, true, true, true, true, true, true, true, true, true, true, true, true, true, true, true, true, true, true, true, true, true, true, true, false] rfl rfl (by kernel_rfl) (fun _ _ _ h => h) (Or.inl ⟨by rfl, ?_⟩) ?_ ?_
                  rotate_left
                  · intro w'
                    go_simp
                    with_reducible rfl
                  rotate_left
                  · simp only [Act.put, List.setIfInBounds_toArray, List.set_cons_zero, List.set_cons_succ]
                    rfl
                  refine pure_ (i := 34) (N := some 46) (v := ?_) (a' := ?_) #[true, true, true, true, true, true, true, true, true, true, true, true, true, true, true, true, true, true, true, true, true, true, true, true, true, true, true, true, true, true, true, true, true, true, true] rfl rfl (by kernel_rfl) (fun _ _ _ h => h) (Or.inl ⟨by rfl, ?_⟩) ?_ ?_
                  rotate_left
                  · intro w'
                    go_simp
                    with_reducible rfl
                  rotate_left
                  · simp only [Act.put, List.setIfInBounds_toArray, List.set_cons_zero, List.set_cons_succ]
                    rfl
                  refine done_ (by kernel_rfl) ?_
                  clear hw hw0 hw1 hw2 hHeld
                  go_wp2_with fail
                  refine ⟨⟨j + 1 + 1, by omega, by go_num, ?_, (below_box HB.out HB.out.size HB1.out).trans (HB2.out.mono (by have := HB.out.size; have := HB1.out.size; simp at this; omega))⟩, by simp [intOf]; omega⟩
                  rw [bagTo_succ, HT.out]; simp [stepB, HX.out, HY.out, itB, HRC.out, HM.out, hz, HCMP.out]
                | false =>
                  have HLS := Lib.hid hls
                  have hcmp : ¬ rcmp y.r x.r < 0 := by simpa [lessB] using hls
                  have HCMP := Lib.hid hcmp
                  clear hls hcmp
                  go_wp2_with fail
                  have keep0 : ∀ {b o : Nat} {v : Value}, wr.cell? ⟨b, o, none⟩ = some v → (wr.alloc (.cells #[.int .i64 x.r.at_, .int .i64 x.r.key, .int .i64 x.r.val, .int .i64 x.n] 40)).cell? ⟨b, o, none⟩ = some v := fun h => keep_cell (Below.refl _ _) h
                  refine start_ (n := 35) (S := fun w' => w'.cell? ⟨wr.heap.size, 0, none⟩ = some (.int .i64 x.r.at_) ∧ w'.cell? ⟨wr.heap.size, 1, none⟩ = some (.int .i64 x.r.key) ∧ w'.cell? ⟨wr.heap.size, 2, none⟩ = some (.int .i64 x.r.val) ∧ w'.cell? ⟨wr.heap.size, 3, none⟩ = some (.int .i64 x.n) ∧ w'.cell? ⟨b, off + j * 4, none⟩ = some (.int .i64 y.r.at_) ∧ w'.cell? ⟨b, off + j * 4 + 1, none⟩ = some (.int .i64 y.r.key) ∧ w'.cell? ⟨b, off + j * 4 + 2, none⟩ = some (.int .i64 y.r.val)) (ds := []) #[false, false, false, false, false, false, false, false, false, false, false, false, false, false, false, false, false, false, false, false, false, false, false, false, false, false, false, false, false, false, false, false, false, false, false] (by kernel_rfl) rfl rfl ⟨f0, f1, f2, f3, keep0 d0, keep0 d1, keep0 d2⟩ (fun hHeld => ?_)
                  refine pure_ (i := 0) (N := some 12) (v := ?_) (a' := ?_) #[true, false, false, false, false, false, false, false, false, false, false, false, false, false, false, false, false, false, false, false, false, false, false, false, false, false, false, false, false, false, false, false, false, false, false] rfl rfl (by kernel_rfl) (fun _ _ _ h => h) (Or.inl ⟨by rfl, ?_⟩) ?_ ?_
                  rotate_left
                  · intro w'
                    go_simp
                    with_reducible rfl
                  rotate_left
                  · simp only [Act.put, List.setIfInBounds_toArray, List.set_cons_zero, List.set_cons_succ]
                    rfl
                  refine take_ (i := 1) (N := some 13) (v := ?_) (a' := ?_) #[true, true, false, false, false, false, false, false, false, false, false, false, false, false, false, false, false, false, false, false, false, false, false, false, false, false, false, false, false, false, false, false, false, false, false] rfl rfl (by kernel_rfl) (fun _ _ _ h => h) (Or.inl ⟨by rfl, ?_⟩) hHeld ?_ ?_
                  rotate_left
                  · rintro w' ⟨s0, s1, s2, s3, s4, s5, s6⟩
                    go_simp
                    with_reducible rfl
                  rotate_left
                  · simp only [Act.put, List.setIfInBounds_toArray, List.set_cons_zero, List.set_cons_succ]
                    rfl
                  refine one_ (i := 2) (N := some 14) #[true, true, true, false, false, false, false, false, false, false, false, false, false, false, false, false, false, false, false, false, false, false, false, false, false, false, false, false, false, false, false, false, false, false, false] rfl rfl (by kernel_rfl) (by decide) (fun K hK => ?_)
                  refine goes_ Tryz.func69 (by kernel_rfl) rfl #[.agg #[.int .i64 x.r.at_, .int .i64 x.r.key, .int .i64 x.r.val]] (by rfl) rfl rfl (by (try simp only [List.map_toArray, List.map_cons, List.map_nil]); first | done | rfl) ?_
                  with_reducible refine (Rec_any x.r _).mono ?_
                  rintro e w1 ⟨rfl, hb1⟩
                  rw [HRC.out]
                  refine ⟨_, rfl, ?_⟩
                  have HB1 := Lib.hid hb1.drew_left
                  obtain ⟨f0, f1, f2, f3⟩ := box4 HB1.out
                  refine hK.out _ _ ⟨f0, f1, f2, f3, keep_cell HB1.out d0, keep_cell HB1.out d1, keep_cell HB1.out d2⟩ (fun hHeld => ?_)
                  clear hK K hb1
                  refine norm_ (a' := ?_) ?_ ?_
                  rotate_left
                  · show Act.put _ (some 14) _ = _
                    simp only [Act.put, List.setIfInBounds_toArray, List.set_cons_zero, List.set_cons_succ]
                    rfl
                  refine pure_ (i := 3) (N := some 15) (v := ?_) (a' := ?_) #[true, true, true, true, false, false, false, false, false, false, false, false, false, false, false, false, false, false, false, false, false, false, false, false, false, false, false, false, false, false, false, false, false, false, false] rfl rfl (by kernel_rfl) (fun _ _ _ h => h) (Or.inl ⟨by rfl, ?_⟩) ?_ ?_
                  rotate_left
                  · intro w'
                    go_simp
                    with_reducible rfl
                  rotate_left
                  · simp only [Act.put, List.setIfInBounds_toArray, List.set_cons_zero, List.set_cons_succ]
                    rfl
                  refine pure_ (i := 4) (N := some 16) (v := ?_) (a' := ?_) #[true, true, true, true, true, false, false, false, false, false, false, false, false, false, false, false, false, false, false, false, false, false, false, false, false, false, false, false, false, false, false, false, false, false, false] rfl rfl (by kernel_rfl) (fun _ _ _ h => h) (Or.inl ⟨by rfl, ?_⟩) ?_ ?_
                  rotate_left
                  · intro w'
                    go_simp
                    with_reducible rfl
                  rotate_left
                  · simp only [Act.put, List.setIfInBounds_toArray, List.set_cons_zero, List.set_cons_succ]
                    rfl
                  refine pure_ (i := 5) (N := some 17) (v := ?_) (a' := ?_) #[true, true, true, true, true, true, false, false, false, false, false, false, false, false, false, false, false, false, false, false, false, false, false, false, false, false, false, false, false, false, false, false, false, false, false] rfl rfl (by kernel_rfl) (fun _ _ _ h => h) (Or.inl ⟨by rfl, ?_⟩) ?_ ?_
                  rotate_left
                  · intro w'
                    go_simp
                    with_reducible rfl
                  rotate_left
                  · simp only [Act.put, List.setIfInBounds_toArray, List.set_cons_zero, List.set_cons_succ]
                    rfl
                  refine take_ (i := 6) (N := some 18) (v := ?_) (a' := ?_) #[true, true, true, true, true, true, true, false, false, false, false, false, false, false, false, false, false, false, false, false, false, false, false, false, false, false, false, false, false, false, false, false, false, false, false] rfl rfl (by kernel_rfl) (fun _ _ _ h => h) (Or.inl ⟨by rfl, ?_⟩) hHeld ?_ ?_
                  rotate_left
                  · rintro w' ⟨s0, s1, s2, s3, s4, s5, s6⟩
                    go_simp
                    with_reducible rfl
                  rotate_left
                  · simp only [Act.put, List.setIfInBounds_toArray, List.set_cons_zero, List.set_cons_succ]
                    rfl
                  refine pure_ (i := 7) (N := some 19) (v := ?_) (a' := ?_) #[true, true, true, true, true, true, true, true, false, false, false, false, false, false, false, false, false, false, false, false, false, false, false, false, false, false, false, false, false, false, false, false, false, false, false] rfl rfl (by kernel_rfl) (fun _ _ _ h => h) (Or.inl ⟨by rfl, ?_⟩) ?_ ?_
                  rotate_left
                  · intro w'
                    go_simp
                    with_reducible rfl
                  rotate_left
                  · simp only [Act.put, List.setIfInBounds_toArray, List.set_cons_zero, List.set_cons_succ]
                    rfl
                  refine pure_ (i := 8) (N := some 20) (v := ?_) (a' := ?_) #[true, true, true, true, true, true, true, true, true, false, false, false, false, false, false, false, false, false, false, false, false, false, false, false, false, false, false, false, false, false, false, false, false, false, false] rfl rfl (by kernel_rfl) (fun _ _ _ h => h) (Or.inl ⟨by rfl, ?_⟩) ?_ ?_
                  rotate_left
                  · intro w'
                    go_simp
                    with_reducible rfl
                  rotate_left
                  · simp only [Act.put, List.setIfInBounds_toArray, List.set_cons_zero, List.set_cons_succ]
                    rfl
                  refine pure_ (i := 9) (N := some 21) (v := ?_) (a' := ?_) #[true, true, true, true, true, true, true, true, true, true, false, false, false, false, false, false, false, false, false, false, false, false, false, false, false, false, false, false, false, false, false, false, false, false, false] rfl rfl (by kernel_rfl) (fun _ _ _ h => h) (Or.inl ⟨by rfl, ?_⟩) ?_ ?_
                  rotate_left
                  · intro w'
                    go_simp
                    with_reducible rfl
                  rotate_left
                  · simp only [Act.put, List.setIfInBounds_toArray, List.set_cons_zero, List.set_cons_succ]
                    rfl
                  refine pure_ (i := 10) (N := some 22) (v := ?_) (a' := ?_) #[true, true, true, true, true, true, true, true, true, true, true, false, false, false, false, false, false, false, false, false, false, false, false, false, false, false, false, false, false, false, false, false, false, false, false] rfl rfl (by kernel_rfl) (fun _ _ _ h => h) (Or.inl ⟨by rfl, ?_⟩) ?_ ?_
                  rotate_left
                  · intro w'
                    go_simp
                    with_reducible rfl
                  rotate_left
                  · simp only [Act.put, List.setIfInBounds_toArray, List.set_cons_zero, List.set_cons_succ]
                    rfl
                  refine take_ (i := 11) (N := some 23) (v := ?_) (a' := ?_) #[true, true, true, true, true, true, true, true, true, true, true, true, false, false, false, false, false, false, false, false, false, false, false, false, false, false, false, false, false, false, false, false, false, false, false] rfl rfl (by kernel_rfl) (fun _ _ _ h => h) (Or.inl ⟨by rfl, ?_⟩) hHeld ?_ ?_
                  rotate_left
                  · rintro w' ⟨s0, s1, s2, s3, s4, s5, s6⟩
                    go_simp
                    with_reducible rfl
                  rotate_left
                  · simp only [Act.put, List.setIfInBounds_toArray, List.set_cons_zero, List.set_cons_succ]
                    rfl
                  refine pure_ (i := 12) (N := some 24) (v := ?_) (a' := ?_) #[true, true, true, true, true, true, true, true, true, true, true, true, true, false, false, false, false, false, false, false, false, false, false, false, false, false, false, false, false, false, false, false, false, false, false] rfl rfl (by kernel_rfl) (fun _ _ _ h => h) (Or.inl ⟨by rfl, ?_⟩) ?_ ?_
                  rotate_left
                  · intro w'
                    go_simp
                    with_reducible rfl
                  rotate_left
                  · simp only [Act.put, List.setIfInBounds_toArray, List.set_cons_zero, List.set_cons_succ]
                    rfl
                  refine pure_ (i := 13) (N := some 25) (v := ?_) (a' := ?_) #[true, true, true, true, true, true, true, true, true, true, true, true, true, true, false, false, false, false, false, false, false, false, false, false, false, false, false, false, false, false, false, false, false, false, false] rfl rfl (by kernel_rfl) (fun _ _ _ h => h) (Or.inl ⟨by rfl, ?_⟩) ?_ ?_
                  rotate_left
                  · intro w'
                    go_simp
                    with_reducible rfl
                  rotate_left
                  · simp only [Act.put, List.setIfInBounds_toArray, List.set_cons_zero, List.set_cons_succ]
                    rfl
                  refine pure_ (i := 14) (N := some 26) (v := ?_) (a' := ?_) #[true, true, true, true, true, true, true, true, true, true, true, true, true, true, true, false, false, false, false, false, false, false, false, false, false, false, false, false, false, false, false, false, false, false, false] rfl rfl (by kernel_rfl) (fun _ _ _ h => h) (Or.inl ⟨by rfl, ?_⟩) ?_ ?_
                  rotate_left
                  · intro w'
                    go_simp
                    with_reducible rfl
                  rotate_left
                  · simp only [Act.put, List.setIfInBounds_toArray, List.set_cons_zero, List.set_cons_succ]
                    rfl
                  refine pure_ (i := 15) (N := some 27) (v := ?_) (a' := ?_) #[true, true, true, true, true, true, true, true, true, true, true, true, true, true, true, true, false, false, false, false, false, false, false, false, false, false, false, false, false, false, false, false, false, false, false] rfl rfl (by kernel_rfl) (fun _ _ _ h => h) (Or.inl ⟨by rfl, ?_⟩) ?_ ?_
                  rotate_left
                  · intro w'
                    go_simp
                    with_reducible rfl
                  rotate_left
                  · simp only [Act.put, List.setIfInBounds_toArray, List.set_cons_zero, List.set_cons_succ]
                    rfl
                  refine take_ (i := 16) (N := some 28) (v := ?_) (a' := ?_) #[true, true, true, true, true, true, true, true, true, true, true, true, true, true, true, true, true, false, false, false, false, false, false, false, false, false, false, false, false, false, false, false, false, false, false] rfl rfl (by kernel_rfl) (fun _ _ _ h => h) (Or.inl ⟨by rfl, ?_⟩) hHeld ?_ ?_
                  rotate_left
                  · rintro w' ⟨s0, s1, s2, s3, s4, s5, s6⟩
                    go_simp
                    with_reducible rfl
                  rotate_left
                  · simp only [Act.put, List.setIfInBounds_toArray, List.set_cons_zero, List.set_cons_succ]
                    rfl
                  refine pure_ (i := 17) (N := some 29) (v := ?_) (a' := ?_) #[true, true, true, true, true, true, true, true, true, true, true, true, true, true, true, true, true, true, false, false, false, false, false, false, false, false, false, false, false, false, false, false, false, false, false] rfl rfl (by kernel_rfl) (fun _ _ _ h => h) (Or.inl ⟨by rfl, ?_⟩) ?_ ?_
                  rotate_left
                  · intro w'
                    go_simp
                    with_reducible rfl
                  rotate_left
                  · simp only [Act.put, List.setIfInBounds_toArray, List.set_cons_zero, List.set_cons_succ]
                    rfl
                  refine pure_ (i := 18) (N := some 30) (v := ?_) (a' := ?_) #[true, true, true, true, true, true, true, true, true, true, true, true, true, true, true, true, true, true, true, false, false, false, false, false, false, false, false, false, false, false, false, false, false, false, false] rfl rfl (by kernel_rfl) (fun _ _ _ h => h) (Or.inl ⟨by rfl, ?_⟩) ?_ ?_
                  rotate_left
                  · intro w'
                    go_simp
                    with_reducible rfl
                  rotate_left
                  · simp only [Act.put, List.setIfInBounds_toArray, List.set_cons_zero, List.set_cons_succ]
                    rfl
                  refine pure_ (i := 19) (N := some 31) (v := ?_) (a' := ?_) #[true, true, true, true, true, true, true, true, true, true, true, true, true, true, true, true, true, true, true, true, false, false, false, false, false, false, false, false, false, false, false, false, false, false, false] rfl rfl (by kernel_rfl) (fun _ _ _ h => h) (Or.inl ⟨by rfl, ?_⟩) ?_ ?_
                  rotate_left
                  · intro w'
                    go_simp
                    with_reducible rfl
                  rotate_left
                  · simp only [Act.put, List.setIfInBounds_toArray, List.set_cons_zero, List.set_cons_succ]
                    rfl
                  refine pure_ (i := 20) (N := some 32) (v := ?_) (a' := ?_) #[true, true, true, true, true, true, true, true, true, true, true, true, true, true, true, true, true, true, true, true, true, false, false, false, false, false, false, false, false, false, false, false, false, false, false] rfl rfl (by kernel_rfl) (fun _ _ _ h => h) (Or.inl ⟨by rfl, ?_⟩) ?_ ?_
                  rotate_left
                  · intro w'
                    go_simp
                    with_reducible rfl
                  rotate_left
                  · simp only [Act.put, List.setIfInBounds_toArray, List.set_cons_zero, List.set_cons_succ]
                    rfl
                  refine pure_ (i := 21) (N := some 33) (v := ?_) (a' := ?_) #[true, true, true, true, true, true, true, true, true, true, true, true, true, true, true, true, true, true, true, true, true, true, false, false, false, false, false, false, false, false, false, false, false, false, false] rfl rfl (by kernel_rfl) (fun _ _ _ h => h) (Or.inl ⟨by rfl, ?_⟩) ?_ ?_
                  rotate_left
                  · intro w'
                    go_simp
                    with_reducible rfl
                  rotate_left
                  · simp only [Act.put, List.setIfInBounds_toArray, List.set_cons_zero, List.set_cons_succ]
                    rfl
                  refine pure_ (i := 22) (N := some 34) (v := ?_) (a' := ?_) #[true, true, true, true, true, true, true, true, true, true, true, true, true, true, true, true, true, true, true, true, true, true, true, false, false, false, false, false, false, false, false, false, false, false, false] rfl rfl (by kernel_rfl) (fun _ _ _ h => h) (Or.inl ⟨by rfl, ?_⟩) ?_ ?_
                  rotate_left
                  · intro w'
                    go_simp
                    with_reducible rfl
                  rotate_left
                  · simp only [Act.put, List.setIfInBounds_toArray, List.set_cons_zero, List.set_cons_succ]
                    rfl
                  refine pure_ (i := 23) (N := some 35) (v := ?_) (a' := ?_) #[true, true, true, true, true, true, true, true, true, true, true, true, true, true, true, true, true, true, true, true, true, true, true, true, false, false, false, false, false, false, false, false, false, false, false] rfl rfl (by kernel_rfl) (fun _ _ _ h => h) (Or.inl ⟨by rfl, ?_⟩) ?_ ?_
                  rotate_left
                  · intro w'
                    go_simp
                    with_reducible rfl
                  rotate_left
                  · simp only [Act.put, List.setIfInBounds_toArray, List.set_cons_zero, List.set_cons_succ]
                    rfl
                  refine pure_ (i := 24) (N := some 36) (v := ?_) (a' := ?_) #[true, true, true, true, true, true, true, true, true, true, true, true, true, true, true, true, true, true, true, true, true, true, true, true, true, false, false, false, false, false, false, false, false, false, false] rfl rfl (by kernel_rfl) (fun _ _ _ h => h) (Or.inl ⟨by rfl, ?_⟩) ?_ ?_
                  rotate_left
                  · intro w'
                    go_simp
                    with_reducible rfl
                  rotate_left
                  · simp only [Act.put, List.setIfInBounds_toArray, List.set_cons_zero, List.set_cons_succ]
                    rfl
                  refine pure_ (i := 25) (N := some 37) (v := ?_) (a' := ?_) #[true, true, true, true, true, true, true, true, true, true, true, true, true, true, true, true, true, true, true, true, true, true, true, true, true, true, false, false, false, false, false, false, false, false, false] rfl rfl (by kernel_rfl) (fun _ _ _ h => h) (Or.inl ⟨by rfl, ?_⟩) ?_ ?_
                  rotate_left
                  · intro w'
                    go_simp
                    with_reducible rfl
                  rotate_left
                  · simp only [Act.put, List.setIfInBounds_toArray, List.set_cons_zero, List.set_cons_succ]
                    rfl
                  refine pure_ (i := 26) (N := some 38) (v := ?_) (a' := ?_) #[true, true, true, true, true, true, true, true, true, true, true, true, true, true, true, true, true, true, true, true, true, true, true, true, true, true, true, false, false, false, false, false, false, false, false] rfl rfl (by kernel_rfl) (fun _ _ _ h => h) (Or.inl ⟨by rfl, ?_⟩) ?_ ?_
                  rotate_left
                  · intro w'
                    go_simp
                    with_reducible rfl
                  rotate_left
                  · simp only [Act.put, List.setIfInBounds_toArray, List.set_cons_zero, List.set_cons_succ]
                    rfl
                  refine pure_ (i := 27) (N := some 39) (v := ?_) (a' := ?_) #[true, true, true, true, true, true, true, true, true, true, true, true, true, true, true, true, true, true, true, true, true, true, true, true, true, true, true, true, false, false, false, false, false, false, false] rfl rfl (by kernel_rfl) (fun _ _ _ h => h) (Or.inl ⟨by rfl, ?_⟩) ?_ ?_
                  rotate_left
                  · intro w'
                    go_simp
                    with_reducible rfl
                  rotate_left
                  · simp only [Act.put, List.setIfInBounds_toArray, List.set_cons_zero, List.set_cons_succ]
                    rfl
                  refine take_ (i := 28) (N := some 40) (v := ?_) (a' := ?_) #[true, true, true, true, true, true, true, true, true, true, true, true, true, true, true, true, true, true, true, true, true, true, true, true, true, true, true, true, true, false, false, false, false, false, false] rfl rfl (by kernel_rfl) (fun _ _ _ h => h) (Or.inl ⟨by rfl, ?_⟩) hHeld ?_ ?_
                  rotate_left
                  · rintro w' ⟨s0, s1, s2, s3, s4, s5, s6⟩
                    go_simp
                    with_reducible rfl
                  rotate_left
                  · simp only [Act.put, List.setIfInBounds_toArray, List.set_cons_zero, List.set_cons_succ]
                    rfl
                  refine pure_ (i := 29) (N := some 41) (v := ?_) (a' := ?_) #[true, true, true, true, true, true, true, true, true, true, true, true, true, true, true, true, true, true, true, true, true, true, true, true, true, true, true, true, true, true, false, false, false, false, false] rfl rfl (by kernel_rfl) (fun _ _ _ h => h) (Or.inl ⟨by rfl, ?_⟩) ?_ ?_
                  rotate_left
                  · intro w'
                    go_simp
                    with_reducible rfl
                  rotate_left
                  · simp only [Act.put, List.setIfInBounds_toArray, List.set_cons_zero, List.set_cons_succ]
                    rfl
                  refine take_ (i := 30) (N := some 42) (v := ?_) (a' := ?_) #[true, true, true, true, true, true, true, true, true, true, true, true, true, true, true, true, true, true, true, true, true, true, true, true, true, true, true, true, true, true, true, false, false, false, false] rfl rfl (by kernel_rfl) (fun _ _ _ h => h) (Or.inl ⟨by rfl, ?_⟩) hHeld ?_ ?_
                  rotate_left
                  · rintro w' ⟨s0, s1, s2, s3, s4, s5, s6⟩
                    go_simp
                    with_reducible rfl
                  rotate_left
                  · simp only [Act.put, List.setIfInBounds_toArray, List.set_cons_zero, List.set_cons_succ]
                    rfl
                  refine one_ (i := 31) (N := some 43) #[true, true, true, true, true, true, true, true, true, true, true, true, true, true, true, true, true, true, true, true, true, true, true, true, true, true, true, true, true, true, true, true, false, false, false] rfl rfl (by kernel_rfl) (by decide) (fun K hK => ?_)
                  refine goes_ Tryz.func95 (by kernel_rfl) rfl #[.agg #[.int .i64 y.r.at_, .int .i64 y.r.key, .int .i64 y.r.val], .agg #[.int .i64 x.r.at_, .int .i64 x.r.key, .int .i64 x.r.val]] (by rfl) rfl rfl (by (try simp only [List.map_toArray, List.map_cons, List.map_nil]); first | done | rfl) ?_
                  with_reducible refine (Less_any y.r x.r _).mono ?_
                  rintro e w2 ⟨rfl, hb2⟩
                  rw [HLS.out]
                  refine ⟨_, rfl, ?_⟩
                  have HB2 := Lib.hid hb2
                  have kk : ∀ b o v, w1.cell? ⟨b, o, none⟩ = some v → w2.cell? ⟨b, o, none⟩ = some v := fun b o v h => (hb2.cell (World.block_lt_of_cell? w1 _ h)).trans h
                  obtain ⟨s0, s1, s2, s3, s4, s5, s6⟩ := hHeld
                  refine hK.out _ _ ⟨kk _ _ _ s0, kk _ _ _ s1, kk _ _ _ s2, kk _ _ _ s3, kk _ _ _ s4, kk _ _ _ s5, kk _ _ _ s6⟩ (fun hHeld => ?_)
                  clear hK K hb2 kk
                  refine norm_ (a' := ?_) ?_ ?_
                  rotate_left
                  · show Act.put _ (some 43) _ = _
                    simp only [Act.put, List.setIfInBounds_toArray, List.set_cons_zero, List.set_cons_succ]
                    rfl
                  refine pure_ (i := 32) (N := some 44) (v := ?_) (a' := ?_) #[true, true, true, true, true, true, true, true, true, true, true, true, true, true, true, true, true, true, true, true, true, true, true, true, true, true, true, true, true, true, true, true, true, false, false] rfl rfl (by kernel_rfl) (fun _ _ _ h => h) (Or.inl ⟨by rfl, ?_⟩) ?_ ?_
                  rotate_left
                  · intro w'
                    go_simp
                    with_reducible rfl
                  rotate_left
                  · simp only [Act.put, List.setIfInBounds_toArray, List.set_cons_zero, List.set_cons_succ]
                    rfl
                  refine pure_ (i := 33) (N := some 45) (v := ?_) (a' := ?_) #[true, true, true, true, true, true, true, true, true, true, true, true, true, true, true, true, true, true, true, true, true, true, true, true, true, true, true, true, true, true, true, true, true, true, false] rfl rfl (by kernel_rfl) (fun _ _ _ h => h) (Or.inl ⟨by rfl, ?_⟩) ?_ ?_
                  rotate_left
                  · intro w'
                    go_simp
                    with_reducible rfl
                  rotate_left
                  · simp only [Act.put, List.setIfInBounds_toArray, List.set_cons_zero, List.set_cons_succ]
                    rfl
                  refine pure_ (i := 34) (N := some 46) (v := ?_) (a' := ?_) #[true, true, true, true, true, true, true, true, true, true, true, true, true, true, true, true, true, true, true, true, true, true, true, true, true, true, true, true, true, true, true, true, true, true, true] rfl rfl (by kernel_rfl) (fun _ _ _ h => h) (Or.inl ⟨by rfl, ?_⟩) ?_ ?_
                  rotate_left
                  · intro w'
                    go_simp
                    with_reducible rfl
                  rotate_left
                  · simp only [Act.put, List.setIfInBounds_toArray, List.set_cons_zero, List.set_cons_succ]
                    rfl
                  refine done_ (by kernel_rfl) ?_
                  clear hw hw0 hw1 hw2 hHeld
                  go_wp2_with fail
                  go_ret
                  refine ⟨ret_bool ?_, (below_box HB.out HB.out.size HB1.out).trans (HB2.out.mono (by have := HB.out.size; have := HB1.out.size; simp at this; omega))⟩
                  have : stepB l (j + 1) = false := by simp [stepB, HX.out, HY.out, HCMP.out]
                  rw [bagB_false this HR.out.len hlt]
    · have hk' : k = n := by omega
      subst hk'
      clear hRk hlt
      go_wp2
      go_ret
      exact ⟨ret_bool (by rw [bagB_true HT.out HR.out.len]; simp; omega), HB.out⟩

def longR (l : List It) : List It × Int := if bagB l then (l, 0) else ([], 3)
theorem long_any (A : Option Addr) (n cap : Nat) (l : List It) (w : World) (hR : Rd It.vs 4 w 0 A n l) :
    Calls Tryz.prog 51 #[.slice A n cap] w fun e w' => (∃ A' n' cap', e = .returned (.tuple #[.slice A' n' cap', .int .i64 (longR l).2]) ∧ Rd It.vs 4 w' 0 A' n' (longR l).1) ∧ Below w.heap.size w w' := by
  have HG := Lib.hid (Good_any A n cap l w hR)
  have HR := Lib.hid hR
  clear hR
  cases hg : bagB l with
  | true =>
    have e1 : longR l = (l, 0) := by simp [longR, hg]
    rw [e1]
    have HGB := Lib.hid hg
    clear hg e1
    go_enter Tryz.func51, Tryz.ntmps51
    go_wp2_with (go_at_call 44; (with_reducible refine HG.out.mono ?_); rintro e w1 ⟨rfl, hb⟩; rw [HGB.out]; have HB := Lib.hid hb; clear hb)
    go_ret2
    exact ⟨⟨_, _, _, rfl, HR.out.below HB.out⟩, HB.out⟩
  | false =>
    have e1 : longR l = ([], 3) := by simp [longR, hg]
    rw [e1]
    have HGB := Lib.hid hg
    clear hg e1
    go_enter Tryz.func51, Tryz.ntmps51
    go_wp2_with (go_at_call 44; (with_reducible refine HG.out.mono ?_); rintro e w1 ⟨rfl, hb⟩; rw [HGB.out]; have HB := Lib.hid hb; clear hb)
    go_ret2
    exact ⟨⟨_, _, _, rfl, Rd.nil _ _ _⟩, HB.out⟩
end Go.Proofs.Bg
end

section
/- The reference: Product, Pair. -/
namespace Go.Proofs.Bg
open Go.RowKit

theorem Own.capOf {α : Type} {enc : α → List Value} {sz : Nat} {T : TypeId} {base n cap : Nat} {A : Option Addr} {w : World} {l : List α} (h : Own enc sz T base w (.slice A n cap) l) : n ≤ cap := by
  rcases h.2 with ⟨e, _⟩ | ⟨g, cap', cur, e, _, _, h1, _⟩
  · cases e; exact Nat.le_refl _
  · cases e; exact h1
theorem own_it {base : Nat} {w : World} {v : Value} {L : List It} {e : It} {n : Nat} {xs : List Value} (h : w.ownsRow base 40 4 v n xs) (hn : n = L.length + 1) (hx : xs = L.flatMap It.vs ++ e.vs) : Own It.vs 4 40 base w v (L ++ [e]) := by
  unfold Own
  rw [List.length_append, List.flatMap_append]
  subst hn hx
  simpa using h
theorem alloc2_drew (w : World) (o o' : Obj) : w.grownBy (((w.alloc o).alloc o').drew) none := ⟨rfl, rfl, rfl, (alloc2_none w o o').size, (alloc2_none w o o').block⟩
theorem new2 (w : World) (o : Obj) (cs : Array Value) (T : TypeId) : (((w.alloc o).alloc (.cells cs T)).drew).heap[w.heap.size + 1]? = some (.cells cs T) := by
  have := new_block (w.alloc o) cs T
  have e : (w.alloc o).heap.size = w.heap.size + 1 := by simp
  rw [e] at this
  exact this
/-- What the loops hold. -/
def ProdIn (w2 : World) (gx : Nat) (x : It) (L : List It) (v : Value) (wr : World) : Prop :=
  Own It.vs 4 40 w2.heap.size wr v L ∧ Below w2.heap.size w2 wr ∧ wr.heap[gx]? = some (.cells #[.int .i64 x.r.at_, .int .i64 x.r.key, .int .i64 x.r.val, .int .i64 x.n] 40) ∧ (∀ k, v.ownBlock = some k → k ≠ gx)

set_option maxRecDepth 100000 in
set_option maxHeartbeats 8000000 in
theorem Product_any (A B : Option Addr) (n m capA capB : Nat) (a b : List It) (apart : Int) (w2 : World) (hA : Rd It.vs 4 w2 0 A n a) (hB : Rd It.vs 4 w2 0 B m b) (ha : bagB a = true) (hb : bagB b = true) :
    Calls Tryz.prog 52 #[.slice A n capA, .slice B m capB, .int .i64 apart] w2 fun e w' => ∃ A' cap', e = .returned (.slice A' (canon (pairIts apart a b)).length cap') ∧ Rd It.vs 4 w' w2.heap.size A' (canon (pairIts apart a b)).length (canon (pairIts apart a b)) ∧ Below w2.heap.size w2 w' := by
  have HA := Lib.hid hA
  have HB := Lib.hid hB
  have GA := Lib.hid ha
  have GB := Lib.hid hb
  have hle := hA.le
  have hle2 := hB.le
  have hn3 : n ≤ 300 := by rw [← hA.len]; exact ((bagB_spec a).1 ha).2.2
  have hm3 : m ≤ 300 := by rw [← hB.len]; exact ((bagB_spec b).1 hb).2.2
  obtain ⟨i0, hi0, hz0, hz1, hz2⟩ := info_parts infoIt
  clear hA hB ha hb
  go_enter Tryz.func52, Tryz.ntmps52
  go_wp2_with fail
  go_loopw [7, 9, 11, 12, 15] (fun v _ _ _ i wr => ∃ k : Nat, k ≤ n ∧ i = .int .i64 k ∧ Own It.vs 4 40 w2.heap.size wr v (pairIts apart (a.take k) b) ∧ Below w2.heap.size w2 wr) (fun _ _ _ _ i _ => n - (intOf i).toNat)
  case atStart => exact ⟨0, by omega, rfl, Own.nil _ _ _ _ _, Below.refl _ _⟩
  case round =>
    obtain ⟨k, hk, rfl, hown, hBr⟩ := hrel
    obtain ⟨A3, cap3, rfl⟩ := hown.shape
    have hRa := HA.out.below hBr
    have HBr := Lib.hid hBr
    have HO := Lib.hid hown
    have hsw := hBr.size
    have hpl : (pairIts apart (a.take k) b).length ≤ k * m := by
      have h1 := pairIts_length apart (a.take k) b
      have h2 : (a.take k).length ≤ k := by rw [List.length_take]; omega
      rw [HB.out.len] at h1
      exact Nat.le_trans h1 (Nat.mul_le_mul_right m h2)
    clear hBr hown
    by_cases hlt : k < n
    · obtain ⟨bb, off, x, rfl, _, hx, c0, c1, c2, c3⟩ := hRa.it_at hlt
      have HX := Lib.hid hx
      have hxi := (itB_spec x).1 (((bagB_spec a).1 GA.out).1 x (List.mem_of_getElem? hx))
      obtain ⟨⟨x1, x2, x3, x4, x5, x6⟩, _, x8, x9⟩ := hxi
      clear hx hRa
      generalize hP : pairIts apart (a.take k) b = PP at *
      have HP := Lib.hid hP
      clear hP
      generalize hpn : PP.length = pn at *
      have HPN := Lib.hid hpn
      clear hpn
      go_wp2_with fail
      obtain ⟨wo, rfl⟩ : ∃ wo : World, wo = wr := ⟨_, rfl⟩
      go_loopw [7, 11, 12, 21] (fun v _ _ i wi => ∃ j : Nat, j ≤ m ∧ i = .int .i64 j ∧ ProdIn w2 wo.heap.size x (PP ++ rowIts apart x (b.take j)) v wi) (fun _ _ _ i _ => m - (intOf i).toNat)
      case atStart => exact ⟨0, by omega, rfl, by simpa [rowIts, HPN.out] using HO.out.alloc _, HBr.out.alloc hsw _, new_block _ _ _, fun q hq => by have := (HO.out.blk q hq).2; omega⟩
      case round =>
        obtain ⟨j, hj, rfl, hown, hB1, hgx, hne⟩ := hrel
        obtain ⟨A4, cap4, rfl⟩ := hown.shape
        have hgl : wo.heap.size < wr.heap.size := (Array.getElem?_eq_some_iff.1 hgx).1
        have hRb := HB.out.below hB1
        have hsz1 := hB1.size
        have HO1 := Lib.hid hown
        have HB1 := Lib.hid hB1
        have HGX := Lib.hid hgx
        have HNE := Lib.hid hne
        have hll : (PP ++ rowIts apart x (b.take j)).length + 1 ≤ 100000 := by
          have h1 := rowIts_length apart x (b.take j)
          have h2 : (b.take j).length ≤ j := by rw [List.length_take]; omega
          have h3 : k * m ≤ 300 * 300 := Nat.mul_le_mul (by omega) hm3
          rw [List.length_append, HPN.out]
          omega
        clear hown hB1 hgx hne
        by_cases hjl : j < m
        · obtain ⟨b2, off2, y, rfl, _, hy, d0, d1, d2, d3⟩ := hRb.it_at hjl
          have HY := Lib.hid hy
          have f0 := cell_at_block (off := 0) HGX.out rfl
          have f1 := cell_at_block (off := 1) HGX.out rfl
          have f2 := cell_at_block (off := 2) HGX.out rfl
          have f3 := cell_at_block (off := 3) HGX.out rfl
          have hyi := (itB_spec y).1 (((bagB_spec b).1 GB.out).1 y (List.mem_of_getElem? hy))
          obtain ⟨⟨y1, y2, y3, y4, y5, y6⟩, _, y8, y9⟩ := hyi
          have hrt := rowIts_take apart x b j y hy
          have HRT := Lib.hid hrt
          clear hy hRb hrt
          generalize hLL : PP ++ rowIts apart x (b.take j) = LL at *
          have HLL := Lib.hid hLL
          clear hLL
          have hfar : max x.r.at_ y.r.at_ - min x.r.at_ y.r.at_ = max (x.r.at_ - y.r.at_) (y.r.at_ - x.r.at_) := by omega
          have hw1 : IntKind.i64.wrap (x.r.at_ - y.r.at_) = x.r.at_ - y.r.at_ := IntWalk.i64_in _ (by omega)
          have hw2 : IntKind.i64.wrap (y.r.at_ - x.r.at_) = y.r.at_ - x.r.at_ := IntWalk.i64_in _ (by omega)
          by_cases hyes : x.r.key = y.r.key ∧ max x.r.at_ y.r.at_ - min x.r.at_ y.r.at_ ≤ apart
          · have hp1 : pairIt apart x y = [⟨⟨max x.r.at_ y.r.at_, x.r.key, clampI (x.r.val + y.r.val)⟩, x.n * y.n⟩] := by rw [pairIt, if_pos hyes]
            have HP1 := Lib.hid hp1
            have hke : (x.r.key == y.r.key) = true := by simpa using hyes.1
            have hfd : decide (max (x.r.at_ - y.r.at_) (y.r.at_ - x.r.at_) ≤ apart) = true := by rw [← hfar]; simpa using hyes.2
            have hm := mul_bd (a := x.n) (b := y.n) (A := 1000000) (B := 1000000) (by omega) (by omega) (by omega) (by omega) (by omega)
            have hw3 : IntKind.i64.wrap (x.n * y.n) = x.n * y.n := IntWalk.i64_in _ (by omega)
            have hw4 : IntKind.i64.wrap (x.r.val + y.r.val) = x.r.val + y.r.val := IntWalk.i64_in _ (by omega)
            clear hp1 hyes hfar hm
            have hy0 := new_block wr #[.int .i64 y.r.at_, .int .i64 y.r.key, .int .i64 y.r.val, .int .i64 y.n] 40
            have g0 := cell_at_block (off := 0) hy0 rfl
            have g1 := cell_at_block (off := 1) hy0 rfl
            have g2 := cell_at_block (off := 2) hy0 rfl
            have g3 := cell_at_block (off := 3) hy0 rfl
            clear hy0
            have hownR : (wr.alloc (.cells #[.int .i64 y.r.at_, .int .i64 y.r.key, .int .i64 y.r.val, .int .i64 y.n] 40)).ownsRow w2.heap.size 40 4 (.slice A4 LL.length cap4) LL.length (LL.flatMap It.vs) := HO1.out.alloc _
            have ag : (Value.slice A4 LL.length cap4).ownBlock ≠ some wo.heap.size := fun e => HNE.out _ e rfl
            have ak : (Value.slice A4 LL.length cap4).ownBlock ≠ some wr.heap.size := fun e => by have := (HO1.out.blk _ e).2; omega
            obtain ⟨K1, hK1⟩ : ∃ K1, clampI (x.r.val + y.r.val) = K1 := ⟨_, rfl⟩
            have HC := Lib.hid (clampR_any (x.r.val + y.r.val))
            rw [hK1] at HC
            have HK1 := Lib.hid hK1
            clear hK1 c0 c1 c2 c3
            go_wp2_with fail
            go_region_held3 (fun w' => w'.cell? ⟨wo.heap.size, 0, none⟩ = some (.int .i64 x.r.at_) ∧ w'.cell? ⟨wo.heap.size, 1, none⟩ = some (.int .i64 x.r.key) ∧ w'.cell? ⟨wo.heap.size, 2, none⟩ = some (.int .i64 x.r.val) ∧ w'.cell? ⟨wo.heap.size, 3, none⟩ = some (.int .i64 x.n) ∧ w'.cell? ⟨wr.heap.size, 0, none⟩ = some (.int .i64 y.r.at_) ∧ w'.cell? ⟨wr.heap.size, 1, none⟩ = some (.int .i64 y.r.key) ∧ w'.cell? ⟨wr.heap.size, 2, none⟩ = some (.int .i64 y.r.val) ∧ w'.cell? ⟨wr.heap.size, 3, none⟩ = some (.int .i64 y.n))
              (first
                | go_keep
                | (go_split_ands
                   refine ⟨?_, ?_, ?_, ?_, ?_, ?_, ?_, ?_⟩
                   · (rw [hgrow.cell_far _ (by simp; omega) (Ne.symm ag)]; assumption)
                   · (rw [hgrow.cell_far _ (by simp; omega) (Ne.symm ag)]; assumption)
                   · (rw [hgrow.cell_far _ (by simp; omega) (Ne.symm ag)]; assumption)
                   · (rw [hgrow.cell_far _ (by simp; omega) (Ne.symm ag)]; assumption)
                   · (rw [hgrow.cell_far _ (by simp; omega) (Ne.symm ak)]; assumption)
                   · (rw [hgrow.cell_far _ (by simp; omega) (Ne.symm ak)]; assumption)
                   · (rw [hgrow.cell_far _ (by simp; omega) (Ne.symm ak)]; assumption)
                   · (rw [hgrow.cell_far _ (by simp; omega) (Ne.symm ak)]; assumption)))
              (first
                | (go_at_call 97; (with_reducible refine (HC.out _).mono ?_); rintro e w' ⟨rfl, rfl⟩)
                | ((refine step_append_lies _ (by rfl) _ _ _ (by rfl) w2.heap.size 40 i0 _ 4 32 Tryz.underlying22 hi0 hz0 hz1 hz2 rfl (by omega) (.slice A4 LL.length cap4) LL.length (LL.flatMap It.vs) (by rfl) ((World.ownsRow.alloc hownR _).drew)
                        ⟨wr.heap.size + 1, 0, none⟩ 1 1 [.int .i64 (max x.r.at_ y.r.at_), .int .i64 x.r.key, .int .i64 K1, .int .i64 (x.n * y.n)] (by rfl) (by rfl) (World.news_of_block (cs := #[.int .i64 (max x.r.at_ y.r.at_), .int .i64 x.r.key, .int .i64 K1, .int .i64 (x.n * y.n)]) (t := 40) (fr := (0, 0)) (new2 _ _ _ _)) (by simp [Value.oneCell'])
                        (by omega) (by unfold maxLen; omega) (by omega) (by simp; omega) (wr.heap.size + 2) (by simp) ?_; intro gg cap w1 hown1 hgrow hat hlt)))
            all_goals
              go_wp2_with fail
              refine ⟨⟨j + 1, by omega, by go_num, ?_, below_far HB1.out (alloc2_drew _ _ _) hgrow (fun q hq => (HO1.out.blk q hq).1), ?_, fun q hq => ?_⟩, by simp [intOf]; omega⟩
              · rw [HRT.out, HP1.out, ← List.append_assoc, HLL.out, HK1.out]
                exact own_it (e := ⟨⟨max x.r.at_ y.r.at_, x.r.key, K1⟩, x.n * y.n⟩) hown1 rfl rfl
              · refine (hgrow.block _ (by simp; omega) (fun e => ag e.symm)).trans ?_
                exact ((alloc2_drew wr _ _).block _ hgl (by simp)).trans HGX.out
              · cases hq
                rcases hat with e | e
                · exact HNE.out _ e
                · show gg ≠ wo.heap.size
                  omega
          · have hp0 : pairIt apart x y = [] := by rw [pairIt, if_neg hyes]
            have HP0 := Lib.hid hp0
            clear hp0
            cases hke : (x.r.key == y.r.key) with
            | false =>
              clear hyes hfar
              go_wp2_with fail
              refine ⟨⟨j + 1, by omega, by go_num, ?_, HB1.out.alloc hsz1 _, (Below.heap_alloc _ _ _ hgl).trans HGX.out, HNE.out⟩, by simp [intOf]; omega⟩
              rw [HRT.out, HP0.out, List.append_nil, HLL.out]
              exact HO1.out.alloc _
            | true =>
              have hfd : decide (max (x.r.at_ - y.r.at_) (y.r.at_ - x.r.at_) ≤ apart) = false := by
                have := beq_iff_eq.1 hke
                rw [← hfar]
                simp only [decide_eq_false_iff_not]
                exact fun h => hyes ⟨this, h⟩
              clear hyes hfar
              go_wp2_with fail
              refine ⟨⟨j + 1, by omega, by go_num, ?_, HB1.out.alloc hsz1 _, (Below.heap_alloc _ _ _ hgl).trans HGX.out, HNE.out⟩, by simp [intOf]; omega⟩
              rw [HRT.out, HP0.out, List.append_nil, HLL.out]
              exact HO1.out.alloc _
        · have hj' : j = m := by omega
          subst hj'
          clear hRb hjl
          have e1 : PP ++ rowIts apart x (b.take j) = pairIts apart (a.take (k + 1)) b := by rw [List.take_of_length_le (by rw [HB.out.len]; exact Nat.le_refl _), pairIts_take apart a b k x HX.out, HP.out]
          have HO2 := HO1.out
          rw [e1] at HO2 ⊢
          go_wp2_with fail
          exact ⟨⟨k + 1, by omega, by go_num, HO2, HB1.out⟩, by simp [intOf]; omega⟩
    · have hk' : k = n := by omega
      subst hk'
      clear hRa hlt
      have e1 : a.take k = a := List.take_of_length_le (by rw [HA.out.len]; exact Nat.le_refl _)
      rw [e1] at HO hpl ⊢
      obtain ⟨_, _, e3, hr3⟩ := HO.out.rd It.vs_length
      cases e3
      have hcp := HO.out.capOf
      have hpl2 : (pairIts apart a b).length ≤ 300 * 300 := Nat.le_trans hpl (Nat.mul_le_mul hn3 hm3)
      have HOf := Lib.hid (Of_any A3 _ cap3 (pairIts apart a b) wr (hr3.low (Nat.zero_le _)) hcp (by omega) (fits_pair apart GA.out GB.out))
      have HSW := Lib.hid hsw
      clear hr3 hcp hpl hpl2 hsw
      generalize hQ : (pairIts apart a b).length = Q at *
      clear hQ
      go_wp2_with (go_at_call 70; (with_reducible refine HOf.out.mono ?_); rintro e w5 ⟨A5, cap5, rfl, hr5, hb5⟩)
      go_ret
      exact ⟨A5, cap5, rfl, hr5.low HSW.out, HBr.out.trans (hb5.mono HSW.out)⟩

theorem bagOr_long (L : List It) : longR (canon L) = (bagOr L, errOr L) := by
  unfold longR bagOr errOr
  cases bagB (canon L) <;> rfl
/-- What a function of the reference that hands back a bag leaves. -/
def RetRef (w : World) (p : List It × Int) (e : Ending) (w' : World) : Prop :=
  (∃ A n cap, e = .returned (.tuple #[.slice A n cap, .int .i64 p.2]) ∧ Rd It.vs 4 w' 0 A n p.1) ∧ Below w.heap.size w w'
set_option maxRecDepth 100000 in
set_option maxHeartbeats 2000000 in
theorem PairR_any (A B : Option Addr) (n m capA capB : Nat) (a b : List It) (apart : Int) (w : World) (hA : Rd It.vs 4 w 0 A n a) (hB : Rd It.vs 4 w 0 B m b) :
    Calls Tryz.prog 12 #[.slice A n capA, .slice B m capB, .int .i64 apart] w (RetRef w (pairR a b apart)) := by
  have Q1 := Lib.hid (Good_any A n capA a w hA)
  have HA := Lib.hid hA
  have HB := Lib.hid hB
  clear hA hB
  cases ga : bagB a with
  | false =>
    have e1 : pairR a b apart = ([], 2) := by simp [pairR, ga]
    rw [e1]
    have GA := Lib.hid ga
    clear ga e1
    go_enter Tryz.func12, Tryz.ntmps12
    go_wp2_with (go_at_call 44; (with_reducible refine Q1.out.mono ?_); rintro e w1 ⟨rfl, hb1⟩; rw [GA.out]; have HB1 := Lib.hid hb1; clear hb1)
    go_ret2
    exact ⟨⟨_, _, _, rfl, Rd.nil _ _ _⟩, HB1.out⟩
  | true =>
    cases gb : bagB b with
    | false =>
      have e1 : pairR a b apart = ([], 2) := by simp [pairR, gb]
      rw [e1]
      have GA := Lib.hid ga
      have GB := Lib.hid gb
      clear ga gb e1
      go_enter Tryz.func12, Tryz.ntmps12
      go_wp2_with fail
      (with_reducible refine Q1.out.mono ?_)
      rintro e w1 ⟨rfl, hb1⟩
      rw [GA.out]
      have Q2 := Lib.hid (Good_any B m capB b w1 (HB.out.below hb1))
      have HB1 := Lib.hid hb1
      clear hb1
      go_wp2_with (go_at_call 44; (with_reducible refine Q2.out.mono ?_); rintro e w2 ⟨rfl, hb2⟩; rw [GB.out]; have HB2 := Lib.hid hb2; clear hb2)
      go_ret2
      exact ⟨⟨_, _, _, rfl, Rd.nil _ _ _⟩, bchain HB1.out HB2.out⟩
    | true =>
      by_cases hap : 0 ≤ apart
      · have e1 : pairR a b apart = (bagOr (pairIts apart a b), errOr (pairIts apart a b)) := by simp [pairR, ga, gb, hap]
        rw [e1]
        have GA := Lib.hid ga
        have GB := Lib.hid gb
        have hd : decide (apart < 0) = false := by simpa using hap
        clear ga gb e1 hap
        go_enter Tryz.func12, Tryz.ntmps12
        go_wp2_with fail
        (with_reducible refine Q1.out.mono ?_)
        rintro e w1 ⟨rfl, hb1⟩
        rw [GA.out]
        have Q2 := Lib.hid (Good_any B m capB b w1 (HB.out.below hb1))
        have HB1 := Lib.hid hb1
        clear hb1
        go_wp2_with (go_at_call 44; (with_reducible refine Q2.out.mono ?_); rintro e w2 ⟨rfl, hb2⟩; rw [GB.out]; have HB2 := Lib.hid (bchain HB1.out hb2); have HP := Lib.hid (Product_any A B n m capA capB a b apart w2 (HA.out.below HB2.out) (HB.out.below HB2.out) GA.out GB.out); clear hb2)
        (with_reducible refine HP.out.mono ?_)
        rintro e w3 ⟨A3, cap3, rfl, hr3, hb3⟩
        have HL := Lib.hid (long_any A3 _ cap3 _ w3 (hr3.low (Nat.zero_le _)))
        have HB3 := Lib.hid (bchain HB2.out hb3)
        rw [bagOr_long] at HL
        clear hr3 hb3 HP
        generalize (canon (pairIts apart a b)).length = q at *
        go_wp2_with (go_at_call 51; (with_reducible refine HL.out.mono ?_); rintro e w4 ⟨⟨A4, n4, cap4, rfl, hr4⟩, hb4⟩)
        go_ret2
        exact ⟨⟨_, _, _, rfl, hr4⟩, bchain HB3.out hb4⟩
      · have e1 : pairR a b apart = ([], 2) := by simp [pairR, hap]
        rw [e1]
        have GA := Lib.hid ga
        have GB := Lib.hid gb
        have hd : decide (apart < 0) = true := by simp; omega
        clear ga gb e1 hap
        go_enter Tryz.func12, Tryz.ntmps12
        go_wp2_with fail
        (with_reducible refine Q1.out.mono ?_)
        rintro e w1 ⟨rfl, hb1⟩
        rw [GA.out]
        have Q2 := Lib.hid (Good_any B m capB b w1 (HB.out.below hb1))
        have HB1 := Lib.hid hb1
        clear hb1
        go_wp2_with (go_at_call 44; (with_reducible refine Q2.out.mono ?_); rintro e w2 ⟨rfl, hb2⟩; rw [GB.out]; have HB2 := Lib.hid (bchain HB1.out hb2); clear hb2)
        go_ret2
        exact ⟨⟨_, _, _, rfl, Rd.nil _ _ _⟩, HB2.out⟩
end Go.Proofs.Bg
end

section
/- Plain words: append of a slice to a list of the call's own; the two slices' types may differ by name. -/
namespace Go.Proofs.Bg
open Go.RowKit

theorem run_append2 {P : Program} {w : World} {t t2 ty e e2 : TypeId} (ht : P.underlying t = some (.slice e)) (ht2 : P.underlying t2 = some (.slice e2)) (v x : Value) :
    (Builtin.append_ #[t, t2] ty #[v, x]).run P w = (Builtin.append_ #[t, t] ty #[v, x]).run P w := by
  cases v <;> simp [Builtin.append_, run_underlying ht, run_underlying ht2, sizeOf, Result.andThen]
theorem run_append_none {P : Program} {w : World} {t ty e : TypeId} {i : TypeInfo} (ht : P.underlying t = some (.slice e)) (hi : P.info? e = some i) (A : Option Addr) (n cap c : Nat) (hc : n ≤ cap) :
    (Builtin.append_ #[t, t] ty #[.slice A n cap, .slice none 0 c]).run P w = .ok (.slice A n cap) w := by
  cases A with
  | none => simp [Builtin.append_, run_underlying ht, sizeOf, typeInfo, hi, Builtin.lenOf, Builtin.firstCells, Result.andThen, hc]
  | some a => simp [Builtin.append_, run_underlying ht, sizeOf, typeInfo, hi, Builtin.lenOf, Builtin.firstCells, loadCells, storeCells, Result.andThen, hc]

/-- 'append(s, y...)', y any slice that reads as a list. -/
theorem wpList_appRd {P : Program} {w : World} {ops : Array Oper} {rest : List Oper} {o : Oper} {a : Act} {Q : Exit → Act → World → Prop} {α : Type} (enc : α → List Value) (sz : Nat) (hse : ∀ x, (enc x).length = sz) (h0 : 0 < sz) (hone : ∀ x, ∀ u ∈ enc x, u.oneCell' = true)
    (e e2 : TypeId) (z : Value) (bytes : Nat) (hinf : (P.info? e).map (fun i => (i.zero, i.size, i.bytes)) = some (some z, sz, bytes)) (hzs : z.cells.size = sz)
    (hgd : o.guard = none) (s x : Operand) (t t2 : TypeId) (ho : o.op = .call { callee := .builtin .append, args := #[s, x], argTypes := #[t, t2] }) (ht : P.underlying t = some (.slice e)) (ht2 : P.underlying t2 = some (.slice e2)) (base : Nat) (v : Value) (l : List α) (hs : a.eval s = v) (hown : Own enc sz e base w v l)
    (lo n c : Nat) (A : Option Addr) (y : List α) (hx : a.eval x = .slice A n c) (hy : Rd enc sz w lo A n y)
    (hbytes : (l.length + n) * bytes ≤ 140737488355328) (h63 : l.length + n ≤ maxLen) (hbase : base ≤ w.heap.size)
    (h : ∀ v' w', Own enc sz e base w' v' (l ++ y) → w.grownBy w' v.ownBlock → (v'.ownBlock = v.ownBlock ∨ v'.ownBlock = some w.heap.size) → wpList P ops Q rest (a.put o.dst v') w') : wpList P ops Q (o :: rest) a w := by
  obtain ⟨i, hi, hz0, hz1, hz2⟩ := info_parts hinf
  have hn := hy.len
  have main : ∃ v' w', (Builtin.append_ #[t, t] o.type #[v, .slice A n c]).run P w = .ok v' w' ∧ Own enc sz e base w' v' (l ++ y) ∧ w.grownBy w' v.ownBlock ∧ (v'.ownBlock = v.ownBlock ∨ v'.ownBlock = some w.heap.size) := by
    cases A with
    | none =>
      have hn0 : n = 0 := by
        cases n with
        | zero => rfl
        | succ k => obtain ⟨b, off, e, _⟩ := hy.2.2 (by omega); cases e
      subst hn0
      have hl0 : y = [] := List.length_eq_zero_iff.1 hn
      subst hl0
      obtain ⟨A1, c1, rfl⟩ := hown.shape
      exact ⟨_, w, run_append_none ht hi A1 l.length c1 c hown.capOf, by simpa using hown, World.grownBy.refl _ _, .inl rfl⟩
    | some ad =>
      have hnews : ∀ j u, (y.flatMap enc)[j]? = some u → w.cell? (ad.add j) = some u := by
        intro j u hu
        have hlen := flat_length hse y
        have hj : j < y.length * sz := by rw [← hlen]; exact (List.getElem?_eq_some_iff.1 hu).1
        have hpos : 0 < n := by
          rw [← hn]
          rcases Nat.eq_zero_or_pos y.length with h | h
          · rw [h] at hj; omega
          · exact h
        obtain ⟨b, off, e', _, hc⟩ := hy.2.2 hpos
        cases e'
        have e1 : (⟨b, off, none⟩ : Addr).add j = ⟨b, off + j, none⟩ := by unfold Addr.add; split <;> simp_all
        have hd : j / sz < y.length := (Nat.div_lt_iff_lt_mul h0).2 hj
        have hx : y[j / sz]? = some y[j / sz] := List.getElem?_eq_getElem hd
        have hm : j % sz < (enc y[j / sz]).length := by rw [hse]; exact Nat.mod_lt _ h0
        have hv : (enc y[j / sz])[j % sz]? = some ((enc y[j / sz])[j % sz]'hm) := List.getElem?_eq_getElem hm
        have hf := flat_at hse y _ _ hx _ _ hv
        have hjj : j / sz * sz + j % sz = j := by rw [Nat.mul_comm]; exact Nat.div_add_mod j sz
        rw [hjj, hu] at hf
        cases hf
        have := hc _ _ hx _ _ hv
        have e2 : off + j / sz * sz + j % sz = off + j := by omega
        rw [e2] at this
        rw [e1]
        exact this
      obtain ⟨v', w', hr, h2, h3, _, h5⟩ := run_append_own_at (P := P) w base t o.type e i z sz bytes ht hi hz0 hz1 hz2 hzs h0 v l.length (l.flatMap enc) hown ad n c (y.flatMap enc) (by rw [flat_length hse, hn]) hnews (fun u hu => by
        obtain ⟨q, _, hq⟩ := List.mem_flatMap.1 hu
        exact hone q u hq) h63 hbytes hbase
      refine ⟨v', w', hr, ?_, h3, h5⟩
      unfold Own
      rw [List.length_append, List.flatMap_append, hn]
      exact h2
  refine wpList_plain hgd fun K hK => ?_
  obtain ⟨v', w', hr, h2, h3, h5⟩ := main
  unfold Oper.wp execOp
  simp only [ho, resolve, invoke, builtin, Sem.run_bind, Sem.run_pure, Result.andThen_ok, List.map_toArray, List.map_cons, List.map_nil, hs, hx, run_append2 ht ht2, hr]
  exact hK _ _ (h v' w' h2 h3 h5)
theorem It.one (x : It) : ∀ u ∈ x.vs, u.oneCell' = true := by simp [It.vs, Value.oneCell']
theorem iv_one (x : Int) : ∀ u ∈ iv x, u.oneCell' = true := by simp [iv, Value.oneCell']
theorem bv_one' (x : Int) : ∀ u ∈ [Value.int .u8 x], u.oneCell' = true := by simp [Value.oneCell']
end Go.Proofs.Bg
end

section
/- Copy, Check, and the reference's Check and New. -/
namespace Go.Proofs.Bg
open Go.RowKit

/-- 'append(nil, y...)', y any slice that reads as a list. -/
theorem wpList_copy {P : Program} {w : World} {ops : Array Oper} {rest : List Oper} {o : Oper} {a : Act} {Q : Exit → Act → World → Prop} (e : TypeId) (z : Value) (bytes : Nat) (hinf : (P.info? e).map (fun i => (i.zero, i.size, i.bytes)) = some (some z, 4, bytes)) (hzs : z.cells.size = 4)
    (hgd : o.guard = none) (s x : Operand) (t : TypeId) (ho : o.op = .call { callee := .builtin .append, args := #[s, x], argTypes := #[t, t] }) (ht : P.underlying t = some (.slice e)) (hs : a.eval s = .slice none 0 0)
    (hnil : ∀ c, (Builtin.append_ #[t, t] o.type #[.slice none 0 0, .slice none 0 c]).run P w = .ok (.slice none 0 0) w)
    (lo n c : Nat) (A : Option Addr) (y : List It) (hx : a.eval x = .slice A n c) (hy : Rd It.vs 4 w lo A n y) (hbytes : n * bytes ≤ 140737488355328) (h63 : n ≤ maxLen)
    (h : ∀ v' w', Own It.vs 4 e w.heap.size w' v' y → w.grownBy w' none → wpList P ops Q rest (a.put o.dst v') w') : wpList P ops Q (o :: rest) a w := by
  obtain ⟨i, hi, hz0, hz1, hz2⟩ := info_parts hinf
  have hn := hy.len
  by_cases h0 : n = 0
  · subst h0
    have hl0 : y = [] := List.length_eq_zero_iff.1 hn
    subst hl0
    cases A with
    | none => exact wpList_appNil hgd s x t ho c hs hx (hnil c) (h _ _ (Own.nil _ _ _ _ _) (World.grownBy.refl _ _))
    | some ad =>
      refine wpList_append_own_at w hgd s x t ho w.heap.size e i z 4 bytes ht hi hz0 hz1 hz2 hzs (by omega) _ 0 [] hs (World.ownsRow_nil w w.heap.size e 4) ad 0 c [] hx rfl (by simp) (by simp) (by unfold maxLen; omega) (by omega) (Nat.le_refl _) (fun v4 w4 hown4 hg4 _ _ => h v4 w4 hown4 hg4)
  · obtain ⟨b, off, rfl, _⟩ := hy.2.2 (by omega)
    exact wpList_appW e z bytes hinf hzs hgd s x t ho ht w.heap.size _ [] hs (Own.nil _ _ _ _ _) lo b off n c y hx hy (by simpa using hbytes) (by simpa using h63) (Nat.le_refl _) (fun v4 w4 hown4 hg4 _ => h v4 w4 (by simpa using hown4) hg4)
theorem nilB (w : World) (t : TypeId) (c : Nat) : (Builtin.append_ #[23, 23] t #[.slice none 0 0, .slice none 0 c]).run Tryz.prog w = .ok (.slice none 0 0) w := by kernel_rfl
theorem nilI (w : World) (t : TypeId) (c : Nat) : (Builtin.append_ #[22, 22] t #[.slice none 0 0, .slice none 0 c]).run Tryz.prog w = .ok (.slice none 0 0) w := by kernel_rfl

set_option maxRecDepth 100000 in
theorem Copy_any (A : Option Addr) (n cap : Nat) (l : List It) (w : World) (hR : Rd It.vs 4 w 0 A n l) (hS : n * 32 ≤ 140737488355328) :
    Calls Tryz.prog 19 #[.slice A n cap] w fun e w' => ∃ v, e = .returned v ∧ Own It.vs 4 40 w.heap.size w' v l ∧ Below w.heap.size w w' := by
  have HR := Lib.hid hR
  clear hR
  go_enter Tryz.func19, Tryz.ntmps19
  go_wp2_with (at_builtin; go_loud (refine wpList_copy 40 _ 32 infoIt rfl rfl _ _ _ rfl Tryz.underlying23 rfl (fun c => nilB _ _ c) 0 n cap A l rfl HR.out (by omega) (by unfold maxLen; omega) (fun v4 w4 hown4 hg4 => ?_)))
  go_ret
  exact ⟨_, rfl, hown4, (Below.refl _ _).grown hg4 (Nat.le_refl _) (fun k e => by cases e)⟩

def chk (l : List It) : Int := if bagB l then 0 else 2
theorem Check_any (A : Option Addr) (n cap : Nat) (l : List It) (w : World) (hR : Rd It.vs 4 w 0 A n l) :
    Calls Tryz.prog 21 #[.slice A n cap] w fun e w' => e = .returned (.int .i64 (chk l)) ∧ Below w.heap.size w w' := by
  have HQ := Lib.hid (isBag_any A n cap l w hR)
  clear hR
  unfold chk
  generalize bagB l = q at HQ ⊢
  cases q with
  | true =>
    go_enter Tryz.func21, Tryz.ntmps21
    go_wp2_with (go_at_call 47; (with_reducible refine HQ.out.mono ?_); rintro e w' ⟨rfl, hb⟩; have HB := Lib.hid hb; clear hb)
    go_ret
    exact ⟨rfl, HB.out⟩
  | false =>
    go_enter Tryz.func21, Tryz.ntmps21
    go_wp2_with (go_at_call 47; (with_reducible refine HQ.out.mono ?_); rintro e w' ⟨rfl, hb⟩; have HB := Lib.hid hb; clear hb)
    go_ret
    exact ⟨rfl, HB.out⟩
theorem CheckR_any (A : Option Addr) (n cap : Nat) (l : List It) (w : World) (hR : Rd It.vs 4 w 0 A n l) :
    Calls Tryz.prog 23 #[.slice A n cap] w fun e w' => e = .returned (.int .i64 (chk l)) ∧ Below w.heap.size w w' := by
  have HQ := Lib.hid (Good_any A n cap l w hR)
  clear hR
  unfold chk
  generalize bagB l = q at HQ ⊢
  cases q with
  | true =>
    go_enter Tryz.func23, Tryz.ntmps23
    go_wp2_with (go_at_call 44; (with_reducible refine HQ.out.mono ?_); rintro e w' ⟨rfl, hb⟩; have HB := Lib.hid hb; clear hb)
    go_ret
    exact ⟨rfl, HB.out⟩
  | false =>
    go_enter Tryz.func23, Tryz.ntmps23
    go_wp2_with (go_at_call 44; (with_reducible refine HQ.out.mono ?_); rintro e w' ⟨rfl, hb⟩; have HB := Lib.hid hb; clear hb)
    go_ret
    exact ⟨rfl, HB.out⟩
end Go.Proofs.Bg
end

section
/- The reference's New. -/
namespace Go.Proofs.Bg
open Go.RowKit

theorem longLo_any (lo : Nat) (A : Option Addr) (n cap : Nat) (l : List It) (w : World) (hR : Rd It.vs 4 w lo A n l) :
    Calls Tryz.prog 51 #[.slice A n cap] w fun e w' => (∃ A' n' cap', e = .returned (.tuple #[.slice A' n' cap', .int .i64 (longR l).2]) ∧ Rd It.vs 4 w' lo A' n' (longR l).1) ∧ Below w.heap.size w w' := by
  have HG := Lib.hid (Good_any A n cap l w (hR.low (Nat.zero_le _)))
  have HR := Lib.hid hR
  clear hR
  cases hg : bagB l with
  | true =>
    have e1 : longR l = (l, 0) := by simp [longR, hg]
    rw [e1]
    have HGB := Lib.hid hg
    clear hg e1
    go_enter Tryz.func51, Tryz.ntmps51
    go_wp2_with (go_at_call 44; (with_reducible refine HG.out.mono ?_); rintro e w1 ⟨rfl, hb⟩; rw [HGB.out]; have HB := Lib.hid hb; clear hb)
    go_ret2
    exact ⟨⟨_, _, _, rfl, HR.out.below HB.out⟩, HB.out⟩
  | false =>
    have e1 : longR l = ([], 3) := by simp [longR, hg]
    rw [e1]
    have HGB := Lib.hid hg
    clear hg e1
    go_enter Tryz.func51, Tryz.ntmps51
    go_wp2_with (go_at_call 44; (with_reducible refine HG.out.mono ?_); rintro e w1 ⟨rfl, hb⟩; rw [HGB.out]; have HB := Lib.hid hb; clear hb)
    go_ret2
    exact ⟨⟨_, _, _, rfl, Rd.nil _ _ _⟩, HB.out⟩

/-- What a function of the reference that hands back a bag in new memory leaves. -/
def RetNew (w : World) (p : List It × Int) (e : Ending) (w' : World) : Prop :=
  (∃ A n cap, e = .returned (.tuple #[.slice A n cap, .int .i64 p.2]) ∧ Rd It.vs 4 w' w.heap.size A n p.1) ∧ Below w.heap.size w w'

set_option maxRecDepth 100000 in
set_option maxHeartbeats 4000000 in
theorem NewR_any (A : Option Addr) (n capA : Nat) (l : List It) (w : World) (hR : Rd It.vs 4 w 0 A n l) (hc : n ≤ capA) (hS : n * 32 ≤ 140737488355328) :
    Calls Tryz.prog 22 #[.slice A n capA] w (RetNew w (newR l)) := by
  have hn := hR.le
  have HR := Lib.hid hR
  have HC := Lib.hid hc
  clear hR hc
  go_enter Tryz.func22, Tryz.ntmps22
  go_wp2_with fail
  go_loopw [5, 8] (fun _ i wr => ∃ k : Nat, k ≤ n ∧ i = .int .i64 k ∧ NewRel w l k wr) (fun _ i _ => n - (intOf i).toNat)
  case atStart => exact ⟨0, by omega, rfl, by simp, Below.refl _ _⟩
  case round =>
    obtain ⟨k, hk, rfl, hok, hB⟩ := hrel
    have hRk := HR.out.below hB
    have HB := Lib.hid hB
    have HK := Lib.hid hok
    clear hB hok
    by_cases hlt : k < n
    · obtain ⟨b, off, x, rfl, _, hx, c0, c1, c2, c3⟩ := hRk.it_at hlt
      have HX := Lib.hid hx
      have hno : okN x = false → newR l = ([], 2) := fun h => by
        have : l.all okN = false := List.all_eq_false.2 ⟨x, List.mem_of_getElem? HX.out, by simp [h]⟩
        simp [newR, this]
      have HNO := Lib.hid hno
      clear hx hRk hno
      cases hr : recB x.r with
      | false =>
        have E1 := Lib.hid (HNO.out (by simp [okN, hr]))
        have HRC := Lib.hid hr
        clear hr
        go_wp2_with (go_at_call 69; (with_reducible refine (Rec_any x.r _).mono ?_); rintro e w' ⟨rfl, hb1⟩; rw [HRC.out]; obtain ⟨f0, f1, f2, f3⟩ := box4 hb1; have HB1 := Lib.hid hb1; clear hb1)
        go_ret2
        rw [E1.out]
        exact ⟨⟨none, 0, 0, rfl, Rd.nil _ _ _⟩, below_box HB.out HB.out.size HB1.out⟩
      | true =>
        have HRC := Lib.hid hr
        by_cases hlo : x.n < -1000000
        · have E1 := Lib.hid (HNO.out (by simp [okN, withinB]; omega))
          have hlod : decide (x.n < -1000000) = true := by simpa using hlo
          clear hr hlo
          go_wp2_with (go_at_call 69; (with_reducible refine (Rec_any x.r _).mono ?_); rintro e w' ⟨rfl, hb1⟩; rw [HRC.out]; obtain ⟨f0, f1, f2, f3⟩ := box4 hb1; have HB1 := Lib.hid hb1; clear hb1)
          go_ret2
          rw [E1.out]
          exact ⟨⟨none, 0, 0, rfl, Rd.nil _ _ _⟩, below_box HB.out HB.out.size HB1.out⟩
        · have hlod : decide (x.n < -1000000) = false := by simpa using hlo
          by_cases hhi : 1000000 < x.n
          · have E1 := Lib.hid (HNO.out (by simp [okN, withinB]; omega))
            have hhid : decide (1000000 < x.n) = true := by simpa using hhi
            clear hr hlo hhi
            go_wp2_with (go_at_call 69; (with_reducible refine (Rec_any x.r _).mono ?_); rintro e w' ⟨rfl, hb1⟩; rw [HRC.out]; obtain ⟨f0, f1, f2, f3⟩ := box4 hb1; have HB1 := Lib.hid hb1; clear hb1)
            go_ret2
            rw [E1.out]
            exact ⟨⟨none, 0, 0, rfl, Rd.nil _ _ _⟩, below_box HB.out HB.out.size HB1.out⟩
          · have hhid : decide (1000000 < x.n) = false := by simpa using hhi
            have HXO : Hid (okN x = true) := by show _ = _; simp [okN, hr, withinB]; omega
            clear hr hlo hhi
            go_wp2_with (go_at_call 69; (with_reducible refine (Rec_any x.r _).mono ?_); rintro e w' ⟨rfl, hb1⟩; rw [HRC.out]; obtain ⟨f0, f1, f2, f3⟩ := box4 hb1; have HB1 := Lib.hid hb1; clear hb1)
            refine ⟨⟨k + 1, by omega, by go_num, fun y hy => ?_, below_box HB.out HB.out.size HB1.out⟩, by simp [intOf]; omega⟩
            rw [List.take_add_one, HX.out] at hy
            rcases List.mem_append.1 hy with h | h
            · exact HK.out y h
            · simp at h; rw [h]; exact HXO.out
    · have hk' : k = n := by omega
      subst hk'
      clear hlt
      have hall : ∀ x ∈ l, okN x = true := fun x hx => HK.out x (by rw [List.take_of_length_le (by rw [HR.out.len]; exact Nat.le_refl _)]; exact hx)
      have hll : l.length * 32 ≤ 140737488355328 := by rw [HR.out.len]; exact hS
      have e1 : newR l = longR (canon l) := by rw [bagOr_long]; simp [newR, List.all_eq_true.2 hall]
      have HO := Lib.hid (Of_any A k capA l wr hRk HC.out hS (fits_new hall hll))
      have E1 := Lib.hid e1
      clear hall hll e1 hRk
      go_wp2_with (go_at_call 70; (with_reducible refine HO.out.mono ?_); rintro e w4 ⟨A4, cap4, rfl, hr4, hb4⟩)
      have HL := Lib.hid (longLo_any wr.heap.size A4 _ cap4 _ w4 hr4)
      have HB4 := Lib.hid (bchain HB.out hb4)
      have HSZ := Lib.hid HB.out.size
      clear hr4 hb4 HO
      generalize hq : longR (canon l) = q at *
      generalize (canon l).length = m at *
      clear hq
      go_wp2_with (go_at_call 51; (with_reducible refine HL.out.mono ?_); rintro e w5 ⟨⟨A5, n5, cap5, rfl, hr5⟩, hb5⟩)
      go_ret2
      rw [E1.out]
      exact ⟨⟨_, _, _, rfl, hr5.low HSZ.out⟩, bchain HB4.out hb5⟩
end Go.Proofs.Bg
end

section
/- The reference: Neg, Contrary, Add, Sum. -/
namespace Go.Proofs.Bg
open Go.RowKit

theorem below_row {w W W' : World} {row : Option Nat} (h : Below w.heap.size w W) (hg : W.grownBy W' row) (hr : ∀ g, row = some g → w.heap.size ≤ g) : Below w.heap.size w W' := h.grown hg h.size hr
theorem RetBag.new {w w' : World} {p : List It × Int} {e : Ending} (h : RetBag w p e w') : RetNew w p e w' := by
  obtain ⟨A, cap, he, hr, hb⟩ := h
  exact ⟨⟨A, _, cap, he, hr⟩, hb⟩

set_option maxRecDepth 100000 in
set_option maxHeartbeats 1000000 in
theorem NegR_any (A : Option Addr) (n cap : Nat) (l : List It) (w : World) (hR : Rd It.vs 4 w 0 A n l) (hb : ∀ x ∈ l, -1000000000000000 ≤ x.n ∧ x.n ≤ 1000000000000000) (hlen : n * 32 ≤ 140737488355328) :
    Calls Tryz.prog 73 #[.slice A n cap] w fun e w' => ∃ A' cap', e = .returned (.slice A' n cap') ∧ Rd It.vs 4 w' w.heap.size A' n (l.map negIt) ∧ Below w.heap.size w w' := by
  have HR := Lib.hid hR
  have HBD := Lib.hid hb
  clear hR hb
  go_enter Tryz.func73, Tryz.ntmps73
  go_wp2_with fail
  go_loopw [3, 5, 8] (fun v _ i wr => ∃ k : Nat, k ≤ n ∧ i = .int .i64 k ∧ NegRel w l k v wr) (fun _ _ i _ => n - (intOf i).toNat)
  case atStart => exact ⟨0, by omega, rfl, Own.nil _ _ _ _ _, Below.refl _ _⟩
  case round =>
    obtain ⟨k, hk, rfl, hown, hB⟩ := hrel
    have hRk := HR.out.below hB
    have HB := Lib.hid hB
    have hsz := hB.size
    clear hB
    by_cases hlt : k < n
    · obtain ⟨b, off, x, rfl, _, hx, c0, c1, c2, c3⟩ := hRk.it_at hlt
      have ht : (l.take (k + 1)).map negIt = (l.take k).map negIt ++ [⟨x.r, -x.n⟩] := by rw [List.take_add_one, hx]; simp [negIt]
      obtain ⟨hx1, hx2⟩ := HBD.out x (List.mem_of_getElem? hx)
      have hll : ((l.take k).map negIt).length = k := by rw [List.length_map, List.length_take, HR.out.len]; omega
      generalize (l.take k).map negIt = L at *
      obtain ⟨A3, cap3, rfl⟩ := hown.shape
      have HT := Lib.hid ht
      have HX := Lib.hid hx
      have hw : IntKind.i64.wrap (-x.n) = -x.n := IntWalk.i64_in _ (by omega)
      clear ht hx hRk
      go_wp2_with (at_builtin; refine wpList_app1 It.vs 4 40 _ 32 infoIt rfl (by decide) rfl _ _ _ rfl Tryz.underlying23 w.heap.size _ L rfl ((hown.alloc _).alloc _) ⟨x.r, -x.n⟩ _ _ rfl rfl (newAt _ _ _ _ (by simp)) (by simp [It.vs, Value.oneCell']) (by omega) (by unfold maxLen; omega) (by simp; omega) (fun v4 w4 hown4 hg4 _ => ?_))
      obtain ⟨A4, cap4, rfl⟩ := hown4.shape
      refine ⟨⟨k + 1, by omega, by go_num, ?_, ((HB.out.alloc hsz _).alloc (by simp; omega) _).grown hg4 (by simp; omega) (fun j hj => (hown.blk j hj).1)⟩, by simp [intOf]; omega⟩
      rw [HT.out]
      exact hown4
    · have hk' : k = n := by omega
      subst hk'
      clear hRk hlt
      have hl : (l.take k).map negIt = l.map negIt := by rw [List.take_of_length_le (by rw [HR.out.len]; exact Nat.le_refl _)]
      rw [hl] at hown
      obtain ⟨A5, cap5, he5, hr5⟩ := hown.rd It.vs_length
      have hlen' : (l.map negIt).length = k := by rw [List.length_map, HR.out.len]
      rw [hlen'] at hr5 he5
      subst he5
      clear hl hlen'
      go_wp2_with fail
      go_ret
      exact ⟨A5, cap5, rfl, hr5, HB.out⟩

set_option maxRecDepth 100000 in
set_option maxHeartbeats 1000000 in
theorem Contrary_any (A : Option Addr) (n capA : Nat) (a : List It) (w : World) (hA : Rd It.vs 4 w 0 A n a) :
    Calls Tryz.prog 28 #[.slice A n capA] w (RetNew w (negR a)) := by
  have Q1 := Lib.hid (Good_any A n capA a w hA)
  have HA := Lib.hid hA
  clear hA
  cases ga : bagB a with
  | false =>
    have e1 : negR a = ([], 2) := by simp [negR, ga]
    rw [e1]
    have GA := Lib.hid ga
    clear ga e1
    go_enter Tryz.func28, Tryz.ntmps28
    go_wp2_with (go_at_call 44; (with_reducible refine Q1.out.mono ?_); rintro e w1 ⟨rfl, hb1⟩; rw [GA.out]; have HB1 := Lib.hid hb1; clear hb1)
    go_ret2
    exact ⟨⟨none, 0, 0, rfl, Rd.nil _ _ _⟩, HB1.out⟩
  | true =>
    have e1 : negR a = (a.map negIt, 0) := by simp [negR, ga]
    rw [e1]
    have hsp := (bagB_spec a).1 ga
    have HSP := Lib.hid hsp
    have GA := Lib.hid ga
    have hlen := HA.out.len
    have HLn := Lib.hid hlen
    clear ga e1 hsp hlen
    go_enter Tryz.func28, Tryz.ntmps28
    go_wp2_with fail
    (with_reducible refine Q1.out.mono ?_)
    rintro e w1 ⟨rfl, hb1⟩
    rw [GA.out]
    have HC := Lib.hid (NegR_any A n capA a w1 (HA.out.below hb1) (fun x hx => by have := (itB_spec x).1 (HSP.out.1 x hx); omega) (by have := HSP.out.2.2; have := HLn.out; omega))
    have HB1 := Lib.hid hb1
    clear hb1
    go_wp2_with (go_at_call 73; (with_reducible refine HC.out.mono ?_); rintro e w2 ⟨A2, cap2, rfl, hr2, hb2⟩)
    go_ret2
    exact ⟨⟨A2, n, cap2, rfl, hr2.low HB1.out.size⟩, bchain HB1.out hb2⟩

set_option maxRecDepth 100000 in
set_option maxHeartbeats 2000000 in
theorem AddR_any (A B : Option Addr) (n m capA capB : Nat) (a b : List It) (w : World) (hA : Rd It.vs 4 w 0 A n a) (hB : Rd It.vs 4 w 0 B m b) (hS : (n + m) * 32 ≤ 140737488355328) (hF : Fits (a ++ b)) :
    Calls Tryz.prog 72 #[.slice A n capA, .slice B m capB] w fun e w' => ∃ A' cap', e = .returned (.slice A' (canon (a ++ b)).length cap') ∧ Rd It.vs 4 w' w.heap.size A' (canon (a ++ b)).length (canon (a ++ b)) ∧ Below w.heap.size w w' := by
  have HA := Lib.hid hA
  have HB := Lib.hid hB
  have HS := Lib.hid hS
  have HF := Lib.hid hF
  clear hA hB hS hF
  go_enter Tryz.func72, Tryz.ntmps72
  have HLA : Hid (a.length = n) := HA.out.len
  go_wp2_with (first | (at_builtin; refine wpList_appRd It.vs 4 It.vs_length (by decide) It.one 40 40 _ 32 infoIt rfl rfl _ _ _ _ rfl Tryz.underlying22 Tryz.underlying23 w.heap.size _ [] rfl (Own.nil _ _ _ _ _) 0 n capA A a rfl HA.out (by have := HS.out; simp; omega) (by have := HS.out; unfold maxLen; simp; omega) (Nat.le_refl _) (fun v1 w1 hown1 hg1 _ => ?_); rw [List.nil_append] at hown1; have hb1 : Below w.heap.size w w1 := (Below.refl _ _).grown hg1 (Nat.le_refl _) (fun k e => by cases e); have HB1 := Lib.hid hb1; have HO1 := Lib.hid hown1; clear hown1 hg1 hb1) | (at_builtin; go_loud (refine wpList_appRd It.vs 4 It.vs_length (by decide) It.one 40 40 _ 32 infoIt rfl rfl _ _ _ _ rfl Tryz.underlying22 Tryz.underlying23 w.heap.size _ a rfl HO1.out 0 m capB B b rfl (HB.out.below HB1.out) (by have := HS.out; rw [HLA.out]; exact this) (by have := HS.out; rw [HLA.out]; unfold maxLen; omega) HB1.out.size (fun v2 w2 hown2 hg2 _ => ?_)); have HB2 := Lib.hid (HB1.out.grown hg2 HB1.out.size (fun k e => (HO1.out.blk k e).1)); have HO2 := Lib.hid hown2; obtain ⟨A2, c2, rfl⟩ := hown2.shape; clear hown2 hg2))
  have hown2 := HO2.out
  have hlab : (a ++ b).length = n + m := by rw [List.length_append, HLA.out, HB.out.len]
  have hr2 := hown2.rdOf It.vs_length
  have hcp := hown2.capOf
  rw [List.length_append] at hr2 hcp hlab
  have C1 := Lib.hid (Of_any A2 (a.length + b.length) c2 (a ++ b) w2 (hr2.low (Nat.zero_le _)) hcp (by rw [hlab]; exact HS.out) HF.out)
  clear hown2 hlab hr2 hcp HO2 HO1
  generalize hL : a ++ b = L at *
  have HL := Lib.hid hL
  clear hL
  (with_reducible refine C1.out.mono ?_)
  rintro e w3 ⟨A3, cap3, rfl, hr3, hb3⟩
  have HR3 := Lib.hid hr3
  have HB3 := Lib.hid (bchain HB2.out hb3)
  clear hr3 hb3 C1
  generalize hq : (canon L).length = q at *
  have HQ := Lib.hid hq
  clear hq
  go_wp2_with fail
  go_ret
  rw [HL.out, HQ.out]
  exact ⟨A3, cap3, rfl, HR3.out.low HB2.out.size, HB3.out⟩

set_option maxRecDepth 100000 in
set_option maxHeartbeats 2000000 in
theorem Sum_any (A B : Option Addr) (n m capA capB : Nat) (a b : List It) (w : World) (hA : Rd It.vs 4 w 0 A n a) (hB : Rd It.vs 4 w 0 B m b) :
    Calls Tryz.prog 27 #[.slice A n capA, .slice B m capB] w (RetNew w (addR a b)) := by
  have Q1 := Lib.hid (Good_any A n capA a w hA)
  have HA := Lib.hid hA
  have HB := Lib.hid hB
  clear hA hB
  cases ga : bagB a with
  | false =>
    have e1 : addR a b = ([], 2) := by simp [addR, ga]
    rw [e1]
    have GA := Lib.hid ga
    clear ga e1
    go_enter Tryz.func27, Tryz.ntmps27
    go_wp2_with (go_at_call 44; (with_reducible refine Q1.out.mono ?_); rintro e w1 ⟨rfl, hb1⟩; rw [GA.out]; have HB1 := Lib.hid hb1; clear hb1)
    go_ret2
    exact ⟨⟨_, _, _, rfl, Rd.nil _ _ _⟩, HB1.out⟩
  | true =>
    cases gb : bagB b with
    | false =>
      have e1 : addR a b = ([], 2) := by simp [addR, gb]
      rw [e1]
      have GA := Lib.hid ga
      have GB := Lib.hid gb
      clear ga gb e1
      go_enter Tryz.func27, Tryz.ntmps27
      go_wp2_with fail
      (with_reducible refine Q1.out.mono ?_)
      rintro e w1 ⟨rfl, hb1⟩
      rw [GA.out]
      have Q2 := Lib.hid (Good_any B m capB b w1 (HB.out.below hb1))
      have HB1 := Lib.hid hb1
      clear hb1
      go_wp2_with (go_at_call 44; (with_reducible refine Q2.out.mono ?_); rintro e w2 ⟨rfl, hb2⟩; rw [GB.out]; have HB2 := Lib.hid hb2; clear hb2)
      go_ret2
      exact ⟨⟨_, _, _, rfl, Rd.nil _ _ _⟩, bchain HB1.out HB2.out⟩
    | true =>
      have e1 : addR a b = longR (canon (a ++ b)) := by rw [bagOr_long]; simp [addR, ga, gb]
      rw [e1]
      have GA := Lib.hid ga
      have GB := Lib.hid gb
      have hn3 : n ≤ 300 := by rw [← HA.out.len]; exact ((bagB_spec a).1 ga).2.2
      have hm3 : m ≤ 300 := by rw [← HB.out.len]; exact ((bagB_spec b).1 gb).2.2
      clear ga gb e1
      go_enter Tryz.func27, Tryz.ntmps27
      go_wp2_with fail
      (with_reducible refine Q1.out.mono ?_)
      rintro e w1 ⟨rfl, hb1⟩
      rw [GA.out]
      have Q2 := Lib.hid (Good_any B m capB b w1 (HB.out.below hb1))
      have HB1 := Lib.hid hb1
      clear hb1
      go_wp2_with (go_at_call 44; (with_reducible refine Q2.out.mono ?_); rintro e w2 ⟨rfl, hb2⟩; rw [GB.out]; have HB2 := Lib.hid (bchain HB1.out hb2); have HP := Lib.hid (AddR_any A B n m capA capB a b w2 (HA.out.below HB2.out) (HB.out.below HB2.out) (by omega) (fits_two GA.out GB.out)); clear hb2)
      (with_reducible refine HP.out.mono ?_)
      rintro e w3 ⟨A3, cap3, rfl, hr3, hb3⟩
      have HL := Lib.hid (longLo_any w2.heap.size A3 _ cap3 _ w3 hr3)
      have HB3 := Lib.hid (bchain HB2.out hb3)
      clear hr3 hb3 HP
      generalize hq : longR (canon (a ++ b)) = q at *
      generalize (canon (a ++ b)).length = p at *
      clear hq
      go_wp2_with (go_at_call 51; (with_reducible refine HL.out.mono ?_); rintro e w4 ⟨⟨A4, n4, cap4, rfl, hr4⟩, hb4⟩)
      go_ret2
      exact ⟨⟨_, _, _, rfl, hr4.low HB2.out.size⟩, bchain HB3.out hb4⟩
end Go.Proofs.Bg
end

section
/- The contracts of Do, and of the reference's items and Do. -/
namespace Go.Proofs.Bg
open Go.RowKit

theorem recB_spec (r : Rc) : recB r = true ↔ 0 ≤ r.at_ ∧ r.at_ ≤ 200 ∧ -1000000000 ≤ r.key ∧ r.key ≤ 1000000000 ∧ -1000000000 ≤ r.val ∧ r.val ≤ 1000000000 := by
  simp [recB, withinB]
  omega
theorem recB_ok {r : Rc} (h : recB r = true) : r.ok := by
  rw [recB_spec] at h
  unfold Rc.ok I64
  omega
theorem edB_recs {x : Ed} (h : edB x = true) : (x.d ≠ 1 → recB x.old = true) ∧ (x.d ≠ 2 → recB x.new = true) := by
  unfold edB at h
  rw [Bool.and_eq_true] at h
  obtain ⟨_, h2⟩ := h
  split at h2
  · rename_i h1
    rw [Bool.and_eq_true] at h2
    exact ⟨fun h => absurd h1 h, fun _ => h2.1⟩
  · rename_i h1
    split at h2
    · rename_i h3
      rw [Bool.and_eq_true] at h2
      exact ⟨fun _ => h2.1, fun h => absurd h3 h⟩
    · split at h2
      · rw [Bool.and_eq_true, Bool.and_eq_true] at h2
        exact ⟨fun _ => h2.1, fun _ => h2.2.1⟩
      · cases h2
theorem edIt_ok {x : Ed} (h : edB x = true) : ∀ y ∈ edIt x, y.r.ok ∧ -1000000 ≤ y.n ∧ y.n ≤ 1000000 := by
  obtain ⟨h1, h2, _⟩ := edB_spec h
  obtain ⟨h3, h4⟩ := edB_recs h
  intro y hy
  unfold edIt at hy
  rcases List.mem_append.1 hy with hy | hy
  · split at hy
    · cases hy
    · rename_i hd
      rw [List.mem_singleton.1 hy]
      exact ⟨recB_ok (h3 hd), by simp only; omega, by simp only; omega⟩
  · split at hy
    · cases hy
    · rename_i hd
      rw [List.mem_singleton.1 hy]
      exact ⟨recB_ok (h4 hd), by simp only; omega, by simp only; omega⟩
theorem edIt_length (x : Ed) : (edIt x).length ≤ 2 := by
  unfold edIt
  split <;> split <;> simp
theorem edIts_length (l : List Ed) : (edIts l).length ≤ 2 * l.length := by
  induction l with
  | nil => simp [edIts]
  | cons x r ih =>
    have := edIt_length x
    rw [edIts_cons, List.length_append, List.length_cons]
    omega
theorem fits_do {a : List It} {l : List Ed} (ha : bagB a = true) (hl : ∀ x ∈ l, edB x = true) (hlen : l.length ≤ 600) : Fits (a ++ edIts l) := by
  rw [bagB_spec] at ha
  have h : ∀ y ∈ a ++ edIts l, y.r.ok ∧ -1000000 ≤ y.n ∧ y.n ≤ 1000000 := fun y hy => by
    rcases List.mem_append.1 hy with hy | hy
    · have h1 := ha.1 y hy
      exact ⟨itB_ok h1, by have := (itB_spec y).1 h1; omega, by have := (itB_spec y).1 h1; omega⟩
    · obtain ⟨x, hx, hy⟩ := List.mem_flatMap.1 hy
      exact edIt_ok (hl x hx) y hy
  refine ⟨fun y hy => (h y hy).1, 1000000, by omega, fun y hy => (h y hy).2, ?_⟩
  have := edIts_length l
  rw [List.length_append]
  omega
theorem edIts_take {l : List Ed} {k : Nat} {x : Ed} (h : l[k]? = some x) : edIts (l.take (k + 1)) = edIts (l.take k) ++ edIt x := by
  rw [List.take_add_one, h, edIts_append]
  simp [edIts]
theorem take_all {l : List Ed} {k : Nat} {x : Ed} (h : l[k]? = some x) (h1 : ∀ y ∈ l.take k, edB y = true) (h2 : edB x = true) : ∀ y ∈ l.take (k + 1), edB y = true := fun y hy => by
  rw [List.take_add_one, h] at hy
  rcases List.mem_append.1 hy with hy | hy
  · exact h1 y hy
  · simp at hy
    rw [hy]
    exact h2
theorem doR_false {a : List It} {l : List Ed} {x : Ed} (hx : x ∈ l) (h : edB x = false) : doR a l = ([], 2) := by
  have : l.all edB = false := List.all_eq_false.2 ⟨x, hx, by simp [h]⟩
  simp [doR, this]
theorem SumIs.grown {w w' : World} {r : Nat} {L : List It} {row : Option Nat} (h : SumIs w r L) (hg : w.grownBy w' row) (hne : some r ≠ row) : SumIs w' r L := by
  obtain ⟨kv, hm, rest⟩ := h
  exact ⟨kv, hm.grown hg hne, rest⟩

/-- What the loop of Do holds. -/
def DoRel (w : World) (r : Nat) (a : List It) (l : List Ed) (k : Nat) (wr : World) : Prop :=
  (∀ x ∈ l.take k, edB x = true) ∧ SumIs wr r (a ++ edIts (l.take k)) ∧ Below w.heap.size w wr

set_option maxRecDepth 100000 in
set_option maxHeartbeats 8000000 in
theorem Do_any (A B : Option Addr) (n m capA capB : Nat) (a : List It) (l : List Ed) (w : World) (hA : Rd It.vs 4 w 0 A n a) (hB : Rd Ed.vs 8 w 0 B m l) :
    Calls Tryz.prog 32 #[.slice A n capA, .slice B m capB] w (RetBag w (doR a l)) := by
  have Q1 := Lib.hid (isBag_any A n capA a w hA)
  have HA := Lib.hid hA
  have HB := Lib.hid hB
  have hmle := hB.le
  clear hA hB
  cases ga : bagB a with
  | false =>
    have e1 : doR a l = ([], 2) := by simp [doR, ga]
    rw [e1]
    have GA := Lib.hid ga
    clear ga e1
    go_enter Tryz.func32, Tryz.ntmps32
    go_wp2_with (go_at_call 47; (with_reducible refine Q1.out.mono ?_); rintro e w1 ⟨rfl, hb1⟩; rw [GA.out]; have HB1 := Lib.hid hb1; clear hb1)
    go_ret2
    exact ⟨none, 0, rfl, Rd.nil _ _ _, HB1.out⟩
  | true =>
    have GA := Lib.hid ga
    by_cases hm : 600 < m
    · have e1 : doR a l = ([], 2) := by
        have : ¬ l.length ≤ 600 := by rw [HB.out.len]; omega
        simp [doR, this]
      rw [e1]
      have hd : decide ((600 : Int) < (m : Int)) = true := by simp; omega
      clear ga e1 hm
      go_enter Tryz.func32, Tryz.ntmps32
      go_wp2_with (go_at_call 47; (with_reducible refine Q1.out.mono ?_); rintro e w1 ⟨rfl, hb1⟩; rw [GA.out]; have HB1 := Lib.hid hb1; clear hb1)
      go_ret2
      exact ⟨none, 0, rfl, Rd.nil _ _ _, HB1.out⟩
    · have hd : decide ((600 : Int) < (m : Int)) = false := by simp; omega
      have hm6 : m ≤ 600 := by omega
      clear ga hm
      go_enter Tryz.func32, Tryz.ntmps32
      go_wp2_with fail
      (with_reducible refine Q1.out.mono ?_)
      rintro e w1 ⟨rfl, hb1⟩
      rw [GA.out]
      have HB1 := Lib.hid hb1
      clear hb1
      have hR3 := rdBs1 (capA := capA) 23 (HA.out.below HB1.out)
      have e2 : allIt [⟨A, n, capA, a⟩] = a := by simp [allIt]
      have hfa : Fits (a ++ edIts []) := fits_do GA.out (by simp) (by simp)
      have HAd := Lib.hid (added_any w1.heap.size 1 1 _ _ rfl hR3 (by rw [e2]; simpa [edIts] using hfa) (by omega))
      rw [e2] at HAd
      clear hR3 e2 hfa
      go_wp2_with (go_at_call 68; (with_reducible refine HAd.out.mono ?_); rintro e w4 ⟨rfl, hs4, hb4⟩)
      rw [World.size_alloc] at hs4
      have HB4 := Lib.hid (bchain (bchain HB1.out (below_new _ _)) hb4)
      have hr0 : w.heap.size ≤ w1.heap.size + 1 := by have := HB1.out.size; omega
      generalize w1.heap.size + 1 = r at *
      have HS4 := Lib.hid hs4
      have HR0 := Lib.hid hr0
      clear hs4 hb4 HAd hr0
      go_loopw [8, 22] (fun _ i wr => ∃ k : Nat, k ≤ m ∧ i = .int .i64 k ∧ DoRel w r a l k wr) (fun _ i _ => m - (intOf i).toNat)
      case atStart => exact ⟨0, by omega, rfl, by simp, by simpa [edIts] using HS4.out, HB4.out⟩
      case round =>
        clear HS4
        obtain ⟨k, hk, rfl, hall, hS, hBr⟩ := hrel
        have hRk := HB.out.below hBr
        have HAL := Lib.hid hall
        have HS := Lib.hid hS
        have HBR := Lib.hid hBr
        have hrl := hS.lt
        clear hall hS hBr
        by_cases hlt : k < m
        · obtain ⟨b, off, x, rfl, hx, c0, c1, c2, c3, c4, c5, c6, c7⟩ := hRk.ed_at hlt
          have HX := Lib.hid hx
          have HBX := Lib.hid (new_block wr #[.int .i64 x.d, .int .i64 x.old.at_, .int .i64 x.old.key, .int .i64 x.old.val, .int .i64 x.new.at_, .int .i64 x.new.key, .int .i64 x.new.val, .int .i64 x.n] 79)
          obtain ⟨f0, f1, f2, f3, f4, f5, f6, f7⟩ := box8 HBX.out
          have C1 := Lib.hid (isEdit_any x.d x.old.at_ x.old.key x.old.val x.new.at_ x.new.key x.new.val x.n (wr.alloc (.cells #[.int .i64 x.d, .int .i64 x.old.at_, .int .i64 x.old.key, .int .i64 x.old.val, .int .i64 x.new.at_, .int .i64 x.new.key, .int .i64 x.new.val, .int .i64 x.n] 79)))
          have HAB : Hid (Below w.heap.size w (wr.alloc (.cells #[.int .i64 x.d, .int .i64 x.old.at_, .int .i64 x.old.key, .int .i64 x.old.val, .int .i64 x.new.at_, .int .i64 x.new.key, .int .i64 x.new.val, .int .i64 x.n] 79))) := HBR.out.alloc HBR.out.size _
          have HS1 := Lib.hid (HS.out.alloc (.cells #[.int .i64 x.d, .int .i64 x.old.at_, .int .i64 x.old.key, .int .i64 x.old.val, .int .i64 x.new.at_, .int .i64 x.new.key, .int .i64 x.new.val, .int .i64 x.n] 79))
          clear hx hRk
          cases he : edB x with
          | false =>
            have E1 := Lib.hid (doR_false (a := a) (List.mem_of_getElem? HX.out) he)
            have HE := Lib.hid he
            clear he
            go_wp2_with (go_at_call 80; (with_reducible refine C1.out.mono ?_); rintro e w5 ⟨rfl, hb5⟩; rw [HE.out]; have HB5 := Lib.hid hb5; clear hb5)
            go_ret2
            rw [E1.out]
            exact ⟨none, 0, rfl, Rd.nil _ _ _, bchain HAB.out HB5.out⟩
          | true =>
            have HE := Lib.hid he
            have HALL := Lib.hid (take_all HX.out HAL.out he)
            have hft := fits_do GA.out HALL.out (by rw [List.length_take]; omega)
            rw [edIts_take HX.out] at hft
            have HFT := Lib.hid hft
            have HTK := Lib.hid (edIts_take HX.out)
            obtain ⟨n1, n2, h3⟩ := edB_spec he
            have hwn : IntKind.i64.wrap (-x.n) = -x.n := IntWalk.i64_in _ (by omega)
            have hrs : r < wr.heap.size := hrl
            clear he hft
            rcases h3 with h3 | h3 | ⟨h3, h4⟩
            · have HEI : Hid (edIt x = [⟨x.new, x.n⟩]) := by show _ = _; simp [edIt, h3]
              rw [HEI.out] at HFT HTK
              have q1 : (x.d != 1) = false := by simp [h3]
              have q2 : (x.d != 2) = true := by simp [h3]
              have hp := HFT.out.put (P := a ++ edIts (l.take k)) (x := ⟨x.new, x.n⟩) (rest := []) (by simp)
              have HP := Lib.hid hp
              clear h3 hp
              go_wp2_with (first | (go_at_call 80; (with_reducible refine C1.out.mono ?_); rintro e w5 ⟨rfl, hb5⟩; rw [HE.out]; have hk5 := block_keep HBX.out hb5; obtain ⟨g0, g1, g2, g3, g4, g5, g6, g7⟩ := box8 hk5; have HB5 := Lib.hid hb5; have hc0 := put_sum r _ ⟨x.new, x.n⟩ w5 (HS1.out.below hb5) HP.out.1 HP.out.2; dsimp only at hc0; have HC2 := Lib.hid hc0; clear hc0; clear hb5 hk5) | (go_at_call 48; (with_reducible refine HC2.out.mono ?_); rintro e w6 ⟨rfl, hs6, hg6⟩; have HS6 := Lib.hid hs6; have HG6 := Lib.hid hg6; clear hs6 hg6))
              refine ⟨⟨k + 1, by omega, by go_num, HALL.out, by rw [HTK.out, ← List.append_assoc]; exact HS6.out, below_row (bchain HAB.out HB5.out) HG6.out (fun g e => by cases e; exact HR0.out)⟩, by simp [intOf]; omega⟩
            · have HEI : Hid (edIt x = [⟨x.old, -x.n⟩]) := by show _ = _; simp [edIt, h3]
              rw [HEI.out] at HFT HTK
              have q1 : (x.d != 1) = true := by simp [h3]
              have q2 : (x.d != 2) = false := by simp [h3]
              have hp := HFT.out.put (P := a ++ edIts (l.take k)) (x := ⟨x.old, -x.n⟩) (rest := []) (by simp)
              have HP := Lib.hid hp
              clear h3 hp
              go_wp2_with (first | (go_at_call 80; (with_reducible refine C1.out.mono ?_); rintro e w5 ⟨rfl, hb5⟩; rw [HE.out]; have hk5 := block_keep HBX.out hb5; obtain ⟨g0, g1, g2, g3, g4, g5, g6, g7⟩ := box8 hk5; have HK5 := Lib.hid hk5; have HB5 := Lib.hid hb5; have hc0 := put_sum r _ ⟨x.old, -x.n⟩ w5 (HS1.out.below hb5) HP.out.1 HP.out.2; dsimp only at hc0; have HC2 := Lib.hid hc0; clear hc0; clear hb5 hk5) | (go_at_call 48; (with_reducible refine HC2.out.mono ?_); rintro e w6 ⟨rfl, hs6, hg6⟩; have hk6 := (hg6.block wr.heap.size (Array.getElem?_eq_some_iff.1 HK5.out).1 (fun e => by cases e; omega)).trans HK5.out; obtain ⟨e0, e1, e2, e3, e4, e5, e6, e7⟩ := box8 hk6; have HS6 := Lib.hid hs6; have HG6 := Lib.hid hg6; clear hs6 hg6 hk6))
              refine ⟨⟨k + 1, by omega, by go_num, HALL.out, by rw [HTK.out, ← List.append_assoc]; exact HS6.out, below_row (bchain HAB.out HB5.out) HG6.out (fun g e => by cases e; exact HR0.out)⟩, by simp [intOf]; omega⟩
            · have HEI : Hid (edIt x = [⟨x.old, -x.n⟩, ⟨x.new, x.n⟩]) := by show _ = _; simp [edIt, h3]
              rw [HEI.out] at HFT HTK
              have q1 : (x.d != 1) = true := by simp [h3]
              have q2 : (x.d != 2) = true := by simp [h3]
              have hp := HFT.out.put (P := a ++ edIts (l.take k)) (x := ⟨x.old, -x.n⟩) (rest := [⟨x.new, x.n⟩]) (by simp)
              have HP := Lib.hid hp
              have hp2 := HFT.out.put (P := (a ++ edIts (l.take k)) ++ [⟨x.old, -x.n⟩]) (x := ⟨x.new, x.n⟩) (rest := []) (by simp)
              have HP2 := Lib.hid hp2
              clear h3 h4 hp hp2
              go_wp2_with fail
              (with_reducible refine C1.out.mono ?_)
              rintro e w5 ⟨rfl, hb5⟩
              rw [HE.out]
              have hk5 := block_keep HBX.out hb5
              obtain ⟨g0, g1, g2, g3, g4, g5, g6, g7⟩ := box8 hk5
              have HK5 := Lib.hid hk5
              have HB5 := Lib.hid hb5
              have hc0 := put_sum r _ ⟨x.old, -x.n⟩ w5 (HS1.out.below hb5) HP.out.1 HP.out.2
              dsimp only at hc0
              have HC2 := Lib.hid hc0
              clear hc0 hb5 hk5
              go_wp2_with fail
              (with_reducible refine HC2.out.mono ?_)
              clear HC2
              rintro e w6 ⟨rfl, hs6, hg6⟩
              have hk6 := (hg6.block wr.heap.size (Array.getElem?_eq_some_iff.1 HK5.out).1 (fun e => by cases e; omega)).trans HK5.out
              obtain ⟨e0, e1, e2, e3, e4, e5, e6, e7⟩ := box8 hk6
              have HG6 := Lib.hid hg6
              have hc0 := put_sum r _ ⟨x.new, x.n⟩ w6 hs6 HP2.out.1 HP2.out.2
              dsimp only at hc0
              have HC3 := Lib.hid hc0
              clear hs6 hg6 hk6 hc0 g0 g1 g2 g3 g4 g5 g6 g7
              go_wp2_with fail
              (with_reducible refine HC3.out.mono ?_)
              clear HC3
              rintro e w7 ⟨rfl, hs7, hg7⟩
              have HS7 := Lib.hid hs7
              have HG7 := Lib.hid hg7
              clear hs7 hg7
              go_wp2_with fail
              refine ⟨⟨k + 1, by omega, by go_num, HALL.out, ?_, below_row (below_row (bchain HAB.out HB5.out) HG6.out (fun g e => by cases e; exact HR0.out)) HG7.out (fun g e => by cases e; exact HR0.out)⟩, by simp [intOf]; omega⟩
              have := HS7.out
              rw [HTK.out]
              simpa using this
        · have hk' : k = m := by omega
          subst hk'
          clear hRk hlt
          have et : l.take k = l := List.take_of_length_le (by rw [HB.out.len]; exact Nat.le_refl _)
          rw [et] at HS HAL
          have hll : l.length ≤ 600 := by rw [HB.out.len]; exact hm6
          have hf := fits_do GA.out HAL.out hll
          have E1 : Hid (doR a l = (bagOr (a ++ edIts l), errOr (a ++ edIts l))) := by show _ = _; simp [doR, GA.out, hll, List.all_eq_true.2 HAL.out]
          have hlen : (a ++ edIts l).length * 32 ≤ 140737488355328 := by
            have h1 := ((bagB_spec a).1 GA.out).2.2
            have h2 := edIts_length l
            rw [List.length_append]; omega
          have HC := Lib.hid (bag_sum r _ wr HS.out hf.ok hlen)
          clear et hll hf hlen
          generalize a ++ edIts l = L at *
          go_wp2_with (go_at_call 50; (with_reducible refine HC.out.mono ?_); rintro e w5 ⟨A5, cap5, rfl, hr5, hb5⟩)
          go_ret2
          rw [E1.out]
          exact ⟨A5, cap5, rfl, hr5.low HBR.out.size, bchain HBR.out hb5⟩
end Go.Proofs.Bg
end
