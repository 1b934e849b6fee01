/- Contracts of the small functions of package bag: within, cmp.Compare, cmp.Or, the order of records, isRec, isBag. -/
import Derived.WalkSpells
import Derived.WalkLawsBesides
import Derived.Deep.QuietTactic
import Derived.BigQuiet
import Derived.StillTailTactics
import Derived.Lib.Hide
import Derived.Sort.Grow
import Derived.Test.YtcbemmlhpinjkaaGreatDoorProg
import Derived.Test.YtcbemmlhpinjkaaGreatDoorBgSort
namespace Go.Proofs.Bg
open Go.RowKit Go.Sort

def withinB (a b c : Int) : Bool := decide (b ≤ a) && decide (a ≤ c)
theorem within_any (a b c : Int) (w : World) : Calls Tryz.prog 67 #[.int .i64 a, .int .i64 b, .int .i64 c] w fun e w' => e = .returned (.bool (withinB a b c)) ∧ w = w' := by
  go_enter Tryz.func67, Tryz.ntmps67
  go_wp2
  all_goals
    go_ret
    exact ⟨ret_bool (by simp [withinB]; try omega), rfl⟩

theorem cmpCompare_any (a b : Int) (w : World) : Calls Tryz.prog 77 #[.int .i64 a, .int .i64 b] w fun e w' => e = .returned (.int .i64 (cmpI a b)) ∧ w = w' := by
  rcases Int.lt_trichotomy a b with h | h | h
  · go_enter Tryz.func77, Tryz.ntmps77
    go_wp2
    go_ret
    exact ⟨ret_int (by rw [cmpI, if_pos h]), rfl⟩
  · subst h
    go_enter Tryz.func77, Tryz.ntmps77
    go_wp2
    go_ret
    exact ⟨ret_int (by simp [cmpI]), rfl⟩
  · have h' : ¬ a < b := by omega
    go_enter Tryz.func77, Tryz.ntmps77
    go_wp2
    go_ret
    exact ⟨ret_int (by rw [cmpI, if_neg (by omega), if_pos h]), rfl⟩


theorem cmpOr_any (g cap : Nat) (a b c : Int) (w : World) (h0 : w.cell? ⟨g, 0, none⟩ = some (.int .i64 a)) (h1 : w.cell? ⟨g, 1, none⟩ = some (.int .i64 b)) (h2 : w.cell? ⟨g, 2, none⟩ = some (.int .i64 c)) :
    Calls Tryz.prog 115 #[.slice (some ⟨g, 0, none⟩) 3 cap] w fun e w' => e = .returned (.int .i64 (or3 a b c)) ∧ w = w' := by
  go_enter Tryz.func115, Tryz.ntmps115
  go_wp2_with fail
  go_loop [8] (fun i => ∃ k : Nat, k ≤ 3 ∧ i = .int .i64 k ∧ (0 < k → a = 0) ∧ (1 < k → b = 0) ∧ (2 < k → c = 0)) (fun i => 3 - (intOf i).toNat)
  case atStart => exact ⟨0, by omega, rfl, by omega, by omega, by omega⟩
  case round =>
    obtain ⟨k, hk, rfl, ha, hb, hc⟩ := hrel
    rcases (by omega : k = 0 ∨ k = 1 ∨ k = 2 ∨ k = 3) with rfl | rfl | rfl | rfl
    · by_cases h : a = 0
      · have hx : (a != 0) = false := by rw [h]; rfl
        clear ha hb hc
        have H := Lib.hid h
        clear h
        go_wp2
        exact ⟨⟨1, by omega, rfl, fun _ => H.out, fun h => absurd h (by omega), fun h => absurd h (by omega)⟩, by simp [intOf]⟩
      · have hx : (a != 0) = true := by simp [h]
        clear ha hb hc
        have H := Lib.hid h
        clear h
        go_wp2
        go_ret
        exact ⟨ret_int (by have := H.out; simp [or3, this]), rfl⟩
    · have ea : a = 0 := ha (by omega)
      by_cases h : b = 0
      · have hx : (b != 0) = false := by rw [h]; rfl
        clear ha hb hc
        have H := Lib.hid h
        clear h
        have Ea := Lib.hid ea
        clear ea
        go_wp2
        exact ⟨⟨2, by omega, rfl, fun _ => Ea.out, fun _ => H.out, fun h => absurd h (by omega)⟩, by simp [intOf]⟩
      · have hx : (b != 0) = true := by simp [h]
        clear ha hb hc
        have H := Lib.hid h
        clear h
        have Ea := Lib.hid ea
        clear ea
        go_wp2
        go_ret
        exact ⟨ret_int (by have := H.out; simp [or3, Ea.out,  this]), rfl⟩
    · have ea : a = 0 := ha (by omega)
      have eb : b = 0 := hb (by omega)
      by_cases h : c = 0
      · have hx : (c != 0) = false := by rw [h]; rfl
        clear ha hb hc
        have H := Lib.hid h
        clear h
        have Ea := Lib.hid ea
        clear ea
        have Eb := Lib.hid eb
        clear eb
        go_wp2
        exact ⟨⟨3, by omega, rfl, fun _ => Ea.out, fun _ => Eb.out, fun _ => H.out⟩, by simp [intOf]⟩
      · have hx : (c != 0) = true := by simp [h]
        clear ha hb hc
        have H := Lib.hid h
        clear h
        have Ea := Lib.hid ea
        clear ea
        have Eb := Lib.hid eb
        clear eb
        go_wp2
        go_ret
        exact ⟨ret_int (by simp [or3, Ea.out, Eb.out]), rfl⟩
    · have ea : a = 0 := ha (by omega)
      have eb : b = 0 := hb (by omega)
      have ec : c = 0 := hc (by omega)
      clear ha hb hc
      have Ea := Lib.hid ea
      have Eb := Lib.hid eb
      have Ec := Lib.hid ec
      clear ea eb ec
      go_wp2
      go_ret
      exact ⟨ret_int (by simp [or3, Ea.out, Eb.out, Ec.out]), rfl⟩


set_option maxRecDepth 100000 in
set_option maxHeartbeats 400000 in
theorem compare_any (x y : Rc) (w : World) :
    Calls Tryz.prog 96 #[.agg #[.int .i64 x.at_, .int .i64 x.key, .int .i64 x.val], .agg #[.int .i64 y.at_, .int .i64 y.key, .int .i64 y.val]] w fun e w' => e = .returned (.int .i64 (rcmp x y)) ∧ ∃ q os, w' = grow (w.drewN q) os := by
  have hc : ∀ (a b : Int) (w : World), Calls Tryz.prog 77 #[.int .i64 a, .int .i64 b] w fun e w' => e = .returned (.int .i64 (cmpI a b)) ∧ w' = w := fun a b w => (cmpCompare_any a b w).mono fun _ _ h => ⟨h.1, h.2.symm⟩
  have HC := Lib.hid hc
  clear hc
  go_enter Tryz.func96, Tryz.ntmps96
  go_wp2_with fail
  refine wp_region_still_tail 15 (by kernel_rfl) (by kernel_rfl) ?_
  simp only [List.take_succ_cons, List.take_zero, List.drop_succ_cons, List.drop_zero]
  change wpStill _ _ (World.drew _) _ _ _
  repeat (first | (still_call (HC.out _ _ _)) | still_step)
  refine wpStill_nil ?_
  change wpList _ _ _ _ _ (World.drew ((w.alloc _).alloc _))
  go_wp2_with fail
  refine (cmpOr_any _ _ (cmpI x.at_ y.at_) (cmpI x.key y.key) (cmpI x.val y.val) _ (by go_simp) (by go_simp) (by go_simp)).mono ?_
  rintro e w' ⟨rfl, rfl⟩
  go_wp2
  go_ret
  exact ⟨rfl, 1, _, by rw [alloc_eq_grow, alloc_eq_grow, alloc_eq_grow, grow_grow, grow_grow]; rfl⟩

theorem grow_below (w : World) (q : Nat) (os : Array Obj) : Below w.heap.size w (grow (w.drewN q) os) := by
  have h : ∀ q, (w.drewN q).heap = w.heap ∧ (w.drewN q).os = w.os ∧ (w.drewN q).tape = w.tape ∧ (w.drewN q).output = w.output := fun q => ⟨rfl, rfl, rfl, rfl⟩
  obtain ⟨h1, h2, h3, h4⟩ := h q
  refine ⟨h2, h3, h4, by simp [grow], fun k hk => ?_⟩
  show ((w.drewN q).heap ++ os)[k]? = w.heap[k]?
  rw [h1, Array.getElem?_append_left hk]

theorem compare_below (x y : Rc) (w : World) :
    Calls Tryz.prog 96 #[.agg #[.int .i64 x.at_, .int .i64 x.key, .int .i64 x.val], .agg #[.int .i64 y.at_, .int .i64 y.key, .int .i64 y.val]] w fun e w' => e = .returned (.int .i64 (rcmp x y)) ∧ Below w.heap.size w w' :=
  (compare_any x y w).mono fun _ _ ⟨he, q, os, hw⟩ => ⟨he, by rw [hw]; exact grow_below w q os⟩

/-- A record, an item as they must be. -/
def recB (r : Rc) : Bool := withinB r.at_ 0 200 && (withinB r.key (-1000000000) 1000000000 && withinB r.val (-1000000000) 1000000000)

theorem isRec_any (r : Rc) (w : World) : Calls Tryz.prog 66 #[.agg #[.int .i64 r.at_, .int .i64 r.key, .int .i64 r.val]] w fun e w' => e = .returned (.bool (recB r)) ∧ Below w.heap.size w w' := by
  have h1 := within_any
  have H1 := Lib.hid h1
  clear h1
  cases e1 : withinB r.at_ 0 200 <;> cases e2 : withinB r.key (-1000000000) 1000000000 <;> cases e3 : withinB r.val (-1000000000) 1000000000
  all_goals
    have E1 := Lib.hid e1
    have E2 := Lib.hid e2
    have E3 := Lib.hid e3
    clear e1 e2 e3
    go_enter Tryz.func66, Tryz.ntmps66
    go_wp2_with (go_at_call 67; refine (H1.out _ _ _ _).mono ?_; rintro e w' ⟨rfl, rfl⟩; first | rw [E1.out] | rw [E2.out] | rw [E3.out])
    go_ret
    exact ⟨ret_bool (by simp [recB, E1.out, E2.out, E3.out]), (Below.refl _ _).alloc (Nat.le_refl _) _⟩
end Go.Proofs.Bg
