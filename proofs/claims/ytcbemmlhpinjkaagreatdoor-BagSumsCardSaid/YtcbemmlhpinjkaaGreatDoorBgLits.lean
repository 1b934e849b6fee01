/- The law's own small functions: rec, item, B, C. -/
import Derived.Laws.Rows
import Derived.Test.YtcbemmlhpinjkaaGreatDoorBgEdits
import Derived.Test.YtcbemmlhpinjkaaGreatDoorBgItem
namespace Go.Proofs.Bg
open Go.RowKit

theorem rec_any (a k v : Int) (w : World) : Calls Tryz.prog 56 #[.int .i64 a, .int .i64 k, .int .i64 v] w fun e w' => e = .returned (.agg #[.int .i64 a, .int .i64 k, .int .i64 v]) ∧ Below w.heap.size w w' := by
  go_enter Tryz.func56, Tryz.ntmps56
  go_wp2_with fail
  refine bodyPost_ret (results_cell_row rfl _ _ w.heap.size 38 #[.int .i64 a, .int .i64 k, .int .i64 v] (0, 0) _ rfl (new_block w _ _) Tryz.underlying38 rfl (by kernel_rfl)) rfl ?_
  exact ⟨rfl, below_new w _⟩

theorem lit_any (a k v n : Int) (w : World) : Calls Tryz.prog 55 #[.int .i64 a, .int .i64 k, .int .i64 v, .int .i64 n] w fun e w' => e = .returned (.agg #[.int .i64 a, .int .i64 k, .int .i64 v, .int .i64 n]) ∧ Below w.heap.size w w' := by
  have HR := Lib.hid (rec_any a k v (w.alloc (.cells #[.int .i64 0, .int .i64 0, .int .i64 0, .int .i64 0] 40)))
  go_enter Tryz.func55, Tryz.ntmps55
  go_wp2_with (go_at_call 56; (with_reducible refine HR.out.mono ?_); rintro e w1 ⟨rfl, hb⟩; have hbk := keep_new hb; have c0 := cell_at_block (off := 0) hbk rfl; have c1 := cell_at_block (off := 1) hbk rfl; have c2 := cell_at_block (off := 2) hbk rfl; have c3 := cell_at_block (off := 3) hbk rfl; have f0 := free_at_block (off := 0) hbk; have f1 := free_at_block (off := 1) hbk; have f2 := free_at_block (off := 2) hbk; have f3 := free_at_block (off := 3) hbk; have HB := Lib.hid hb; have H0 := Lib.hid hbk; clear hb hbk)
  have S := set4 H0.out (.int .i64 a) (.int .i64 k) (.int .i64 v) (.int .i64 n)
  refine bodyPost_ret (results_cell_row rfl _ _ w.heap.size 40 #[.int .i64 a, .int .i64 k, .int .i64 v, .int .i64 n] (0, 0) _ rfl S.1 Tryz.underlying40 rfl (by kernel_rfl)) rfl ?_
  have hB := below_box (Below.refl w.heap.size w) (Nat.le_refl _) HB.out
  exact ⟨rfl, hB.grown S.2 hB.size (fun q hq => by cases hq; exact Nat.le_refl _)⟩

/-- A list that lies in a block of its own reads as itself. -/
theorem rd_cells {α : Type} {enc : α → List Value} {sz : Nat} (hs : ∀ x, (enc x).length = sz) {w : World} {g : Nat} {T : TypeId} (l : List α) {c : Array Value} (h : w.heap[g]? = some (.cells c T)) (hc : c = (l.flatMap enc).toArray) (hl : l.length ≤ 9223372036854775807) : Rd enc sz w 0 (some ⟨g, 0, none⟩) l.length l := by
  refine ⟨rfl, hl, fun _ => ⟨g, 0, rfl, Nat.zero_le _, fun i x hx j v hv => ?_⟩⟩
  refine cell_at_block h ?_
  rw [hc]
  have := flat_at hs l i x hx j v hv
  simpa using this
def bL : List It := [⟨⟨1, 2, 3⟩, 1⟩, ⟨⟨1, 2, 5⟩, -2⟩, ⟨⟨4, 0, 0⟩, 1⟩]
def cL : List It := [⟨⟨1, 2, 3⟩, -1⟩, ⟨⟨2, 2, 7⟩, 3⟩]

theorem B_any (w : World) : Calls Tryz.prog 53 #[] w fun e w' => ∃ A cap, e = .returned (.slice A 3 cap) ∧ Rd It.vs 4 w' 0 A 3 bL ∧ Below w.heap.size w w' := by
  go_enter Tryz.func53, Tryz.ntmps53
  go_wp2_with fail
  (with_reducible refine (lit_any _ _ _ _ _).mono ?_)
  rintro e w1 ⟨rfl, hb1⟩
  have H1 := Lib.hid hb1
  clear hb1
  go_wp2_with fail
  (with_reducible refine (lit_any _ _ _ _ _).mono ?_)
  rintro e w2 ⟨rfl, hb2⟩
  have H2 := Lib.hid (bchain H1.out hb2)
  clear hb2
  go_wp2_with fail
  (with_reducible refine (lit_any _ _ _ _ _).mono ?_)
  rintro e w3 ⟨rfl, hb3⟩
  have H3 := Lib.hid (bchain H2.out hb3)
  clear hb3
  go_wp2_with fail
  go_ret
  exact ⟨_, _, rfl, rd_cells It.vs_length bL (new_block w3 _ _) rfl (by decide), bchain H3.out (below_new _ _)⟩
theorem C_any (w : World) : Calls Tryz.prog 54 #[] w fun e w' => ∃ A cap, e = .returned (.slice A 2 cap) ∧ Rd It.vs 4 w' 0 A 2 cL ∧ Below w.heap.size w w' := by
  go_enter Tryz.func54, Tryz.ntmps54
  go_wp2_with fail
  (with_reducible refine (lit_any _ _ _ _ _).mono ?_)
  rintro e w1 ⟨rfl, hb1⟩
  have H1 := Lib.hid hb1
  clear hb1
  go_wp2_with fail
  (with_reducible refine (lit_any _ _ _ _ _).mono ?_)
  rintro e w2 ⟨rfl, hb2⟩
  have H2 := Lib.hid (bchain H1.out hb2)
  clear hb2
  go_wp2_with fail
  go_ret
  exact ⟨_, _, rfl, rd_cells It.vs_length cL (new_block w2 _ _) rfl (by decide), bchain H2.out (below_new _ _)⟩
end Go.Proofs.Bg
