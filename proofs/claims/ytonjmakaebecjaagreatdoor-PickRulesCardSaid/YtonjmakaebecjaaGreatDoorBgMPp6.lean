/- Texts of our own, merged: PkKnown PkLawParts. -/
import Derived.Deep.RegionWith
import Derived.Deep.DeepCutAuto
import Derived.Deep.RegionHeld3
import Derived.Test.YtonjmakaebecjaaGreatDoorBgMPp5
import Derived.Test.YtonjmakaebecjaaGreatDoorBgMPp3

section
/- Contract: the law's known. -/
namespace Go.Proofs.Bg
open Go.RowKit

def IntsV (v : Value) (W : World) (l : List Int) : Prop := ∃ s : Sl, v = .slice s.A s.n s.cap ∧ IntsAt W 0 s l
def RowsV (v : Value) (W : World) (l : List (List Int)) : Prop := ∃ s : Sl, v = .slice s.A s.n s.cap ∧ RowsAt W 0 s l
def TabV (v : Value) (W : World) (T : PT) : Prop := ∃ t : Tb, v = .agg #[.slice t.cols.A t.cols.n t.cols.cap, .slice t.rows.A t.rows.n t.rows.cap] ∧ TabAt W 0 t T
theorem IntsV.keep {v : Value} {W W' : World} {l : List Int} (h : IntsV v W l) (hb : Below W.heap.size W W') : IntsV v W' l := by
  obtain ⟨s, e, h⟩ := h
  exact ⟨s, e, h.below hb⟩
theorem RowsV.keep {v : Value} {W W' : World} {l : List (List Int)} (h : RowsV v W l) (hb : Below W.heap.size W W') : RowsV v W' l := by
  obtain ⟨s, e, h⟩ := h
  exact ⟨s, e, h.below hb⟩
theorem TabV.keep {v : Value} {W W' : World} {l : PT} (h : TabV v W l) (hb : Below W.heap.size W W') : TabV v W' l := by
  obtain ⟨s, e, h⟩ := h
  exact ⟨s, e, h.below hb⟩
def TreeV (v : Value) (W : World) (T : PTr) : Prop := ∃ t : Tr, v = .agg #[.int .i64 t.table, .slice t.kids.A t.kids.n t.kids.cap] ∧ TreeAt W 0 t T
theorem TreeV.keep {v : Value} {W W' : World} {l : PTr} (h : TreeV v W l) (hb : Below W.heap.size W W') : TreeV v W' l := by
  obtain ⟨s, e, h⟩ := h
  exact ⟨s, e, h.keep hb⟩
theorem v_order : orderC [0, 1, 2] [0, 1, 2] = 0 := by decide +kernel
def TabsV (v : Value) (W : World) (l : List PT) : Prop := ∃ s : Sl, v = .slice s.A s.n s.cap ∧ TabsAt W 0 s.A s.n l
theorem TabsV.keep {v : Value} {W W' : World} {l : List PT} (h : TabsV v W l) (hb : Below W.heap.size W W') : TabsV v W' l := by
  obtain ⟨s, e, h⟩ := h
  exact ⟨s, e, h.below hb⟩
theorem rows3_at (w : World) (a b c : List Int) (ha : a.length = 2) (hb : b.length = 2) (hc : c.length = 2) : RowsAt ([intO a, intO b, intO c, rowO w.heap.size [a, b, c]].foldl World.alloc w) 0 ⟨some ⟨w.heap.size + 3, 0, none⟩, 3, 3⟩ [a, b, c] ∧ Below w.heap.size w ([intO a, intO b, intO c, rowO w.heap.size [a, b, c]].foldl World.alloc w) := by
  have H := allocs_at [intO a, intO b, intO c, rowO w.heap.size [a, b, c]] w
  refine ⟨rows_block (T := 3) (U := 32) (b := w.heap.size) (Nat.zero_le _) (Nat.zero_le _) (by simp) (fun r hr => ?_) (fun i r hr => ?_) (H.2.2 3 _ rfl), H.2.1⟩
  · simp at hr
    rcases hr with rfl | rfl | rfl <;> omega
  · match i, hr with
    | 0, hr => cases hr; exact H.2.2 0 _ rfl
    | 1, hr => cases hr; exact H.2.2 1 _ rfl
    | 2, hr => cases hr; exact H.2.2 2 _ rfl
    | n + 3, hr => simp at hr
theorem rows2_at (w : World) (a b : List Int) (ha : a.length = 2) (hb : b.length = 2) : RowsAt ([intO a, intO b, rowO w.heap.size [a, b]].foldl World.alloc w) 0 ⟨some ⟨w.heap.size + 2, 0, none⟩, 2, 2⟩ [a, b] ∧ Below w.heap.size w ([intO a, intO b, rowO w.heap.size [a, b]].foldl World.alloc w) := by
  have H := allocs_at [intO a, intO b, rowO w.heap.size [a, b]] w
  refine ⟨rows_block (T := 3) (U := 32) (b := w.heap.size) (Nat.zero_le _) (Nat.zero_le _) (by simp) (fun r hr => ?_) (fun i r hr => ?_) (H.2.2 2 _ rfl), H.2.1⟩
  · simp at hr
    rcases hr with rfl | rfl <;> omega
  · match i, hr with
    | 0, hr => cases hr; exact H.2.2 0 _ rfl
    | 1, hr => cases hr; exact H.2.2 1 _ rfl
    | n + 2, hr => simp at hr
theorem Rd.farA {α : Type} {enc : α → List Value} {sz lo n g : Nat} {A : Option Addr} {w w' : World} {l : List α} (hz : 0 < sz) (hl : ∀ x, (enc x).length = sz) (h : Rd enc sz w lo A n l) (hg : w.grownBy w' (some g)) (hlt : g < lo) : Rd enc sz w' lo A n l :=
  Rd.grown h hg hz hl (fun hn b off e ee => by
    obtain ⟨b', off', e', hlo, _⟩ := h.2.2 hn
    cases ee
    rw [e] at e'
    cases e'
    omega)
theorem TabAt.far {w w' : World} {lo g : Nat} {t : Tb} {T : PT} (h : TabAt w lo t T) (hg : w.grownBy w' (some g)) (hlt : g < lo) : TabAt w' lo t T := by
  obtain ⟨h1, ss, h2, h3⟩ := h
  exact ⟨Rd.farA (by decide) iv_length h1 hg hlt, ss, Rd.farA (by decide) Sl.vs_length h2 hg hlt, h3.mono fun x y hh => Rd.farA (by decide) iv_length hh hg hlt⟩

set_option maxRecDepth 100000 in
set_option maxHeartbeats 4000000 in
theorem known_any (w : World) (ht : DeTab w) : Calls Tryz.prog 23 #[] w fun e w' => e = .returned (.bool true) ∧ Below w.heap.size w w' := by
  have Q0 := Lib.hid (Tables_any w)
  have HD := Lib.hid ht
  clear ht
  go_enter Tryz.func23, Tryz.ntmps23
  go_wp2_with fail
  (with_reducible refine Q0.out.mono ?_)
  rintro e w1 ⟨rfl, ht1, hb1⟩
  obtain ⟨gt, hgt⟩ : ∃ gt, w.heap.size + 18 = gt := ⟨_, rfl⟩
  rw [hgt] at ht1 ⊢
  have HT := Lib.hid ht1
  have HB := Lib.hid hb1
  clear ht1 hb1 Q0 hgt
  go_wp2_with fail
  obtain ⟨b1, o1, s0, X0, e1, -, hx0, c00, c01, hs0⟩ := HT.out.at_ (k := 0) (by omega)
  cases e1
  cases hx0
  obtain ⟨b2, o2, s1, X1, e2, -, hx1, c10, c11, hs1⟩ := HT.out.at_ (k := 1) (by omega)
  cases e2
  cases hx1
  simp only [Nat.zero_mul, Nat.one_mul, Nat.zero_add] at c00 c01 c10 c11
  have K0 := Lib.hid (fun W (hb : Below w1.heap.size w1 W) => (⟨(hb.cell (World.block_lt_of_cell? _ _ c00)).trans c00, (hb.cell (World.block_lt_of_cell? _ _ c01)).trans c01, (hb.cell (World.block_lt_of_cell? _ _ c10)).trans c10, (hb.cell (World.block_lt_of_cell? _ _ c11)).trans c11⟩ : W.cell? ⟨gt, 0, none⟩ = some (.slice s0.cols.A s0.cols.n s0.cols.cap) ∧ W.cell? ⟨gt, 1, none⟩ = some (.slice s0.rows.A s0.rows.n s0.rows.cap) ∧ W.cell? ⟨gt, 2, none⟩ = some (.slice s1.cols.A s1.cols.n s1.cols.cap) ∧ W.cell? ⟨gt, 3, none⟩ = some (.slice s1.rows.A s1.rows.n s1.rows.cap)))
  have QJ := Lib.hid (fun W (hb : Below w1.heap.size w1 W) => by
    have q := Join_any s0 s1 _ _ W (hs0.below hb) (hs1.below hb)
    rw [v_join] at q
    exact q)
  have HS1 := Lib.hid hs1
  clear hs0 hs1
  go_cut [2, 3] from 22 to 31 (fun b e wz => e = .int .i64 0 ∧ ∃ (g : Nat) (t : Tb), b = .pointer (some ⟨g, 0, none⟩) ∧ wz.heap[g]? = some (.cells #[.slice t.cols.A t.cols.n t.cols.cap, .slice t.rows.A t.rows.n t.rows.cap] 40) ∧ TabAt wz 0 t ⟨[0, 1, 2], [[1, 1, 5], [1, 2, 5], [1, 2, 6]]⟩ ∧ Below w1.heap.size w1 wz)
  case first =>
    go_region_held3 (fun W' => W'.cell? ⟨gt, 0, none⟩ = some (.slice s0.cols.A s0.cols.n s0.cols.cap) ∧ W'.cell? ⟨gt, 1, none⟩ = some (.slice s0.rows.A s0.rows.n s0.rows.cap) ∧ W'.cell? ⟨gt, 2, none⟩ = some (.slice s1.cols.A s1.cols.n s1.cols.cap) ∧ W'.cell? ⟨gt, 3, none⟩ = some (.slice s1.rows.A s1.rows.n s1.rows.cap))
      (first
        | assumption
        | exact K0.out _ ((Below.refl _ _).drew)
        | exact K0.out _ ((below_new _ _).drew)
        | exact K0.out _ HB2.out
        | exact K0.out _ HB7.out
        | exact K0.out _ HB8.out
        | exact K0.out _ (HB2.out.alloc HB2.out.size _))
      (first
        | (go_at_call 35; (with_reducible refine (QJ.out (w1.drew) ((Below.refl _ _).drew)).mono ?_); rintro e w2 ⟨⟨t, rfl, ht2⟩, hb2⟩; have HTJ := Lib.hid (ht2.low (Nat.zero_le _)); have HB2 : Hid (Below w1.heap.size w1 w2) := bchain ((Below.refl _ _).drew) hb2; clear ht2 hb2)
        | (go_at_call 35; (with_reducible refine (QJ.out ((w1.alloc (.cells #[.slice none 0 0, .slice none 0 0] 40)).drew) ((below_new _ _).drew)).mono ?_); rintro e w2 ⟨⟨t, rfl, ht2⟩, hb2⟩; have HTJ := Lib.hid ht2; have HB2 : Hid (Below w1.heap.size w1 w2) := bchain ((below_new _ _).drew) hb2; have hn2 := (hb2.block _ (Array.getElem?_eq_some_iff.1 (new_block w1 #[.slice none 0 0, .slice none 0 0] 40)).1).trans (new_block w1 #[.slice none 0 0, .slice none 0 0] 40); have y0 := cell_at_block (off := 0) hn2 rfl; have y1 := cell_at_block (off := 1) hn2 rfl; have z0 := free_at_block (off := 0) hn2; have z1 := free_at_block (off := 1) hn2; have HN2 := Lib.hid hn2; have HB7 := Lib.hid (HB2.out.setCell (p := ⟨w1.heap.size, 0, none⟩) (Nat.le_refl _) (.slice t.cols.A t.cols.n t.cols.cap)); have HB8 := Lib.hid ((HB2.out.setCell (p := ⟨w1.heap.size, 0, none⟩) (Nat.le_refl _) (.slice t.cols.A t.cols.n t.cols.cap)).setCell (p := ⟨w1.heap.size, 1, none⟩) (Nat.le_refl _) (.slice t.rows.A t.rows.n t.rows.cap)); clear ht2 hb2 hn2)
        | fail)
    all_goals
      go_wp2_with fail
      go_meet
      first
        | exact ⟨rfl, w2.heap.size, t, rfl, new_block w2 _ _, HTJ.out.below (below_new w2 _), bchain HB2.out (below_new w2 _)⟩
        | (obtain ⟨q1, q2⟩ := setCell_at (off := 0) HN2.out (.slice t.cols.A t.cols.n t.cols.cap)
           obtain ⟨q3, q4⟩ := setCell_at (off := 1) q1 (.slice t.rows.A t.rows.n t.rows.cap)
           have hg := q2.then_ q4 (fun _ e => .inr e)
           exact ⟨rfl, w1.heap.size, t, rfl, q3, (HTJ.out.far hg (by show w1.heap.size < (w1.alloc _).heap.size; rw [World.size_alloc]; omega)).low (Nat.zero_le _), HB8.out⟩)
  case rest =>
    obtain ⟨rfl, gj, tj, rfl, hgj, htj, hbj⟩ := hcut
    have HGJ := Lib.hid hgj
    have HTJ := Lib.hid htj
    have HBJ := Lib.hid hbj
    clear hgj htj hbj QJ c00 c01 c10 c11
    go_wp2_with fail
    (with_reducible refine (Leaf_any 0 _).mono ?_)
    rintro e x1 ⟨rfl, rfl⟩
    go_wp2_with fail
    (with_reducible refine (Leaf_any 2 _).mono ?_)
    rintro e x1 ⟨rfl, rfl⟩
    go_wp2_with fail
    (with_reducible refine (Node_any ⟨0, ⟨none, 0, 0⟩⟩ ⟨2, ⟨none, 0, 0⟩⟩ (leafT 0) (leafT 2) _ (TreeAt.leaf _ _ _) (TreeAt.leaf _ _ _)).mono ?_)
    rintro e x1 ⟨n1, rfl, hn1, hb1⟩
    have HN1 := Lib.hid hn1
    have HX1 := Lib.hid (bchain (bchain (below_new wc _) (below_new _ _)) hb1)
    clear hn1 hb1
    go_wp2_with fail
    (with_reducible refine (Leaf_any 1 _).mono ?_)
    rintro e x2 ⟨rfl, rfl⟩
    go_wp2_with fail
    (with_reducible refine (Node_any n1 ⟨1, ⟨none, 0, 0⟩⟩ (nodeT (leafT 0) (leafT 2)) (leafT 1) _ (HN1.out.keep (below_new _ _)) (TreeAt.leaf _ _ _)).mono ?_)
    rintro e x2 ⟨n2, rfl, hn2, hb2⟩
    have HX2 := Lib.hid (bchain (bchain HX1.out (below_new _ _)) hb2)
    have QC := Lib.hid (Cost_any (some ⟨gt, 0, none⟩) 3 3 tabsL n2 _ x2 (HT.out.below (bchain HBJ.out HX2.out)) hn2)
    rw [v_cost] at QC
    clear hn2 hb2 HN1 HX1
    go_wp2_with fail
    (with_reducible refine QC.out.mono ?_)
    rintro e x3 ⟨rfl, hb3⟩
    have HX3 := Lib.hid (bchain HX2.out hb3)
    clear hb3 QC HX2
    go_wp2_with fail
    refine region_inv 21 rfl (by kernel_rfl) (by kernel_rfl) (fun j v W => match j with | 0 => v = .int .i64 0 | 1 => v = .bool false | 2 => v = .bool false | 3 => v = .int .i64 0 | 4 => v = .bool false | 5 => v = .bool false | 6 => v = .bool false | 7 => v = .int .i64 12 | 8 => v = .bool false | 9 => v = .bool false | 10 => v = .bool false | 11 => v = .agg #[.slice tj.cols.A tj.cols.n tj.cols.cap, .slice tj.rows.A tj.rows.n tj.rows.cap] | 12 => IntsV v W [0, 1, 2] | 13 => IntsV v W [1, 1, 5] | 14 => IntsV v W [1, 2, 5] | 15 => IntsV v W [1, 2, 6] | 16 => RowsV v W [[1, 1, 5], [1, 2, 5], [1, 2, 6]] | 17 => TabV v W ⟨[0, 1, 2], [[1, 1, 5], [1, 2, 5], [1, 2, 6]]⟩ | 18 => v = .bool true | 19 => v = .bool false | 20 => v = .bool false | _ => True)
      (fun f => { tmps := #[.bool false, .slice (some ⟨gt, 0, none⟩) 3 3, .pointer (some ⟨gj, 0, none⟩), .int .i64 0, .int .i64 12, .int .i64 0, undef, undef, undef, undef, undef, undef, undef, undef, undef, undef, undef, undef, undef, undef, undef, .slice (some ⟨gt, 0, none⟩) 3 3, u22, u23, u24, u25, u26, u27, u28, u29, u30, u31, .tuple #[.int .i64 12, .int .i64 0], .slice (some ⟨gt, 0, none⟩) 3 3, .agg #[.int .i64 0, .slice none 0 0], .agg #[.int .i64 2, .slice none 0 0], .agg #[.int .i64 n1.table, .slice n1.kids.A n1.kids.n n1.kids.cap], .agg #[.int .i64 1, .slice none 0 0], .agg #[.int .i64 n2.table, .slice n2.kids.A n2.kids.n n2.kids.cap], .tuple #[.int .i64 12, .int .i64 0], .int .i64 12, .int .i64 0, f 0, f 1, f 2, f 3, f 4, f 5, f 6, f 7, f 8, f 9, f 10, f 11, f 12, f 13, f 14, f 15, f 16, f 17, f 18, f 19, f 20, undef, undef, undef, undef, undef, undef, undef, undef, undef, undef, undef, undef, undef, undef, undef, undef, undef, undef, undef, undef, undef, undef, undef, undef, undef, undef, undef, undef, undef, undef, undef, undef, undef, undef, undef, undef, undef, undef, undef, undef, undef, undef, undef, undef, undef, undef, undef, undef, undef, undef, undef, undef, undef, undef, undef, undef, undef, undef, undef, undef, undef, undef, undef, undef, undef, undef, undef, undef, undef, undef, undef, undef, undef, undef, undef, undef, undef, undef, undef, undef, undef, undef, undef, undef, undef, undef, undef, undef, undef, undef, undef, undef, undef, undef, undef, undef, undef, undef, undef, undef, undef, undef, undef, undef, undef, undef, undef, undef, undef, undef, undef, undef, undef, undef, undef, undef, undef, undef, undef, undef, undef, undef, undef, undef, undef, undef, undef, undef, undef, undef, undef, undef, undef, undef, undef, undef, undef, undef, undef, undef, undef, undef, undef, undef, undef, undef, undef, undef, undef, undef, undef, undef, undef, undef, undef, undef, undef, undef, undef, undef, undef, undef, undef, undef, undef, undef, undef, undef, undef, undef, undef, undef, undef, undef, undef, undef, undef, undef], defers := [] }) (fun _ => undef) ?hst ?h0 ?steps ?done
    case hst =>
      intro j v W W' h hb
      match j, h with
      | 0, h => exact h
      | 1, h => exact h
      | 2, h => exact h
      | 3, h => exact h
      | 4, h => exact h
      | 5, h => exact h
      | 6, h => exact h
      | 7, h => exact h
      | 8, h => exact h
      | 9, h => exact h
      | 10, h => exact h
      | 11, h => exact h
      | 12, h => exact h.keep hb
      | 13, h => exact h.keep hb
      | 14, h => exact h.keep hb
      | 15, h => exact h.keep hb
      | 16, h => exact h.keep hb
      | 17, h => exact h.keep hb
      | 18, h => exact h
      | 19, h => exact h
      | 20, h => exact h
      | n + 21, h => trivial
    case h0 => rfl
    case steps =>
      refine ⟨⟨⟨⟨⟨⟨⟨⟨⟨⟨⟨⟨⟨⟨⟨⟨⟨⟨⟨⟨⟨trivial, ?_⟩, ?_⟩, ?_⟩, ?_⟩, ?_⟩, ?_⟩, ?_⟩, ?_⟩, ?_⟩, ?_⟩, ?_⟩, ?_⟩, ?_⟩, ?_⟩, ?_⟩, ?_⟩, ?_⟩, ?_⟩, ?_⟩, ?_⟩, ?_⟩
      · intro f W K hB hd hK
        refine wpOp_step rfl (fun K' hK' => ?_)
        go_simp
        have hk := hK _ W (Below.refl _ _) rfl
        simp only [upd, reduceIte, Nat.reduceEqDiff] at hk
        exact hK' _ _ hk
      · intro f W K hB hd hK
        refine wpOp_step rfl (fun K' hK' => ?_)
        have e0 := hd 0 (by kernel_rfl)
        (try simp only [] at e0)
        simp only [e0]
        go_simp
        have hk := hK _ W (Below.refl _ _) rfl
        simp only [upd, reduceIte, Nat.reduceEqDiff, e0] at hk
        exact hK' _ _ hk
      · intro f W K hB hd hK
        refine wpOp_step rfl (fun K' hK' => ?_)
        have e1 := hd 1 (by kernel_rfl)
        (try simp only [] at e1)
        simp only [e1]
        go_simp
        have hk := hK _ W (Below.refl _ _) rfl
        simp only [upd, reduceIte, Nat.reduceEqDiff, e1] at hk
        exact hK' _ _ hk
      · intro f W K hB hd hK
        refine wpOp_step rfl (fun K' hK' => ?_)
        have e2 := hd 2 (by kernel_rfl)
        (try simp only [] at e2)
        simp only [e2]
        go_simp
        have hk := hK _ W (Below.refl _ _) rfl
        simp only [upd, reduceIte, Nat.reduceEqDiff, e2] at hk
        exact hK' _ _ hk
      · intro f W K hB hd hK
        refine wpOp_step rfl (fun K' hK' => ?_)
        have e3 := hd 3 (by kernel_rfl)
        (try simp only [] at e3)
        have e2 := hd 2 (by kernel_rfl)
        (try simp only [] at e2)
        simp only [e3, e2]
        go_simp
        have hk := hK _ W (Below.refl _ _) rfl
        simp only [upd, reduceIte, Nat.reduceEqDiff, e3, e2] at hk
        exact hK' _ _ hk
      · intro f W K hB hd hK
        refine wpOp_step rfl (fun K' hK' => ?_)
        have e2 := hd 2 (by kernel_rfl)
        (try simp only [] at e2)
        have e4 := hd 4 (by kernel_rfl)
        (try simp only [] at e4)
        simp only [e2, e4]
        go_simp
        have hk := hK _ W (Below.refl _ _) rfl
        simp only [upd, reduceIte, Nat.reduceEqDiff, e2, e4] at hk
        exact hK' _ _ hk
      · intro f W K hB hd hK
        refine wpOp_step rfl (fun K' hK' => ?_)
        have e5 := hd 5 (by kernel_rfl)
        (try simp only [] at e5)
        simp only [e5]
        go_simp
        have hk := hK _ W (Below.refl _ _) rfl
        simp only [upd, reduceIte, Nat.reduceEqDiff, e5] at hk
        exact hK' _ _ hk
      · intro f W K hB hd hK
        refine wpOp_step rfl (fun K' hK' => ?_)
        have e6 := hd 6 (by kernel_rfl)
        (try simp only [] at e6)
        simp only [e6]
        go_simp
        have hk := hK _ W (Below.refl _ _) rfl
        simp only [upd, reduceIte, Nat.reduceEqDiff, e6] at hk
        exact hK' _ _ hk
      · intro f W K hB hd hK
        refine wpOp_step rfl (fun K' hK' => ?_)
        have e7 := hd 7 (by kernel_rfl)
        (try simp only [] at e7)
        have e6 := hd 6 (by kernel_rfl)
        (try simp only [] at e6)
        simp only [e7, e6]
        go_simp
        have hk := hK _ W (Below.refl _ _) rfl
        simp only [upd, reduceIte, Nat.reduceEqDiff, e7, e6] at hk
        exact hK' _ _ hk
      · intro f W K hB hd hK
        refine wpOp_step rfl (fun K' hK' => ?_)
        have e6 := hd 6 (by kernel_rfl)
        (try simp only [] at e6)
        have e8 := hd 8 (by kernel_rfl)
        (try simp only [] at e8)
        simp only [e6, e8]
        go_simp
        have hk := hK _ W (Below.refl _ _) rfl
        simp only [upd, reduceIte, Nat.reduceEqDiff, e6, e8] at hk
        exact hK' _ _ hk
      · intro f W K hB hd hK
        refine wpOp_step rfl (fun K' hK' => ?_)
        have e9 := hd 9 (by kernel_rfl)
        (try simp only [] at e9)
        simp only [e9]
        go_simp
        have hk := hK _ W (Below.refl _ _) rfl
        simp only [upd, reduceIte, Nat.reduceEqDiff, e9] at hk
        exact hK' _ _ hk
      · intro f W K hB hd hK
        refine wpOp_step rfl (fun K' hK' => ?_)
        have e10 := hd 10 (by kernel_rfl)
        (try simp only [] at e10)
        simp only [e10]
        have hb0 := bchain HX3.out.drew hB
        have hg := (hb0.block _ (Array.getElem?_eq_some_iff.1 HGJ.out).1).trans HGJ.out
        have y0 := cell_at_block (off := 0) hg rfl
        have y1 := cell_at_block (off := 1) hg rfl
        go_simp
        have hk := hK _ W (Below.refl _ _) rfl
        simp only [upd, reduceIte, Nat.reduceEqDiff, e10] at hk
        exact hK' _ _ hk
      · intro f W K hB hd hK
        refine wpOp_step rfl (fun K' hK' => ?_)
        have e10 := hd 10 (by kernel_rfl)
        (try simp only [] at e10)
        simp only [e10]
        go_simp
        have hk := hK _ _ (below_new W _) ⟨⟨some ⟨W.heap.size, 0, none⟩, 3, 3⟩, rfl, ints_block (l := [0, 1, 2]) (T := 3) (Nat.zero_le _) (by simp) (new_block W _ _)⟩
        simp only [upd, reduceIte, Nat.reduceEqDiff, e10] at hk
        exact hK' _ _ hk
      · intro f W K hB hd hK
        refine wpOp_step rfl (fun K' hK' => ?_)
        have e10 := hd 10 (by kernel_rfl)
        (try simp only [] at e10)
        simp only [e10]
        go_simp
        have hk := hK _ _ (below_new W _) ⟨⟨some ⟨W.heap.size, 0, none⟩, 3, 3⟩, rfl, ints_block (l := [1, 1, 5]) (T := 3) (Nat.zero_le _) (by simp) (new_block W _ _)⟩
        simp only [upd, reduceIte, Nat.reduceEqDiff, e10] at hk
        exact hK' _ _ hk
      · intro f W K hB hd hK
        refine wpOp_step rfl (fun K' hK' => ?_)
        have e10 := hd 10 (by kernel_rfl)
        (try simp only [] at e10)
        simp only [e10]
        go_simp
        have hk := hK _ _ (below_new W _) ⟨⟨some ⟨W.heap.size, 0, none⟩, 3, 3⟩, rfl, ints_block (l := [1, 2, 5]) (T := 3) (Nat.zero_le _) (by simp) (new_block W _ _)⟩
        simp only [upd, reduceIte, Nat.reduceEqDiff, e10] at hk
        exact hK' _ _ hk
      · intro f W K hB hd hK
        refine wpOp_step rfl (fun K' hK' => ?_)
        have e10 := hd 10 (by kernel_rfl)
        (try simp only [] at e10)
        simp only [e10]
        go_simp
        have hk := hK _ _ (below_new W _) ⟨⟨some ⟨W.heap.size, 0, none⟩, 3, 3⟩, rfl, ints_block (l := [1, 2, 6]) (T := 3) (Nat.zero_le _) (by simp) (new_block W _ _)⟩
        simp only [upd, reduceIte, Nat.reduceEqDiff, e10] at hk
        exact hK' _ _ hk
      · intro f W K hB hd hK
        refine wpOp_step rfl (fun K' hK' => ?_)
        have e10 := hd 10 (by kernel_rfl)
        (try simp only [] at e10)
        obtain ⟨s13, e13, h13⟩ := hd 13 (by kernel_rfl)
        (try simp only [] at e13)
        obtain ⟨s14, e14, h14⟩ := hd 14 (by kernel_rfl)
        (try simp only [] at e14)
        obtain ⟨s15, e15, h15⟩ := hd 15 (by kernel_rfl)
        (try simp only [] at e15)
        simp only [e10, e13, e14, e15]
        go_simp
        have hk := hK _ _ (below_new W _) ⟨⟨some ⟨W.heap.size, 0, none⟩, 3, 3⟩, rfl, [s13, s14, s15], rd_block (enc := Sl.vs) (sz := 1) (T := 32) (fun _ => rfl) (Nat.zero_le _) (by simp) (new_block W _ _), All2.cons (h13.below (below_new W _)) (All2.cons (h14.below (below_new W _)) (All2.cons (h15.below (below_new W _)) (All2.nil _)))⟩
        simp only [upd, reduceIte, Nat.reduceEqDiff, e10, e13, e14, e15] at hk
        exact hK' _ _ hk
      · intro f W K hB hd hK
        refine wpOp_step rfl (fun K' hK' => ?_)
        have e10 := hd 10 (by kernel_rfl)
        (try simp only [] at e10)
        obtain ⟨s12, e12, h12⟩ := hd 12 (by kernel_rfl)
        (try simp only [] at e12)
        obtain ⟨s16, e16, h16⟩ := hd 16 (by kernel_rfl)
        (try simp only [] at e16)
        simp only [e10, e12, e16]
        go_simp
        refine (Table_any s12 s16 W).mono ?_
        rintro e W2 ⟨rfl, hW2⟩
        have hb2 : Below W.heap.size W W2 := by rw [hW2]; exact below_new _ _
        dsimp only
        have hk := hK _ _ hb2 ⟨⟨s12, s16⟩, rfl, h12.below hb2, h16.below hb2⟩
        simp only [upd, reduceIte, Nat.reduceEqDiff, e10, e12, e16] at hk
        exact hK' _ _ hk
      · intro f W K hB hd hK
        refine wpOp_step rfl (fun K' hK' => ?_)
        have e10 := hd 10 (by kernel_rfl)
        (try simp only [] at e10)
        have e11 := hd 11 (by kernel_rfl)
        (try simp only [] at e11)
        obtain ⟨s17, e17, h17⟩ := hd 17 (by kernel_rfl)
        (try simp only [] at e17)
        simp only [e10, e11, e17]
        go_simp
        refine (Same_any tj s17 _ _ W (HTJ.out.below (bchain HX3.out.drew hB)) h17).mono ?_
        rintro e W2 ⟨he, hb2⟩
        rw [decide_eq_true rfl] at he
        subst he
        dsimp only
        have hk := hK _ _ hb2 rfl
        simp only [upd, reduceIte, Nat.reduceEqDiff, e10, e11, e17] at hk
        exact hK' _ _ hk
      · intro f W K hB hd hK
        refine wpOp_step rfl (fun K' hK' => ?_)
        have e10 := hd 10 (by kernel_rfl)
        (try simp only [] at e10)
        have e18 := hd 18 (by kernel_rfl)
        (try simp only [] at e18)
        simp only [e10, e18]
        go_simp
        have hk := hK _ W (Below.refl _ _) rfl
        simp only [upd, reduceIte, Nat.reduceEqDiff, e10, e18] at hk
        exact hK' _ _ hk
      · intro f W K hB hd hK
        refine wpOp_step rfl (fun K' hK' => ?_)
        have e10 := hd 10 (by kernel_rfl)
        (try simp only [] at e10)
        have e19 := hd 19 (by kernel_rfl)
        (try simp only [] at e19)
        simp only [e10, e19]
        go_simp
        have hk := hK _ W (Below.refl _ _) rfl
        simp only [upd, reduceIte, Nat.reduceEqDiff, e10, e19] at hk
        exact hK' _ _ hk
    case done =>
      intro f4 W hB hf
      have e := hf 20 (by omega)
      simp only [] at e
      simp only [e]
      clear e hf
      have HX4 := Lib.hid (bchain HX3.out.drew hB)
      have HD4 := Lib.hid (HD.out.below (bchain HB.out (bchain HBJ.out HX4.out)))
      have HT4 := Lib.hid (HT.out.below (bchain HBJ.out HX4.out))
      have HB4 := Lib.hid (bchain HB.out (bchain HBJ.out HX4.out))
      have K4 := Lib.hid (K0.out _ (bchain HBJ.out HX4.out))
      have HS4 := Lib.hid (HS1.out.below (bchain HBJ.out HX4.out))
      clear HX3 HGJ HTJ HBJ HS1 HB HT HX4 K0 hB HD
      go_wp2_with fail
      have QB := Lib.hid (Best_any (some ⟨gt, 0, none⟩) 3 3 tabsL W HT4.out HD4.out)
      rw [v_best] at QB
      (with_reducible refine QB.out.mono ?_)
      rintro e w5 ⟨tb, rfl, htb, hb5⟩
      have HX5 := Lib.hid (bchain hb5 (below_new w5 (.cells #[.int .i64 tb.table, .slice tb.kids.A tb.kids.n tb.kids.cap] 25)))
      have HTB := Lib.hid (htb.keep (below_new w5 (.cells #[.int .i64 tb.table, .slice tb.kids.A tb.kids.n tb.kids.cap] 25)))
      have HGB := Lib.hid (new_block w5 #[.int .i64 tb.table, .slice tb.kids.A tb.kids.n tb.kids.cap] 25)
      clear htb hb5 QB
      go_wp2_with fail
      obtain ⟨gB, hgB⟩ : ∃ gB, w5.heap.size = gB := ⟨_, rfl⟩
      obtain ⟨w6, hw6⟩ : ∃ w6, w5.alloc (.cells #[.int .i64 tb.table, .slice tb.kids.A tb.kids.n tb.kids.cap] 25) = w6 := ⟨_, rfl⟩
      rw [hw6] at HX5 HTB HGB ⊢
      rw [hgB] at HGB ⊢
      clear hgB hw6
      have QL := Lib.hid (Line_any (some ⟨gt, 0, none⟩) 3 3 tabsL w6 (HT4.out.below HX5.out))
      rw [v_line] at QL
      (with_reducible refine QL.out.mono ?_)
      rintro e w7 ⟨LA, Ln, Lc, rfl, hl7, hb7⟩
      have HX7 := Lib.hid (bchain HX5.out hb7)
      have HTB7 := Lib.hid (HTB.out.keep hb7)
      have HGB7 := Lib.hid ((hb7.block _ (Array.getElem?_eq_some_iff.1 HGB.out).1).trans HGB.out)
      have HL7 := Lib.hid hl7
      clear hl7 hb7 QL HTB HGB HX5
      go_wp2_with fail
      have QQ := Lib.hid (Quick_any (some ⟨gt, 0, none⟩) 3 3 tabsL w7 (HT4.out.below HX7.out))
      rw [v_quick] at QQ
      (with_reducible refine QQ.out.mono ?_)
      rintro e w8 ⟨tq, rfl, htq, hb8⟩
      have hb9 := bchain hb8 (below_new w8 (.cells #[.int .i64 tq.table, .slice tq.kids.A tq.kids.n tq.kids.cap] 25))
      have HX8 := Lib.hid (bchain HX7.out hb9)
      have HTB8 := Lib.hid (HTB7.out.keep hb9)
      have HGB8 := Lib.hid ((hb9.block _ (Array.getElem?_eq_some_iff.1 HGB7.out).1).trans HGB7.out)
      have HL8 := Lib.hid (HL7.out.below hb9)
      have HTQ8 := Lib.hid (htq.keep (below_new w8 (.cells #[.int .i64 tq.table, .slice tq.kids.A tq.kids.n tq.kids.cap] 25)))
      have HGQ8 := Lib.hid (new_block w8 #[.int .i64 tq.table, .slice tq.kids.A tq.kids.n tq.kids.cap] 25)
      clear htq hb8 hb9 QQ HX7 HTB7 HGB7 HL7
      go_wp2_with fail
      obtain ⟨gQ, hgQ⟩ : ∃ gQ, w8.heap.size = gQ := ⟨_, rfl⟩
      obtain ⟨w9, hw9⟩ : ∃ w9, w8.alloc (.cells #[.int .i64 tq.table, .slice tq.kids.A tq.kids.n tq.kids.cap] 25) = w9 := ⟨_, rfl⟩
      rw [hw9] at HX8 HTB8 HGB8 HL8 HTQ8 HGQ8 ⊢
      rw [hgQ] at HGQ8 ⊢
      clear hgQ hw9
      refine region_inv 48 rfl (by kernel_rfl) (by kernel_rfl) (fun j v W => match j with | 0 => v = .int .i64 0 | 1 => v = .bool false | 2 => v = .bool false | 3 => v = .int .i64 0 | 4 => v = .bool false | 5 => v = .bool false | 6 => v = .bool false | 7 => v = .int .i64 0 | 8 => v = .bool false | 9 => v = .bool false | 10 => v = .bool false | 11 => v = .int .i64 6 | 12 => v = .bool false | 13 => v = .bool false | 14 => v = .bool false | 15 => v = .int .i64 6 | 16 => v = .bool false | 17 => v = .bool false | 18 => v = .bool false | 19 => v = .int .i64 6 | 20 => v = .bool false | 21 => v = .bool false | 22 => v = .bool false | 23 => v = .slice LA Ln Lc | 24 => IntsV v W [0, 1, 2] | 25 => v = .int .i64 0 | 26 => v = .bool false | 27 => v = .bool false | 28 => v = .bool false | 29 => v = .agg #[.int .i64 tb.table, .slice tb.kids.A tb.kids.n tb.kids.cap] | 30 => v = .agg #[.int .i64 0, .slice none 0 0] | 31 => v = .agg #[.int .i64 1, .slice none 0 0] | 32 => v = .agg #[.int .i64 2, .slice none 0 0] | 33 => TreeV v W (nodeT (leafT 1) (leafT 2)) | 34 => TreeV v W (nodeT (leafT 0) (nodeT (leafT 1) (leafT 2))) | 35 => v = .bool true | 36 => v = .bool false | 37 => v = .bool false | 38 => v = .bool false | 39 => v = .agg #[.int .i64 tq.table, .slice tq.kids.A tq.kids.n tq.kids.cap] | 40 => v = .agg #[.int .i64 0, .slice none 0 0] | 41 => v = .agg #[.int .i64 1, .slice none 0 0] | 42 => TreeV v W (nodeT (leafT 0) (leafT 1)) | 43 => v = .agg #[.int .i64 2, .slice none 0 0] | 44 => TreeV v W (nodeT (nodeT (leafT 0) (leafT 1)) (leafT 2)) | 45 => v = .bool true | 46 => v = .bool false | 47 => v = .bool false | _ => True)
        (fun f => { tmps := #[.bool false, .slice (some ⟨gt, 0, none⟩) 3 3, .pointer (some ⟨gj, 0, none⟩), .int .i64 0, .int .i64 12, .int .i64 0, .pointer (some ⟨gB, 0, none⟩), .int .i64 6, .slice LA Ln Lc, .int .i64 6, .pointer (some ⟨gQ, 0, none⟩), .int .i64 6, .int .i64 0, undef, undef, undef, undef, undef, undef, undef, undef, .slice (some ⟨gt, 0, none⟩) 3 3, u22, u23, u24, u25, u26, u27, u28, u29, u30, u31, .tuple #[.int .i64 12, .int .i64 0], .slice (some ⟨gt, 0, none⟩) 3 3, .agg #[.int .i64 0, .slice none 0 0], .agg #[.int .i64 2, .slice none 0 0], .agg #[.int .i64 n1.table, .slice n1.kids.A n1.kids.n n1.kids.cap], .agg #[.int .i64 1, .slice none 0 0], .agg #[.int .i64 n2.table, .slice n2.kids.A n2.kids.n n2.kids.cap], .tuple #[.int .i64 12, .int .i64 0], .int .i64 12, .int .i64 0, f4 0, f4 1, f4 2, f4 3, f4 4, f4 5, f4 6, f4 7, f4 8, f4 9, f4 10, f4 11, f4 12, f4 13, f4 14, f4 15, f4 16, f4 17, f4 18, f4 19, .bool false, .tuple #[.agg #[.int .i64 tb.table, .slice tb.kids.A tb.kids.n tb.kids.cap], .int .i64 6, .int .i64 0], .slice (some ⟨gt, 0, none⟩) 3 3, .tuple #[.agg #[.int .i64 tb.table, .slice tb.kids.A tb.kids.n tb.kids.cap], .int .i64 6, .int .i64 0], .agg #[.int .i64 tb.table, .slice tb.kids.A tb.kids.n tb.kids.cap], .int .i64 6, .int .i64 0, .tuple #[.slice LA Ln Lc, .int .i64 6, .int .i64 0], .slice (some ⟨gt, 0, none⟩) 3 3, .tuple #[.slice LA Ln Lc, .int .i64 6, .int .i64 0], .slice LA Ln Lc, .int .i64 6, .int .i64 0, .tuple #[.agg #[.int .i64 tq.table, .slice tq.kids.A tq.kids.n tq.kids.cap], .int .i64 6, .int .i64 0], .slice (some ⟨gt, 0, none⟩) 3 3, .tuple #[.agg #[.int .i64 tq.table, .slice tq.kids.A tq.kids.n tq.kids.cap], .int .i64 6, .int .i64 0], .agg #[.int .i64 tq.table, .slice tq.kids.A tq.kids.n tq.kids.cap], .int .i64 6, .int .i64 0, f 0, f 1, f 2, f 3, f 4, f 5, f 6, f 7, f 8, f 9, f 10, f 11, f 12, f 13, f 14, f 15, f 16, f 17, f 18, f 19, f 20, f 21, f 22, f 23, f 24, f 25, f 26, f 27, f 28, f 29, f 30, f 31, f 32, f 33, f 34, f 35, f 36, f 37, f 38, f 39, f 40, f 41, f 42, f 43, f 44, f 45, f 46, f 47, undef, undef, undef, undef, undef, undef, undef, undef, undef, undef, undef, undef, undef, undef, undef, undef, undef, undef, undef, undef, undef, undef, undef, undef, undef, undef, undef, undef, undef, undef, undef, undef, undef, undef, undef, undef, undef, undef, undef, undef, undef, undef, undef, undef, undef, undef, undef, undef, undef, undef, undef, undef, undef, undef, undef, undef, undef, undef, undef, undef, undef, undef, undef, undef, undef, undef, undef, undef, undef, undef, undef, undef, undef, undef, undef, undef, undef, undef, undef, undef, undef, undef, undef, undef, undef, undef, undef, undef, undef, undef, undef, undef, undef, undef, undef, undef, undef, undef, undef, undef, undef, undef, undef, undef, undef, undef, undef, undef, undef, undef, undef, undef], defers := [] }) (fun _ => undef) ?hst ?h0 ?steps ?done
      case hst =>
        intro j v W W' h hb
        match j, h with
        | 0, h => exact h
        | 1, h => exact h
        | 2, h => exact h
        | 3, h => exact h
        | 4, h => exact h
        | 5, h => exact h
        | 6, h => exact h
        | 7, h => exact h
        | 8, h => exact h
        | 9, h => exact h
        | 10, h => exact h
        | 11, h => exact h
        | 12, h => exact h
        | 13, h => exact h
        | 14, h => exact h
        | 15, h => exact h
        | 16, h => exact h
        | 17, h => exact h
        | 18, h => exact h
        | 19, h => exact h
        | 20, h => exact h
        | 21, h => exact h
        | 22, h => exact h
        | 23, h => exact h
        | 24, h => exact h.keep hb
        | 25, h => exact h
        | 26, h => exact h
        | 27, h => exact h
        | 28, h => exact h
        | 29, h => exact h
        | 30, h => exact h
        | 31, h => exact h
        | 32, h => exact h
        | 33, h => exact h.keep hb
        | 34, h => exact h.keep hb
        | 35, h => exact h
        | 36, h => exact h
        | 37, h => exact h
        | 38, h => exact h
        | 39, h => exact h
        | 40, h => exact h
        | 41, h => exact h
        | 42, h => exact h.keep hb
        | 43, h => exact h
        | 44, h => exact h.keep hb
        | 45, h => exact h
        | 46, h => exact h
        | 47, h => exact h
        | n + 48, h => trivial
      case h0 => rfl
      case steps =>
        refine ⟨⟨⟨⟨⟨⟨⟨⟨⟨⟨⟨⟨⟨⟨⟨⟨⟨⟨⟨⟨⟨⟨⟨⟨⟨⟨⟨⟨⟨⟨⟨⟨⟨⟨⟨⟨⟨⟨⟨⟨⟨⟨⟨⟨⟨⟨⟨⟨trivial, ?_⟩, ?_⟩, ?_⟩, ?_⟩, ?_⟩, ?_⟩, ?_⟩, ?_⟩, ?_⟩, ?_⟩, ?_⟩, ?_⟩, ?_⟩, ?_⟩, ?_⟩, ?_⟩, ?_⟩, ?_⟩, ?_⟩, ?_⟩, ?_⟩, ?_⟩, ?_⟩, ?_⟩, ?_⟩, ?_⟩, ?_⟩, ?_⟩, ?_⟩, ?_⟩, ?_⟩, ?_⟩, ?_⟩, ?_⟩, ?_⟩, ?_⟩, ?_⟩, ?_⟩, ?_⟩, ?_⟩, ?_⟩, ?_⟩, ?_⟩, ?_⟩, ?_⟩, ?_⟩, ?_⟩, ?_⟩
        · intro f W K hB hd hK
          refine wpOp_step rfl (fun K' hK' => ?_)
          go_simp
          have hk := hK _ W (Below.refl _ _) rfl
          simp only [upd, reduceIte, Nat.reduceEqDiff] at hk
          exact hK' _ _ hk
        · intro f W K hB hd hK
          refine wpOp_step rfl (fun K' hK' => ?_)
          have e0 := hd 0 (by kernel_rfl)
          (try simp only [] at e0)
          simp only [e0]
          go_simp
          have hk := hK _ W (Below.refl _ _) rfl
          simp only [upd, reduceIte, Nat.reduceEqDiff, e0] at hk
          exact hK' _ _ hk
        · intro f W K hB hd hK
          refine wpOp_step rfl (fun K' hK' => ?_)
          have e1 := hd 1 (by kernel_rfl)
          (try simp only [] at e1)
          simp only [e1]
          go_simp
          have hk := hK _ W (Below.refl _ _) rfl
          simp only [upd, reduceIte, Nat.reduceEqDiff, e1] at hk
          exact hK' _ _ hk
        · intro f W K hB hd hK
          refine wpOp_step rfl (fun K' hK' => ?_)
          have e2 := hd 2 (by kernel_rfl)
          (try simp only [] at e2)
          simp only [e2]
          go_simp
          have hk := hK _ W (Below.refl _ _) rfl
          simp only [upd, reduceIte, Nat.reduceEqDiff, e2] at hk
          exact hK' _ _ hk
        · intro f W K hB hd hK
          refine wpOp_step rfl (fun K' hK' => ?_)
          have e2 := hd 2 (by kernel_rfl)
          (try simp only [] at e2)
          have e3 := hd 3 (by kernel_rfl)
          (try simp only [] at e3)
          simp only [e2, e3]
          go_simp
          have hk := hK _ W (Below.refl _ _) rfl
          simp only [upd, reduceIte, Nat.reduceEqDiff, e2, e3] at hk
          exact hK' _ _ hk
        · intro f W K hB hd hK
          refine wpOp_step rfl (fun K' hK' => ?_)
          have e2 := hd 2 (by kernel_rfl)
          (try simp only [] at e2)
          have e4 := hd 4 (by kernel_rfl)
          (try simp only [] at e4)
          simp only [e2, e4]
          go_simp
          have hk := hK _ W (Below.refl _ _) rfl
          simp only [upd, reduceIte, Nat.reduceEqDiff, e2, e4] at hk
          exact hK' _ _ hk
        · intro f W K hB hd hK
          refine wpOp_step rfl (fun K' hK' => ?_)
          have e5 := hd 5 (by kernel_rfl)
          (try simp only [] at e5)
          simp only [e5]
          go_simp
          have hk := hK _ W (Below.refl _ _) rfl
          simp only [upd, reduceIte, Nat.reduceEqDiff, e5] at hk
          exact hK' _ _ hk
        · intro f W K hB hd hK
          refine wpOp_step rfl (fun K' hK' => ?_)
          have e6 := hd 6 (by kernel_rfl)
          (try simp only [] at e6)
          simp only [e6]
          go_simp
          have hk := hK _ W (Below.refl _ _) rfl
          simp only [upd, reduceIte, Nat.reduceEqDiff, e6] at hk
          exact hK' _ _ hk
        · intro f W K hB hd hK
          refine wpOp_step rfl (fun K' hK' => ?_)
          have e6 := hd 6 (by kernel_rfl)
          (try simp only [] at e6)
          have e7 := hd 7 (by kernel_rfl)
          (try simp only [] at e7)
          simp only [e6, e7]
          go_simp
          have hk := hK _ W (Below.refl _ _) rfl
          simp only [upd, reduceIte, Nat.reduceEqDiff, e6, e7] at hk
          exact hK' _ _ hk
        · intro f W K hB hd hK
          refine wpOp_step rfl (fun K' hK' => ?_)
          have e6 := hd 6 (by kernel_rfl)
          (try simp only [] at e6)
          have e8 := hd 8 (by kernel_rfl)
          (try simp only [] at e8)
          simp only [e6, e8]
          go_simp
          have hk := hK _ W (Below.refl _ _) rfl
          simp only [upd, reduceIte, Nat.reduceEqDiff, e6, e8] at hk
          exact hK' _ _ hk
        · intro f W K hB hd hK
          refine wpOp_step rfl (fun K' hK' => ?_)
          have e9 := hd 9 (by kernel_rfl)
          (try simp only [] at e9)
          simp only [e9]
          go_simp
          have hk := hK _ W (Below.refl _ _) rfl
          simp only [upd, reduceIte, Nat.reduceEqDiff, e9] at hk
          exact hK' _ _ hk
        · intro f W K hB hd hK
          refine wpOp_step rfl (fun K' hK' => ?_)
          have e10 := hd 10 (by kernel_rfl)
          (try simp only [] at e10)
          simp only [e10]
          go_simp
          have hk := hK _ W (Below.refl _ _) rfl
          simp only [upd, reduceIte, Nat.reduceEqDiff, e10] at hk
          exact hK' _ _ hk
        · intro f W K hB hd hK
          refine wpOp_step rfl (fun K' hK' => ?_)
          have e10 := hd 10 (by kernel_rfl)
          (try simp only [] at e10)
          have e11 := hd 11 (by kernel_rfl)
          (try simp only [] at e11)
          simp only [e10, e11]
          go_simp
          have hk := hK _ W (Below.refl _ _) rfl
          simp only [upd, reduceIte, Nat.reduceEqDiff, e10, e11] at hk
          exact hK' _ _ hk
        · intro f W K hB hd hK
          refine wpOp_step rfl (fun K' hK' => ?_)
          have e10 := hd 10 (by kernel_rfl)
          (try simp only [] at e10)
          have e12 := hd 12 (by kernel_rfl)
          (try simp only [] at e12)
          simp only [e10, e12]
          go_simp
          have hk := hK _ W (Below.refl _ _) rfl
          simp only [upd, reduceIte, Nat.reduceEqDiff, e10, e12] at hk
          exact hK' _ _ hk
        · intro f W K hB hd hK
          refine wpOp_step rfl (fun K' hK' => ?_)
          have e13 := hd 13 (by kernel_rfl)
          (try simp only [] at e13)
          simp only [e13]
          go_simp
          have hk := hK _ W (Below.refl _ _) rfl
          simp only [upd, reduceIte, Nat.reduceEqDiff, e13] at hk
          exact hK' _ _ hk
        · intro f W K hB hd hK
          refine wpOp_step rfl (fun K' hK' => ?_)
          have e14 := hd 14 (by kernel_rfl)
          (try simp only [] at e14)
          simp only [e14]
          go_simp
          have hk := hK _ W (Below.refl _ _) rfl
          simp only [upd, reduceIte, Nat.reduceEqDiff, e14] at hk
          exact hK' _ _ hk
        · intro f W K hB hd hK
          refine wpOp_step rfl (fun K' hK' => ?_)
          have e14 := hd 14 (by kernel_rfl)
          (try simp only [] at e14)
          have e15 := hd 15 (by kernel_rfl)
          (try simp only [] at e15)
          simp only [e14, e15]
          go_simp
          have hk := hK _ W (Below.refl _ _) rfl
          simp only [upd, reduceIte, Nat.reduceEqDiff, e14, e15] at hk
          exact hK' _ _ hk
        · intro f W K hB hd hK
          refine wpOp_step rfl (fun K' hK' => ?_)
          have e14 := hd 14 (by kernel_rfl)
          (try simp only [] at e14)
          have e16 := hd 16 (by kernel_rfl)
          (try simp only [] at e16)
          simp only [e14, e16]
          go_simp
          have hk := hK _ W (Below.refl _ _) rfl
          simp only [upd, reduceIte, Nat.reduceEqDiff, e14, e16] at hk
          exact hK' _ _ hk
        · intro f W K hB hd hK
          refine wpOp_step rfl (fun K' hK' => ?_)
          have e17 := hd 17 (by kernel_rfl)
          (try simp only [] at e17)
          simp only [e17]
          go_simp
          have hk := hK _ W (Below.refl _ _) rfl
          simp only [upd, reduceIte, Nat.reduceEqDiff, e17] at hk
          exact hK' _ _ hk
        · intro f W K hB hd hK
          refine wpOp_step rfl (fun K' hK' => ?_)
          have e18 := hd 18 (by kernel_rfl)
          (try simp only [] at e18)
          simp only [e18]
          go_simp
          have hk := hK _ W (Below.refl _ _) rfl
          simp only [upd, reduceIte, Nat.reduceEqDiff, e18] at hk
          exact hK' _ _ hk
        · intro f W K hB hd hK
          refine wpOp_step rfl (fun K' hK' => ?_)
          have e18 := hd 18 (by kernel_rfl)
          (try simp only [] at e18)
          have e19 := hd 19 (by kernel_rfl)
          (try simp only [] at e19)
          simp only [e18, e19]
          go_simp
          have hk := hK _ W (Below.refl _ _) rfl
          simp only [upd, reduceIte, Nat.reduceEqDiff, e18, e19] at hk
          exact hK' _ _ hk
        · intro f W K hB hd hK
          refine wpOp_step rfl (fun K' hK' => ?_)
          have e18 := hd 18 (by kernel_rfl)
          (try simp only [] at e18)
          have e20 := hd 20 (by kernel_rfl)
          (try simp only [] at e20)
          simp only [e18, e20]
          go_simp
          have hk := hK _ W (Below.refl _ _) rfl
          simp only [upd, reduceIte, Nat.reduceEqDiff, e18, e20] at hk
          exact hK' _ _ hk
        · intro f W K hB hd hK
          refine wpOp_step rfl (fun K' hK' => ?_)
          have e21 := hd 21 (by kernel_rfl)
          (try simp only [] at e21)
          simp only [e21]
          go_simp
          have hk := hK _ W (Below.refl _ _) rfl
          simp only [upd, reduceIte, Nat.reduceEqDiff, e21] at hk
          exact hK' _ _ hk
        · intro f W K hB hd hK
          refine wpOp_step rfl (fun K' hK' => ?_)
          have e22 := hd 22 (by kernel_rfl)
          (try simp only [] at e22)
          simp only [e22]
          go_simp
          have hk := hK _ W (Below.refl _ _) rfl
          simp only [upd, reduceIte, Nat.reduceEqDiff, e22] at hk
          exact hK' _ _ hk
        · intro f W K hB hd hK
          refine wpOp_step rfl (fun K' hK' => ?_)
          have e22 := hd 22 (by kernel_rfl)
          (try simp only [] at e22)
          simp only [e22]
          go_simp
          have hk := hK _ _ (below_new W _) ⟨⟨some ⟨W.heap.size, 0, none⟩, 3, 3⟩, rfl, ints_block (l := [0, 1, 2]) (T := 3) (Nat.zero_le _) (by simp) (new_block W _ _)⟩
          simp only [upd, reduceIte, Nat.reduceEqDiff, e22] at hk
          exact hK' _ _ hk
        · intro f W K hB hd hK
          refine wpOp_step rfl (fun K' hK' => ?_)
          have e22 := hd 22 (by kernel_rfl)
          (try simp only [] at e22)
          have e23 := hd 23 (by kernel_rfl)
          (try simp only [] at e23)
          obtain ⟨s24, e24, h24⟩ := hd 24 (by kernel_rfl)
          (try simp only [] at e24)
          simp only [e22, e23, e24]
          go_simp
          have hb0 := bchain ((Below.refl w9.heap.size w9).drew) hB
          refine (Order_any LA s24.A Ln s24.n Lc s24.cap [0, 1, 2] [0, 1, 2] W (HL8.out.below hb0) h24).mono ?_
          rintro e W2 ⟨he, hd2⟩
          rw [v_order] at he
          subst he
          dsimp only
          have hk := hK _ _ hd2.below rfl
          simp only [upd, reduceIte, Nat.reduceEqDiff, e22, e23, e24] at hk
          exact hK' _ _ hk
        · intro f W K hB hd hK
          refine wpOp_step rfl (fun K' hK' => ?_)
          have e22 := hd 22 (by kernel_rfl)
          (try simp only [] at e22)
          have e25 := hd 25 (by kernel_rfl)
          (try simp only [] at e25)
          simp only [e22, e25]
          go_simp
          have hk := hK _ W (Below.refl _ _) rfl
          simp only [upd, reduceIte, Nat.reduceEqDiff, e22, e25] at hk
          exact hK' _ _ hk
        · intro f W K hB hd hK
          refine wpOp_step rfl (fun K' hK' => ?_)
          have e22 := hd 22 (by kernel_rfl)
          (try simp only [] at e22)
          have e26 := hd 26 (by kernel_rfl)
          (try simp only [] at e26)
          simp only [e22, e26]
          go_simp
          have hk := hK _ W (Below.refl _ _) rfl
          simp only [upd, reduceIte, Nat.reduceEqDiff, e22, e26] at hk
          exact hK' _ _ hk
        · intro f W K hB hd hK
          refine wpOp_step rfl (fun K' hK' => ?_)
          have e27 := hd 27 (by kernel_rfl)
          (try simp only [] at e27)
          simp only [e27]
          go_simp
          have hk := hK _ W (Below.refl _ _) rfl
          simp only [upd, reduceIte, Nat.reduceEqDiff, e27] at hk
          exact hK' _ _ hk
        · intro f W K hB hd hK
          refine wpOp_step rfl (fun K' hK' => ?_)
          have e28 := hd 28 (by kernel_rfl)
          (try simp only [] at e28)
          simp only [e28]
          have hb0 := bchain ((Below.refl w9.heap.size w9).drew) hB
          have hg := (hb0.block _ (Array.getElem?_eq_some_iff.1 HGB8.out).1).trans HGB8.out
          have y0 := cell_at_block (off := 0) hg rfl
          have y1 := cell_at_block (off := 1) hg rfl
          go_simp
          have hk := hK _ W (Below.refl _ _) rfl
          simp only [upd, reduceIte, Nat.reduceEqDiff, e28] at hk
          exact hK' _ _ hk
        · intro f W K hB hd hK
          refine wpOp_step rfl (fun K' hK' => ?_)
          have e28 := hd 28 (by kernel_rfl)
          (try simp only [] at e28)
          simp only [e28]
          go_simp
          refine (Leaf_any 0 W).mono ?_
          rintro e W2 ⟨rfl, hW2⟩
          have hb2 : Below W.heap.size W W2 := by rw [hW2]; exact below_new _ _
          dsimp only
          have hk := hK _ _ hb2 rfl
          simp only [upd, reduceIte, Nat.reduceEqDiff, e28] at hk
          exact hK' _ _ hk
        · intro f W K hB hd hK
          refine wpOp_step rfl (fun K' hK' => ?_)
          have e28 := hd 28 (by kernel_rfl)
          (try simp only [] at e28)
          simp only [e28]
          go_simp
          refine (Leaf_any 1 W).mono ?_
          rintro e W2 ⟨rfl, hW2⟩
          have hb2 : Below W.heap.size W W2 := by rw [hW2]; exact below_new _ _
          dsimp only
          have hk := hK _ _ hb2 rfl
          simp only [upd, reduceIte, Nat.reduceEqDiff, e28] at hk
          exact hK' _ _ hk
        · intro f W K hB hd hK
          refine wpOp_step rfl (fun K' hK' => ?_)
          have e28 := hd 28 (by kernel_rfl)
          (try simp only [] at e28)
          simp only [e28]
          go_simp
          refine (Leaf_any 2 W).mono ?_
          rintro e W2 ⟨rfl, hW2⟩
          have hb2 : Below W.heap.size W W2 := by rw [hW2]; exact below_new _ _
          dsimp only
          have hk := hK _ _ hb2 rfl
          simp only [upd, reduceIte, Nat.reduceEqDiff, e28] at hk
          exact hK' _ _ hk
        · intro f W K hB hd hK
          refine wpOp_step rfl (fun K' hK' => ?_)
          have e28 := hd 28 (by kernel_rfl)
          (try simp only [] at e28)
          have e31 := hd 31 (by kernel_rfl)
          (try simp only [] at e31)
          have e32 := hd 32 (by kernel_rfl)
          (try simp only [] at e32)
          simp only [e28, e31, e32]
          go_simp
          refine (Node_any ⟨1, ⟨none, 0, 0⟩⟩ ⟨2, ⟨none, 0, 0⟩⟩ (leafT 1) (leafT 2) W (TreeAt.leaf _ _ _) (TreeAt.leaf _ _ _)).mono ?_
          rintro e W2 ⟨n, rfl, hn, hb2⟩
          dsimp only
          have hk := hK _ _ hb2 ⟨n, rfl, hn⟩
          simp only [upd, reduceIte, Nat.reduceEqDiff, e28, e31, e32] at hk
          exact hK' _ _ hk
        · intro f W K hB hd hK
          refine wpOp_step rfl (fun K' hK' => ?_)
          have e28 := hd 28 (by kernel_rfl)
          (try simp only [] at e28)
          have e30 := hd 30 (by kernel_rfl)
          (try simp only [] at e30)
          obtain ⟨s33, e33, h33⟩ := hd 33 (by kernel_rfl)
          (try simp only [] at e33)
          simp only [e28, e30, e33]
          go_simp
          refine (Node_any ⟨0, ⟨none, 0, 0⟩⟩ s33 (leafT 0) (nodeT (leafT 1) (leafT 2)) W (TreeAt.leaf _ _ _) h33).mono ?_
          rintro e W2 ⟨n, rfl, hn, hb2⟩
          dsimp only
          have hk := hK _ _ hb2 ⟨n, rfl, hn⟩
          simp only [upd, reduceIte, Nat.reduceEqDiff, e28, e30, e33] at hk
          exact hK' _ _ hk
        · intro f W K hB hd hK
          refine wpOp_step rfl (fun K' hK' => ?_)
          have e28 := hd 28 (by kernel_rfl)
          (try simp only [] at e28)
          have e29 := hd 29 (by kernel_rfl)
          (try simp only [] at e29)
          obtain ⟨s34, e34, h34⟩ := hd 34 (by kernel_rfl)
          (try simp only [] at e34)
          simp only [e28, e29, e34]
          go_simp
          refine (SameTree_any (HTB8.out.keep (bchain ((Below.refl w9.heap.size w9).drew) hB)) s34 _ h34 W (Below.refl _ _)).mono ?_
          rintro e W2 ⟨⟨b, rfl, hbt⟩, hb2⟩
          have hbt2 := hbt.2 rfl
          subst hbt2
          dsimp only
          have hk := hK _ _ hb2 rfl
          simp only [upd, reduceIte, Nat.reduceEqDiff, e28, e29, e34] at hk
          exact hK' _ _ hk
        · intro f W K hB hd hK
          refine wpOp_step rfl (fun K' hK' => ?_)
          have e28 := hd 28 (by kernel_rfl)
          (try simp only [] at e28)
          have e35 := hd 35 (by kernel_rfl)
          (try simp only [] at e35)
          simp only [e28, e35]
          go_simp
          have hk := hK _ W (Below.refl _ _) rfl
          simp only [upd, reduceIte, Nat.reduceEqDiff, e28, e35] at hk
          exact hK' _ _ hk
        · intro f W K hB hd hK
          refine wpOp_step rfl (fun K' hK' => ?_)
          have e28 := hd 28 (by kernel_rfl)
          (try simp only [] at e28)
          have e36 := hd 36 (by kernel_rfl)
          (try simp only [] at e36)
          simp only [e28, e36]
          go_simp
          have hk := hK _ W (Below.refl _ _) rfl
          simp only [upd, reduceIte, Nat.reduceEqDiff, e28, e36] at hk
          exact hK' _ _ hk
        · intro f W K hB hd hK
          refine wpOp_step rfl (fun K' hK' => ?_)
          have e37 := hd 37 (by kernel_rfl)
          (try simp only [] at e37)
          simp only [e37]
          go_simp
          have hk := hK _ W (Below.refl _ _) rfl
          simp only [upd, reduceIte, Nat.reduceEqDiff, e37] at hk
          exact hK' _ _ hk
        · intro f W K hB hd hK
          refine wpOp_step rfl (fun K' hK' => ?_)
          have e38 := hd 38 (by kernel_rfl)
          (try simp only [] at e38)
          simp only [e38]
          have hb0 := bchain ((Below.refl w9.heap.size w9).drew) hB
          have hg := (hb0.block _ (Array.getElem?_eq_some_iff.1 HGQ8.out).1).trans HGQ8.out
          have y0 := cell_at_block (off := 0) hg rfl
          have y1 := cell_at_block (off := 1) hg rfl
          go_simp
          have hk := hK _ W (Below.refl _ _) rfl
          simp only [upd, reduceIte, Nat.reduceEqDiff, e38] at hk
          exact hK' _ _ hk
        · intro f W K hB hd hK
          refine wpOp_step rfl (fun K' hK' => ?_)
          have e38 := hd 38 (by kernel_rfl)
          (try simp only [] at e38)
          simp only [e38]
          go_simp
          refine (Leaf_any 0 W).mono ?_
          rintro e W2 ⟨rfl, hW2⟩
          have hb2 : Below W.heap.size W W2 := by rw [hW2]; exact below_new _ _
          dsimp only
          have hk := hK _ _ hb2 rfl
          simp only [upd, reduceIte, Nat.reduceEqDiff, e38] at hk
          exact hK' _ _ hk
        · intro f W K hB hd hK
          refine wpOp_step rfl (fun K' hK' => ?_)
          have e38 := hd 38 (by kernel_rfl)
          (try simp only [] at e38)
          simp only [e38]
          go_simp
          refine (Leaf_any 1 W).mono ?_
          rintro e W2 ⟨rfl, hW2⟩
          have hb2 : Below W.heap.size W W2 := by rw [hW2]; exact below_new _ _
          dsimp only
          have hk := hK _ _ hb2 rfl
          simp only [upd, reduceIte, Nat.reduceEqDiff, e38] at hk
          exact hK' _ _ hk
        · intro f W K hB hd hK
          refine wpOp_step rfl (fun K' hK' => ?_)
          have e38 := hd 38 (by kernel_rfl)
          (try simp only [] at e38)
          have e40 := hd 40 (by kernel_rfl)
          (try simp only [] at e40)
          have e41 := hd 41 (by kernel_rfl)
          (try simp only [] at e41)
          simp only [e38, e40, e41]
          go_simp
          refine (Node_any ⟨0, ⟨none, 0, 0⟩⟩ ⟨1, ⟨none, 0, 0⟩⟩ (leafT 0) (leafT 1) W (TreeAt.leaf _ _ _) (TreeAt.leaf _ _ _)).mono ?_
          rintro e W2 ⟨n, rfl, hn, hb2⟩
          dsimp only
          have hk := hK _ _ hb2 ⟨n, rfl, hn⟩
          simp only [upd, reduceIte, Nat.reduceEqDiff, e38, e40, e41] at hk
          exact hK' _ _ hk
        · intro f W K hB hd hK
          refine wpOp_step rfl (fun K' hK' => ?_)
          have e38 := hd 38 (by kernel_rfl)
          (try simp only [] at e38)
          simp only [e38]
          go_simp
          refine (Leaf_any 2 W).mono ?_
          rintro e W2 ⟨rfl, hW2⟩
          have hb2 : Below W.heap.size W W2 := by rw [hW2]; exact below_new _ _
          dsimp only
          have hk := hK _ _ hb2 rfl
          simp only [upd, reduceIte, Nat.reduceEqDiff, e38] at hk
          exact hK' _ _ hk
        · intro f W K hB hd hK
          refine wpOp_step rfl (fun K' hK' => ?_)
          have e38 := hd 38 (by kernel_rfl)
          (try simp only [] at e38)
          obtain ⟨s42, e42, h42⟩ := hd 42 (by kernel_rfl)
          (try simp only [] at e42)
          have e43 := hd 43 (by kernel_rfl)
          (try simp only [] at e43)
          simp only [e38, e42, e43]
          go_simp
          refine (Node_any s42 ⟨2, ⟨none, 0, 0⟩⟩ (nodeT (leafT 0) (leafT 1)) (leafT 2) W h42 (TreeAt.leaf _ _ _)).mono ?_
          rintro e W2 ⟨n, rfl, hn, hb2⟩
          dsimp only
          have hk := hK _ _ hb2 ⟨n, rfl, hn⟩
          simp only [upd, reduceIte, Nat.reduceEqDiff, e38, e42, e43] at hk
          exact hK' _ _ hk
        · intro f W K hB hd hK
          refine wpOp_step rfl (fun K' hK' => ?_)
          have e38 := hd 38 (by kernel_rfl)
          (try simp only [] at e38)
          have e39 := hd 39 (by kernel_rfl)
          (try simp only [] at e39)
          obtain ⟨s44, e44, h44⟩ := hd 44 (by kernel_rfl)
          (try simp only [] at e44)
          simp only [e38, e39, e44]
          go_simp
          refine (SameTree_any (HTQ8.out.keep (bchain ((Below.refl w9.heap.size w9).drew) hB)) s44 _ h44 W (Below.refl _ _)).mono ?_
          rintro e W2 ⟨⟨b, rfl, hbt⟩, hb2⟩
          have hbt2 := hbt.2 rfl
          subst hbt2
          dsimp only
          have hk := hK _ _ hb2 rfl
          simp only [upd, reduceIte, Nat.reduceEqDiff, e38, e39, e44] at hk
          exact hK' _ _ hk
        · intro f W K hB hd hK
          refine wpOp_step rfl (fun K' hK' => ?_)
          have e38 := hd 38 (by kernel_rfl)
          (try simp only [] at e38)
          have e45 := hd 45 (by kernel_rfl)
          (try simp only [] at e45)
          simp only [e38, e45]
          go_simp
          have hk := hK _ W (Below.refl _ _) rfl
          simp only [upd, reduceIte, Nat.reduceEqDiff, e38, e45] at hk
          exact hK' _ _ hk
        · intro f W K hB hd hK
          refine wpOp_step rfl (fun K' hK' => ?_)
          have e38 := hd 38 (by kernel_rfl)
          (try simp only [] at e38)
          have e46 := hd 46 (by kernel_rfl)
          (try simp only [] at e46)
          simp only [e38, e46]
          go_simp
          have hk := hK _ W (Below.refl _ _) rfl
          simp only [upd, reduceIte, Nat.reduceEqDiff, e38, e46] at hk
          exact hK' _ _ hk
      case done =>
        intro f9 W10 hB hf
        have e := hf 47 (by omega)
        simp only [] at e
        simp only [e]
        clear e hf
        have HX10 := Lib.hid (bchain HX8.out (bchain ((Below.refl w9.heap.size w9).drew) hB))
        clear HTB8 HGB8 HL8 HTQ8 HGQ8 HX8 hB
        go_wp2_with fail
        have QE := Lib.hid (Reduce_any (some ⟨gt, 0, none⟩) 3 3 tabsL W10 (HT4.out.below HX10.out))
        rw [v_reduce] at QE
        (with_reducible refine QE.out.mono ?_)
        rintro e w11 ⟨RA, Rn, Rc, rfl, hr11, hb11⟩
        have HX11 := Lib.hid (bchain HX10.out hb11)
        have HR11 := Lib.hid hr11
        clear hr11 hb11 QE HX10
        go_wp2_with fail
        have QR := Lib.hid (Ring_any ⟨some ⟨w11.heap.size + 3, 0, none⟩, 3, 3⟩ [[0, 1], [1, 2], [2, 3]] _ (rows3_at w11 _ _ _ rfl rfl rfl).1)
        rw [v_ring1] at QR
        refine QR.out.mono ?_
        rintro e w12 ⟨rfl, hb12⟩
        have hbr := bchain (rows3_at w11 [0, 1] [1, 2] [2, 3] rfl rfl rfl).2 hb12
        have HX12 := Lib.hid (bchain HX11.out hbr)
        have HR12 := Lib.hid (HR11.out.below hbr)
        clear hb12 hbr QR HX11 HR11
        go_wp2_with fail
        have QR := Lib.hid (Ring_any ⟨some ⟨w12.heap.size + 3, 0, none⟩, 3, 3⟩ [[0, 1], [1, 2], [0, 2]] _ (rows3_at w12 _ _ _ rfl rfl rfl).1)
        rw [v_ring2] at QR
        refine QR.out.mono ?_
        rintro e w13 ⟨rfl, hb13⟩
        have hbr := bchain (rows3_at w12 [0, 1] [1, 2] [0, 2] rfl rfl rfl).2 hb13
        have HX13 := Lib.hid (bchain HX12.out hbr)
        have HR13 := Lib.hid (HR12.out.below hbr)
        have hk13 := HX13.out
        obtain ⟨-, -, k2, k3⟩ := K4.out
        have C2 := Lib.hid ((hk13.cell (World.block_lt_of_cell? _ _ k2)).trans k2)
        have C3 := Lib.hid ((hk13.cell (World.block_lt_of_cell? _ _ k3)).trans k3)
        have HS13 := Lib.hid (HS4.out.below hk13)
        clear hb13 hbr QR HX12 HR12 hk13 k2 k3
        go_wp2_with fail
        refine region_inv 36 rfl (by kernel_rfl) (by kernel_rfl) (fun j v W => match j with | 0 => v = .int .i64 0 | 1 => v = .bool false | 2 => v = .bool false | 3 => v = .int .i64 0 | 4 => v = .bool false | 5 => v = .bool false | 6 => v = .bool false | 7 => v = .int .i64 0 | 8 => v = .bool false | 9 => v = .bool false | 10 => v = .bool false | 11 => v = .bool false | 12 => v = .bool false | 13 => v = .bool false | 14 => v = .bool true | 15 => v = .bool false | 16 => v = .bool false | 17 => v = .bool false | 18 => v = .slice RA Rn Rc | 19 => IntsV v W [0, 1] | 20 => IntsV v W [1, 1] | 21 => IntsV v W [1, 2] | 22 => RowsV v W [[1, 1], [1, 2]] | 23 => TabV v W ⟨[0, 1], [[1, 1], [1, 2]]⟩ | 24 => v = .slice (some ⟨gt, 0, none⟩) 3 3 | 25 => v = .pointer (some ⟨gt, 2, none⟩) | 26 => v = .agg #[.slice s1.cols.A s1.cols.n s1.cols.cap, .slice s1.rows.A s1.rows.n s1.rows.cap] | 27 => IntsV v W [2, 3] | 28 => IntsV v W [5, 0] | 29 => IntsV v W [6, 0] | 30 => RowsV v W [[5, 0], [6, 0]] | 31 => TabV v W ⟨[2, 3], [[5, 0], [6, 0]]⟩ | 32 => TabsV v W [⟨[0, 1], [[1, 1], [1, 2]]⟩, ⟨[1, 2], [[1, 5], [2, 5], [2, 6]]⟩, ⟨[2, 3], [[5, 0], [6, 0]]⟩] | 33 => v = .bool true | 34 => v = .bool false | 35 => v = .bool false | _ => True)
          (fun f => { tmps := #[.bool false, .slice (some ⟨gt, 0, none⟩) 3 3, .pointer (some ⟨gj, 0, none⟩), .int .i64 0, .int .i64 12, .int .i64 0, .pointer (some ⟨gB, 0, none⟩), .int .i64 6, .slice LA Ln Lc, .int .i64 6, .pointer (some ⟨gQ, 0, none⟩), .int .i64 6, .int .i64 0, .slice RA Rn Rc, .bool false, .bool true, undef, undef, undef, undef, undef, .slice (some ⟨gt, 0, none⟩) 3 3, u22, u23, u24, u25, u26, u27, u28, u29, u30, u31, .tuple #[.int .i64 12, .int .i64 0], .slice (some ⟨gt, 0, none⟩) 3 3, .agg #[.int .i64 0, .slice none 0 0], .agg #[.int .i64 2, .slice none 0 0], .agg #[.int .i64 n1.table, .slice n1.kids.A n1.kids.n n1.kids.cap], .agg #[.int .i64 1, .slice none 0 0], .agg #[.int .i64 n2.table, .slice n2.kids.A n2.kids.n n2.kids.cap], .tuple #[.int .i64 12, .int .i64 0], .int .i64 12, .int .i64 0, f4 0, f4 1, f4 2, f4 3, f4 4, f4 5, f4 6, f4 7, f4 8, f4 9, f4 10, f4 11, f4 12, f4 13, f4 14, f4 15, f4 16, f4 17, f4 18, f4 19, .bool false, .tuple #[.agg #[.int .i64 tb.table, .slice tb.kids.A tb.kids.n tb.kids.cap], .int .i64 6, .int .i64 0], .slice (some ⟨gt, 0, none⟩) 3 3, .tuple #[.agg #[.int .i64 tb.table, .slice tb.kids.A tb.kids.n tb.kids.cap], .int .i64 6, .int .i64 0], .agg #[.int .i64 tb.table, .slice tb.kids.A tb.kids.n tb.kids.cap], .int .i64 6, .int .i64 0, .tuple #[.slice LA Ln Lc, .int .i64 6, .int .i64 0], .slice (some ⟨gt, 0, none⟩) 3 3, .tuple #[.slice LA Ln Lc, .int .i64 6, .int .i64 0], .slice LA Ln Lc, .int .i64 6, .int .i64 0, .tuple #[.agg #[.int .i64 tq.table, .slice tq.kids.A tq.kids.n tq.kids.cap], .int .i64 6, .int .i64 0], .slice (some ⟨gt, 0, none⟩) 3 3, .tuple #[.agg #[.int .i64 tq.table, .slice tq.kids.A tq.kids.n tq.kids.cap], .int .i64 6, .int .i64 0], .agg #[.int .i64 tq.table, .slice tq.kids.A tq.kids.n tq.kids.cap], .int .i64 6, .int .i64 0, f9 0, f9 1, f9 2, f9 3, f9 4, f9 5, f9 6, f9 7, f9 8, f9 9, f9 10, f9 11, f9 12, f9 13, f9 14, f9 15, f9 16, f9 17, f9 18, f9 19, f9 20, f9 21, f9 22, f9 23, f9 24, f9 25, f9 26, f9 27, f9 28, f9 29, f9 30, f9 31, f9 32, f9 33, f9 34, f9 35, f9 36, f9 37, f9 38, f9 39, f9 40, f9 41, f9 42, f9 43, f9 44, f9 45, f9 46, .bool false, .tuple #[.slice RA Rn Rc, .int .i64 0], .slice (some ⟨gt, 0, none⟩) 3 3, .tuple #[.slice RA Rn Rc, .int .i64 0], .slice RA Rn Rc, .int .i64 0, .tuple #[.bool false, .int .i64 0], .slice (some ⟨w11.heap.size, 0, none⟩) 2 2, .slice (some ⟨w11.heap.size + 1, 0, none⟩) 2 2, .slice (some ⟨w11.heap.size + 1 + 1, 0, none⟩) 2 2, .slice (some ⟨w11.heap.size + 1 + 1 + 1, 0, none⟩) 3 3, .tuple #[.bool false, .int .i64 0], .bool false, .int .i64 0, .tuple #[.bool true, .int .i64 0], .slice (some ⟨w12.heap.size, 0, none⟩) 2 2, .slice (some ⟨w12.heap.size + 1, 0, none⟩) 2 2, .slice (some ⟨w12.heap.size + 1 + 1, 0, none⟩) 2 2, .slice (some ⟨w12.heap.size + 1 + 1 + 1, 0, none⟩) 3 3, .tuple #[.bool true, .int .i64 0], .bool true, .int .i64 0, f 0, f 1, f 2, f 3, f 4, f 5, f 6, f 7, f 8, f 9, f 10, f 11, f 12, f 13, f 14, f 15, f 16, f 17, f 18, f 19, f 20, f 21, f 22, f 23, f 24, f 25, f 26, f 27, f 28, f 29, f 30, f 31, f 32, f 33, f 34, f 35, undef, undef, undef, undef, undef, undef, undef, undef, undef, undef, undef, undef, undef, undef, undef, undef, undef, undef, undef, undef, undef, undef, undef, undef, undef, undef, undef, undef, undef, undef, undef, undef, undef, undef, undef, undef, undef, undef, undef, undef, undef, undef, undef, undef, undef, undef, undef, undef, undef, undef, undef, undef, undef, undef, undef], defers := [] }) (fun _ => undef) ?hst ?h0 ?steps ?done
        case hst =>
          intro j v W W' h hb
          match j, h with
          | 0, h => exact h
          | 1, h => exact h
          | 2, h => exact h
          | 3, h => exact h
          | 4, h => exact h
          | 5, h => exact h
          | 6, h => exact h
          | 7, h => exact h
          | 8, h => exact h
          | 9, h => exact h
          | 10, h => exact h
          | 11, h => exact h
          | 12, h => exact h
          | 13, h => exact h
          | 14, h => exact h
          | 15, h => exact h
          | 16, h => exact h
          | 17, h => exact h
          | 18, h => exact h
          | 19, h => exact h.keep hb
          | 20, h => exact h.keep hb
          | 21, h => exact h.keep hb
          | 22, h => exact h.keep hb
          | 23, h => exact h.keep hb
          | 24, h => exact h
          | 25, h => exact h
          | 26, h => exact h
          | 27, h => exact h.keep hb
          | 28, h => exact h.keep hb
          | 29, h => exact h.keep hb
          | 30, h => exact h.keep hb
          | 31, h => exact h.keep hb
          | 32, h => exact h.keep hb
          | 33, h => exact h
          | 34, h => exact h
          | 35, h => exact h
          | n + 36, h => trivial
        case h0 => rfl
        case steps =>
          refine ⟨⟨⟨⟨⟨⟨⟨⟨⟨⟨⟨⟨⟨⟨⟨⟨⟨⟨⟨⟨⟨⟨⟨⟨⟨⟨⟨⟨⟨⟨⟨⟨⟨⟨⟨⟨trivial, ?_⟩, ?_⟩, ?_⟩, ?_⟩, ?_⟩, ?_⟩, ?_⟩, ?_⟩, ?_⟩, ?_⟩, ?_⟩, ?_⟩, ?_⟩, ?_⟩, ?_⟩, ?_⟩, ?_⟩, ?_⟩, ?_⟩, ?_⟩, ?_⟩, ?_⟩, ?_⟩, ?_⟩, ?_⟩, ?_⟩, ?_⟩, ?_⟩, ?_⟩, ?_⟩, ?_⟩, ?_⟩, ?_⟩, ?_⟩, ?_⟩, ?_⟩
          · intro f W K hB hd hK
            refine wpOp_step rfl (fun K' hK' => ?_)
            go_simp
            have hk := hK _ W (Below.refl _ _) rfl
            simp only [upd, reduceIte, Nat.reduceEqDiff] at hk
            exact hK' _ _ hk
          · intro f W K hB hd hK
            refine wpOp_step rfl (fun K' hK' => ?_)
            have e0 := hd 0 (by kernel_rfl)
            (try simp only [] at e0)
            simp only [e0]
            go_simp
            have hk := hK _ W (Below.refl _ _) rfl
            simp only [upd, reduceIte, Nat.reduceEqDiff, e0] at hk
            exact hK' _ _ hk
          · intro f W K hB hd hK
            refine wpOp_step rfl (fun K' hK' => ?_)
            have e1 := hd 1 (by kernel_rfl)
            (try simp only [] at e1)
            simp only [e1]
            go_simp
            have hk := hK _ W (Below.refl _ _) rfl
            simp only [upd, reduceIte, Nat.reduceEqDiff, e1] at hk
            exact hK' _ _ hk
          · intro f W K hB hd hK
            refine wpOp_step rfl (fun K' hK' => ?_)
            have e2 := hd 2 (by kernel_rfl)
            (try simp only [] at e2)
            simp only [e2]
            go_simp
            have hk := hK _ W (Below.refl _ _) rfl
            simp only [upd, reduceIte, Nat.reduceEqDiff, e2] at hk
            exact hK' _ _ hk
          · intro f W K hB hd hK
            refine wpOp_step rfl (fun K' hK' => ?_)
            have e2 := hd 2 (by kernel_rfl)
            (try simp only [] at e2)
            have e3 := hd 3 (by kernel_rfl)
            (try simp only [] at e3)
            simp only [e2, e3]
            go_simp
            have hk := hK _ W (Below.refl _ _) rfl
            simp only [upd, reduceIte, Nat.reduceEqDiff, e2, e3] at hk
            exact hK' _ _ hk
          · intro f W K hB hd hK
            refine wpOp_step rfl (fun K' hK' => ?_)
            have e2 := hd 2 (by kernel_rfl)
            (try simp only [] at e2)
            have e4 := hd 4 (by kernel_rfl)
            (try simp only [] at e4)
            simp only [e2, e4]
            go_simp
            have hk := hK _ W (Below.refl _ _) rfl
            simp only [upd, reduceIte, Nat.reduceEqDiff, e2, e4] at hk
            exact hK' _ _ hk
          · intro f W K hB hd hK
            refine wpOp_step rfl (fun K' hK' => ?_)
            have e5 := hd 5 (by kernel_rfl)
            (try simp only [] at e5)
            simp only [e5]
            go_simp
            have hk := hK _ W (Below.refl _ _) rfl
            simp only [upd, reduceIte, Nat.reduceEqDiff, e5] at hk
            exact hK' _ _ hk
          · intro f W K hB hd hK
            refine wpOp_step rfl (fun K' hK' => ?_)
            have e6 := hd 6 (by kernel_rfl)
            (try simp only [] at e6)
            simp only [e6]
            go_simp
            have hk := hK _ W (Below.refl _ _) rfl
            simp only [upd, reduceIte, Nat.reduceEqDiff, e6] at hk
            exact hK' _ _ hk
          · intro f W K hB hd hK
            refine wpOp_step rfl (fun K' hK' => ?_)
            have e6 := hd 6 (by kernel_rfl)
            (try simp only [] at e6)
            have e7 := hd 7 (by kernel_rfl)
            (try simp only [] at e7)
            simp only [e6, e7]
            go_simp
            have hk := hK _ W (Below.refl _ _) rfl
            simp only [upd, reduceIte, Nat.reduceEqDiff, e6, e7] at hk
            exact hK' _ _ hk
          · intro f W K hB hd hK
            refine wpOp_step rfl (fun K' hK' => ?_)
            have e6 := hd 6 (by kernel_rfl)
            (try simp only [] at e6)
            have e8 := hd 8 (by kernel_rfl)
            (try simp only [] at e8)
            simp only [e6, e8]
            go_simp
            have hk := hK _ W (Below.refl _ _) rfl
            simp only [upd, reduceIte, Nat.reduceEqDiff, e6, e8] at hk
            exact hK' _ _ hk
          · intro f W K hB hd hK
            refine wpOp_step rfl (fun K' hK' => ?_)
            have e9 := hd 9 (by kernel_rfl)
            (try simp only [] at e9)
            simp only [e9]
            go_simp
            have hk := hK _ W (Below.refl _ _) rfl
            simp only [upd, reduceIte, Nat.reduceEqDiff, e9] at hk
            exact hK' _ _ hk
          · intro f W K hB hd hK
            refine wpOp_step rfl (fun K' hK' => ?_)
            have e10 := hd 10 (by kernel_rfl)
            (try simp only [] at e10)
            simp only [e10]
            go_simp
            have hk := hK _ W (Below.refl _ _) rfl
            simp only [upd, reduceIte, Nat.reduceEqDiff, e10] at hk
            exact hK' _ _ hk
          · intro f W K hB hd hK
            refine wpOp_step rfl (fun K' hK' => ?_)
            have e10 := hd 10 (by kernel_rfl)
            (try simp only [] at e10)
            have e11 := hd 11 (by kernel_rfl)
            (try simp only [] at e11)
            simp only [e10, e11]
            go_simp
            have hk := hK _ W (Below.refl _ _) rfl
            simp only [upd, reduceIte, Nat.reduceEqDiff, e10, e11] at hk
            exact hK' _ _ hk
          · intro f W K hB hd hK
            refine wpOp_step rfl (fun K' hK' => ?_)
            have e12 := hd 12 (by kernel_rfl)
            (try simp only [] at e12)
            simp only [e12]
            go_simp
            have hk := hK _ W (Below.refl _ _) rfl
            simp only [upd, reduceIte, Nat.reduceEqDiff, e12] at hk
            exact hK' _ _ hk
          · intro f W K hB hd hK
            refine wpOp_step rfl (fun K' hK' => ?_)
            have e13 := hd 13 (by kernel_rfl)
            (try simp only [] at e13)
            simp only [e13]
            go_simp
            have hk := hK _ W (Below.refl _ _) rfl
            simp only [upd, reduceIte, Nat.reduceEqDiff, e13] at hk
            exact hK' _ _ hk
          · intro f W K hB hd hK
            refine wpOp_step rfl (fun K' hK' => ?_)
            have e13 := hd 13 (by kernel_rfl)
            (try simp only [] at e13)
            have e14 := hd 14 (by kernel_rfl)
            (try simp only [] at e14)
            simp only [e13, e14]
            go_simp
            have hk := hK _ W (Below.refl _ _) rfl
            simp only [upd, reduceIte, Nat.reduceEqDiff, e13, e14] at hk
            exact hK' _ _ hk
          · intro f W K hB hd hK
            refine wpOp_step rfl (fun K' hK' => ?_)
            have e13 := hd 13 (by kernel_rfl)
            (try simp only [] at e13)
            have e15 := hd 15 (by kernel_rfl)
            (try simp only [] at e15)
            simp only [e13, e15]
            go_simp
            have hk := hK _ W (Below.refl _ _) rfl
            simp only [upd, reduceIte, Nat.reduceEqDiff, e13, e15] at hk
            exact hK' _ _ hk
          · intro f W K hB hd hK
            refine wpOp_step rfl (fun K' hK' => ?_)
            have e16 := hd 16 (by kernel_rfl)
            (try simp only [] at e16)
            simp only [e16]
            go_simp
            have hk := hK _ W (Below.refl _ _) rfl
            simp only [upd, reduceIte, Nat.reduceEqDiff, e16] at hk
            exact hK' _ _ hk
          · intro f W K hB hd hK
            refine wpOp_step rfl (fun K' hK' => ?_)
            have e17 := hd 17 (by kernel_rfl)
            (try simp only [] at e17)
            simp only [e17]
            go_simp
            have hk := hK _ W (Below.refl _ _) rfl
            simp only [upd, reduceIte, Nat.reduceEqDiff, e17] at hk
            exact hK' _ _ hk
          · intro f W K hB hd hK
            refine wpOp_step rfl (fun K' hK' => ?_)
            have e17 := hd 17 (by kernel_rfl)
            (try simp only [] at e17)
            simp only [e17]
            go_simp
            have hk := hK _ _ (below_new W _) ⟨⟨some ⟨W.heap.size, 0, none⟩, 2, 2⟩, rfl, ints_block (l := [0, 1]) (T := 3) (Nat.zero_le _) (by simp) (new_block W _ _)⟩
            simp only [upd, reduceIte, Nat.reduceEqDiff, e17] at hk
            exact hK' _ _ hk
          · intro f W K hB hd hK
            refine wpOp_step rfl (fun K' hK' => ?_)
            have e17 := hd 17 (by kernel_rfl)
            (try simp only [] at e17)
            simp only [e17]
            go_simp
            have hk := hK _ _ (below_new W _) ⟨⟨some ⟨W.heap.size, 0, none⟩, 2, 2⟩, rfl, ints_block (l := [1, 1]) (T := 3) (Nat.zero_le _) (by simp) (new_block W _ _)⟩
            simp only [upd, reduceIte, Nat.reduceEqDiff, e17] at hk
            exact hK' _ _ hk
          · intro f W K hB hd hK
            refine wpOp_step rfl (fun K' hK' => ?_)
            have e17 := hd 17 (by kernel_rfl)
            (try simp only [] at e17)
            simp only [e17]
            go_simp
            have hk := hK _ _ (below_new W _) ⟨⟨some ⟨W.heap.size, 0, none⟩, 2, 2⟩, rfl, ints_block (l := [1, 2]) (T := 3) (Nat.zero_le _) (by simp) (new_block W _ _)⟩
            simp only [upd, reduceIte, Nat.reduceEqDiff, e17] at hk
            exact hK' _ _ hk
          · intro f W K hB hd hK
            refine wpOp_step rfl (fun K' hK' => ?_)
            have e17 := hd 17 (by kernel_rfl)
            (try simp only [] at e17)
            obtain ⟨s20, e20, h20⟩ := hd 20 (by kernel_rfl)
            (try simp only [] at e20)
            obtain ⟨s21, e21, h21⟩ := hd 21 (by kernel_rfl)
            (try simp only [] at e21)
            simp only [e17, e20, e21]
            go_simp
            have hk := hK _ _ (below_new W _) ⟨⟨some ⟨W.heap.size, 0, none⟩, 2, 2⟩, rfl, [s20, s21], rd_block (enc := Sl.vs) (sz := 1) (T := 32) (fun _ => rfl) (Nat.zero_le _) (by simp) (new_block W _ _), All2.cons (h20.below (below_new W _)) (All2.cons (h21.below (below_new W _)) (All2.nil _))⟩
            simp only [upd, reduceIte, Nat.reduceEqDiff, e17, e20, e21] at hk
            exact hK' _ _ hk
          · intro f W K hB hd hK
            refine wpOp_step rfl (fun K' hK' => ?_)
            have e17 := hd 17 (by kernel_rfl)
            (try simp only [] at e17)
            obtain ⟨s19, e19, h19⟩ := hd 19 (by kernel_rfl)
            (try simp only [] at e19)
            obtain ⟨s22, e22, h22⟩ := hd 22 (by kernel_rfl)
            (try simp only [] at e22)
            simp only [e17, e19, e22]
            go_simp
            refine (Table_any s19 s22 W).mono ?_
            rintro e W2 ⟨rfl, hW2⟩
            have hb2 : Below W.heap.size W W2 := by rw [hW2]; exact below_new _ _
            dsimp only
            have hk := hK _ _ hb2 ⟨⟨s19, s22⟩, rfl, h19.below hb2, h22.below hb2⟩
            simp only [upd, reduceIte, Nat.reduceEqDiff, e17, e19, e22] at hk
            exact hK' _ _ hk
          · intro f W K hB hd hK
            refine wpOp_step rfl (fun K' hK' => ?_)
            have e17 := hd 17 (by kernel_rfl)
            (try simp only [] at e17)
            simp only [e17]
            go_simp
            have hk := hK _ W (Below.refl _ _) rfl
            simp only [upd, reduceIte, Nat.reduceEqDiff, e17] at hk
            exact hK' _ _ hk
          · intro f W K hB hd hK
            refine wpOp_step rfl (fun K' hK' => ?_)
            have e17 := hd 17 (by kernel_rfl)
            (try simp only [] at e17)
            have e24 := hd 24 (by kernel_rfl)
            (try simp only [] at e24)
            simp only [e17, e24]
            go_simp
            have hk := hK _ W (Below.refl _ _) rfl
            simp only [upd, reduceIte, Nat.reduceEqDiff, e17, e24] at hk
            exact hK' _ _ hk
          · intro f W K hB hd hK
            refine wpOp_step rfl (fun K' hK' => ?_)
            have e17 := hd 17 (by kernel_rfl)
            (try simp only [] at e17)
            have e25 := hd 25 (by kernel_rfl)
            (try simp only [] at e25)
            simp only [e17, e25]
            have hb0 := (bchain ((Below.refl w13.heap.size w13).drew) hB)
            have y0 := (hb0.cell (World.block_lt_of_cell? _ _ C2.out)).trans C2.out
            have y1 := (hb0.cell (World.block_lt_of_cell? _ _ C3.out)).trans C3.out
            go_simp
            have hk := hK _ W (Below.refl _ _) rfl
            simp only [upd, reduceIte, Nat.reduceEqDiff, e17, e25] at hk
            exact hK' _ _ hk
          · intro f W K hB hd hK
            refine wpOp_step rfl (fun K' hK' => ?_)
            have e17 := hd 17 (by kernel_rfl)
            (try simp only [] at e17)
            simp only [e17]
            go_simp
            have hk := hK _ _ (below_new W _) ⟨⟨some ⟨W.heap.size, 0, none⟩, 2, 2⟩, rfl, ints_block (l := [2, 3]) (T := 3) (Nat.zero_le _) (by simp) (new_block W _ _)⟩
            simp only [upd, reduceIte, Nat.reduceEqDiff, e17] at hk
            exact hK' _ _ hk
          · intro f W K hB hd hK
            refine wpOp_step rfl (fun K' hK' => ?_)
            have e17 := hd 17 (by kernel_rfl)
            (try simp only [] at e17)
            simp only [e17]
            go_simp
            have hk := hK _ _ (below_new W _) ⟨⟨some ⟨W.heap.size, 0, none⟩, 2, 2⟩, rfl, ints_block (l := [5, 0]) (T := 3) (Nat.zero_le _) (by simp) (new_block W _ _)⟩
            simp only [upd, reduceIte, Nat.reduceEqDiff, e17] at hk
            exact hK' _ _ hk
          · intro f W K hB hd hK
            refine wpOp_step rfl (fun K' hK' => ?_)
            have e17 := hd 17 (by kernel_rfl)
            (try simp only [] at e17)
            simp only [e17]
            go_simp
            have hk := hK _ _ (below_new W _) ⟨⟨some ⟨W.heap.size, 0, none⟩, 2, 2⟩, rfl, ints_block (l := [6, 0]) (T := 3) (Nat.zero_le _) (by simp) (new_block W _ _)⟩
            simp only [upd, reduceIte, Nat.reduceEqDiff, e17] at hk
            exact hK' _ _ hk
          · intro f W K hB hd hK
            refine wpOp_step rfl (fun K' hK' => ?_)
            have e17 := hd 17 (by kernel_rfl)
            (try simp only [] at e17)
            obtain ⟨s28, e28, h28⟩ := hd 28 (by kernel_rfl)
            (try simp only [] at e28)
            obtain ⟨s29, e29, h29⟩ := hd 29 (by kernel_rfl)
            (try simp only [] at e29)
            simp only [e17, e28, e29]
            go_simp
            have hk := hK _ _ (below_new W _) ⟨⟨some ⟨W.heap.size, 0, none⟩, 2, 2⟩, rfl, [s28, s29], rd_block (enc := Sl.vs) (sz := 1) (T := 32) (fun _ => rfl) (Nat.zero_le _) (by simp) (new_block W _ _), All2.cons (h28.below (below_new W _)) (All2.cons (h29.below (below_new W _)) (All2.nil _))⟩
            simp only [upd, reduceIte, Nat.reduceEqDiff, e17, e28, e29] at hk
            exact hK' _ _ hk
          · intro f W K hB hd hK
            refine wpOp_step rfl (fun K' hK' => ?_)
            have e17 := hd 17 (by kernel_rfl)
            (try simp only [] at e17)
            obtain ⟨s27, e27, h27⟩ := hd 27 (by kernel_rfl)
            (try simp only [] at e27)
            obtain ⟨s30, e30, h30⟩ := hd 30 (by kernel_rfl)
            (try simp only [] at e30)
            simp only [e17, e27, e30]
            go_simp
            refine (Table_any s27 s30 W).mono ?_
            rintro e W2 ⟨rfl, hW2⟩
            have hb2 : Below W.heap.size W W2 := by rw [hW2]; exact below_new _ _
            dsimp only
            have hk := hK _ _ hb2 ⟨⟨s27, s30⟩, rfl, h27.below hb2, h30.below hb2⟩
            simp only [upd, reduceIte, Nat.reduceEqDiff, e17, e27, e30] at hk
            exact hK' _ _ hk
          · intro f W K hB hd hK
            refine wpOp_step rfl (fun K' hK' => ?_)
            have e17 := hd 17 (by kernel_rfl)
            (try simp only [] at e17)
            obtain ⟨s23, e23, h23⟩ := hd 23 (by kernel_rfl)
            (try simp only [] at e23)
            have e26 := hd 26 (by kernel_rfl)
            (try simp only [] at e26)
            obtain ⟨s31, e31, h31⟩ := hd 31 (by kernel_rfl)
            (try simp only [] at e31)
            simp only [e17, e23, e26, e31]
            go_simp
            have hb0 := (bchain ((Below.refl w13.heap.size w13).drew) hB)
            have hk := hK _ _ (below_new W _) ⟨⟨some ⟨W.heap.size, 0, none⟩, 3, 3⟩, rfl, [s23, s1, s31], rd_block (enc := Tb.vs) (sz := 2) (T := 40) (fun _ => rfl) (Nat.zero_le _) (by simp) (new_block W _ _), All2.cons (h23.below (below_new W _)) (All2.cons ((HS13.out.below hb0).below (below_new W _)) (All2.cons (h31.below (below_new W _)) (All2.nil _)))⟩
            simp only [upd, reduceIte, Nat.reduceEqDiff, e17, e23, e26, e31] at hk
            exact hK' _ _ hk
          · intro f W K hB hd hK
            refine wpOp_step rfl (fun K' hK' => ?_)
            have e17 := hd 17 (by kernel_rfl)
            (try simp only [] at e17)
            have e18 := hd 18 (by kernel_rfl)
            (try simp only [] at e18)
            obtain ⟨s32, e32, h32⟩ := hd 32 (by kernel_rfl)
            (try simp only [] at e32)
            simp only [e17, e18, e32]
            go_simp
            have hb0 := (bchain ((Below.refl w13.heap.size w13).drew) hB)
            refine (SameTables_any RA s32.A Rn s32.n Rc s32.cap _ _ W (HR13.out.below hb0) h32).mono ?_
            rintro e W2 ⟨he, hb2⟩
            rw [decide_eq_true rfl] at he
            subst he
            dsimp only
            have hk := hK _ _ hb2 rfl
            simp only [upd, reduceIte, Nat.reduceEqDiff, e17, e18, e32] at hk
            exact hK' _ _ hk
          · intro f W K hB hd hK
            refine wpOp_step rfl (fun K' hK' => ?_)
            have e17 := hd 17 (by kernel_rfl)
            (try simp only [] at e17)
            have e33 := hd 33 (by kernel_rfl)
            (try simp only [] at e33)
            simp only [e17, e33]
            go_simp
            have hk := hK _ W (Below.refl _ _) rfl
            simp only [upd, reduceIte, Nat.reduceEqDiff, e17, e33] at hk
            exact hK' _ _ hk
          · intro f W K hB hd hK
            refine wpOp_step rfl (fun K' hK' => ?_)
            have e17 := hd 17 (by kernel_rfl)
            (try simp only [] at e17)
            have e34 := hd 34 (by kernel_rfl)
            (try simp only [] at e34)
            simp only [e17, e34]
            go_simp
            have hk := hK _ W (Below.refl _ _) rfl
            simp only [upd, reduceIte, Nat.reduceEqDiff, e17, e34] at hk
            exact hK' _ _ hk
        case done =>
          intro f14 W14 hB hf
          have e := hf 35 (by omega)
          simp only [] at e
          simp only [e]
          clear e hf
          have HX14 := Lib.hid (bchain HX13.out (bchain ((Below.refl w13.heap.size w13).drew) hB))
          clear HR13 C2 C3 HS13 HX13 hB K4 HS4
          go_wp2_with fail
          (with_reducible refine (Rules_any W14).mono ?_)
          rintro e w15 ⟨rfl, hf15, hb15⟩
          have QK := Lib.hid (Keys_any 3 _ 2 2 rulesL w15 hf15)
          rw [v_keys] at QK
          have HX15 := Lib.hid (bchain HX14.out hb15)
          clear hf15 hb15 HX14
          go_wp2_with fail
          (with_reducible refine QK.out.mono ?_)
          rintro e w16 ⟨⟨ks, rfl, hk16⟩, hb16⟩
          have HX16 := Lib.hid (bchain HX15.out hb16)
          have HK16 := Lib.hid hk16
          clear hk16 hb16 QK HX15
          go_wp2_with fail
          (with_reducible refine (Rules_any w16).mono ?_)
          rintro e w17 ⟨rfl, hf17, hb17⟩
          have HX17 := Lib.hid (bchain HX16.out hb17)
          have HK17 := Lib.hid (HK16.out.below hb17)
          have QL := Lib.hid (Lossless_any 3 _ 2 2 rulesL ⟨some ⟨w17.heap.size + 2, 0, none⟩, 2, 2⟩ [[0, 1], [1, 2]] _ (hf17.below (rows2_at w17 [0, 1] [1, 2] rfl rfl).2) (rows2_at w17 [0, 1] [1, 2] rfl rfl).1)
          clear hf17 hb17 HX16 HK16
          go_wp2_with fail
          refine QL.out.mono ?_
          rintro e w18 ⟨⟨t1, he, -⟩, hb18⟩
          rw [v_loss1.1, v_loss1.2] at he
          subst he
          have hbr := bchain (bchain (rows2_at w17 [0, 1] [1, 2] rfl rfl).2 hb18) (below_new w18 (.cells #[.slice t1.cols.A t1.cols.n t1.cols.cap, .slice t1.rows.A t1.rows.n t1.rows.cap] 40))
          have HX18 := Lib.hid (bchain HX17.out hbr)
          have HK18 := Lib.hid (HK17.out.below hbr)
          clear hb18 hbr QL HX17 HK17
          go_wp2_with fail
          obtain ⟨g18, hg18⟩ : ∃ g18, w18.heap.size = g18 := ⟨_, rfl⟩
          obtain ⟨w19, hw19⟩ : ∃ w19, w18.alloc (.cells #[.slice t1.cols.A t1.cols.n t1.cols.cap, .slice t1.rows.A t1.rows.n t1.rows.cap] 40) = w19 := ⟨_, rfl⟩
          rw [hw19] at HX18 HK18 ⊢
          rw [hg18]
          clear hw19 hg18
          (with_reducible refine (Rules_any w19).mono ?_)
          rintro e w20 ⟨rfl, hf20, hb20⟩
          have HX20 := Lib.hid (bchain HX18.out hb20)
          have HK20 := Lib.hid (HK18.out.below hb20)
          have QL := Lib.hid (Lossless_any 3 _ 2 2 rulesL ⟨some ⟨w20.heap.size + 2, 0, none⟩, 2, 2⟩ [[0, 2], [1, 2]] _ (hf20.below (rows2_at w20 [0, 2] [1, 2] rfl rfl).2) (rows2_at w20 [0, 2] [1, 2] rfl rfl).1)
          rw [v_loss2] at QL
          clear hf20 hb20 HX18 HK18
          go_wp2_with fail
          refine QL.out.mono ?_
          rintro e w21 ⟨⟨tz, rfl, htz⟩, hb21⟩
          have hbn := below_new w21 (.cells #[.slice tz.cols.A tz.cols.n tz.cols.cap, .slice tz.rows.A tz.rows.n tz.rows.cap] 40)
          have hbr := bchain (bchain (rows2_at w20 [0, 2] [1, 2] rfl rfl).2 hb21) hbn
          have HX22 := Lib.hid (bchain HX20.out hbr)
          have HK22 := Lib.hid (HK20.out.below hbr)
          have HTZ := Lib.hid (htz.below hbn)
          have HGT := Lib.hid (new_block w21 #[.slice tz.cols.A tz.cols.n tz.cols.cap, .slice tz.rows.A tz.rows.n tz.rows.cap] 40)
          clear hb21 hbr hbn htz QL HX20 HK20
          go_wp2_with fail
          obtain ⟨gT, hgT⟩ : ∃ gT, w21.heap.size = gT := ⟨_, rfl⟩
          obtain ⟨w22, hw22⟩ : ∃ w22, w21.alloc (.cells #[.slice tz.cols.A tz.cols.n tz.cols.cap, .slice tz.rows.A tz.rows.n tz.rows.cap] 40) = w22 := ⟨_, rfl⟩
          rw [hw22] at HX22 HK22 HTZ HGT ⊢
          rw [hgT] at HGT ⊢
          clear hw22 hgT
          refine region_inv 33 rfl (by kernel_rfl) (by kernel_rfl) (fun j v W => match j with | 0 => v = .int .i64 0 | 1 => v = .bool true | 2 => v = .bool true | 3 => v = .int .i64 0 | 4 => v = .bool true | 5 => v = .bool true | 6 => v = .bool true | 7 => v = .int .i64 0 | 8 => v = .bool true | 9 => v = .bool true | 10 => v = .bool true | 11 => v = .bool true | 12 => v = .bool true | 13 => v = .bool true | 14 => v = .bool false | 15 => v = .bool true | 16 => v = .bool true | 17 => v = .bool true | 18 => v = .slice ks.A ks.n ks.cap | 19 => IntsV v W [0] | 20 => RowsV v W [[0]] | 21 => v = .bool true | 22 => v = .bool true | 23 => v = .bool true | 24 => v = .agg #[.slice tz.cols.A tz.cols.n tz.cols.cap, .slice tz.rows.A tz.rows.n tz.rows.cap] | 25 => IntsV v W [0, 1, 2] | 26 => IntsV v W [0, 1, 0] | 27 => IntsV v W [2, 0, 0] | 28 => RowsV v W [[0, 1, 0], [2, 0, 0]] | 29 => TabV v W ⟨[0, 1, 2], [[0, 1, 0], [2, 0, 0]]⟩ | 30 => v = .bool true | 31 => v = .bool true | 32 => v = .bool true | _ => True)
            (fun f => { tmps := #[f 32, .slice (some ⟨gt, 0, none⟩) 3 3, .pointer (some ⟨gj, 0, none⟩), .int .i64 0, .int .i64 12, .int .i64 0, .pointer (some ⟨gB, 0, none⟩), .int .i64 6, .slice LA Ln Lc, .int .i64 6, .pointer (some ⟨gQ, 0, none⟩), .int .i64 6, .int .i64 0, .slice RA Rn Rc, .bool false, .bool true, .slice ks.A ks.n ks.cap, .bool true, .pointer (some ⟨g18, 0, none⟩), .bool false, .pointer (some ⟨gT, 0, none⟩), .slice (some ⟨gt, 0, none⟩) 3 3, u22, u23, u24, u25, u26, u27, u28, u29, u30, u31, .tuple #[.int .i64 12, .int .i64 0], .slice (some ⟨gt, 0, none⟩) 3 3, .agg #[.int .i64 0, .slice none 0 0], .agg #[.int .i64 2, .slice none 0 0], .agg #[.int .i64 n1.table, .slice n1.kids.A n1.kids.n n1.kids.cap], .agg #[.int .i64 1, .slice none 0 0], .agg #[.int .i64 n2.table, .slice n2.kids.A n2.kids.n n2.kids.cap], .tuple #[.int .i64 12, .int .i64 0], .int .i64 12, .int .i64 0, f4 0, f4 1, f4 2, f4 3, f4 4, f4 5, f4 6, f4 7, f4 8, f4 9, f4 10, f4 11, f4 12, f4 13, f4 14, f4 15, f4 16, f4 17, f4 18, f4 19, .bool false, .tuple #[.agg #[.int .i64 tb.table, .slice tb.kids.A tb.kids.n tb.kids.cap], .int .i64 6, .int .i64 0], .slice (some ⟨gt, 0, none⟩) 3 3, .tuple #[.agg #[.int .i64 tb.table, .slice tb.kids.A tb.kids.n tb.kids.cap], .int .i64 6, .int .i64 0], .agg #[.int .i64 tb.table, .slice tb.kids.A tb.kids.n tb.kids.cap], .int .i64 6, .int .i64 0, .tuple #[.slice LA Ln Lc, .int .i64 6, .int .i64 0], .slice (some ⟨gt, 0, none⟩) 3 3, .tuple #[.slice LA Ln Lc, .int .i64 6, .int .i64 0], .slice LA Ln Lc, .int .i64 6, .int .i64 0, .tuple #[.agg #[.int .i64 tq.table, .slice tq.kids.A tq.kids.n tq.kids.cap], .int .i64 6, .int .i64 0], .slice (some ⟨gt, 0, none⟩) 3 3, .tuple #[.agg #[.int .i64 tq.table, .slice tq.kids.A tq.kids.n tq.kids.cap], .int .i64 6, .int .i64 0], .agg #[.int .i64 tq.table, .slice tq.kids.A tq.kids.n tq.kids.cap], .int .i64 6, .int .i64 0, f9 0, f9 1, f9 2, f9 3, f9 4, f9 5, f9 6, f9 7, f9 8, f9 9, f9 10, f9 11, f9 12, f9 13, f9 14, f9 15, f9 16, f9 17, f9 18, f9 19, f9 20, f9 21, f9 22, f9 23, f9 24, f9 25, f9 26, f9 27, f9 28, f9 29, f9 30, f9 31, f9 32, f9 33, f9 34, f9 35, f9 36, f9 37, f9 38, f9 39, f9 40, f9 41, f9 42, f9 43, f9 44, f9 45, f9 46, .bool false, .tuple #[.slice RA Rn Rc, .int .i64 0], .slice (some ⟨gt, 0, none⟩) 3 3, .tuple #[.slice RA Rn Rc, .int .i64 0], .slice RA Rn Rc, .int .i64 0, .tuple #[.bool false, .int .i64 0], .slice (some ⟨w11.heap.size, 0, none⟩) 2 2, .slice (some ⟨w11.heap.size + 1, 0, none⟩) 2 2, .slice (some ⟨w11.heap.size + 1 + 1, 0, none⟩) 2 2, .slice (some ⟨w11.heap.size + 1 + 1 + 1, 0, none⟩) 3 3, .tuple #[.bool false, .int .i64 0], .bool false, .int .i64 0, .tuple #[.bool true, .int .i64 0], .slice (some ⟨w12.heap.size, 0, none⟩) 2 2, .slice (some ⟨w12.heap.size + 1, 0, none⟩) 2 2, .slice (some ⟨w12.heap.size + 1 + 1, 0, none⟩) 2 2, .slice (some ⟨w12.heap.size + 1 + 1 + 1, 0, none⟩) 3 3, .tuple #[.bool true, .int .i64 0], .bool true, .int .i64 0, f14 0, f14 1, f14 2, f14 3, f14 4, f14 5, f14 6, f14 7, f14 8, f14 9, f14 10, f14 11, f14 12, f14 13, f14 14, f14 15, f14 16, f14 17, f14 18, f14 19, f14 20, f14 21, f14 22, f14 23, f14 24, f14 25, f14 26, f14 27, f14 28, f14 29, f14 30, f14 31, f14 32, f14 33, f14 34, .bool false, .tuple #[.slice ks.A ks.n ks.cap, .int .i64 0], .slice (some ⟨W14.heap.size + 2, 0, none⟩) 2 2, .tuple #[.slice ks.A ks.n ks.cap, .int .i64 0], .slice ks.A ks.n ks.cap, .int .i64 0, .tuple #[.bool true, .agg #[.slice t1.cols.A t1.cols.n t1.cols.cap, .slice t1.rows.A t1.rows.n t1.rows.cap], .int .i64 0], .slice (some ⟨w16.heap.size + 2, 0, none⟩) 2 2, .slice (some ⟨w17.heap.size, 0, none⟩) 2 2, .slice (some ⟨w17.heap.size + 1, 0, none⟩) 2 2, .slice (some ⟨w17.heap.size + 1 + 1, 0, none⟩) 2 2, .tuple #[.bool true, .agg #[.slice t1.cols.A t1.cols.n t1.cols.cap, .slice t1.rows.A t1.rows.n t1.rows.cap], .int .i64 0], .bool true, .agg #[.slice t1.cols.A t1.cols.n t1.cols.cap, .slice t1.rows.A t1.rows.n t1.rows.cap], .int .i64 0, .tuple #[.bool false, .agg #[.slice tz.cols.A tz.cols.n tz.cols.cap, .slice tz.rows.A tz.rows.n tz.rows.cap], .int .i64 0], .slice (some ⟨w19.heap.size + 2, 0, none⟩) 2 2, .slice (some ⟨w20.heap.size, 0, none⟩) 2 2, .slice (some ⟨w20.heap.size + 1, 0, none⟩) 2 2, .slice (some ⟨w20.heap.size + 1 + 1, 0, none⟩) 2 2, .tuple #[.bool false, .agg #[.slice tz.cols.A tz.cols.n tz.cols.cap, .slice tz.rows.A tz.rows.n tz.rows.cap], .int .i64 0], .bool false, .agg #[.slice tz.cols.A tz.cols.n tz.cols.cap, .slice tz.rows.A tz.rows.n tz.rows.cap], .int .i64 0, f 0, f 1, f 2, f 3, f 4, f 5, f 6, f 7, f 8, f 9, f 10, f 11, f 12, f 13, f 14, f 15, f 16, f 17, f 18, f 19, f 20, f 21, f 22, f 23, f 24, f 25, f 26, f 27, f 28, f 29, f 30, f 31], defers := [] }) (fun j => if j = 32 then .bool false else undef) ?hst ?h0 ?steps ?done
          case hst =>
            intro j v W W' h hb
            match j, h with
            | 0, h => exact h
            | 1, h => exact h
            | 2, h => exact h
            | 3, h => exact h
            | 4, h => exact h
            | 5, h => exact h
            | 6, h => exact h
            | 7, h => exact h
            | 8, h => exact h
            | 9, h => exact h
            | 10, h => exact h
            | 11, h => exact h
            | 12, h => exact h
            | 13, h => exact h
            | 14, h => exact h
            | 15, h => exact h
            | 16, h => exact h
            | 17, h => exact h
            | 18, h => exact h
            | 19, h => exact h.keep hb
            | 20, h => exact h.keep hb
            | 21, h => exact h
            | 22, h => exact h
            | 23, h => exact h
            | 24, h => exact h
            | 25, h => exact h.keep hb
            | 26, h => exact h.keep hb
            | 27, h => exact h.keep hb
            | 28, h => exact h.keep hb
            | 29, h => exact h.keep hb
            | 30, h => exact h
            | 31, h => exact h
            | 32, h => exact h
            | n + 33, h => trivial
          case h0 => rfl
          case steps =>
            refine ⟨⟨⟨⟨⟨⟨⟨⟨⟨⟨⟨⟨⟨⟨⟨⟨⟨⟨⟨⟨⟨⟨⟨⟨⟨⟨⟨⟨⟨⟨⟨⟨⟨trivial, ?_⟩, ?_⟩, ?_⟩, ?_⟩, ?_⟩, ?_⟩, ?_⟩, ?_⟩, ?_⟩, ?_⟩, ?_⟩, ?_⟩, ?_⟩, ?_⟩, ?_⟩, ?_⟩, ?_⟩, ?_⟩, ?_⟩, ?_⟩, ?_⟩, ?_⟩, ?_⟩, ?_⟩, ?_⟩, ?_⟩, ?_⟩, ?_⟩, ?_⟩, ?_⟩, ?_⟩, ?_⟩, ?_⟩
            · intro f W K hB hd hK
              refine wpOp_step rfl (fun K' hK' => ?_)
              go_simp
              have hk := hK _ W (Below.refl _ _) rfl
              simp only [upd, reduceIte, Nat.reduceEqDiff] at hk
              exact hK' _ _ hk
            · intro f W K hB hd hK
              refine wpOp_step rfl (fun K' hK' => ?_)
              have e0 := hd 0 (by kernel_rfl)
              (try simp only [] at e0)
              simp only [e0]
              go_simp
              have hk := hK _ W (Below.refl _ _) rfl
              simp only [upd, reduceIte, Nat.reduceEqDiff, e0] at hk
              exact hK' _ _ hk
            · intro f W K hB hd hK
              refine wpOp_step rfl (fun K' hK' => ?_)
              have e1 := hd 1 (by kernel_rfl)
              (try simp only [] at e1)
              simp only [e1]
              go_simp
              have hk := hK _ W (Below.refl _ _) rfl
              simp only [upd, reduceIte, Nat.reduceEqDiff, e1] at hk
              exact hK' _ _ hk
            · intro f W K hB hd hK
              refine wpOp_step rfl (fun K' hK' => ?_)
              have e2 := hd 2 (by kernel_rfl)
              (try simp only [] at e2)
              simp only [e2]
              go_simp
              have hk := hK _ W (Below.refl _ _) rfl
              simp only [upd, reduceIte, Nat.reduceEqDiff, e2] at hk
              exact hK' _ _ hk
            · intro f W K hB hd hK
              refine wpOp_step rfl (fun K' hK' => ?_)
              have e2 := hd 2 (by kernel_rfl)
              (try simp only [] at e2)
              have e3 := hd 3 (by kernel_rfl)
              (try simp only [] at e3)
              simp only [e2, e3]
              go_simp
              have hk := hK _ W (Below.refl _ _) rfl
              simp only [upd, reduceIte, Nat.reduceEqDiff, e2, e3] at hk
              exact hK' _ _ hk
            · intro f W K hB hd hK
              refine wpOp_step rfl (fun K' hK' => ?_)
              have e2 := hd 2 (by kernel_rfl)
              (try simp only [] at e2)
              have e4 := hd 4 (by kernel_rfl)
              (try simp only [] at e4)
              simp only [e2, e4]
              go_simp
              have hk := hK _ W (Below.refl _ _) rfl
              simp only [upd, reduceIte, Nat.reduceEqDiff, e2, e4] at hk
              exact hK' _ _ hk
            · intro f W K hB hd hK
              refine wpOp_step rfl (fun K' hK' => ?_)
              have e5 := hd 5 (by kernel_rfl)
              (try simp only [] at e5)
              simp only [e5]
              go_simp
              have hk := hK _ W (Below.refl _ _) rfl
              simp only [upd, reduceIte, Nat.reduceEqDiff, e5] at hk
              exact hK' _ _ hk
            · intro f W K hB hd hK
              refine wpOp_step rfl (fun K' hK' => ?_)
              have e6 := hd 6 (by kernel_rfl)
              (try simp only [] at e6)
              simp only [e6]
              go_simp
              have hk := hK _ W (Below.refl _ _) rfl
              simp only [upd, reduceIte, Nat.reduceEqDiff, e6] at hk
              exact hK' _ _ hk
            · intro f W K hB hd hK
              refine wpOp_step rfl (fun K' hK' => ?_)
              have e6 := hd 6 (by kernel_rfl)
              (try simp only [] at e6)
              have e7 := hd 7 (by kernel_rfl)
              (try simp only [] at e7)
              simp only [e6, e7]
              go_simp
              have hk := hK _ W (Below.refl _ _) rfl
              simp only [upd, reduceIte, Nat.reduceEqDiff, e6, e7] at hk
              exact hK' _ _ hk
            · intro f W K hB hd hK
              refine wpOp_step rfl (fun K' hK' => ?_)
              have e6 := hd 6 (by kernel_rfl)
              (try simp only [] at e6)
              have e8 := hd 8 (by kernel_rfl)
              (try simp only [] at e8)
              simp only [e6, e8]
              go_simp
              have hk := hK _ W (Below.refl _ _) rfl
              simp only [upd, reduceIte, Nat.reduceEqDiff, e6, e8] at hk
              exact hK' _ _ hk
            · intro f W K hB hd hK
              refine wpOp_step rfl (fun K' hK' => ?_)
              have e9 := hd 9 (by kernel_rfl)
              (try simp only [] at e9)
              simp only [e9]
              go_simp
              have hk := hK _ W (Below.refl _ _) rfl
              simp only [upd, reduceIte, Nat.reduceEqDiff, e9] at hk
              exact hK' _ _ hk
            · intro f W K hB hd hK
              refine wpOp_step rfl (fun K' hK' => ?_)
              have e10 := hd 10 (by kernel_rfl)
              (try simp only [] at e10)
              simp only [e10]
              go_simp
              have hk := hK _ W (Below.refl _ _) rfl
              simp only [upd, reduceIte, Nat.reduceEqDiff, e10] at hk
              exact hK' _ _ hk
            · intro f W K hB hd hK
              refine wpOp_step rfl (fun K' hK' => ?_)
              have e10 := hd 10 (by kernel_rfl)
              (try simp only [] at e10)
              have e11 := hd 11 (by kernel_rfl)
              (try simp only [] at e11)
              simp only [e10, e11]
              go_simp
              have hk := hK _ W (Below.refl _ _) rfl
              simp only [upd, reduceIte, Nat.reduceEqDiff, e10, e11] at hk
              exact hK' _ _ hk
            · intro f W K hB hd hK
              refine wpOp_step rfl (fun K' hK' => ?_)
              have e12 := hd 12 (by kernel_rfl)
              (try simp only [] at e12)
              simp only [e12]
              go_simp
              have hk := hK _ W (Below.refl _ _) rfl
              simp only [upd, reduceIte, Nat.reduceEqDiff, e12] at hk
              exact hK' _ _ hk
            · intro f W K hB hd hK
              refine wpOp_step rfl (fun K' hK' => ?_)
              have e13 := hd 13 (by kernel_rfl)
              (try simp only [] at e13)
              simp only [e13]
              go_simp
              have hk := hK _ W (Below.refl _ _) rfl
              simp only [upd, reduceIte, Nat.reduceEqDiff, e13] at hk
              exact hK' _ _ hk
            · intro f W K hB hd hK
              refine wpOp_step rfl (fun K' hK' => ?_)
              have e13 := hd 13 (by kernel_rfl)
              (try simp only [] at e13)
              have e14 := hd 14 (by kernel_rfl)
              (try simp only [] at e14)
              simp only [e13, e14]
              go_simp
              have hk := hK _ W (Below.refl _ _) rfl
              simp only [upd, reduceIte, Nat.reduceEqDiff, e13, e14] at hk
              exact hK' _ _ hk
            · intro f W K hB hd hK
              refine wpOp_step rfl (fun K' hK' => ?_)
              have e13 := hd 13 (by kernel_rfl)
              (try simp only [] at e13)
              have e15 := hd 15 (by kernel_rfl)
              (try simp only [] at e15)
              simp only [e13, e15]
              go_simp
              have hk := hK _ W (Below.refl _ _) rfl
              simp only [upd, reduceIte, Nat.reduceEqDiff, e13, e15] at hk
              exact hK' _ _ hk
            · intro f W K hB hd hK
              refine wpOp_step rfl (fun K' hK' => ?_)
              have e16 := hd 16 (by kernel_rfl)
              (try simp only [] at e16)
              simp only [e16]
              go_simp
              have hk := hK _ W (Below.refl _ _) rfl
              simp only [upd, reduceIte, Nat.reduceEqDiff, e16] at hk
              exact hK' _ _ hk
            · intro f W K hB hd hK
              refine wpOp_step rfl (fun K' hK' => ?_)
              have e17 := hd 17 (by kernel_rfl)
              (try simp only [] at e17)
              simp only [e17]
              go_simp
              have hk := hK _ W (Below.refl _ _) rfl
              simp only [upd, reduceIte, Nat.reduceEqDiff, e17] at hk
              exact hK' _ _ hk
            · intro f W K hB hd hK
              refine wpOp_step rfl (fun K' hK' => ?_)
              have e17 := hd 17 (by kernel_rfl)
              (try simp only [] at e17)
              simp only [e17]
              go_simp
              have hk := hK _ _ (below_new W _) ⟨⟨some ⟨W.heap.size, 0, none⟩, 1, 1⟩, rfl, ints_block (l := [0]) (T := 3) (Nat.zero_le _) (by simp) (new_block W _ _)⟩
              simp only [upd, reduceIte, Nat.reduceEqDiff, e17] at hk
              exact hK' _ _ hk
            · intro f W K hB hd hK
              refine wpOp_step rfl (fun K' hK' => ?_)
              have e17 := hd 17 (by kernel_rfl)
              (try simp only [] at e17)
              obtain ⟨s19, e19, h19⟩ := hd 19 (by kernel_rfl)
              (try simp only [] at e19)
              simp only [e17, e19]
              go_simp
              have hk := hK _ _ (below_new W _) ⟨⟨some ⟨W.heap.size, 0, none⟩, 1, 1⟩, rfl, [s19], rd_block (enc := Sl.vs) (sz := 1) (T := 32) (fun _ => rfl) (Nat.zero_le _) (by simp) (new_block W _ _), All2.cons (h19.below (below_new W _)) (All2.nil _)⟩
              simp only [upd, reduceIte, Nat.reduceEqDiff, e17, e19] at hk
              exact hK' _ _ hk
            · intro f W K hB hd hK
              refine wpOp_step rfl (fun K' hK' => ?_)
              have e17 := hd 17 (by kernel_rfl)
              (try simp only [] at e17)
              have e18 := hd 18 (by kernel_rfl)
              (try simp only [] at e18)
              obtain ⟨s20, e20, h20⟩ := hd 20 (by kernel_rfl)
              (try simp only [] at e20)
              simp only [e17, e18, e20]
              go_simp
              have hb0 := (bchain ((Below.refl w22.heap.size w22).drew) hB)
              refine (SameRows_any ks.A s20.A ks.n s20.n ks.cap s20.cap _ _ W (HK22.out.below hb0) h20).mono ?_
              rintro e W2 ⟨he, hd2⟩
              rw [decide_eq_true rfl] at he
              subst he
              dsimp only
              have hk := hK _ _ hd2.below rfl
              simp only [upd, reduceIte, Nat.reduceEqDiff, e17, e18, e20] at hk
              exact hK' _ _ hk
            · intro f W K hB hd hK
              refine wpOp_step rfl (fun K' hK' => ?_)
              have e17 := hd 17 (by kernel_rfl)
              (try simp only [] at e17)
              have e21 := hd 21 (by kernel_rfl)
              (try simp only [] at e21)
              simp only [e17, e21]
              go_simp
              have hk := hK _ W (Below.refl _ _) rfl
              simp only [upd, reduceIte, Nat.reduceEqDiff, e17, e21] at hk
              exact hK' _ _ hk
            · intro f W K hB hd hK
              refine wpOp_step rfl (fun K' hK' => ?_)
              have e22 := hd 22 (by kernel_rfl)
              (try simp only [] at e22)
              simp only [e22]
              go_simp
              have hk := hK _ W (Below.refl _ _) rfl
              simp only [upd, reduceIte, Nat.reduceEqDiff, e22] at hk
              exact hK' _ _ hk
            · intro f W K hB hd hK
              refine wpOp_step rfl (fun K' hK' => ?_)
              have e23 := hd 23 (by kernel_rfl)
              (try simp only [] at e23)
              simp only [e23]
              have hb0 := (bchain ((Below.refl w22.heap.size w22).drew) hB)
              have hg := (hb0.block _ (Array.getElem?_eq_some_iff.1 HGT.out).1).trans HGT.out
              have y0 := cell_at_block (off := 0) hg rfl
              have y1 := cell_at_block (off := 1) hg rfl
              go_simp
              have hk := hK _ W (Below.refl _ _) rfl
              simp only [upd, reduceIte, Nat.reduceEqDiff, e23] at hk
              exact hK' _ _ hk
            · intro f W K hB hd hK
              refine wpOp_step rfl (fun K' hK' => ?_)
              have e23 := hd 23 (by kernel_rfl)
              (try simp only [] at e23)
              simp only [e23]
              go_simp
              have hk := hK _ _ (below_new W _) ⟨⟨some ⟨W.heap.size, 0, none⟩, 3, 3⟩, rfl, ints_block (l := [0, 1, 2]) (T := 3) (Nat.zero_le _) (by simp) (new_block W _ _)⟩
              simp only [upd, reduceIte, Nat.reduceEqDiff, e23] at hk
              exact hK' _ _ hk
            · intro f W K hB hd hK
              refine wpOp_step rfl (fun K' hK' => ?_)
              have e23 := hd 23 (by kernel_rfl)
              (try simp only [] at e23)
              simp only [e23]
              go_simp
              have hk := hK _ _ (below_new W _) ⟨⟨some ⟨W.heap.size, 0, none⟩, 3, 3⟩, rfl, ints_block (l := [0, 1, 0]) (T := 3) (Nat.zero_le _) (by simp) (new_block W _ _)⟩
              simp only [upd, reduceIte, Nat.reduceEqDiff, e23] at hk
              exact hK' _ _ hk
            · intro f W K hB hd hK
              refine wpOp_step rfl (fun K' hK' => ?_)
              have e23 := hd 23 (by kernel_rfl)
              (try simp only [] at e23)
              simp only [e23]
              go_simp
              have hk := hK _ _ (below_new W _) ⟨⟨some ⟨W.heap.size, 0, none⟩, 3, 3⟩, rfl, ints_block (l := [2, 0, 0]) (T := 3) (Nat.zero_le _) (by simp) (new_block W _ _)⟩
              simp only [upd, reduceIte, Nat.reduceEqDiff, e23] at hk
              exact hK' _ _ hk
            · intro f W K hB hd hK
              refine wpOp_step rfl (fun K' hK' => ?_)
              have e23 := hd 23 (by kernel_rfl)
              (try simp only [] at e23)
              obtain ⟨s26, e26, h26⟩ := hd 26 (by kernel_rfl)
              (try simp only [] at e26)
              obtain ⟨s27, e27, h27⟩ := hd 27 (by kernel_rfl)
              (try simp only [] at e27)
              simp only [e23, e26, e27]
              go_simp
              have hk := hK _ _ (below_new W _) ⟨⟨some ⟨W.heap.size, 0, none⟩, 2, 2⟩, rfl, [s26, s27], rd_block (enc := Sl.vs) (sz := 1) (T := 32) (fun _ => rfl) (Nat.zero_le _) (by simp) (new_block W _ _), All2.cons (h26.below (below_new W _)) (All2.cons (h27.below (below_new W _)) (All2.nil _))⟩
              simp only [upd, reduceIte, Nat.reduceEqDiff, e23, e26, e27] at hk
              exact hK' _ _ hk
            · intro f W K hB hd hK
              refine wpOp_step rfl (fun K' hK' => ?_)
              have e23 := hd 23 (by kernel_rfl)
              (try simp only [] at e23)
              obtain ⟨s25, e25, h25⟩ := hd 25 (by kernel_rfl)
              (try simp only [] at e25)
              obtain ⟨s28, e28, h28⟩ := hd 28 (by kernel_rfl)
              (try simp only [] at e28)
              simp only [e23, e25, e28]
              go_simp
              refine (Table_any s25 s28 W).mono ?_
              rintro e W2 ⟨rfl, hW2⟩
              have hb2 : Below W.heap.size W W2 := by rw [hW2]; exact below_new _ _
              dsimp only
              have hk := hK _ _ hb2 ⟨⟨s25, s28⟩, rfl, h25.below hb2, h28.below hb2⟩
              simp only [upd, reduceIte, Nat.reduceEqDiff, e23, e25, e28] at hk
              exact hK' _ _ hk
            · intro f W K hB hd hK
              refine wpOp_step rfl (fun K' hK' => ?_)
              have e23 := hd 23 (by kernel_rfl)
              (try simp only [] at e23)
              have e24 := hd 24 (by kernel_rfl)
              (try simp only [] at e24)
              obtain ⟨s29, e29, h29⟩ := hd 29 (by kernel_rfl)
              (try simp only [] at e29)
              simp only [e23, e24, e29]
              go_simp
              have hb0 := (bchain ((Below.refl w22.heap.size w22).drew) hB)
              refine (Same_any tz s29 _ _ W (HTZ.out.below hb0) h29).mono ?_
              rintro e W2 ⟨he, hb2⟩
              rw [decide_eq_true rfl] at he
              subst he
              dsimp only
              have hk := hK _ _ hb2 rfl
              simp only [upd, reduceIte, Nat.reduceEqDiff, e23, e24, e29] at hk
              exact hK' _ _ hk
            · intro f W K hB hd hK
              refine wpOp_step rfl (fun K' hK' => ?_)
              have e23 := hd 23 (by kernel_rfl)
              (try simp only [] at e23)
              have e30 := hd 30 (by kernel_rfl)
              (try simp only [] at e30)
              simp only [e23, e30]
              go_simp
              have hk := hK _ W (Below.refl _ _) rfl
              simp only [upd, reduceIte, Nat.reduceEqDiff, e23, e30] at hk
              exact hK' _ _ hk
            · intro f W K hB hd hK
              refine wpOp_step rfl (fun K' hK' => ?_)
              have e31 := hd 31 (by kernel_rfl)
              (try simp only [] at e31)
              simp only [e31]
              go_simp
              have hk := hK _ W (Below.refl _ _) rfl
              simp only [upd, reduceIte, Nat.reduceEqDiff, e31] at hk
              exact hK' _ _ hk
          case done =>
            intro f19 W23 hB hf
            have e := hf 32 (by omega)
            simp only [] at e
            simp only [e]
            clear e hf
            have HX23 := Lib.hid (bchain HX22.out (bchain ((Below.refl w22.heap.size w22).drew) hB))
            clear HK22 HTZ HGT HX22 hB
            go_wp2_with fail
            go_ret
            exact ⟨rfl, bchain HB4.out HX23.out⟩
end Go.Proofs.Bg
end

section
/- The law PickParts: returns true. -/
namespace Go.Proofs.Bg
open Go.RowKit

set_option maxRecDepth 100000 in
set_option maxHeartbeats 4000000 in
theorem PickParts_any (N : Int) (A : Option Addr) (m cap : Nat) (l : List PF) (s : Sl) (L : List (List Int)) (w : World) (h : FdsAt w 0 A m l) (hs : RowsAt w 0 s L) (ht : DeTab w) :
    Calls Tryz.prog 5 #[.int .i64 N, .slice A m cap, .slice s.A s.n s.cap] w fun e w' => e = .returned (.bool true) ∧ Below w.heap.size w w' := by
  obtain ⟨sA, sn, sk⟩ := s
  have Q1 := Lib.hid (Lossless_any N A m cap l ⟨sA, sn, sk⟩ L w h hs)
  have HA := Lib.hid h
  have HS := Lib.hid hs
  have HD := Lib.hid ht
  clear h hs ht
  have Q2 := Lib.hid (fun W (hb : Below w.heap.size w W) => LosslessR_any N A m cap l ⟨sA, sn, sk⟩ L W (HA.out.below hb) (HS.out.below hb))
  obtain ⟨p, hp⟩ : ∃ p, losslessR N l L = p := ⟨_, rfl⟩
  rw [hp] at Q1 Q2
  clear hp
  obtain ⟨b, T, z⟩ := p
  go_enter Tryz.func5, Tryz.ntmps5
  go_wp2_with fail
  (with_reducible refine Q1.out.mono ?_)
  rintro e w1 ⟨⟨t1, rfl, hT1⟩, hb1⟩
  simp only [] at hT1
  have hn1 := new_block w1 #[.slice t1.cols.A t1.cols.n t1.cols.cap, .slice t1.rows.A t1.rows.n t1.rows.cap] 40
  have HB2 := Lib.hid (bchain hb1 (below_new w1 (.cells #[.slice t1.cols.A t1.cols.n t1.cols.cap, .slice t1.rows.A t1.rows.n t1.rows.cap] 40)))
  have HT1 := Lib.hid (hT1.below (below_new w1 (.cells #[.slice t1.cols.A t1.cols.n t1.cols.cap, .slice t1.rows.A t1.rows.n t1.rows.cap] 40)))
  obtain ⟨w2, hw2⟩ : ∃ w2, w1.alloc (.cells #[.slice t1.cols.A t1.cols.n t1.cols.cap, .slice t1.rows.A t1.rows.n t1.rows.cap] 40) = w2 := ⟨_, rfl⟩
  rw [hw2] at hn1 HB2 HT1
  have HN1 := Lib.hid hn1
  have HW2 := Lib.hid hw2
  clear hT1 hb1 hn1 hw2 Q1
  go_wp2_with fail
  rw [HW2.out]
  (with_reducible refine (Q2.out _ HB2.out).mono ?_)
  rintro e w3 ⟨⟨t2, rfl, hT2⟩, hb3⟩
  simp only [] at hT2
  have hn2 := new_block w3 #[.slice t2.cols.A t2.cols.n t2.cols.cap, .slice t2.rows.A t2.rows.n t2.rows.cap] 40
  have hb4 := bchain hb3 (below_new w3 (.cells #[.slice t2.cols.A t2.cols.n t2.cols.cap, .slice t2.rows.A t2.rows.n t2.rows.cap] 40))
  have HT2 := Lib.hid (hT2.below (below_new w3 (.cells #[.slice t2.cols.A t2.cols.n t2.cols.cap, .slice t2.rows.A t2.rows.n t2.rows.cap] 40)))
  have HB4 := Lib.hid (bchain HB2.out hb4)
  have HT3 := Lib.hid (HT1.out.below hb4)
  have hn3 := (hb4.block _ (Array.getElem?_eq_some_iff.1 HN1.out).1).trans HN1.out
  obtain ⟨w4, hw4⟩ : ∃ w4, w3.alloc (.cells #[.slice t2.cols.A t2.cols.n t2.cols.cap, .slice t2.rows.A t2.rows.n t2.rows.cap] 40) = w4 := ⟨_, rfl⟩
  rw [hw4] at hn2 hn3 HT2 HB4 HT3
  have HW4 := Lib.hid hw4
  have Q3 := Lib.hid (Same_any t1 t2 T T w4 HT3.out HT2.out)
  have Q4 := Lib.hid (fun W (hb : Below w4.heap.size w4 W) => known_any W (HD.out.below (bchain HB4.out hb)))
  have HN3 := Lib.hid hn3
  have HN2 := Lib.hid hn2
  rw [decide_eq_true rfl] at Q3
  have hbb : (b == b) = true := by simp
  clear hT2 hb3 hb4 hn2 hn3 hw4 Q2 HN1
  go_upto_region 3 with fail
  rw [HW4.out]
  have c0 := cell_at_block (off := 0) HN3.out rfl
  have c1 := cell_at_block (off := 1) HN3.out rfl
  have c2 := cell_at_block (off := 0) HN2.out rfl
  have c3 := cell_at_block (off := 1) HN2.out rfl
  go_wp2_with fail
  (with_reducible refine Q3.out.mono ?_)
  rintro e w5 ⟨rfl, hb5⟩
  have HB5 := Lib.hid hb5
  clear hb5 Q3
  go_wp2_with fail
  (with_reducible refine (Q4.out _ HB5.out).mono ?_)
  rintro e w6 ⟨rfl, hb6⟩
  have HB6 := Lib.hid (bchain (bchain HB4.out HB5.out) hb6)
  clear hb6 Q4
  go_wp2_with fail
  go_ret
  exact ⟨rfl, HB6.out⟩
end Go.Proofs.Bg
end
