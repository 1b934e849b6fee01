/- Texts of our own, merged: PkBelow PkCost PkCostF PkPart PkDelPt PkQuickP PkWays PkOnes PkBestP PkTreeW PkHelp PkQuietR PkBest PkNextP PkNext PkLineP PkQuick. -/
import Derived.Test.YtonjmakaebecjaaGreatDoorBgMPp3
import Derived.Deep.QuietTactic
import Derived.BigQuiet
import Derived.OwnWalk
import Derived.Deep.RegionLaw
import Derived.Test.YtonjmakaebecjaaGreatDoorBgMPp1
import Derived.RangeFuncNested
import Derived.RangeFuncBound
import Derived.RangeFuncCalls
import Derived.RangeFuncLeaves
import Derived.Shelf.Abstract
import Derived.Shelf.RegionOpen
import Derived.WalkKit
import Derived.OwnWalkIn
import Derived.TacticsInMore
import Derived.LoopNIn
import Derived.LoopIn
import Derived.Maps.AppendAt
import Derived.Laws.Tables
import Derived.Lib.LaidTab
import Derived.Deep.RegionWith
import Derived.Deep.DeepCutAuto
import Derived.Deep.RegionHeld3
import Derived.Test.YtonjmakaebecjaaGreatDoorBgMPp2
import Derived.Sort.BigQuietIn
import Derived.Test.YtonjmakaebecjaaGreatDoorProg
import Derived.Laws.EntriesVeiled
import Derived.Test.YtonjmakaebecjaaGreatDoorPkShelf
import Derived.RegionTactic
import Derived.Laws.OwnMore
import Derived.WalkMore
import Derived.Laws.Cover3

section
/- Contract: below. -/
namespace Go.Proofs.Bg
open Go.RowKit

theorem belowT_lt {n : Nat} : ∀ {T : PTr} {x : Nat}, belowT n T = some x → x < pw n
  | .mk t [], x, h => by
    rw [belowT] at h
    split at h
    · cases h
      exact Nat.pow_lt_pow_right (by decide) (by omega)
    · cases h
  | .mk t [a, b], x, h => by
    rw [belowT] at h
    split at h
    · cases h
    · cases ha : belowT n a with
      | none => rw [ha] at h; cases h
      | some y =>
        cases hb : belowT n b with
        | none => rw [ha, hb] at h; cases h
        | some z =>
          rw [ha, hb] at h
          simp only [] at h
          split at h
          · cases h
          · cases h
            exact Nat.or_lt_two_pow (belowT_lt ha) (belowT_lt hb)
  | .mk t [a], x, h => by rw [belowT] at h; cases h; all_goals (intros; simp_all)
  | .mk t (a :: b :: c :: r), x, h => by rw [belowT] at h; cases h; all_goals (intros; simp_all)
/-- What below leaves. -/
def RetBel (W : World) (p : Option Nat) (e : Ending) (w' : World) : Prop := e = .returned (.tuple #[.int .i64 ((p.getD 0 : Nat) : Int), .bool p.isSome]) ∧ Below W.heap.size W w'

set_option maxRecDepth 100000 in
theorem below_any {w : World} {t : Tr} {T : PTr} (h : TreeAt w 0 t T) (n : Nat) (hn : n ≤ 60) : ∀ W, Below w.heap.size w W →
    Calls Tryz.prog 69 #[.agg #[.int .i64 t.table, .slice t.kids.A t.kids.n t.kids.cap], .int .i64 n] W (RetBel W (belowT n T)) := by
  induction h with
  | mk t kids ks h hl hk ih =>
    intro W hW
    obtain ⟨tb, kA, kn, kc⟩ := t
    have HH := Lib.hid (h.below hW)
    have HN : Hid (kids.length = kn) := by show _ = _; rw [← hl]; exact h.len
    have hle := h.le
    have HW := Lib.hid hW
    have HIH := Lib.hid ih
    have HKS := Lib.hid hl
    simp only [] at hle HH HN
    clear h hl hk ih hW
    have hbn := below_new W (.cells #[.int .i64 tb, .slice kA kn kc] 25)
    have hnb := new_block W #[.int .i64 tb, .slice kA kn kc] 25
    have c0 := cell_at_block (off := 0) hnb rfl
    have c1 := cell_at_block (off := 1) hnb rfl
    match kids with
    | [] =>
      have hk0 : kn = 0 := by have := HN.out; simpa using this.symm
      subst hk0
      by_cases h1 : 0 ≤ tb
      · by_cases h2 : tb < (n : Int)
        · have HR : Hid (belowT n (.mk tb []) = some (pw tb.toNat)) := by show _ = _; rw [belowT, if_pos ⟨h1, h2⟩]
          obtain ⟨k, rfl⟩ : ∃ k : Nat, tb = (k : Int) := ⟨tb.toNat, by omega⟩
          have hsl : IntKind.i64.wrap (2 ^ k) = ((pw k : Nat) : Int) := shl_nat (by omega)
          have hk64 : (k : Int) < 64 := by omega
          go_enter Tryz.func69, Tryz.ntmps69
          go_wp2_with fail
          go_ret2
          rw [HR.out]
          exact ⟨rfl, hbn⟩
        · have HR : Hid (belowT n (.mk tb []) = none) := by show _ = _; rw [belowT, if_neg (fun h => h2 h.2)]
          have d1 : decide ((n : Int) ≤ tb) = true := by rw [decide_eq_true_eq]; omega
          have d0 : decide (tb < 0) = false := by rw [decide_eq_false_iff_not]; omega
          clear h1 h2
          go_enter Tryz.func69, Tryz.ntmps69
          go_wp2_with fail
          go_ret2
          rw [HR.out]
          exact ⟨rfl, hbn⟩
      · have HR : Hid (belowT n (.mk tb []) = none) := by show _ = _; rw [belowT, if_neg (fun h => h1 h.1)]
        have d0 : decide (tb < 0) = true := by rw [decide_eq_true_eq]; omega
        clear h1
        go_enter Tryz.func69, Tryz.ntmps69
        go_wp2_with fail
        go_ret2
        rw [HR.out]
        exact ⟨rfl, hbn⟩
    | [a] =>
      have hk0 : kn = 1 := by have := HN.out; simpa using this.symm
      subst hk0
      have HR : Hid (belowT n (.mk tb [a]) = none) := by show _ = _; rw [belowT] <;> (intros; simp_all)
      go_enter Tryz.func69, Tryz.ntmps69
      go_wp2_with fail
      go_ret2
      rw [HR.out]
      exact ⟨rfl, hbn⟩
    | a :: b :: c :: r =>
      have hk0 : kn = r.length + 3 := by have := HN.out; simpa using this.symm
      subst hk0
      have HR : Hid (belowT n (.mk tb (a :: b :: c :: r)) = none) := by show _ = _; rw [belowT] <;> (intros; simp_all)
      have e0 : (((r.length + 3 : Nat) : Int) == 0) = false := by simp; omega
      have e2 : (((r.length + 3 : Nat) : Int) != 2) = true := by simp; omega
      generalize r.length + 3 = m at *
      go_enter Tryz.func69, Tryz.ntmps69
      go_wp2_with fail
      go_ret2
      rw [HR.out]
      exact ⟨rfl, hbn⟩
    | [a, b] =>
      have hk0 : kn = 2 := by have := HN.out; simpa using this.symm
      subst hk0
      by_cases ht : tb = 0
      · subst ht
        obtain ⟨b1, off, x, e1, -, hx, hcx⟩ := HH.out.at_ (k := 0) (by omega)
        obtain ⟨b2, off2, y, e2, -, hy, hcy⟩ := HH.out.at_ (k := 1) (by omega)
        subst e1
        cases e2
        have x0 := hcx 0 _ rfl
        have x1 := hcx 1 _ rfl
        have y0 := hcy 0 _ rfl
        have y1 := hcy 1 _ rfl
        simp only [Nat.zero_mul, Nat.one_mul, Nat.add_zero] at x0 x1 y0 y1
        have KX := Lib.hid (Two.mk x0 x1)
        have KY := Lib.hid (Two.mk y0 y1)
        have QA := Lib.hid (HIH.out 0 x a hx rfl)
        have QB := Lib.hid (HIH.out 1 y b hy rfl)
        obtain ⟨p0, p1⟩ := KX.out.below hbn
        have HBN := Lib.hid hbn
        have HNB := Lib.hid hnb
        clear x0 x1 y0 y1 hx hy hcx hcy hbn hnb HIH HKS HH
        cases ha : belowT n a with
        | none =>
          have HR : Hid (belowT n (.mk 0 [a, b]) = none) := by show _ = _; rw [belowT, ha]; rfl
          rw [ha] at QA
          clear ha
          go_enter Tryz.func69, Tryz.ntmps69
          go_wp2_with fail
          (with_reducible refine (QA.out _ (HW.out.trans (HBN.out.mono HW.out.size))).mono ?_)
          rintro e w1 ⟨rfl, hb1⟩
          have HB1 := Lib.hid (bchain HBN.out hb1)
          clear hb1
          go_wp2_with fail
          go_ret2
          rw [HR.out]
          exact ⟨rfl, HB1.out⟩
        | some u =>
          have hu := belowT_lt ha
          have HA := Lib.hid ha
          rw [ha] at QA
          have hun : pw n ≤ 2 ^ 60 := Nat.pow_le_pow_right (by decide) hn
          clear ha
          cases hb : belowT n b with
          | none =>
            have HR : Hid (belowT n (.mk 0 [a, b]) = none) := by show _ = _; rw [belowT, HA.out, hb]; rfl
            rw [hb] at QB
            clear hb
            go_enter Tryz.func69, Tryz.ntmps69
            go_wp2_with fail
            (with_reducible refine (QA.out _ (HW.out.trans (HBN.out.mono HW.out.size))).mono ?_)
            rintro e w1 ⟨rfl, hb1⟩
            have HB1 := Lib.hid (bchain HBN.out hb1)
            have hn1 := (hb1.block _ (Array.getElem?_eq_some_iff.1 HNB.out).1).trans HNB.out
            have c0 := cell_at_block (off := 0) hn1 rfl
            have c1 := cell_at_block (off := 1) hn1 rfl
            obtain ⟨r0, r1⟩ := KY.out.below HB1.out
            clear hb1 hn1 p0 p1
            go_wp2_with fail
            (with_reducible refine (QB.out _ (HW.out.trans (HB1.out.mono HW.out.size))).mono ?_)
            rintro e w2 ⟨rfl, hb2⟩
            have HB2 := Lib.hid (bchain HB1.out hb2)
            clear hb2
            go_wp2_with fail
            go_ret2
            rw [HR.out]
            exact ⟨rfl, HB2.out⟩
          | some v =>
            have hv := belowT_lt hb
            have hband := band_nat (a := u) (b := v) (by omega) (by omega)
            have hbor := bor_nat (a := u) (b := v) (by omega) (by omega)
            by_cases huv : u &&& v = 0
            · have HR : Hid (belowT n (.mk 0 [a, b]) = some (u ||| v)) := by show _ = _; rw [belowT, HA.out, hb]; simp [huv]
              rw [hb] at QB
              have e1 : (((u &&& v : Nat) : Int) != 0) = false := by rw [huv]; rfl
              clear hb huv
              go_enter Tryz.func69, Tryz.ntmps69
              go_wp2_with fail
              (with_reducible refine (QA.out _ (HW.out.trans (HBN.out.mono HW.out.size))).mono ?_)
              rintro e w1 ⟨rfl, hb1⟩
              have HB1 := Lib.hid (bchain HBN.out hb1)
              have hn1 := (hb1.block _ (Array.getElem?_eq_some_iff.1 HNB.out).1).trans HNB.out
              have c0 := cell_at_block (off := 0) hn1 rfl
              have c1 := cell_at_block (off := 1) hn1 rfl
              obtain ⟨r0, r1⟩ := KY.out.below HB1.out
              clear hb1 hn1 p0 p1
              go_wp2_with fail
              (with_reducible refine (QB.out _ (HW.out.trans (HB1.out.mono HW.out.size))).mono ?_)
              rintro e w2 ⟨rfl, hb2⟩
              have HB2 := Lib.hid (bchain HB1.out hb2)
              clear hb2
              go_wp2_with fail
              go_ret2
              rw [HR.out]
              exact ⟨rfl, HB2.out⟩
            · have HR : Hid (belowT n (.mk 0 [a, b]) = none) := by show _ = _; rw [belowT, HA.out, hb]; simp [huv]
              rw [hb] at QB
              have e1 : (((u &&& v : Nat) : Int) != 0) = true := by simp; omega
              clear hb huv
              go_enter Tryz.func69, Tryz.ntmps69
              go_wp2_with fail
              (with_reducible refine (QA.out _ (HW.out.trans (HBN.out.mono HW.out.size))).mono ?_)
              rintro e w1 ⟨rfl, hb1⟩
              have HB1 := Lib.hid (bchain HBN.out hb1)
              have hn1 := (hb1.block _ (Array.getElem?_eq_some_iff.1 HNB.out).1).trans HNB.out
              have c0 := cell_at_block (off := 0) hn1 rfl
              have c1 := cell_at_block (off := 1) hn1 rfl
              obtain ⟨r0, r1⟩ := KY.out.below HB1.out
              clear hb1 hn1 p0 p1
              go_wp2_with fail
              (with_reducible refine (QB.out _ (HW.out.trans (HB1.out.mono HW.out.size))).mono ?_)
              rintro e w2 ⟨rfl, hb2⟩
              have HB2 := Lib.hid (bchain HB1.out hb2)
              clear hb2
              go_wp2_with fail
              go_ret2
              rw [HR.out]
              exact ⟨rfl, HB2.out⟩
      · have HR : Hid (belowT n (.mk tb [a, b]) = none) := by show _ = _; rw [belowT, if_pos ht]
        have e1 : (tb != 0) = true := by simpa using ht
        clear ht
        go_enter Tryz.func69, Tryz.ntmps69
        go_wp2_with fail
        go_ret2
        rw [HR.out]
        exact ⟨rfl, hbn⟩
end Go.Proofs.Bg
end

section
/- Contract: (*sizes).cost. -/
namespace Go.Proofs.Bg
open Go.RowKit

/-- The shape of a formed tree. -/
theorem belowT_shape {n : Int} {T : PTr} {x : Nat} (h : belowT n T = some x) : (∃ t, T = .mk t [] ∧ 0 ≤ t ∧ t < n ∧ x = pw t.toNat) ∨ ∃ a b u v, T = .mk 0 [a, b] ∧ belowT n a = some u ∧ belowT n b = some v ∧ u &&& v = 0 ∧ x = u ||| v := by
  match T, h with
  | .mk t [], h =>
    rw [belowT] at h
    split at h
    · rename_i hh
      cases h
      exact .inl ⟨t, rfl, hh.1, hh.2, rfl⟩
    · cases h
  | .mk t [a, b], h =>
    rw [belowT] at h
    split at h
    · cases h
    · rename_i ht
      have ht : t = 0 := Classical.not_not.1 ht
      subst ht
      cases ha : belowT n a with
      | none => rw [ha] at h; cases h
      | some y =>
        cases hb : belowT n b with
        | none => rw [ha, hb] at h; cases h
        | some z =>
          rw [ha, hb] at h
          simp only [] at h
          split at h
          · cases h
          · rename_i hyz
            cases h
            exact .inr ⟨a, b, y, z, rfl, ha, hb, Classical.not_not.1 hyz, rfl⟩
  | .mk t [a], h => rw [belowT] at h; cases h; all_goals (intros; simp_all)
  | .mk t (a :: b :: c :: r), h => rw [belowT] at h; cases h; all_goals (intros; simp_all)
theorem or_add : ∀ u, u < 32 → ∀ v, v < 32 → u &&& v = 0 → u ||| v = u + v := by decide +kernel
theorem pw5 {n : Nat} (hn : n ≤ 5) : pw n ≤ 32 := Nat.pow_le_pow_right (by decide) hn
theorem sizes_cell {S : List Int} {s : Nat → Nat} (hS : ∀ x, x < 32 → S[x]? = some ((s x : Nat) : Int)) {x : Nat} (hx : x < 32) : (intsV S)[x]? = some (.int .i64 (s x : Nat)) := by
  obtain ⟨h1, h2⟩ := List.getElem?_eq_some_iff.1 (hS x hx)
  rw [intsV_at h1, h2]

/-- What cost hands back, and how great it is. -/
theorem cost_all {w : World} {t : Tr} {T : PTr} (h : TreeAt w 0 t T) {n : Nat} (hn : n ≤ 5) {s : Nat → Nat} (hs : ∀ x, s x ≤ 500) {x : Nat} (hx : belowT n T = some x) : (costT s T).2 = x ∧ (costT s T).1 + 500 ≤ 500 * x := by
  induction h generalizing x with
  | mk t kids ks h hl hk ih =>
    have hlt := belowT_lt hx
    have h32 := pw5 hn
    rcases belowT_shape hx with ⟨t', e, h0, h1, rfl⟩ | ⟨a, b, u, v, e, ha, hb, huv, rfl⟩
    · cases e
      have := pw_pos t.table.toNat
      rw [costT]
      exact ⟨rfl, by simp only []; omega⟩
    · obtain ⟨e1, e2⟩ := PTr.mk.inj e
      subst e2
      have h2 : ks.length = 2 := by rw [hl]; rfl
      obtain ⟨a1, a2⟩ := ih 0 _ a (List.getElem?_eq_getElem (by omega)) rfl ha
      obtain ⟨b1, b2⟩ := ih 1 _ b (List.getElem?_eq_getElem (by omega)) rfl hb
      have hu := belowT_lt ha
      have hv := belowT_lt hb
      have hor := or_add u (by omega) v (by omega) huv
      rw [e1, costT]
      simp only [a1, b1]
      refine ⟨trivial, ?_⟩
      have := hs (u ||| v)
      rw [hor] at this ⊢
      omega

set_option maxRecDepth 100000 in
theorem cost_any {w : World} {t : Tr} {T : PTr} (h : TreeAt w 0 t T) {n : Nat} (hn : n ≤ 5) {s : Nat → Nat} (hs : ∀ x, s x ≤ 500) {S : List Int} (hS : ∀ x, x < 32 → S[x]? = some ((s x : Nat) : Int)) (g : Nat) (hg : w.heap[g]? = some (.cells (intsV S) 95)) : ∀ x, belowT n T = some x → ∀ W, Below w.heap.size w W →
    Calls Tryz.prog 71 #[.pointer (some ⟨g, 0, none⟩), .agg #[.int .i64 t.table, .slice t.kids.A t.kids.n t.kids.cap]] W fun e w' => e = .returned (.tuple #[.int .i64 (((costT s T).1 : Nat) : Int), .int .i64 (x : Nat)]) ∧ Below W.heap.size W w' := by
  induction h with
  | mk t kids ks h hl hk ih =>
    intro x hx W hW
    have HB := Lib.hid (cost_all (.mk t kids ks h hl hk) hn hs hx)
    obtain ⟨tb, kA, kn, kc⟩ := t
    have HH := Lib.hid (h.below hW)
    have HN : Hid (kids.length = kn) := by show _ = _; rw [← hl]; exact h.len
    have hle := h.le
    have HW := Lib.hid hW
    have HIH := Lib.hid ih
    have HKS := Lib.hid hl
    have HK := Lib.hid hk
    have HG := Lib.hid ((hW.block _ (Array.getElem?_eq_some_iff.1 hg).1).trans hg)
    have HX := Lib.hid hx
    simp only [] at hle HH HN
    have hbn := below_new W (.cells #[.int .i64 tb, .slice kA kn kc] 25)
    have hnb := new_block W #[.int .i64 tb, .slice kA kn kc] 25
    have c0 := cell_at_block (off := 0) hnb rfl
    have c1 := cell_at_block (off := 1) hnb rfl
    have hlt := belowT_lt hx
    have h32 := pw5 hn
    clear h hl ih hW hg
    rcases belowT_shape hx with ⟨t', e, h0, h1, e2⟩ | ⟨a, b, u, v, e, ha, hb, huv, e2⟩
    · obtain ⟨e3, e4⟩ := PTr.mk.inj e
      simp only [] at e3
      subst e3 e4
      subst e2
      (try simp only [] at hlt); (try simp only [] at h0); (try simp only [] at h1)
      clear hx hk
      have hk0 : kn = 0 := by have := HN.out; simpa using this.symm
      subst hk0
      obtain ⟨k, rfl⟩ : ∃ k : Nat, tb = (k : Int) := ⟨tb.toNat, by omega⟩
      have hsl : IntKind.i64.wrap (2 ^ k) = ((pw k : Nat) : Int) := shl_nat (by omega)
      have hk64 : (k : Int) < 64 := by omega
      have hk0' : (0 : Int) ≤ k := by omega
      have HC : Hid ((costT s (.mk (k : Int) [])).1 = 0) := by show _ = _; rw [costT]
      go_enter Tryz.func71, Tryz.ntmps71
      go_wp2_with fail
      go_quiet (fail)
      go_wp2_with fail
      go_ret2
      rw [HC.out]
      exact ⟨rfl, below_drewN hbn _⟩
    · obtain ⟨e3, e4⟩ := PTr.mk.inj e
      simp only [] at e3
      subst e3 e4
      have hk0 : kn = 2 := by have := HN.out; simpa using this.symm
      subst hk0
      obtain ⟨b1, off, x1, e1, -, hx1, hcx⟩ := HH.out.at_ (k := 0) (by omega)
      obtain ⟨b2, off2, y1, e5, -, hy1, hcy⟩ := HH.out.at_ (k := 1) (by omega)
      subst e1
      cases e5
      have p0 := hcx 0 _ rfl
      have p1 := hcx 1 _ rfl
      have q0 := hcy 0 _ rfl
      have q1 := hcy 1 _ rfl
      simp only [Nat.zero_mul, Nat.one_mul, Nat.add_zero] at p0 p1 q0 q1
      have KX := Lib.hid (Two.mk p0 p1)
      have KY := Lib.hid (Two.mk q0 q1)
      have QA := Lib.hid (HIH.out 0 x1 a hx1 rfl u ha)
      have QB := Lib.hid (HIH.out 1 y1 b hy1 rfl v hb)
      have BA := cost_all (hk 0 x1 a hx1 rfl) hn hs ha
      have BB := cost_all (hk 1 y1 b hy1 rfl) hn hs hb
      have hu := belowT_lt ha
      have hv := belowT_lt hb
      have hbor := bor_nat (a := u) (b := v) (by omega) (by omega)
      have hor := or_add u (by omega) v (by omega) huv
      have HE2 := Lib.hid e2
      have HC : Hid ((costT s (.mk 0 [a, b])).1 = (costT s a).1 + (costT s b).1 + s x) := by
        show _ = _
        rw [costT, BA.1, BB.1, ← e2]
      have hsx := hs x
      have hsc := sizes_cell hS (x := x) (by omega)
      have hca := BA.2
      have hcb := BB.2
      generalize (costT s a).1 = ca at *
      generalize (costT s b).1 = cb at *
      rw [← e2] at hbor hor
      obtain ⟨r0, r1⟩ := KX.out.below hbn
      have HBN := Lib.hid hbn
      have HNB := Lib.hid hnb
      have hx32 : (x : Int) < 32 := by omega
      have hx0 : (0 : Int) ≤ x := by omega
      have HOR := Lib.hid hor
      clear p0 p1 q0 q1 hx1 hy1 hcx hcy hbn hnb HIH HKS HH hk hx ha hb huv BA BB HK e2 hor
      go_enter Tryz.func71, Tryz.ntmps71
      go_wp2_with fail
      (with_reducible refine (QA.out _ (HW.out.trans (HBN.out.mono HW.out.size))).mono ?_)
      rintro e w1 ⟨rfl, hb1⟩
      have HB1 := Lib.hid (bchain HBN.out hb1)
      have hn1 := (hb1.block _ (Array.getElem?_eq_some_iff.1 HNB.out).1).trans HNB.out
      have c0 := cell_at_block (off := 0) hn1 rfl
      have c1 := cell_at_block (off := 1) hn1 rfl
      obtain ⟨r0, r1⟩ := KY.out.below HB1.out
      clear hb1 hn1
      go_wp2_with fail
      (with_reducible refine (QB.out _ (HW.out.trans (HB1.out.mono HW.out.size))).mono ?_)
      rintro e w2 ⟨rfl, hb2⟩
      have HB2 := Lib.hid (bchain HB1.out hb2)
      have hg2 := (HB2.out.block _ (Array.getElem?_eq_some_iff.1 HG.out).1).trans HG.out
      have cs := cell_at_block (off := x) hg2 hsc
      have w1' : IntKind.i64.wrap ((ca : Int) + cb) = ((ca + cb : Nat) : Int) := by rw [IntWalk.i64_in _ (by omega)]; omega
      have w2' : IntKind.i64.wrap (((ca + cb : Nat) : Int) + (s x : Nat)) = ((ca + cb + s x : Nat) : Int) := by have := HOR.out; rw [IntWalk.i64_in _ (by omega)]; omega
      clear hb2 hg2
      go_wp2_with fail
      go_ret2
      rw [HC.out]
      exact ⟨rfl, HB2.out⟩
end Go.Proofs.Bg
end

section
/- Contract: Cost. -/
namespace Go.Proofs.Bg
open Go.RowKit

def sizeFn (l : List PT) (x : Nat) : Nat := match joinsB l with | some Ts => sizeOf Ts x | none => 0
def costR (l : List PT) (T : PTr) : Int × Int :=
  if !givenB l then (0, 2)
  else match belowT l.length T with
    | some x => if x = pw l.length - 1 then (if joinsE l = 0 then (((costT (sizeFn l) T).1 : Nat), 0) else (0, joinsE l)) else (0, 2)
    | none => (0, 2)
/-- The sizes where all joins are there. -/
theorem sizes_fn {l : List PT} {Ts : List PT} (h : joinsB l = some Ts) (hf : ∀ T ∈ Ts, Formed T) : (∀ x, sizeFn l x ≤ 500) ∧ ∀ x, x < 32 → (sz32 Ts)[x]? = some ((sizeFn l x : Nat) : Int) := by
  have e : ∀ x, sizeFn l x = (Ts.getD x ⟨[], []⟩).rows.length := fun x => by unfold sizeFn; rw [h]; rfl
  refine ⟨fun x => ?_, fun x hx => ?_⟩
  · rw [e]
    by_cases hl : x < Ts.length
    · have : Ts.getD x ⟨[], []⟩ = Ts[x] := by simp [hl]
      rw [this]
      exact (hf _ (List.getElem_mem hl)).most
    · have : Ts.getD x ⟨[], []⟩ = ⟨[], []⟩ := by simp [List.getElem?_eq_none (Nat.le_of_not_lt hl)]
      rw [this]
      decide
  · rw [e]
    simp [sz32, hx]
theorem formed_empty : Formed ⟨[], []⟩ := ⟨rfl, by decide, (fun r hr => by cases hr), List.Pairwise.nil⟩
theorem formed_getD {l : List PT} (h : ∀ T ∈ l, Formed T) (x : Nat) : Formed (l.getD x ⟨[], []⟩) := by
  by_cases hl : x < l.length
  · have : l.getD x ⟨[], []⟩ = l[x] := by simp [hl]
    rw [this]
    exact h _ (List.getElem_mem hl)
  · have : l.getD x ⟨[], []⟩ = ⟨[], []⟩ := by simp [List.getElem?_eq_none (Nat.le_of_not_lt hl)]
    rw [this]
    exact formed_empty
theorem joinsFrom_formed {l : List PT} (h : ∀ T ∈ l, Formed T) : ∀ (n x : Nat) (out Ts : List PT), (∀ T ∈ out, Formed T) → joinsFrom l n x out = some Ts → ∀ T ∈ Ts, Formed T
  | 0, x, out, Ts, ho, hj => by rw [joinsFrom] at hj; cases hj; exact ho
  | n + 1, x, out, Ts, ho, hj => by
    have snoc : ∀ t, Formed t → ∀ T ∈ out ++ [t], Formed T := fun t ht T hT => by
      rcases List.mem_append.1 hT with hT | hT
      · exact ho T hT
      · simp at hT; subst hT; exact ht
    rw [joinsFrom] at hj
    split at hj
    · exact joinsFrom_formed h n _ _ Ts (snoc _ (formed_getD h _)) hj
    · cases hjb : joinB (out.getD (x - pw (lastT x)) ⟨[], []⟩) (l.getD (lastT x) ⟨[], []⟩) with
      | none => rw [hjb] at hj; cases hj
      | some t =>
        rw [hjb] at hj
        exact joinsFrom_formed h n _ _ Ts (snoc _ (joinB_formed (formed_getD ho _) (formed_getD h _) hjb)) hj
theorem given_formed {l : List PT} (h : givenB l = true) : ∀ T ∈ l, Formed T := by
  simp only [givenB, Bool.and_eq_true, decide_eq_true_eq, List.all_eq_true] at h
  exact fun T hT => formed_of (h.2 T hT).1
theorem given_len {l : List PT} (h : givenB l = true) : 1 ≤ l.length ∧ l.length ≤ 5 := by
  simp only [givenB, Bool.and_eq_true, decide_eq_true_eq, List.all_eq_true] at h
  exact h.1
theorem joinsB_formed {l : List PT} {Ts : List PT} (h : givenB l = true) (hj : joinsB l = some Ts) : ∀ T ∈ Ts, Formed T :=
  joinsFrom_formed (given_formed h) _ _ _ _ (fun T hT => by simp at hT; subst hT; exact formed_empty) hj
theorem joinsE_ok {l : List PT} (h : joinsE l = 0) : givenB l = true ∧ ∃ Ts, joinsB l = some Ts := by
  unfold joinsE at h
  cases hg : givenB l with
  | false => rw [hg] at h; simp at h
  | true =>
    rw [hg] at h
    cases hj : joinsB l with
    | none => rw [hj] at h; simp at h
    | some Ts => exact ⟨rfl, Ts, rfl⟩
/-- What sizesOf hands back, for the callers. -/
theorem sizesOf_any2 (A : Option Addr) (n cap : Nat) (l : List PT) (w : World) (h : TabsAt w 0 A n l) :
    Calls Tryz.prog 70 #[.slice A n cap] w fun e w' => ∃ S, e = .returned (.tuple #[.agg (intsV S), .int .i64 (joinsE l)]) ∧ S.length = 32 ∧ (joinsE l = 0 → (∀ x, sizeFn l x ≤ 500) ∧ ∀ x, x < 32 → S[x]? = some ((sizeFn l x : Nat) : Int)) ∧ Below w.heap.size w w' := by
  refine (sizesOf_any A n cap l w h).mono fun e w' ⟨he, hb⟩ => ⟨sizesR l, he, ?_, fun h0 => ?_, hb⟩
  · by_cases h0 : joinsE l = 0
    · obtain ⟨_, Ts, hj⟩ := joinsE_ok h0
      rw [sizesR_ok h0 hj, sz32_length]
    · rw [sizesR_no h0, List.length_replicate]
  · obtain ⟨hg, Ts, hj⟩ := joinsE_ok h0
    rw [sizesR_ok h0 hj]
    exact sizes_fn hj (joinsB_formed hg hj)

set_option maxRecDepth 100000 in
set_option maxHeartbeats 1000000 in
theorem Cost_any (A : Option Addr) (n cap : Nat) (l : List PT) (t : Tr) (T : PTr) (w : World) (h : TabsAt w 0 A n l) (ht : TreeAt w 0 t T) :
    Calls Tryz.prog 13 #[.slice A n cap, .agg #[.int .i64 t.table, .slice t.kids.A t.kids.n t.kids.cap]] w fun e w' => e = .returned (.tuple #[.int .i64 (costR l T).1, .int .i64 (costR l T).2]) ∧ Below w.heap.size w w' := by
  have hbn := below_new w (.cells #[.int .i64 t.table, .slice t.kids.A t.kids.n t.kids.cap] 25)
  have hnb := new_block w #[.int .i64 t.table, .slice t.kids.A t.kids.n t.kids.cap] 25
  have HL : Hid (l.length = n) := h.len
  have Q1 := Lib.hid (Check_any A n cap l _ (h.below hbn))
  have HBN := Lib.hid hbn
  have HNB := Lib.hid hnb
  have H := Lib.hid h
  have HT := Lib.hid ht
  have hle := h.le
  clear hbn hnb h ht
  cases hgv : givenB l with
  | false =>
    rw [hgv] at Q1
    have HR : Hid (costR l T = (0, 2)) := by show _ = _; simp [costR, hgv]
    clear hgv
    go_enter Tryz.func13, Tryz.ntmps13
    go_wp2_with fail
    (with_reducible refine Q1.out.mono ?_)
    rintro e w1 ⟨rfl, hb1⟩
    have HB1 := Lib.hid (bchain HBN.out hb1)
    clear hb1 Q1
    go_wp2_with fail
    go_ret2
    rw [HR.out]
    exact ⟨rfl, HB1.out⟩
  | true =>
    rw [hgv] at Q1
    have hlen := given_len hgv
    rw [HL.out] at hlen
    have HGV := Lib.hid hgv
    have Q2 := Lib.hid (below_any HT.out n (by omega))
    obtain ⟨p, hp⟩ : ∃ p, belowT (n : Int) T = p := ⟨_, rfl⟩
    rw [hp] at Q2
    have hsl : IntKind.i64.wrap (2 ^ n) = ((pw n : Nat) : Int) := shl_nat (by omega)
    have hn0 : (0 : Int) ≤ n := by omega
    have hn64 : (n : Int) ≤ 64 := by omega
    have hpn := pw5 hlen.2
    have hpn1 := pw_pos n
    obtain ⟨al, hal⟩ : ∃ al, pw n = al + 1 := ⟨pw n - 1, by omega⟩
    rw [hal] at hsl
    have hal31 : al < 32 := by omega
    have HP := Lib.hid hp
    have HAL := Lib.hid hal
    clear hgv hp hal
    cases p with
    | none =>
      have HR : Hid (costR l T = (0, 2)) := by show _ = _; unfold costR; rw [HGV.out, HL.out, HP.out]; rfl
      go_enter Tryz.func13, Tryz.ntmps13
      go_wp2_with fail
      (with_reducible refine Q1.out.mono ?_)
      rintro e w1 ⟨rfl, hb1⟩
      have HB1 := Lib.hid (bchain HBN.out hb1)
      have hn1 := (hb1.block _ (Array.getElem?_eq_some_iff.1 HNB.out).1).trans HNB.out
      have c0 := cell_at_block (off := 0) hn1 rfl
      have c1 := cell_at_block (off := 1) hn1 rfl
      clear hb1 Q1 hn1
      go_wp2_with fail
      (with_reducible refine (Q2.out _ HB1.out).mono ?_)
      rintro e w2 ⟨rfl, hb2⟩
      have HB2 := Lib.hid (bchain HB1.out hb2)
      clear hb2 c0 c1
      go_wp2_with fail
      go_ret2
      rw [HR.out]
      exact ⟨rfl, HB2.out⟩
    | some x =>
      have hxl := belowT_lt HP.out
      by_cases hx : x = al
      · subst hx
        have e1 : ((x : Int) != (x : Int)) = false := by simp
        have Q3 := Lib.hid (fun W (hW : Below w.heap.size w W) => sizesOf_any2 A n cap l W (H.out.below hW))
        by_cases hE : joinsE l = 0
        · have HR : Hid (costR l T = ((((costT (sizeFn l) T).1 : Nat) : Int), 0)) := by show _ = _; unfold costR; rw [HGV.out, HL.out, HP.out, HAL.out, hE]; simp
          go_enter Tryz.func13, Tryz.ntmps13
          go_wp2_with fail
          (with_reducible refine Q1.out.mono ?_)
          rintro e w1 ⟨rfl, hb1⟩
          have HB1 := Lib.hid (bchain HBN.out hb1)
          have hn1 := (hb1.block _ (Array.getElem?_eq_some_iff.1 HNB.out).1).trans HNB.out
          have c0 := cell_at_block (off := 0) hn1 rfl
          have c1 := cell_at_block (off := 1) hn1 rfl
          have HN1 := Lib.hid hn1
          clear hb1 Q1 hn1
          go_wp2_with fail
          (with_reducible refine (Q2.out _ HB1.out).mono ?_)
          rintro e w2 ⟨rfl, hb2⟩
          have HB2 := Lib.hid (bchain HB1.out hb2)
          have HN2 := Lib.hid ((hb2.block _ (Array.getElem?_eq_some_iff.1 HN1.out).1).trans HN1.out)
          clear hb2 c0 c1 Q2 HN1
          go_wp2_with fail
          (with_reducible refine (Q3.out _ HB2.out).mono ?_)
          rintro e w3 ⟨S, rfl, hSl, hSok, hb3⟩
          obtain ⟨hs5, hsS⟩ := hSok hE
          have HB3 := Lib.hid (bchain HB2.out hb3)
          have HN3 := Lib.hid ((hb3.block _ (Array.getElem?_eq_some_iff.1 HN2.out).1).trans HN2.out)
          obtain ⟨q1, q2⟩ := setRow_at (new_block w3 (intsV (List.replicate 32 0)) 95) (intsV S)
          have hb4 : Below w3.heap.size w3 ((w3.alloc (.cells (intsV (List.replicate 32 0)) 95)).setRow w3.heap.size (intsV S)) := below_row (below_new w3 _) q2 (fun j e => by cases e; exact Nat.le_refl _)
          have hn4 := (hb4.block _ (Array.getElem?_eq_some_iff.1 HN3.out).1).trans HN3.out
          obtain ⟨W4, hW4⟩ : ∃ W4, (w3.alloc (.cells (intsV (List.replicate 32 0)) 95)).setRow w3.heap.size (intsV S) = W4 := ⟨_, rfl⟩
          rw [hW4] at q1 hb4 hn4
          have HB4 := Lib.hid (bchain HB3.out hb4)
          have c0 := cell_at_block (off := 0) hn4 rfl
          have c1 := cell_at_block (off := 1) hn4 rfl
          have Q4 := Lib.hid (cost_any (HT.out.keep HB4.out) hlen.2 hs5 hsS w3.heap.size q1 x HP.out W4 (Below.refl _ _))
          have HW4 := Lib.hid hW4
          clear hb3 hSok hs5 hsS q1 q2 hb4 hn4 hW4 Q3 HN2 HN3
          go_wp2_with (refine wpList_store_row rfl 95 _ _ rfl w3.heap.size (intsV S) rfl rfl 95 (intsV (List.replicate 32 0)) (new_block w3 (intsV (List.replicate 32 0)) 95) (by rw [intsV_size, hSl]; kernel_rfl) (by rw [intsV_size, intsV_size, hSl, List.length_replicate]) (intsV_one _) ?_; change wpList _ _ _ _ _ ((w3.alloc (.cells (intsV (List.replicate 32 0)) 95)).setRow w3.heap.size (intsV S)); rw [HW4.out])
          (with_reducible refine Q4.out.mono ?_)
          rintro e w5 ⟨rfl, hb5⟩
          have HB5 := Lib.hid (bchain HB4.out hb5)
          clear hb5 c0 c1
          go_wp2_with fail
          go_ret2
          rw [HR.out]
          exact ⟨rfl, HB5.out⟩
        · have HR : Hid (costR l T = (0, joinsE l)) := by show _ = _; unfold costR; rw [HGV.out, HL.out, HP.out, HAL.out]; simp [hE]
          have hE1 : (joinsE l != 0) = true := by simpa using hE
          go_enter Tryz.func13, Tryz.ntmps13
          go_wp2_with fail
          (with_reducible refine Q1.out.mono ?_)
          rintro e w1 ⟨rfl, hb1⟩
          have HB1 := Lib.hid (bchain HBN.out hb1)
          have hn1 := (hb1.block _ (Array.getElem?_eq_some_iff.1 HNB.out).1).trans HNB.out
          have c0 := cell_at_block (off := 0) hn1 rfl
          have c1 := cell_at_block (off := 1) hn1 rfl
          clear hb1 Q1 hn1
          go_wp2_with fail
          (with_reducible refine (Q2.out _ HB1.out).mono ?_)
          rintro e w2 ⟨rfl, hb2⟩
          have HB2 := Lib.hid (bchain HB1.out hb2)
          clear hb2 c0 c1 Q2
          go_wp2_with fail
          (with_reducible refine (Q3.out _ HB2.out).mono ?_)
          rintro e w3 ⟨S, rfl, hSl, -, hb3⟩
          have HB3 := Lib.hid (bchain HB2.out hb3)
          have hb4 := below_row (below_new w3 _) (setRow_at (new_block w3 (intsV (List.replicate 32 0)) 95) (intsV S)).2 (fun j e => by cases e; exact Nat.le_refl _)
          have HB4 := Lib.hid (bchain HB3.out hb4)
          clear hb3 Q3 hb4
          go_wp2_with (refine wpList_store_row rfl 95 _ _ rfl w3.heap.size (intsV S) rfl rfl 95 (intsV (List.replicate 32 0)) (new_block w3 (intsV (List.replicate 32 0)) 95) (by rw [intsV_size, hSl]; kernel_rfl) (by rw [intsV_size, intsV_size, hSl, List.length_replicate]) (intsV_one _) ?_)
          go_ret2
          rw [HR.out]
          exact ⟨rfl, HB4.out⟩
      · have HR : Hid (costR l T = (0, 2)) := by show _ = _; unfold costR; rw [HGV.out, HL.out, HP.out, HAL.out]; simp [hx]
        have e1 : ((x : Int) != (al : Int)) = true := by simp; omega
        clear hx
        go_enter Tryz.func13, Tryz.ntmps13
        go_wp2_with fail
        (with_reducible refine Q1.out.mono ?_)
        rintro e w1 ⟨rfl, hb1⟩
        have HB1 := Lib.hid (bchain HBN.out hb1)
        have hn1 := (hb1.block _ (Array.getElem?_eq_some_iff.1 HNB.out).1).trans HNB.out
        have c0 := cell_at_block (off := 0) hn1 rfl
        have c1 := cell_at_block (off := 1) hn1 rfl
        clear hb1 Q1 hn1
        go_wp2_with fail
        (with_reducible refine (Q2.out _ HB1.out).mono ?_)
        rintro e w2 ⟨rfl, hb2⟩
        have HB2 := Lib.hid (bchain HB1.out hb2)
        clear hb2 c0 c1
        go_wp2_with fail
        go_ret2
        rw [HR.out]
        exact ⟨rfl, HB2.out⟩
end Go.Proofs.Bg
end

section
/- Parts of quick trees in memory; slices.Delete at parts. -/
namespace Go.Proofs.Bg
open Go.RowKit

structure Pt where
  t : Tr
  set : Nat
def Pt.vs (p : Pt) : List Value := [.int .i64 p.t.table, .slice p.t.kids.A p.t.kids.n p.t.kids.cap, .int .i64 p.set]
theorem Pt.vs_length (p : Pt) : p.vs.length = 3 := rfl
theorem Pt.one (p : Pt) : ∀ u ∈ p.vs, u.oneCell' = true := by simp [Pt.vs, Value.oneCell']
theorem Own.prefix {α : Type} {enc : α → List Value} {sz : Nat} {T : TypeId} {base g n cap : Nat} {w : World} {l : List α} (hs : ∀ x, (enc x).length = sz) (h : Own enc sz T base w (.slice (some ⟨g, 0, none⟩) n cap) l) (i : Nat) (hi : i ≤ l.length) : Own enc sz T base w (.slice (some ⟨g, 0, none⟩) i cap) (l.take i) := by
  have hn := h.len
  subst hn
  obtain ⟨h1, h2⟩ := h
  have hlen : (l.take i).length = i := by simp; omega
  have hfl : (l.take i).flatMap enc = (l.flatMap enc).take (i * sz) := by
    have e : l.flatMap enc = (l.take i).flatMap enc ++ (l.drop i).flatMap enc := by rw [← List.flatMap_append, List.take_append_drop]
    rw [e]
    exact (List.take_left' (by rw [flat_length hs, hlen])).symm
  refine ⟨by rw [flat_length hs], ?_⟩
  rcases h2 with ⟨e, _⟩ | ⟨g', cap', cur, e, hb, hh, b1, b2, b3, b4⟩
  · cases e
  · cases e
    refine .inr ⟨g, cap, cur, by rw [hlen], hb, hh, by omega, b2, b3, ?_⟩
    rw [hfl, hlen, ← b4, List.take_take]
    congr 1
    have : i * sz ≤ l.length * sz := Nat.mul_le_mul_right _ hi
    omega
/-- Cells behind what is owned may be set. -/
theorem Own.beyond {α : Type} {enc : α → List Value} {sz : Nat} {T : TypeId} {base g n cap : Nat} {w : World} {l : List α} (_ : ∀ x, (enc x).length = sz) (h : Own enc sz T base w (.slice (some ⟨g, 0, none⟩) n cap) l) (j : Nat) (hj : l.length * sz ≤ j) (u : Value) : Own enc sz T base (w.setCell ⟨g, j, none⟩ u) (.slice (some ⟨g, 0, none⟩) n cap) l ∧ w.grownBy (w.setCell ⟨g, j, none⟩ u) (some g) := by
  obtain ⟨h1, h2⟩ := h
  rcases h2 with ⟨e, _⟩ | ⟨g', cap', cur, e, hb, hh, b1, b2, b3, b4⟩
  · cases e
  · cases e
    obtain ⟨q1, q2⟩ := setCell_at (off := j) hh u
    refine ⟨⟨h1, .inr ⟨g, cap, cur.setIfInBounds j u, rfl, hb, q1, b1, b2, by simp [b3], ?_⟩⟩, q2⟩
    rw [Array.toList_setIfInBounds, List.take_set]
    rw [List.set_eq_of_length_le (by simp; omega)]
    exact b4
theorem Own.cellAny {α : Type} {enc : α → List Value} {sz : Nat} {T : TypeId} {base g n cap : Nat} {w : World} {l : List α} (h : Own enc sz T base w (.slice (some ⟨g, 0, none⟩) n cap) l) {j : Nat} (hj : j < cap * sz) : (∃ v, w.cell? ⟨g, j, none⟩ = some v) ∧ w.frozen? ⟨g, j, none⟩ = false := by
  obtain ⟨h1, h2⟩ := h
  rcases h2 with ⟨e, _⟩ | ⟨g', cap', cur, e, hb, hh, b1, b2, b3, b4⟩
  · cases e
  · cases e
    exact ⟨⟨_, cell_at_block (off := j) hh (Array.getElem?_eq_getElem (by omega))⟩, free_at_block hh⟩
/-- append within the capacity of what is owned, at a step of a region that draws. -/
theorem step_append_fits {P : Program} {ops : Array Oper} {o : Oper} {a : Act} {w : World} {K : Act → World → Prop} {Q : Exit → Act → World → Prop} {E : Prop}
    (hg : o.guard = none) (s x : Operand) (t : TypeId) (hop : o.op = Op.call { callee := Callee.builtin Builtin.append, args := #[s, x], argTypes := #[t, t] })
    (base : Nat) (e : TypeId) (i : TypeInfo) (size : Nat) (h1 : P.underlying t = some (.slice e)) (h2 : P.info? e = some i) (h4 : i.size = size)
    (g k cap : Nat) (xs : List Value) (hs : a.eval s = .slice (some ⟨g, 0, none⟩) k cap) (hown : w.ownsRow base e size (.slice (some ⟨g, 0, none⟩) k cap) k xs) (ad : Addr) (m c : Nat) (news : List Value) (hx : a.eval x = .slice (some ad) m c) (hn : news.length = m * size)
    (hc : ∀ j u, news[j]? = some u → w.cell? (ad.add j) = some u) (h1c : ∀ u ∈ news, u.oneCell' = true) (b1 : k + m ≤ cap)
    (hK : ∀ w', w'.ownsRow base e size (.slice (some ⟨g, 0, none⟩) (k + m) cap) (k + m) (xs ++ news) → w.grownBy w' (some g) → K (a.put o.dst (.slice (some ⟨g, 0, none⟩) (k + m) cap)) w') :
    if Region.wanted o (yielded ops a.tmps) = true then Oper.wp P o a w K Q else E := by
  have hw : Region.wanted o (yielded ops a.tmps) = true := by simp [Region.wanted, hg]
  rw [if_pos hw]
  obtain ⟨w', hrun, r1, r2⟩ := run_append_fits (P := P) w base t o.type e i size h1 h2 h4 g k cap xs hown ad m c news hn hc h1c b1
  unfold Oper.wp
  simp [execOp, hop, resolve, invoke, builtin, hs, hx, hrun, Result.andThen]
  exact hK w' r1 r2
theorem infoPart : (Tryz.prog.info? 115).map (fun i => (i.zero, i.size, i.bytes)) = some (some (.agg #[.int .i64 0, .slice none 0 0, .int .i64 0]), 3, 40) := by kernel_rfl
end Go.Proofs.Bg
end

section
/- Contract: slices.Delete at parts: one element. -/
namespace Go.Proofs.Bg
open Go.RowKit

theorem own_news {base g cap : Nat} {w : World} {l : List Pt} (h : Own Pt.vs 3 115 base w (.slice (some ⟨g, 0, none⟩) l.length cap) l) (j : Nat) : ∀ k u, ((l.drop j).flatMap Pt.vs)[k]? = some u → w.cell? ((⟨g, j * 3, none⟩ : Addr).add k) = some u := by
  intro k u hu
  have hlen := flat_length Pt.vs_length (l.drop j)
  have hk : k < ((l.drop j).flatMap Pt.vs).length := (List.getElem?_eq_some_iff.1 hu).1
  rw [hlen, List.length_drop] at hk
  have hadd : (⟨g, j * 3, none⟩ : Addr).add k = ⟨g, j * 3 + k, none⟩ := by unfold Addr.add; split <;> simp_all
  have hd : k / 3 < (l.drop j).length := by rw [List.length_drop]; omega
  have hx : (l.drop j)[k / 3]? = some (l.drop j)[k / 3] := List.getElem?_eq_getElem hd
  generalize (l.drop j)[k / 3] = x at hx
  have hm : k % 3 < x.vs.length := by rw [Pt.vs_length]; omega
  have hv : x.vs[k % 3]? = some (x.vs[k % 3]'hm) := List.getElem?_eq_getElem hm
  have hf := flat_at Pt.vs_length (l.drop j) _ _ hx _ _ hv
  have hjj : k / 3 * 3 + k % 3 = k := by omega
  rw [hjj, hu] at hf
  rw [List.getElem?_drop] at hx
  have hlt : j + k / 3 < l.length := (List.getElem?_eq_some_iff.1 hx).1
  obtain ⟨g', y, e, _, _, _, hy, hc, _⟩ := Own.at_ Pt.vs_length h (i := j + k / 3) hlt
  cases e
  rw [hx] at hy
  cases hy
  have := hc (k % 3) _ hv
  rw [hadd]
  have e2 : j * 3 + k = (j + k / 3) * 3 + k % 3 := by omega
  rw [e2, this]
  exact hf.symm

/-- One part's cells cleared. -/
theorem run_clear1 (w : World) (g k c : Nat) (h : ∀ j, j < 3 → (∃ v, w.cell? ⟨g, k + j, none⟩ = some v) ∧ w.frozen? ⟨g, k + j, none⟩ = false) :
    (Builtin.clear_ #[113] 0 #[.slice (some ⟨g, k, none⟩) 1 c]).run Tryz.prog w = .ok (.tuple #[]) (((w.setCell ⟨g, k, none⟩ (.int .i64 0)).setCell ⟨g, k + 1, none⟩ (.slice none 0 0)).setCell ⟨g, k + 2, none⟩ (.int .i64 0)) := by
  have hv : ∀ w, (zeroValue 115).run Tryz.prog w = .ok (.agg #[.int .i64 0, .slice none 0 0, .int .i64 0]) w := fun w => by kernel_rfl
  have hz : (Builtin.zeroCells (Value.agg #[.int .i64 0, .slice none 0 0, .int .i64 0]).cells 1).toList = [.int .i64 0, .slice none 0 0, .int .i64 0] := by kernel_rfl
  have hst := run_storeCells_cells (P := Tryz.prog) g k [.int .i64 0, .slice none 0 0, .int .i64 0] 0 w (fun j hj => by obtain ⟨v, hv⟩ := (h j hj).1; show (w.cell? ⟨g, k + j, none⟩).isSome = true; rw [hv]; rfl) (fun j hj => (h j hj).2) (by intro v hv; simp at hv; rcases hv with rfl | rfl | rfl <;> rfl)
  simp only [Nat.add_zero] at hst
  simp [Builtin.clear_, run_underlying Tryz.underlying113, hv, hz, hst, Result.andThen, World.setCells]

set_option maxRecDepth 100000 in
set_option maxHeartbeats 1000000 in
theorem DelPt_any (base g cap i : Nat) (l : List Pt) (w : World) (h : Own Pt.vs 3 115 base w (.slice (some ⟨g, 0, none⟩) l.length cap) l) (hi : i < l.length) (hl : l.length ≤ 1000) :
    Calls Tryz.prog 83 #[.slice (some ⟨g, 0, none⟩) l.length cap, .int .i64 i, .int .i64 ((i : Int) + 1)] w fun e w' => e = .returned (.slice (some ⟨g, 0, none⟩) (l.length - 1) cap) ∧ Own Pt.vs 3 115 base w' (.slice (some ⟨g, 0, none⟩) (l.length - 1) cap) (l.eraseIdx i) ∧ w.grownBy w' (some g) := by
  have hcap := Own.capLe h
  have hcap2 := h.capMax
  obtain ⟨n, hn⟩ : ∃ n, l.length = n := ⟨_, rfl⟩
  have HN := Lib.hid hn
  obtain ⟨i0, hi0, hz0, hz1, hz2⟩ := info_parts infoPart
  have HP : Hid (w.drew.ownsRow base 115 3 (.slice (some ⟨g, 0, none⟩) i cap) i ((l.take i).flatMap Pt.vs)) := by
    have h1 := Own.prefix Pt.vs_length h i (by omega)
    unfold Own at h1
    have h2 : (l.take i).length = i := by simp; omega
    rw [h2] at h1
    exact World.ownsRow.drew h1
  have HNEWS := Lib.hid (own_news h (i + 1))
  have H := Lib.hid h
  rw [hn] at hcap hi hl H ⊢
  have b0 : (0 : Int) ≤ i := by omega
  have b1 : (i : Int) < n := by omega
  have b2 : (i : Int) + 1 ≤ n := by omega
  have b3 : (n : Int) ≤ cap := by omega
  have b4 : (i : Int) ≤ cap := by omega
  have b5 : (i : Int) + 1 ≤ cap := by omega
  have b6 : (0 : Int) ≤ (i : Int) + 1 := by omega
  have hdl : (l.drop (i + 1)).length = n - (i + 1) := by rw [List.length_drop, hn]
  have HDL := Lib.hid hdl
  have e1 : ((i : Int) == (i : Int) + 1) = false := by simp; omega
  clear h hn hdl
  go_enter Tryz.func83, Tryz.ntmps83
  go_wp2_with fail
  have S1 : Hid (((l.drop (i + 1)).flatMap Pt.vs).length = (n - (i + 1)) * 3) := by show _ = _; rw [flat_length Pt.vs_length, HDL.out]
  have S2 : Hid (∀ u ∈ (l.drop (i + 1)).flatMap Pt.vs, u.oneCell' = true) := by
    show ∀ u ∈ (l.drop (i + 1)).flatMap Pt.vs, u.oneCell' = true
    intro u hu
    obtain ⟨x, _, hx⟩ := List.mem_flatMap.1 hu
    exact Pt.one x u hx
  obtain ⟨ad, had, hnw⟩ : ∃ ad : Addr, (if cap = i + 1 then some (⟨g, 0, none⟩ : Addr) else some ⟨g, (i + 1) * 3, none⟩) = some ad ∧ ∀ k u, ((l.drop (i + 1)).flatMap Pt.vs)[k]? = some u → w.cell? (ad.add k) = some u := by
    by_cases hc : cap = i + 1
    · refine ⟨⟨g, 0, none⟩, by rw [if_pos hc], fun k u hu => ?_⟩
      have : l.drop (i + 1) = [] := List.drop_eq_nil_of_le (by rw [HN.out]; omega)
      rw [this] at hu
      simp at hu
    · exact ⟨⟨g, (i + 1) * 3, none⟩, by rw [if_neg hc], HNEWS.out⟩
  have HNW := Lib.hid hnw
  clear hnw HNEWS
  go_region_law (refine step_append_fits rfl (.tmp 22) (.tmp 25) 113 rfl base 115 i0 3 Tryz.underlying113 hi0 hz1 g i cap ((l.take i).flatMap Pt.vs) (by simp [Act.eval, Act.put]) HP.out ad (n - (i + 1)) (cap - (i + 1)) ((l.drop (i + 1)).flatMap Pt.vs) (by simp [Act.eval, Act.put]) S1.out HNW.out S2.out (by omega) ?_; intro w1 hown1 hg1)
  have hn1 : i + (n - (i + 1)) = n - 1 := by omega
  have ho1 : Own Pt.vs 3 115 base w1 (.slice (some ⟨g, 0, none⟩) (n - 1) cap) (l.eraseIdx i) := by
    have hlen : (l.eraseIdx i).length = n - 1 := by rw [List.length_eraseIdx, HN.out, if_pos hi]
    unfold Own
    rw [hlen, List.eraseIdx_eq_take_drop_succ, List.flatMap_append, ← hn1]
    exact hown1
  have HO1 := Lib.hid ho1
  have HG1 : Hid (w.grownBy w1 (some g)) := ⟨hg1.os, hg1.tape, hg1.output, hg1.size, hg1.block⟩
  have b7 : ((n - 1 : Nat) : Int) ≤ n := by omega
  have b8 : (0 : Int) ≤ ((n - 1 : Nat) : Int) := by omega
  have b9 : ((n - 1 : Nat) : Int) ≤ cap := by omega
  rw [hn1]
  clear hown1 hg1 ho1 hn1 HP HNW S1 S2 had
  have e3 : n - (n - 1) = 1 := by omega
  have hcl : ∀ c, (Builtin.clear_ #[113] 0 #[.slice (some ⟨g, (n - 1) * 3, none⟩) (n - (n - 1)) c]).run Tryz.prog w1 = .ok (.tuple #[]) (((w1.setCell ⟨g, (n - 1) * 3, none⟩ (.int .i64 0)).setCell ⟨g, (n - 1) * 3 + 1, none⟩ (.slice none 0 0)).setCell ⟨g, (n - 1) * 3 + 2, none⟩ (.int .i64 0)) := fun c => by
    rw [e3]
    exact run_clear1 w1 g ((n - 1) * 3) c (fun j hj => HO1.out.cellAny (j := (n - 1) * 3 + j) (by omega))
  have hel : (l.eraseIdx i).length = n - 1 := by rw [List.length_eraseIdx, HN.out, if_pos hi]
  obtain ⟨p1, p2⟩ := HO1.out.beyond Pt.vs_length ((n - 1) * 3) (by rw [hel]; exact Nat.le_refl _) (.int .i64 0)
  obtain ⟨p3, p4⟩ := p1.beyond Pt.vs_length ((n - 1) * 3 + 1) (by rw [hel]; omega) (.slice none 0 0)
  obtain ⟨p5, p6⟩ := p3.beyond Pt.vs_length ((n - 1) * 3 + 2) (by rw [hel]; omega) (.int .i64 0)
  have HP5 := Lib.hid p5
  have HG5 := Lib.hid (((HG1.out.then_ p2 (fun _ e => .inr e)).then_ p4 (fun _ e => .inr e)).then_ p6 (fun _ e => .inr e))
  clear p1 p2 p3 p4 p5 p6 hel e3
  go_wp2_with fail
  go_ret
  exact ⟨rfl, HP5.out, HG5.out⟩
end Go.Proofs.Bg
end

section
/- Plain words for Quick. -/
namespace Go.Proofs.Bg
open Go.RowKit

theorem TreeAt.far {w w' : World} {lo g : Nat} {t : Tr} {T : PTr} (h : TreeAt w lo t T) (hg : w.grownBy w' (some g)) (hlt : g < lo) : TreeAt w' lo t T := by
  induction h with
  | mk t kids ks h hl _ ih =>
    exact .mk t kids ks (Rd.grown h hg (by decide) Tr.vs_length (fun hn b off e ee => by
      obtain ⟨b', off', e', hlo, _⟩ := h.2.2 hn
      cases ee
      rw [e] at e'
      cases e'
      omega)) hl ih
theorem TreeAt.leaf (w : World) (lo : Nat) (k : Int) : TreeAt w lo ⟨k, ⟨none, 0, 0⟩⟩ (.mk k []) := .mk ⟨k, ⟨none, 0, 0⟩⟩ [] [] (Rd.nil _ _ _) rfl (fun i x y h => by simp at h)
theorem TreeAt.node {w : World} {lo gk : Nat} {ta tb : Tr} {A B : PTr} (h : w.heap[gk]? = some (.cells #[.int .i64 ta.table, .slice ta.kids.A ta.kids.n ta.kids.cap, .int .i64 tb.table, .slice tb.kids.A tb.kids.n tb.kids.cap] 25)) (hlo : lo ≤ gk) (ha : TreeAt w lo ta A) (hb : TreeAt w lo tb B) (c : Nat) : TreeAt w lo ⟨0, ⟨some ⟨gk, 0, none⟩, 2, c⟩⟩ (nodeT A B) := by
  refine .mk ⟨0, ⟨some ⟨gk, 0, none⟩, 2, c⟩⟩ [A, B] [ta, tb] ⟨rfl, by simp, fun _ => ⟨gk, 0, rfl, hlo, fun i x hx j v hv => ?_⟩⟩ rfl (fun i x y hx hy => ?_)
  · match i with
    | 0 =>
      cases hx
      match j with
      | 0 => cases hv; exact cell_at_block (off := 0) h rfl
      | 1 => cases hv; exact cell_at_block (off := 1) h rfl
      | j + 2 => simp [Tr.vs] at hv
    | 1 =>
      cases hx
      match j with
      | 0 => cases hv; exact cell_at_block (off := 2) h rfl
      | 1 => cases hv; exact cell_at_block (off := 3) h rfl
      | j + 2 => simp [Tr.vs] at hv
    | i + 2 => simp at hx
  · match i with
    | 0 => cases hx; cases hy; exact ha
    | 1 => cases hx; cases hy; exact hb
    | i + 2 => simp at hx
/-- Parts in memory. -/
def PAt (w : World) (lo : Nat) (ps : List Pt) (P : List (PTr × Nat)) : Prop := All2 (fun p q => p.set = q.2 ∧ TreeAt w lo p.t q.1) ps P
theorem PAt.below {w w' : World} {lo : Nat} {ps : List Pt} {P : List (PTr × Nat)} (h : PAt w lo ps P) (hb : Below w.heap.size w w') : PAt w' lo ps P := All2.mono h fun _ _ hh => ⟨hh.1, hh.2.keep hb⟩
theorem PAt.far {w w' : World} {lo g : Nat} {ps : List Pt} {P : List (PTr × Nat)} (h : PAt w lo ps P) (hg : w.grownBy w' (some g)) (hlt : g < lo) : PAt w' lo ps P := All2.mono h fun _ _ hh => ⟨hh.1, hh.2.far hg hlt⟩
theorem All2.erase {α β : Type} {R : α → β → Prop} {a : List α} {b : List β} (h : All2 R a b) (k : Nat) : All2 R (a.eraseIdx k) (b.eraseIdx k) := by
  refine ⟨by simp [List.length_eraseIdx, h.1], fun i x y h1 h2 => ?_⟩
  rw [List.getElem?_eraseIdx] at h1 h2
  by_cases hi : i < k
  · rw [if_pos hi] at h1 h2
    exact h.2 i x y h1 h2
  · rw [if_neg hi] at h1 h2
    exact h.2 (i + 1) x y h1 h2
theorem quickK_ok {s : Nat → Nat} {P : List (PTr × Nat)} {i : Nat} : ∀ (k : Nat) (ab : Nat × Nat), i + 1 + k ≤ P.length → ab.1 < ab.2 ∧ ab.2 < P.length → (quickK s P i k ab).1 < (quickK s P i k ab).2 ∧ (quickK s P i k ab).2 < P.length
  | 0, ab, _, h => h
  | k + 1, ab, hk, h => by
    have ih := quickK_ok (s := s) (P := P) (i := i) k ab (by omega) h
    rw [quickK]
    split
    · exact ⟨by show i < i + 1 + k; omega, by show i + 1 + k < P.length; omega⟩
    · exact ih
theorem quickI_ok {s : Nat → Nat} {P : List (PTr × Nat)} : ∀ (i : Nat) (ab : Nat × Nat), i ≤ P.length → ab.1 < ab.2 ∧ ab.2 < P.length → (quickI s P i ab).1 < (quickI s P i ab).2 ∧ (quickI s P i ab).2 < P.length
  | 0, ab, _, h => h
  | i + 1, ab, hi, h => by
    have ih := quickI_ok (s := s) i ab (by omega) h
    rw [quickI]
    exact quickK_ok _ _ (by omega) ih
def quickT (l : List PT) : PTr × Int × Int := if joinsE l = 0 then ((quickR (sizeFn l) l.length).1, ((quickR (sizeFn l) l.length).2 : Nat), 0) else (leafT 0, 0, joinsE l)
/-- What is handed back: a tree, a cost, an error. -/
def RetTree (w : World) (p : PTr × Int × Int) (e : Ending) (w' : World) : Prop := ∃ t : Tr, e = .returned (.tuple #[.agg #[.int .i64 t.table, .slice t.kids.A t.kids.n t.kids.cap], .int .i64 p.2.1, .int .i64 p.2.2]) ∧ TreeAt w' 0 t p.1 ∧ Below w.heap.size w w'
theorem results_tree {fn : Func} {p q r : Tmp} (h : fn.results = #[.cell p 25, .tmp q, .tmp r]) (tmps : Array Value) (w : World) (g : Nat) (a b : Value) (hp : tmps.getD p undef = .pointer (some ⟨g, 0, none⟩)) (hg : w.heap[g]? = some (.cells #[a, b] 25)) :
    (results fn tmps).run Tryz.prog w = .ok (.tuple #[.agg #[a, b], tmps.getD q undef, tmps.getD r undef]) w := by
  have hp' : tmps[p]?.getD undef = .pointer (some ⟨g, 0, none⟩) := by simpa using hp
  have hl := run_loadVar_row (P := Tryz.prog) w g 25 25 #[a, b] (0, 0) _ hg Tryz.underlying25 rfl (by kernel_rfl)
  simp [results, h, hp', asAddr, hl, Result.andThen]
def ptOf (P : List (PTr × Nat)) (i : Nat) : PTr × Nat := P.getD i (leafT 0, 0)
theorem PAt.at_ {w : World} {lo : Nat} {ps : List Pt} {P : List (PTr × Nat)} (h : PAt w lo ps P) {i : Nat} (hi : i < P.length) : ∃ p, ps[i]? = some p ∧ p.set = (P.getD i (leafT 0, 0)).2 ∧ TreeAt w lo p.t (P.getD i (leafT 0, 0)).1 := by
  have h1 : ps[i]? = some (ps[i]'(by rw [h.1]; exact hi)) := List.getElem?_eq_getElem _
  have h2 : P[i]? = some P[i] := List.getElem?_eq_getElem hi
  have hh := h.2 i _ _ h1 h2
  have e : P.getD i (leafT 0, 0) = P[i] := by rw [List.getD_eq_getElem?_getD, h2]; rfl
  rw [e]
  exact ⟨_, h1, hh.1, hh.2⟩
end Go.Proofs.Bg
end

section
/- The contracts of ways and of the iterator that it hands back. -/
namespace Go.Proofs.Bg
open Go.RowKit Go.Shelf
attribute [local go_sem] Oper.semAt_some

/-- The parts of a set with its least element, those below p. -/
def wayB (set p : Nat) : Bool := decide (p ≠ 0) && decide (bdiff p set = 0) && decide (p &&& leastBit set ≠ 0)
def waysTo (set p : Nat) : List Nat := (List.range p).filter (wayB set)
def waysL (set : Nat) : List Nat := waysTo set set
theorem waysTo_succ (set p : Nat) : waysTo set (p + 1) = waysTo set p ++ (if wayB set p then [p] else []) := by
  unfold waysTo
  rw [List.range_succ, List.filter_append]
  congr 1
  by_cases h : wayB set p <;> simp [h]
theorem waysTo_one (set : Nat) : waysTo set 1 = [] := by
  rw [waysTo_succ]
  simp [waysTo, wayB]
theorem waysTo_length (set p : Nat) : (waysTo set p).length ≤ p := by
  unfold waysTo
  exact Nat.le_trans (List.length_filter_le _ _) (by simp)
theorem cell_al {W : World} {a : Addr} {v : Value} (o : Obj) (h : W.cell? a = some v) : (W.alloc o).cell? a = some v := cell_kept h (World.grownBy_alloc W o none) (fun r e => by cases e)
/-- What a round that goes on keeps: what lies below n₀; the two boxes that the iterator reads. -/
def KeepW (n₀ b1 b2 : Nat) (x y : Nat) (W W' : World) : Prop :=
  Below n₀ W W' ∧ (W.cell? ⟨b1, 0, none⟩ = some (.int .i64 x) → W'.cell? ⟨b1, 0, none⟩ = some (.int .i64 x)) ∧ (W.cell? ⟨b2, 0, none⟩ = some (.int .i64 y) → W'.cell? ⟨b2, 0, none⟩ = some (.int .i64 y))
theorem keepW_t {n₀ b1 b2 x y : Nat} {A B C : World} (h : KeepW n₀ b1 b2 x y A B) (k : KeepW n₀ b1 b2 x y B C) : KeepW n₀ b1 b2 x y A C :=
  ⟨h.1.trans k.1, fun e => k.2.1 (h.2.1 e), fun e => k.2.2 (h.2.2 e)⟩
theorem keepW_b {w : World} {n₀ b1 b2 x y : Nat} (hn : n₀ ≤ w.heap.size) (W : World) (l : Nat) (o o' : Obj) (hl : w.heap.size ≤ l) (ho : W.heap[l]? = some o) (hc : o.isCells = false) (hw : o.isWalk = false) : KeepW n₀ b1 b2 x y W (W.putObj l o') :=
  ⟨belowK_b (w := w) hn W l o o' hl ho hc hw, fun e => cell_kept e (grownBy_putObj' W l o') (fun r e' => by cases e'; exact ⟨o, ho, hc⟩), fun e => cell_kept e (grownBy_putObj' W l o') (fun r e' => by cases e'; exact ⟨o, ho, hc⟩)⟩

/-- What a round may be handed. -/
abbrev WayOf (set : Nat) : Type := { x : Nat // x < set ∧ wayB set x = true }
set_option maxRecDepth 100000 in
set_option maxHeartbeats 4000000 in
theorem ways1_in (F : Fence) (n : Nat) (h1 : F.fn 131) (hro : F.round = none) (hn : 1 ≤ n) (l n₀ Bs Bl : Nat) (set : Nat) (hset : set < 64) (J Jx : List (WayOf set) → World → Prop) (B0 : Nat) (hJ : AbidesFrom B0 J) (W : World)
    (hY : ∀ pre x W, J pre W → pre.length < set → YieldAt F (n - 1) Tryz.prog l #[.int .i64 (x.1 : Nat)] W fun e W' => (e = .returned (.bool true) ∧ J (pre ++ [x]) W' ∧ KeepW n₀ Bs Bl set (leastBit set) W W') ∨ (e = .returned (.bool false) ∧ Jx (pre ++ [x]) W'))
    (hBs : W.cell? ⟨Bs, 0, none⟩ = some (.int .i64 set)) (hBl : W.cell? ⟨Bl, 0, none⟩ = some (.int .i64 (leastBit set : Nat))) (h0 : J [] W) :
    CallsIn F n Tryz.prog 131 #[.func (.yield l) #[] #[], .pointer (some ⟨Bs, 0, none⟩), .pointer (some ⟨Bl, 0, none⟩)] W fun e W' => (∃ v, e = .returned v) ∧ ((∃ ys, ys.map Subtype.val = waysL set ∧ J ys W') ∨ (∃ pre, True ∧ Jx pre W')) := by
  have HY := Lib.hid hY
  have HJ := Lib.hid hJ
  have hls : leastBit set < 64 := Nat.lt_of_le_of_lt Nat.and_le_left hset
  clear hY hJ
  refine callsIn_of_wp Tryz.func131 rfl h1 ?_ hro
  simp only [Tryz.ntmps131, List.size_toArray, List.length_cons, List.length_nil, Nat.reduceAdd, Nat.reduceSub, Array.replicate_succ, Array.replicate_zero, List.push_toArray, List.append_toArray, List.nil_append, List.cons_append]
  gi_wp2
  gi_loopw [4] (fun i wr => ∃ k : Nat, (k ≤ set ∨ k = 1) ∧ 1 ≤ k ∧ i = .int .i64 k ∧ (∃ pre : List (WayOf set), pre.map Subtype.val = waysTo set k ∧ J pre wr) ∧ wr.cell? ⟨Bs, 0, none⟩ = some (.int .i64 set) ∧ wr.cell? ⟨Bl, 0, none⟩ = some (.int .i64 (leastBit set : Nat))) (fun i _ => set - (intOf i).toNat)
  case atStart => exact ⟨1, .inr rfl, Nat.le_refl _, rfl, ⟨[], by rw [waysTo_one]; rfl, h0⟩, hBs, hBl⟩
  case round =>
    obtain ⟨k, hk, hk1, rfl, ⟨pre, hpre, hJs⟩, hbs, hbl⟩ := hrel
    have HPRE := Lib.hid hpre
    have HJs := Lib.hid hJs
    clear hJs
    by_cases hlt : k < set
    · have HTK := Lib.hid (waysTo_succ set k)
      have hlen : pre.length < set := by have h1 := waysTo_length set k; have h2 := congrArg List.length hpre; rw [List.length_map] at h2; omega
      have hbd := bandnot_nat (a := k) (b := set) (by omega) (by omega)
      have hba := band_nat (a := k) (b := leastBit set) (by omega) (by omega)
      have hk2 : (k : Int) < (set : Int) := by omega
      have HWB : Hid (wayB set k = (decide (bdiff k set = 0) && decide (k &&& leastBit set ≠ 0))) := by
        show _ = _
        unfold wayB
        rw [decide_eq_true (by omega : k ≠ 0), Bool.true_and]
      obtain ⟨L, hL⟩ : ∃ L, waysTo set k = L := ⟨_, rfl⟩
      rw [hL] at HTK HPRE
      clear hL hpre
      generalize bdiff k set = D at *
      generalize k &&& leastBit set = E at *
      generalize leastBit set = LB at *
      by_cases h1 : D = 0
      · have q1 : ((D : Int) == 0) = true := by simp [h1]
        have q1' : (D == 0) = true := by simp [h1]
        by_cases h2 : E = 0
        · have q2 : ((E : Int) != 0) = false := by simp [h2]
          have q2' : (E != 0) = false := by simp [h2]
          have HN : Hid (waysTo set (k + 1) = L) := by show _ = _; rw [HTK.out, HWB.out]; simp [h2]
          clear h1 h2 HTK HWB
          gi_wp2
          refine ⟨fun _ h => (by cases h), ?_⟩
          gi_wp2
          go_roundw
          case rel => exact ⟨k + 1, by omega, by omega, by go_num, ⟨pre, by rw [HN.out]; exact HPRE.out, HJs.out⟩, hbs, hbl⟩
          case measure => simp [intOf]; omega
        · have q2 : ((E : Int) != 0) = true := by simp; omega
          have q2' : (E != 0) = true := by simpa using h2
          have HN : Hid (waysTo set (k + 1) = L ++ [k]) := by show _ = _; rw [HTK.out, HWB.out]; simp [h1, h2]
          have hwb : wayB set k = true := by rw [HWB.out]; simp [h1, h2]
          obtain ⟨fn, tmps, assign, body, hy, hR⟩ := HY.out pre ⟨k, hlt, hwb⟩ wr HJs.out hlen
          dsimp only at hy
          have HPN : Hid ((pre ++ [(⟨k, hlt, hwb⟩ : WayOf set)]).map Subtype.val = waysTo set (k + 1)) := by show _ = _; rw [HN.out, List.map_append, HPRE.out]; rfl
          have HRR := Lib.hid hR
          clear h1 h2 HTK HWB hR
          gi_wp2
          refine HRR.out.mono ?_
          rintro e W3 (⟨rfl, hJ3, hk3⟩ | ⟨rfl, hJx3⟩)
          · have HJ3 := Lib.hid hJ3
            have hb1 := hk3.2.1 hbs
            have hb2 := hk3.2.2 hbl
            clear hJ3 hk3
            gi_wp2
            go_roundw
            case rel => exact ⟨k + 1, by omega, by omega, by go_num, ⟨_, HPN.out, HJ3.out⟩, hb1, hb2⟩
            case measure => simp [intOf]; omega
          · gi_wp2
            refine bodyPost_ret (results_none rfl _ _ _) rfl ?_
            exact ⟨⟨_, rfl⟩, .inr ⟨_, trivial, hJx3⟩⟩
      · have q1 : ((D : Int) == 0) = false := by simp; omega
        have q1' : (D == 0) = false := by simpa using h1
        have HN : Hid (waysTo set (k + 1) = L) := by show _ = _; rw [HTK.out, HWB.out]; simp [h1]
        clear h1 HTK HWB
        gi_wp2
        refine ⟨fun _ h => (by cases h), ?_⟩
        gi_wp2
        go_roundw
        case rel => exact ⟨k + 1, by omega, by omega, by go_num, ⟨pre, by rw [HN.out]; exact HPRE.out, HJs.out⟩, hbs, hbl⟩
        case measure => simp [intOf]; omega
    · have hd : decide ((k : Int) < (set : Int)) = false := by rw [decide_eq_false_iff_not]; omega
      have hd' : decide (k < set) = false := by rw [decide_eq_false_iff_not]; omega
      have HE : Hid (waysTo set k = waysL set) := by
        show _ = _
        rcases hk with h | h
        · rw [show k = set by omega]; rfl
        · subst h
          have : set = 0 ∨ set = 1 := by omega
          rcases this with h | h <;> subst h
          · rw [waysTo_one]; rfl
          · rfl
      gi_wp2
      go_end0
      exact ⟨⟨_, rfl⟩, .inl ⟨pre, by rw [HPRE.out, HE.out], HJs.out⟩⟩
set_option maxHeartbeats 1000000 in
theorem ways_in (F : Fence) (n : Nat) (h1 : F.fn 75) (hro : F.round = none) (set : Nat) (h0 : 0 < set) (hset : set < 64) (w : World) :
    CallsIn F n Tryz.prog 75 #[.int .i64 set] w fun e w' => e = .returned (.func (.func 131) #[] #[.pointer (some ⟨w.heap.size, 0, none⟩), .pointer (some ⟨w.heap.size + 1, 0, none⟩)]) ∧ w' = (w.alloc (.cells #[.int .i64 set] 3)).alloc (.cells #[.int .i64 (leastBit set : Nat)] 3) := by
  have e1 : IntKind.i64.wrap (-(set : Int)) = -(set : Int) := IntWalk.i64_in _ (by omega)
  have e2 : bits .and .i64 (set : Int) (-(set : Int)) = ((leastBit set : Nat) : Int) := by
    have h : ∀ k : Fin 64, 0 < k.val → bits .and .i64 (k.val : Int) (-(k.val : Int)) = ((leastBit k.val : Nat) : Int) := by decide +kernel
    exact h ⟨set, hset⟩ h0
  refine callsIn_of_wp Tryz.func75 rfl h1 ?_ hro
  simp only [Tryz.ntmps75, List.size_toArray, List.length_cons, List.length_nil, Nat.reduceAdd, Nat.reduceSub, Array.replicate_succ, Array.replicate_zero, List.push_toArray, List.append_toArray, List.nil_append, List.cons_append]
  gi_wp2
  go_ret
  exact ⟨rfl, rfl⟩
/-- The iterator's contract. -/
theorem ways_stops (F : Fence) (n : Nat) (h1 : F.fn 131) (hro : F.round = none) (hn : 1 ≤ n) (n₀ Bs Bl set : Nat) (hset : set < 64) (w : World)
    (hBs : w.cell? ⟨Bs, 0, none⟩ = some (.int .i64 set)) (hBl : w.cell? ⟨Bl, 0, none⟩ = some (.int .i64 (leastBit set : Nat))) :
    SeqStopsK F n Tryz.prog 131 #[.pointer (some ⟨Bs, 0, none⟩), .pointer (some ⟨Bl, 0, none⟩)] (fun x : WayOf set => #[.int .i64 (x.1 : Nat)]) (KeepW n₀ Bs Bl set (leastBit set)) (fun ys => ys.map Subtype.val = waysL set) (fun _ => True) set w := fun l J Jx W hW hJ _ hY h0 =>
  ways1_in F n h1 hro hn l n₀ Bs Bl set hset J Jx _ hJ W hY ((hW.cell (World.block_lt_of_cell? w _ hBs)).trans hBs) ((hW.cell (World.block_lt_of_cell? w _ hBl)).trans hBl) h0
end Go.Proofs.Bg
end

section
/- Contracts: bits.OnesCount, bits.TrailingZeros at small numbers. -/
namespace Go.Proofs.Bg
open Go.RowKit

def onesN (x : Nat) : Nat := ((List.range 5).filter fun i => x.testBit i).length
theorem below32 {P : Nat → Prop} (h : ∀ k : Fin 32, P k) {x : Nat} (hx : x < 32) : P x := h ⟨x, hx⟩
set_option maxRecDepth 100000 in
set_option maxHeartbeats 4000000 in
theorem Ones64_any (x : Nat) (hx : x < 32) (w : World) : Calls Tryz.prog 130 #[.int .u64 x] w fun e w' => e = .returned (.int .i64 (onesN x)) ∧ w' = w := by
  go_enter Tryz.func130, Tryz.ntmps130
  go_wp2_with fail
  go_ret
  refine ⟨?_, rfl⟩
  revert x
  intro x hx
  have h : x = 0 ∨ x = 1 ∨ x = 2 ∨ x = 3 ∨ x = 4 ∨ x = 5 ∨ x = 6 ∨ x = 7 ∨ x = 8 ∨ x = 9 ∨ x = 10 ∨ x = 11 ∨ x = 12 ∨ x = 13 ∨ x = 14 ∨ x = 15 ∨ x = 16 ∨ x = 17 ∨ x = 18 ∨ x = 19 ∨ x = 20 ∨ x = 21 ∨ x = 22 ∨ x = 23 ∨ x = 24 ∨ x = 25 ∨ x = 26 ∨ x = 27 ∨ x = 28 ∨ x = 29 ∨ x = 30 ∨ x = 31 := by omega
  rcases h with rfl | rfl | rfl | rfl | rfl | rfl | rfl | rfl | rfl | rfl | rfl | rfl | rfl | rfl | rfl | rfl | rfl | rfl | rfl | rfl | rfl | rfl | rfl | rfl | rfl | rfl | rfl | rfl | rfl | rfl | rfl | rfl <;> (show (_ : Ending) = _; kernel_rfl)
set_option maxRecDepth 100000 in
theorem OnesCount_any (x : Nat) (hx : x < 32) (w : World) : Calls Tryz.prog 74 #[.int .u64 x] w fun e w' => e = .returned (.int .i64 (onesN x)) ∧ w' = w := by
  have Q := Lib.hid (Ones64_any x hx w)
  go_enter Tryz.func74, Tryz.ntmps74
  go_wp2_with fail
  (with_reducible refine Q.out.mono ?_)
  rintro e w1 ⟨rfl, rfl⟩
  go_wp2_with fail
  go_ret
  exact ⟨rfl, rfl⟩
/-- The library's table, as its text lays it. -/
def deB : List Int := [0, 1, 56, 2, 57, 49, 28, 3, 61, 58, 42, 50, 38, 29, 17, 4, 62, 47, 59, 36, 45, 43, 51, 22, 53, 39, 33, 30, 24, 18, 12, 5, 63, 55, 48, 27, 60, 41, 37, 16, 46, 35, 44, 21, 52, 32, 23, 11, 54, 26, 40, 15, 34, 20, 31, 10, 25, 14, 19, 9, 13, 8, 7, 6]
def DeTab (w : World) : Prop := ∀ i, i < 64 → w.cell? ⟨1, i, none⟩ = some (.int .u8 (deB.getD i 0))
theorem DeTab.below {w w' : World} (h : DeTab w) (hb : Below w.heap.size w w') : DeTab w' := fun i hi => (hb.cell (World.block_lt_of_cell? w _ (h i hi))).trans (h i hi)
theorem DeTab.of {w : World} (h : Lib.TabIs Tryz.prog w "math/bits.deBruijn64tab" .u8 deB) (hg : Tryz.prog.globalNamed "math/bits.deBruijn64tab" = some 1) : DeTab w := fun i hi => h.cell hg i hi
set_option maxRecDepth 100000 in
theorem Zeros64_0 (w : World) (ht : DeTab w) : Calls Tryz.prog 133 #[.int .u64 1] w fun e w' => e = .returned (.int .i64 0) ∧ w' = w := by
  have c0 : w.cell? ⟨1, 0, none⟩ = some (.int .u8 0) := ht 0 (by decide)
  have e1 : IntKind.u64.wrap (-1) = 18446744073709551615 := by kernel_rfl
  have e2 : bits .and .u64 1 18446744073709551615 = 1 := by kernel_rfl
  have e3 : IntKind.u64.wrap (1 * 285870213051353865) = 285870213051353865 := by kernel_rfl
  have e4 : IntKind.u64.wrap 285870213051353865 = 285870213051353865 := by kernel_rfl
  clear ht
  go_enter Tryz.func133, Tryz.ntmps133
  go_wp2_with fail
  go_ret
  exact ⟨rfl, rfl⟩
set_option maxRecDepth 100000 in
theorem Zeros64_1 (w : World) (ht : DeTab w) : Calls Tryz.prog 133 #[.int .u64 2] w fun e w' => e = .returned (.int .i64 1) ∧ w' = w := by
  have c0 : w.cell? ⟨1, 1, none⟩ = some (.int .u8 1) := ht 1 (by decide)
  have e1 : IntKind.u64.wrap (-2) = 18446744073709551614 := by kernel_rfl
  have e2 : bits .and .u64 2 18446744073709551614 = 2 := by kernel_rfl
  have e3 : IntKind.u64.wrap (2 * 285870213051353865) = 571740426102707730 := by kernel_rfl
  have e4 : IntKind.u64.wrap 285870213051353865 = 285870213051353865 := by kernel_rfl
  clear ht
  go_enter Tryz.func133, Tryz.ntmps133
  go_wp2_with fail
  go_ret
  exact ⟨rfl, rfl⟩
set_option maxRecDepth 100000 in
theorem Zeros64_2 (w : World) (ht : DeTab w) : Calls Tryz.prog 133 #[.int .u64 4] w fun e w' => e = .returned (.int .i64 2) ∧ w' = w := by
  have c0 : w.cell? ⟨1, 3, none⟩ = some (.int .u8 2) := ht 3 (by decide)
  have e1 : IntKind.u64.wrap (-4) = 18446744073709551612 := by kernel_rfl
  have e2 : bits .and .u64 4 18446744073709551612 = 4 := by kernel_rfl
  have e3 : IntKind.u64.wrap (4 * 285870213051353865) = 1143480852205415460 := by kernel_rfl
  have e4 : IntKind.u64.wrap 285870213051353865 = 285870213051353865 := by kernel_rfl
  clear ht
  go_enter Tryz.func133, Tryz.ntmps133
  go_wp2_with fail
  go_ret
  exact ⟨rfl, rfl⟩
set_option maxRecDepth 100000 in
theorem Zeros64_3 (w : World) (ht : DeTab w) : Calls Tryz.prog 133 #[.int .u64 8] w fun e w' => e = .returned (.int .i64 3) ∧ w' = w := by
  have c0 : w.cell? ⟨1, 7, none⟩ = some (.int .u8 3) := ht 7 (by decide)
  have e1 : IntKind.u64.wrap (-8) = 18446744073709551608 := by kernel_rfl
  have e2 : bits .and .u64 8 18446744073709551608 = 8 := by kernel_rfl
  have e3 : IntKind.u64.wrap (8 * 285870213051353865) = 2286961704410830920 := by kernel_rfl
  have e4 : IntKind.u64.wrap 285870213051353865 = 285870213051353865 := by kernel_rfl
  clear ht
  go_enter Tryz.func133, Tryz.ntmps133
  go_wp2_with fail
  go_ret
  exact ⟨rfl, rfl⟩
set_option maxRecDepth 100000 in
theorem Zeros64_4 (w : World) (ht : DeTab w) : Calls Tryz.prog 133 #[.int .u64 16] w fun e w' => e = .returned (.int .i64 4) ∧ w' = w := by
  have c0 : w.cell? ⟨1, 15, none⟩ = some (.int .u8 4) := ht 15 (by decide)
  have e1 : IntKind.u64.wrap (-16) = 18446744073709551600 := by kernel_rfl
  have e2 : bits .and .u64 16 18446744073709551600 = 16 := by kernel_rfl
  have e3 : IntKind.u64.wrap (16 * 285870213051353865) = 4573923408821661840 := by kernel_rfl
  have e4 : IntKind.u64.wrap 285870213051353865 = 285870213051353865 := by kernel_rfl
  clear ht
  go_enter Tryz.func133, Tryz.ntmps133
  go_wp2_with fail
  go_ret
  exact ⟨rfl, rfl⟩
theorem Zeros64_any (k : Nat) (hk : k < 5) (w : World) (ht : DeTab w) : Calls Tryz.prog 133 #[.int .u64 (pw k : Nat)] w fun e w' => e = .returned (.int .i64 k) ∧ w' = w := by
  match k, hk with
  | 0, _ => exact Zeros64_0 w ht
  | 1, _ => exact Zeros64_1 w ht
  | 2, _ => exact Zeros64_2 w ht
  | 3, _ => exact Zeros64_3 w ht
  | 4, _ => exact Zeros64_4 w ht
set_option maxRecDepth 100000 in
theorem TrailingZeros_any (k : Nat) (hk : k < 5) (w : World) (ht : DeTab w) : Calls Tryz.prog 77 #[.int .u64 (pw k : Nat)] w fun e w' => e = .returned (.int .i64 k) ∧ w' = w := by
  have Q := Lib.hid (Zeros64_any k hk w ht)
  clear ht
  go_enter Tryz.func77, Tryz.ntmps77
  go_wp2_with fail
  (with_reducible refine Q.out.mono ?_)
  rintro e w1 ⟨rfl, rfl⟩
  go_wp2_with fail
  go_ret
  exact ⟨rfl, rfl⟩
end Go.Proofs.Bg
end

section
/- Plain words for Best: the costs of all sets, in order; the tree. No program in sight. -/
namespace Go.Proofs.Bg
open Go.RowKit

def wayF (s c : Nat → Nat) (set : Nat) (o : Option (Nat × Nat)) (p : Nat) : Option (Nat × Nat) :=
  match o with
  | none => some (c p + c (bdiff set p) + s set, p)
  | some (least, q) => if c p + c (bdiff set p) + s set < least then some (c p + c (bdiff set p) + s set, p) else some (least, q)
def pickL (s c : Nat → Nat) (set : Nat) (L : List Nat) : Option (Nat × Nat) := L.foldl (wayF s c set) none
theorem pickL_snoc (s c : Nat → Nat) (set : Nat) (L : List Nat) (p : Nat) : pickL s c set (L ++ [p]) = wayF s c set (pickL s c set L) p := by simp [pickL]
theorem pickW_L (s c : Nat → Nat) (set : Nat) : ∀ P, pickW s c set P = pickL s c set (waysTo set P)
  | 0 => rfl
  | P + 1 => by
    rw [pickW, waysTo_succ]
    by_cases h0 : P = 0
    · subst h0
      simp [wayB, waysTo, pickL]
    · rw [if_neg h0]
      by_cases h : bdiff P set = 0 ∧ P &&& leastBit set ≠ 0
      · have hw : wayB set P = true := by simp [wayB, h0, h.1, h.2]
        rw [if_pos h, hw, if_pos rfl, pickL_snoc, ← pickW_L s c set P]
        cases pickW s c set P with
        | none => rfl
        | some q => rfl
      · have hw : wayB set P = false := by
          cases hb : wayB set P with
          | false => rfl
          | true =>
            simp only [wayB, Bool.and_eq_true, decide_eq_true_eq] at hb
            exact absurd ⟨hb.1.2, hb.2⟩ h
        rw [if_neg h, hw, pickW_L s c set P]
        simp
theorem pickL_mem (s c : Nat → Nat) (set : Nat) : ∀ (L : List Nat) (o : Option (Nat × Nat)) (k p : Nat), L.foldl (wayF s c set) o = some (k, p) → o = some (k, p) ∨ (p ∈ L ∧ k = c p + c (bdiff set p) + s set)
  | [], o, k, p, h => .inl h
  | a :: L, o, k, p, h => by
    rw [List.foldl_cons] at h
    rcases pickL_mem s c set L _ k p h with h | ⟨h1, h2⟩
    · cases o with
      | none =>
        cases h
        exact .inr ⟨List.mem_cons_self, rfl⟩
      | some q =>
        simp only [wayF] at h
        split at h
        · cases h
          exact .inr ⟨List.mem_cons_self, rfl⟩
        · exact .inl h
    · exact .inr ⟨List.mem_cons_of_mem _ h1, h2⟩
theorem pickL_some (s c : Nat → Nat) (set : Nat) : ∀ (L : List Nat) (o : Option (Nat × Nat)), (L ≠ [] ∨ o.isSome = true) → (L.foldl (wayF s c set) o).isSome = true
  | [], o, h => by rcases h with h | h; exact absurd rfl h; exact h
  | a :: L, o, _ => by
    rw [List.foldl_cons]
    refine pickL_some s c set L _ (.inr ?_)
    cases o with
    | none => rfl
    | some q => simp only [wayF]; split <;> rfl
theorem wayF_congr {s c c' : Nat → Nat} {set : Nat} {o : Option (Nat × Nat)} {p : Nat} (h1 : c p = c' p) (h2 : c (bdiff set p) = c' (bdiff set p)) : wayF s c set o p = wayF s c' set o p := by
  unfold wayF
  rw [h1, h2]
theorem foldl_congr {s c c' : Nat → Nat} {set : Nat} : ∀ {L : List Nat} {o : Option (Nat × Nat)}, (∀ p ∈ L, c p = c' p ∧ c (bdiff set p) = c' (bdiff set p)) → L.foldl (wayF s c set) o = L.foldl (wayF s c' set) o
  | [], _, _ => rfl
  | a :: L, o, h => by
    rw [List.foldl_cons, List.foldl_cons, wayF_congr (h a List.mem_cons_self).1 (h a List.mem_cons_self).2]
    exact foldl_congr fun p hp => h p (List.mem_cons_of_mem _ hp)
theorem bdiff_part : ∀ set, set < 32 → ∀ p, p < 32 → wayB set p = true → bdiff set p < set ∧ p + bdiff set p = set := by decide +kernel
theorem ways_none : ∀ set, set < 32 → 0 < set → onceB set = false → waysL set ≠ [] := by decide +kernel
theorem ways_lt {set p : Nat} (h : p ∈ waysL set) : p < set ∧ wayB set p = true := by
  unfold waysL waysTo at h
  rw [List.mem_filter, List.mem_range] at h
  exact h
/-- The cost of a set and its first part. -/
def bestOf (s : Nat → Nat) (x : Nat) : Nat × Nat := (bestTo s (x + 1)).getD x (0, 0)
theorem bestTo_len (s : Nat → Nat) : ∀ n, (bestTo s n).length = n
  | 0 => rfl
  | n + 1 => by rw [bestTo]; simp [bestTo_len s n]
theorem bestTo_at (s : Nat → Nat) : ∀ (n x : Nat), x < n → (bestTo s n).getD x (0, 0) = bestOf s x
  | 0, x, h => by omega
  | n + 1, x, h => by
    by_cases hx : x = n
    · subst hx; rfl
    · have ih := bestTo_at s n x (by omega)
      rw [← ih, bestTo]
      simp only [List.getD_eq_getElem?_getD]
      rw [List.getElem?_append_left (by rw [bestTo_len]; omega)]
def costF (s : Nat → Nat) (x : Nat) : Nat := (bestOf s x).1
theorem bestOf_eq (s : Nat → Nat) {x : Nat} (hx : x < 32) : bestOf s x = if onceB x then (0, 0) else (pickL s (costF s) x (waysL x)).getD (0, 0) := by
  unfold bestOf
  rw [bestTo]
  simp only [List.getD_eq_getElem?_getD]
  rw [List.getElem?_append_right (by rw [bestTo_len]; exact Nat.le_refl _), bestTo_len, Nat.sub_self]
  simp only [List.getElem?_cons_zero, Option.getD_some]
  by_cases ho : onceB x = true
  · rw [if_pos ho, if_pos ho]
  · rw [if_neg ho, if_neg ho, pickW_L]
    congr 1
    unfold pickL waysL
    refine foldl_congr fun p hp => ?_
    obtain ⟨h1, h2⟩ := ways_lt (set := x) hp
    obtain ⟨h3, h4⟩ := bdiff_part x hx p (by omega) h2
    exact ⟨congrArg Prod.fst (by simpa using bestTo_at s x p h1), congrArg Prod.fst (by simpa using bestTo_at s x _ h3)⟩
theorem bestOf_once {s : Nat → Nat} {x : Nat} (hx : x < 32) (h : onceB x = true) : bestOf s x = (0, 0) := by rw [bestOf_eq s hx, if_pos h]
theorem bestOf_some {s : Nat → Nat} {x : Nat} (hx : x < 32) (h0 : 0 < x) (h : onceB x = false) : pickL s (costF s) x (waysL x) = some (bestOf s x) := by
  rw [bestOf_eq s hx, h]
  have := pickL_some s (costF s) x (waysL x) none (.inl (ways_none x hx h0 h))
  obtain ⟨q, hq⟩ := Option.isSome_iff_exists.1 this
  unfold pickL
  rw [hq]
  rfl
theorem bestOf_way {s : Nat → Nat} {x : Nat} (hx : x < 32) (h0 : 0 < x) (h : onceB x = false) : (bestOf s x).2 ∈ waysL x ∧ (bestOf s x).1 = costF s (bestOf s x).2 + costF s (bdiff x (bestOf s x).2) + s x := by
  have h1 := bestOf_some (s := s) hx h0 h
  rcases pickL_mem s (costF s) x (waysL x) none (bestOf s x).1 (bestOf s x).2 h1 with h2 | h2
  · cases h2
  · exact h2
theorem costF_le {s : Nat → Nat} (hs : ∀ x, s x ≤ 500) : ∀ (x : Nat), x < 32 → 0 < x → costF s x + 500 ≤ 500 * x := by
  intro x
  induction x using Nat.strongRecOn with
  | _ x ih =>
    intro hx h0
    cases ho : onceB x with
    | true =>
      unfold costF
      rw [bestOf_once hx ho]
      show 0 + 500 ≤ 500 * x
      omega
    | false =>
      obtain ⟨h1, h2⟩ := bestOf_way (s := s) hx h0 ho
      obtain ⟨h3, h4⟩ := ways_lt h1
      obtain ⟨h5, h6⟩ := bdiff_part x hx _ (by omega) h4
      have hp0 : (bestOf s x).2 ≠ 0 := by
        intro e
        rw [e] at h4
        simp [wayB] at h4
      have i1 := ih _ h3 (by omega) (by omega)
      have i2 := ih _ h5 (by omega) (by omega)
      have hss := hs x
      unfold costF at i1 i2 h2 ⊢
      omega
theorem costF_zero (s : Nat → Nat) : costF s 0 = 0 := by
  unfold costF
  rw [bestOf_once (by omega) (by decide)]
theorem costF_lt {s : Nat → Nat} (hs : ∀ x, s x ≤ 500) (x : Nat) (hx : x < 32) : costF s x ≤ 15500 := by
  by_cases h : x = 0
  · subst h; rw [costF_zero]; omega
  · have := costF_le hs x hx (by omega); omega
/-- The arrays of costs and of first parts while set number n is at hand. -/
def cstA (s : Nat → Nat) (n : Nat) : List Int := (List.range 32).map fun i => if i < n then ((costF s i : Nat) : Int) else 0
def fstA (s : Nat → Nat) (n : Nat) : List Int := (List.range 32).map fun i => if i < n then (((bestOf s i).2 : Nat) : Int) else 0
theorem cstA_len (s : Nat → Nat) (n : Nat) : (cstA s n).length = 32 := by simp [cstA]
theorem fstA_len (s : Nat → Nat) (n : Nat) : (fstA s n).length = 32 := by simp [fstA]
theorem map32_one (f : Nat → Nat → Int) (h : ∀ i, f 1 i = 0) : ((List.range 32).map fun i => f 1 i) = List.replicate 32 0 := by
  rw [List.eq_replicate_iff]
  refine ⟨by simp, fun b hb => ?_⟩
  obtain ⟨i, _, rfl⟩ := List.mem_map.1 hb
  exact h i
theorem cstA_one (s : Nat → Nat) : cstA s 1 = List.replicate 32 0 := map32_one (fun n i => if i < n then ((costF s i : Nat) : Int) else 0) fun i => by
  by_cases h : i < 1
  · have : i = 0 := by omega
    subst this
    simp [costF_zero]
  · simp [h]
theorem fstA_one (s : Nat → Nat) : fstA s 1 = List.replicate 32 0 := map32_one (fun n i => if i < n then (((bestOf s i).2 : Nat) : Int) else 0) fun i => by
  by_cases h : i < 1
  · have : i = 0 := by omega
    subst this
    rw [bestOf_once (by omega) (by decide)]
    simp
  · simp [h]
theorem map32_succ (g : Nat → Int) {n : Nat} (_ : n < 32) : ((List.range 32).map fun i => if i < n + 1 then g i else 0) = ((List.range 32).map fun i => if i < n then g i else 0).set n (g n) := by
  apply List.ext_getElem
  · simp
  · intro i h1 h2
    rw [List.getElem_set]
    simp only [List.getElem_map, List.getElem_range]
    by_cases h : n = i
    · subst h; simp
    · rw [if_neg h]
      by_cases h3 : i < n
      · rw [if_pos h3, if_pos (by omega)]
      · rw [if_neg h3, if_neg (by omega)]
theorem cstA_succ (s : Nat → Nat) {n : Nat} (hn : n < 32) : cstA s (n + 1) = (cstA s n).set n ((costF s n : Nat) : Int) := map32_succ (fun i => ((costF s i : Nat) : Int)) hn
theorem fstA_succ (s : Nat → Nat) {n : Nat} (hn : n < 32) : fstA s (n + 1) = (fstA s n).set n (((bestOf s n).2 : Nat) : Int) := map32_succ (fun i => (((bestOf s i).2 : Nat) : Int)) hn
theorem map32_set (g : Nat → Int) {n : Nat} : ((List.range 32).map fun i => if i < n then g i else 0).set n 0 = ((List.range 32).map fun i => if i < n then g i else 0) := by
  apply List.ext_getElem
  · simp
  · intro i h1 h2
    rw [List.getElem_set]
    by_cases h : n = i
    · subst h; simp
    · rw [if_neg h]
def costV : Option (Nat × Nat) → Int
  | none => -1
  | some q => (q.1 : Nat)
def firstV : Option (Nat × Nat) → Int
  | none => 0
  | some q => (q.2 : Nat)
/-- The two arrays while the ways of a set come. -/
def cstP (s : Nat → Nat) (n : Nat) (o : Option (Nat × Nat)) : List Int := (cstA s n).set n (costV o)
def fstP (s : Nat → Nat) (n : Nat) (o : Option (Nat × Nat)) : List Int := (fstA s n).set n (firstV o)
theorem cstP_len (s : Nat → Nat) (n : Nat) (o) : (cstP s n o).length = 32 := by simp [cstP, cstA_len]
theorem fstP_len (s : Nat → Nat) (n : Nat) (o) : (fstP s n o).length = 32 := by simp [fstP, fstA_len]
theorem fstP_none (s : Nat → Nat) (n : Nat) : fstP s n none = fstA s n := map32_set _
theorem cstP_set (s : Nat → Nat) (n : Nat) (o q) : (cstP s n o).set n (costV q) = cstP s n q := by simp [cstP, List.set_set]
theorem fstP_set (s : Nat → Nat) (n : Nat) (o q) : (fstP s n o).set n (firstV q) = fstP s n q := by simp [fstP, List.set_set]
theorem cstP_at (s : Nat → Nat) {n i : Nat} (o) (hn : n < 32) (hi : i < n) : (cstP s n o)[i]? = some ((costF s i : Nat) : Int) := by
  unfold cstP
  rw [List.getElem?_set_ne (by omega)]
  simp [cstA, hi, show i < 32 by omega]
theorem cstP_self (s : Nat → Nat) {n : Nat} (o) (hn : n < 32) : (cstP s n o)[n]? = some (costV o) := by
  unfold cstP
  rw [List.getElem?_set_self (by rw [cstA_len]; exact hn)]
theorem fstP_self (s : Nat → Nat) {n : Nat} (o) (hn : n < 32) : (fstP s n o)[n]? = some (firstV o) := by
  unfold fstP
  rw [List.getElem?_set_self (by rw [fstA_len]; exact hn)]
theorem cstP_done {s : Nat → Nat} {n : Nat} (hn : n < 32) (h0 : 0 < n) (h : onceB n = false) : cstP s n (pickL s (costF s) n (waysL n)) = cstA s (n + 1) := by
  rw [bestOf_some hn h0 h, cstA_succ s hn]
  rfl
theorem fstP_done {s : Nat → Nat} {n : Nat} (hn : n < 32) (h0 : 0 < n) (h : onceB n = false) : fstP s n (pickL s (costF s) n (waysL n)) = fstA s (n + 1) := by
  rw [bestOf_some hn h0 h, fstA_succ s hn]
  rfl
theorem cstA_once {s : Nat → Nat} {n : Nat} (hn : n < 32) (h : onceB n = true) : cstA s (n + 1) = cstA s n := by
  rw [cstA_succ s hn]
  unfold costF
  rw [bestOf_once hn h]
  exact map32_set _
theorem fstA_once {s : Nat → Nat} {n : Nat} (hn : n < 32) (h : onceB n = true) : fstA s (n + 1) = fstA s n := by
  rw [fstA_succ s hn, bestOf_once hn h]
  exact map32_set _
theorem cstA_at (s : Nat → Nat) {n i : Nat} (hi : i < n) (hn : i < 32) : (cstA s n)[i]? = some ((costF s i : Nat) : Int) := by simp [cstA, hi, hn]
theorem fstA_at (s : Nat → Nat) {n i : Nat} (hi : i < n) (hn : i < 32) : (fstA s n)[i]? = some (((bestOf s i).2 : Nat) : Int) := by simp [fstA, hi, hn]
theorem ones_once : ∀ x, x < 32 → 0 < x → (onesN x = 1 ↔ onceB x = true) := by decide +kernel
theorem ones_part : ∀ x, x < 32 → ∀ p, p < 32 → wayB x p = true → onesN p + onesN (bdiff x p) = onesN x ∧ 1 ≤ onesN p := by decide +kernel
theorem ones_pos : ∀ x, x < 32 → 0 < x → 1 ≤ onesN x := by decide +kernel
theorem once_bit : ∀ x, x < 32 → 0 < x → onceB x = true → x = pw (Nat.log2 x) ∧ Nat.log2 x < 5 := by decide +kernel
theorem once_small : ∀ x, x < 32 → 0 < x → onesN x ≤ 1 → onceB x = true := by decide +kernel
/-- The parts of a set of two tables or more. -/
theorem best_parts {s : Nat → Nat} {x : Nat} (hx : x < 32) (h0 : 0 < x) (h : onceB x = false) : 0 < (bestOf s x).2 ∧ (bestOf s x).2 < x ∧ 0 < bdiff x (bestOf s x).2 ∧ bdiff x (bestOf s x).2 < x ∧ onesN (bestOf s x).2 < onesN x ∧ onesN (bdiff x (bestOf s x).2) < onesN x := by
  obtain ⟨h1, h2⟩ := bestOf_way (s := s) hx h0 h
  obtain ⟨h3, h4⟩ := ways_lt h1
  generalize (bestOf s x).2 = p at *
  obtain ⟨h5, h6⟩ := bdiff_part x hx p (by omega) h4
  obtain ⟨h7, h8⟩ := ones_part x hx p (by omega) h4
  have hp0 : p ≠ 0 := by
    intro e
    subst e
    simp [wayB] at h4
  have h9 := ones_pos (bdiff x p) (by omega) (by omega)
  exact ⟨by omega, h3, by omega, h5, by omega, by omega⟩
/-- The tree of a set. -/
theorem treeOf_once (l : List (Nat × Nat)) {f x : Nat} (h : onceB x = true) : treeOf l f x = leafT (Nat.log2 x) := by
  cases f with
  | zero => rfl
  | succ f => rw [treeOf, if_pos h]
theorem treeOf_node {s : Nat → Nat} {N f x : Nat} (hx : x < N) (h : onceB x = false) : treeOf (bestTo s N) (f + 1) x = nodeT (treeOf (bestTo s N) f (bestOf s x).2) (treeOf (bestTo s N) f (bdiff x (bestOf s x).2)) := by
  rw [treeOf, h, bestTo_at s N x hx]
  rfl
theorem bestR_eq (s : Nat → Nat) (n : Nat) : bestR s n = (treeOf (bestTo s (pw n)) n (pw n - 1), costF s (pw n - 1)) := by
  unfold bestR
  rw [bestTo_at s (pw n) (pw n - 1) (by have := pw_pos n; omega)]
  rfl
theorem ones_all : ∀ n, n ≤ 5 → onesN (pw n - 1) ≤ n + 1 := by decide +kernel
def bestT (l : List PT) : PTr × Int × Int := if joinsE l = 0 then ((bestR (sizeFn l) l.length).1, ((bestR (sizeFn l) l.length).2 : Nat), 0) else (leafT 0, 0, joinsE l)
end Go.Proofs.Bg
end

section
/- Contract: the closure of Best that builds the tree. -/
namespace Go.Proofs.Bg
open Go.RowKit

theorem results_tr1 {fn : Func} {p : Tmp} (h : fn.results = #[.cell p 25]) (tmps : Array Value) (w : World) (g : Nat) (a b : Value) (hp : tmps.getD p undef = .pointer (some ⟨g, 0, none⟩)) (hg : w.heap[g]? = some (.cells #[a, b] 25)) :
    (results fn tmps).run Tryz.prog w = .ok (.agg #[a, b]) w := by
  have hp' : tmps[p]?.getD undef = .pointer (some ⟨g, 0, none⟩) := by simpa using hp
  have hl := run_loadVar_row (P := Tryz.prog) w g 25 25 #[a, b] (0, 0) _ hg Tryz.underlying25 rfl (by kernel_rfl)
  simp [results, h, hp', asAddr, hl]
/-- What the closure reads. -/
structure TrIs (s : Nat → Nat) (N g12 g8 : Nat) (W : World) : Prop where
  fn : W.cell? ⟨g12, 0, none⟩ = some (.func (.func 76) #[] #[.pointer (some ⟨g12, 0, none⟩), .pointer (some ⟨g8, 0, none⟩)])
  firsts : W.heap[g8]? = some (.cells (intsV (fstA s N)) 95)
  tab : DeTab W
theorem TrIs.below {s : Nat → Nat} {N g12 g8 : Nat} {W W' : World} (h : TrIs s N g12 g8 W) (hb : Below W.heap.size W W') : TrIs s N g12 g8 W' :=
  ⟨(hb.cell (World.block_lt_of_cell? _ _ h.fn)).trans h.fn, (hb.block _ (Array.getElem?_eq_some_iff.1 h.firsts).1).trans h.firsts, h.tab.below hb⟩
def RetTr (W : World) (T : PTr) (e : Ending) (w' : World) : Prop := ∃ t : Tr, e = .returned (.agg #[.int .i64 t.table, .slice t.kids.A t.kids.n t.kids.cap]) ∧ TreeAt w' W.heap.size t T ∧ Below W.heap.size W w'

set_option maxRecDepth 100000 in
set_option maxHeartbeats 4000000 in
theorem tree_any (s : Nat → Nat) (N g12 g8 : Nat) (hN : N ≤ 32) : ∀ (f x : Nat), 0 < x → x < N → onesN x ≤ f + 1 → ∀ W, TrIs s N g12 g8 W →
    Calls Tryz.prog 76 #[.int .i64 (x : Nat), .pointer (some ⟨g12, 0, none⟩), .pointer (some ⟨g8, 0, none⟩)] W (RetTr W (treeOf (bestTo s N) f x)) := by
  intro f
  induction f with
  | zero =>
    intro x h0 hx hf W hW
    have ho := once_small x (by omega) h0 hf
    obtain ⟨hp, hl5⟩ := once_bit x (by omega) h0 ho
    have HT : Hid (treeOf (bestTo s N) 0 x = leafT (Nat.log2 x)) := treeOf_once _ ho
    have hb0 := below_new W (.cells #[.int .i64 0, .slice none 0 0] 25)
    have hnb := new_block W #[.int .i64 0, .slice none 0 0] 25
    have hw1 : IntKind.i64.wrap ((x : Int) - 1) = ((x - 1 : Nat) : Int) := by rw [IntWalk.i64_in _ (by omega)]; omega
    have hba := band_nat (a := x) (b := x - 1) (by omega) (by omega)
    have hz : x &&& (x - 1) = 0 := by simpa [onceB] using ho
    rw [hz] at hba
    have Q := Lib.hid (TrailingZeros_any (Nat.log2 x) hl5 _ (hW.tab.below hb0))
    rw [← hp] at Q
    have HQ3 := Lib.hid (new_block W #[.int .i64 (Nat.log2 x : Nat), .slice none 0 0] 25)
    have HB3 := Lib.hid (below_new W (.cells #[.int .i64 (Nat.log2 x : Nat), .slice none 0 0] 25))
    have hx64 : (x : Int) < 64 := by omega
    have hx0 : (0 : Int) ≤ x := by omega
    generalize Nat.log2 x = lg at *
    clear hW hnb hb0 ho hp hz hf
    go_enter Tryz.func76, Tryz.ntmps76
    go_wp2_with fail
    (with_reducible refine Q.out.mono ?_)
    rintro e w1 ⟨rfl, rfl⟩
    go_wp2_with fail
    refine bodyPost_ret (results_tr1 rfl _ _ W.heap.size (.int .i64 (lg : Nat)) (.slice none 0 0) rfl HQ3.out) rfl ?_
    rw [HT.out]
    exact ⟨⟨lg, ⟨none, 0, 0⟩⟩, rfl, TreeAt.leaf _ _ _, HB3.out⟩
  | succ f ih =>
    intro x h0 hx hf W hW
    have hb0 := below_new W (.cells #[.int .i64 0, .slice none 0 0] 25)
    have hnb := new_block W #[.int .i64 0, .slice none 0 0] 25
    have hw1 : IntKind.i64.wrap ((x : Int) - 1) = ((x - 1 : Nat) : Int) := by rw [IntWalk.i64_in _ (by omega)]; omega
    have hba := band_nat (a := x) (b := x - 1) (by omega) (by omega)
    have hx64 : (x : Int) < 64 := by omega
    have hx0 : (0 : Int) ≤ x := by omega
    cases ho : onceB x with
    | true =>
      obtain ⟨hp, hl5⟩ := once_bit x (by omega) h0 ho
      have HT : Hid (treeOf (bestTo s N) (f + 1) x = leafT (Nat.log2 x)) := treeOf_once _ ho
      have hz : x &&& (x - 1) = 0 := by simpa [onceB] using ho
      rw [hz] at hba
      have Q := Lib.hid (TrailingZeros_any (Nat.log2 x) hl5 _ (hW.tab.below hb0))
      rw [← hp] at Q
      have HQ3 := Lib.hid (new_block W #[.int .i64 (Nat.log2 x : Nat), .slice none 0 0] 25)
      have HB3 := Lib.hid (below_new W (.cells #[.int .i64 (Nat.log2 x : Nat), .slice none 0 0] 25))
      generalize Nat.log2 x = lg at *
      clear hW hnb hb0 ho hp hz hf ih
      go_enter Tryz.func76, Tryz.ntmps76
      go_wp2_with fail
      (with_reducible refine Q.out.mono ?_)
      rintro e w1 ⟨rfl, rfl⟩
      go_wp2_with fail
      refine bodyPost_ret (results_tr1 rfl _ _ W.heap.size (.int .i64 (lg : Nat)) (.slice none 0 0) rfl HQ3.out) rfl ?_
      rw [HT.out]
      exact ⟨⟨lg, ⟨none, 0, 0⟩⟩, rfl, TreeAt.leaf _ _ _, HB3.out⟩
    | false =>
      have HT := Lib.hid (treeOf_node (s := s) (f := f) hx ho)
      obtain ⟨p1, p2, p3, p4, p5, p6⟩ := best_parts (s := s) (by omega) h0 ho
      have hz : x &&& (x - 1) ≠ 0 := by
        intro e
        simp [onceB, e] at ho
      have hc0 := cell_at_block (off := x) hW.firsts (sizes_cell (S := fstA s N) (s := fun x => if x < N then (bestOf s x).2 else 0) (fun y hy => by simp [fstA, hy]; split <;> rfl) (x := x) (by omega))
      simp only [if_pos hx] at hc0
      have hpx : (bestOf s x).2 < 64 := by omega
      have hbd := bandnot_nat (a := x) (b := (bestOf s x).2) (by omega) (by omega)
      have hW0 := hW.below hb0
      have eg : ∀ args w, (callFunc 76 args).run Tryz.prog w = .ok (.enter 76 args) w := enters_of Tryz.func76 (by kernel_rfl) rfl
      have QA := Lib.hid (fun W' hW' => ih (bestOf s x).2 p1 (by omega) (by omega) W' hW')
      have QB := Lib.hid (fun W' hW' => ih (bdiff x (bestOf s x).2) p3 (by omega) (by omega) W' hW')
      generalize (bestOf s x).2 = p at *
      generalize hzz : x &&& (x - 1) = Z at *
      have e0 : ((Z : Int) == 0) = false := by simp; omega
      have e0' : (Z == 0) = false := by simpa using hz
      obtain ⟨W0, hW0e⟩ : ∃ W0, W.alloc (.cells #[.int .i64 0, .slice none 0 0] 25) = W0 := ⟨_, rfl⟩
      rw [hW0e] at hb0 hnb hW0
      have HW0 := Lib.hid hW0e
      have c0 := (hb0.cell (World.block_lt_of_cell? _ _ hc0)).trans hc0
      have c1 := hW0.fn
      have c1w := hW.fn
      have K0 := Lib.hid (fun W' (hb : Below W.heap.size W W') => (⟨(hb.cell (World.block_lt_of_cell? _ _ c1w)).trans c1w, (hb.cell (World.block_lt_of_cell? _ _ hc0)).trans hc0⟩ : W'.cell? ⟨g12, 0, none⟩ = some (.func (.func 76) #[] #[.pointer (some ⟨g12, 0, none⟩), .pointer (some ⟨g8, 0, none⟩)]) ∧ W'.cell? ⟨g8, x, none⟩ = some (.int .i64 (p : Nat))))
      have HWI := Lib.hid hW0
      have HNB := Lib.hid hnb
      have HB0 := Lib.hid hb0
      have HSW : Hid (W.heap.size + 1 ≤ W0.heap.size) := (Array.getElem?_eq_some_iff.1 hnb).1
      have hx32 : (x : Int) < 32 := by omega
      clear hW hnb hb0 ho hz hf ih hW0 hW0e hc0 hzz c1w
      go_enter Tryz.func76, Tryz.ntmps76
      go_wp2_with fail
      rw [HW0.out]
      go_cut [] from 14 to 27 (fun wz => ∃ (ta tb : Tr) (w3 : World), TreeAt w3 (W.heap.size + 1) ta (treeOf (bestTo s N) f p) ∧ TreeAt w3 (W.heap.size + 1) tb (treeOf (bestTo s N) f (bdiff x p)) ∧ Below W0.heap.size W0 w3 ∧ wz = ((w3.alloc (.cells #[.int .i64 ta.table, .slice ta.kids.A ta.kids.n ta.kids.cap, .int .i64 tb.table, .slice tb.kids.A tb.kids.n tb.kids.cap] 25)).setCell ⟨W.heap.size, 0, none⟩ (.int .i64 0)).setCell ⟨W.heap.size, 1, none⟩ (.slice (some ⟨w3.heap.size, 0, none⟩) 2 2))
      case first =>
        go_region_held3 (fun W' => W'.cell? ⟨g12, 0, none⟩ = some (.func (.func 76) #[] #[.pointer (some ⟨g12, 0, none⟩), .pointer (some ⟨g8, 0, none⟩)]) ∧ W'.cell? ⟨g8, x, none⟩ = some (.int .i64 (p : Nat)))
          (first
            | assumption
            | exact K0.out _ HBB2.out
            | exact K0.out _ HBB3.out
            | exact K0.out _ HBB6.out
            | exact K0.out _ HBB7.out
            | exact K0.out _ HBB8.out
            | exact K0.out _ HB0.out.drew)
          (first
            | (go_at_fn 76; (with_reducible refine (QA.out _ (HWI.out.below ((Below.refl W0.heap.size W0).drew))).mono ?_); rintro e w2 ⟨ta, rfl, hta, hb2⟩; have HTA := Lib.hid (hta.low (HSW.out)); have HB2 := Lib.hid (bchain ((Below.refl W0.heap.size W0).drew) hb2); have HBB2 := Lib.hid (bchain HB0.out HB2.out); clear hta hb2)
            | (go_at_fn 76; (with_reducible refine (QB.out _ (HWI.out.below HB2.out)).mono ?_); rintro e w3 ⟨tb, rfl, htb, hb3⟩; have HTB := Lib.hid (htb.low (Nat.le_trans HSW.out HB2.out.size)); have HTA3 := Lib.hid (HTA.out.keep hb3); have HB3 := Lib.hid (bchain HB2.out hb3); have HBB3 := Lib.hid (bchain HB0.out HB3.out); have hbb6 := bchain HBB3.out (below_new w3 (.cells #[.int .i64 ta.table, .slice ta.kids.A ta.kids.n ta.kids.cap, .int .i64 tb.table, .slice tb.kids.A tb.kids.n tb.kids.cap] 25)); have HBB6 := Lib.hid hbb6; have HBB7 := Lib.hid (hbb6.setCell (p := ⟨W.heap.size, 0, none⟩) (Nat.le_refl _) (.int .i64 0)); have HBB8 := Lib.hid ((hbb6.setCell (p := ⟨W.heap.size, 0, none⟩) (Nat.le_refl _) (.int .i64 0)).setCell (p := ⟨W.heap.size, 1, none⟩) (Nat.le_refl _) (.slice (some ⟨w3.heap.size, 0, none⟩) 2 2)); have hn6 := ((bchain HB3.out (below_new w3 (.cells #[.int .i64 ta.table, .slice ta.kids.A ta.kids.n ta.kids.cap, .int .i64 tb.table, .slice tb.kids.A tb.kids.n tb.kids.cap] 25))).block _ (Array.getElem?_eq_some_iff.1 HNB.out).1).trans HNB.out; have y0 := cell_at_block (off := 0) hn6 rfl; have y1 := cell_at_block (off := 1) hn6 rfl; have z0 := free_at_block (off := 0) hn6; have z1 := free_at_block (off := 1) hn6; clear htb hb3 hbb6 hn6))
        all_goals
          go_wp2_with fail
          go_meet
          exact ⟨ta, tb, w3, HTA3.out, HTB.out, HB3.out, rfl⟩
      case rest =>
        obtain ⟨ta, tb, w3, hta, htb, hb3, rfl⟩ := hcut
        have hn6 := ((bchain hb3 (below_new w3 (.cells #[.int .i64 ta.table, .slice ta.kids.A ta.kids.n ta.kids.cap, .int .i64 tb.table, .slice tb.kids.A tb.kids.n tb.kids.cap] 25))).block _ (Array.getElem?_eq_some_iff.1 HNB.out).1).trans HNB.out
        have hbn := below_new w3 (.cells #[.int .i64 ta.table, .slice ta.kids.A ta.kids.n ta.kids.cap, .int .i64 tb.table, .slice tb.kids.A tb.kids.n tb.kids.cap] 25)
        have hnk := new_block w3 #[.int .i64 ta.table, .slice ta.kids.A ta.kids.n ta.kids.cap, .int .i64 tb.table, .slice tb.kids.A tb.kids.n tb.kids.cap] 25
        obtain ⟨q1, q2⟩ := setCell_at (off := 0) hn6 (.int .i64 0)
        obtain ⟨q3, q4⟩ := setCell_at (off := 1) q1 (.slice (some ⟨w3.heap.size, 0, none⟩) 2 2)
        have hg := q2.then_ q4 (fun _ e => .inr e)
        have hlt : W.heap.size < w3.heap.size := by have h1 := HSW.out; have h2 := hb3.size; omega
        have hta7 := (hta.keep hbn).far hg (by omega)
        have htb7 := (htb.keep hbn).far hg (by omega)
        have hnk7 := (hg.block _ (Array.getElem?_eq_some_iff.1 hnk).1 (fun e => by have := Option.some.inj e; omega)).trans hnk
        have hnode := TreeAt.node hnk7 (lo := W.heap.size) (Nat.le_of_lt hlt) (hta7.low (Nat.le_succ _)) (htb7.low (Nat.le_succ _)) 2
        have HND := Lib.hid hnode
        have HQ3 := Lib.hid q3
        have HBF := Lib.hid (below_row (bchain (bchain HB0.out hb3) hbn) hg (fun j e => by cases e; exact Nat.le_refl _))
        obtain ⟨W9, hW9⟩ : ∃ W9, ((w3.alloc (.cells #[.int .i64 ta.table, .slice ta.kids.A ta.kids.n ta.kids.cap, .int .i64 tb.table, .slice tb.kids.A tb.kids.n tb.kids.cap] 25)).setCell ⟨W.heap.size, 0, none⟩ (.int .i64 0)).setCell ⟨W.heap.size, 1, none⟩ (.slice (some ⟨w3.heap.size, 0, none⟩) 2 2) = W9 := ⟨_, rfl⟩
        rw [hW9] at HND HQ3 HBF ⊢
        clear hW9 hta htb hn6 hbn hnk q1 q2 q3 q4 hg hta7 htb7 hnk7 hnode
        go_wp2_with fail
        refine bodyPost_ret (results_tr1 rfl _ _ W.heap.size (.int .i64 0) (.slice (some ⟨w3.heap.size, 0, none⟩) 2 2) rfl HQ3.out) rfl ?_
        rw [HT.out]
        exact ⟨⟨0, ⟨some ⟨w3.heap.size, 0, none⟩, 2, 2⟩⟩, rfl, HND.out, HBF.out⟩
end Go.Proofs.Bg
end

section
/- Contracts: the law's helpers: Table, Leaf, Node, Tables, Rules. -/
namespace Go.Proofs.Bg
open Go.RowKit

theorem flatv_at {α : Type} (enc : α → List Value) (sz : Nat) (hz : ∀ x, (enc x).length = sz) : ∀ (l : List α) (i : Nat) (x : α), l[i]? = some x → ∀ (j : Nat) v, (enc x)[j]? = some v → (l.flatMap enc)[i * sz + j]? = some v
  | [], i, x, h => by simp at h
  | a :: l, 0, x, h => by
    intro j v hj
    simp at h
    subst h
    rw [List.flatMap_cons, Nat.zero_mul, Nat.zero_add, List.getElem?_append_left (List.getElem?_eq_some_iff.1 hj).1]
    exact hj
  | a :: l, i + 1, x, h => by
    intro j v hj
    rw [List.flatMap_cons, show (i + 1) * sz + j = (enc a).length + (i * sz + j) by rw [hz, Nat.succ_mul]; omega, List.getElem?_append_right (by omega), Nat.add_sub_cancel_left]
    exact flatv_at enc sz hz l i x (by simpa using h) j v hj
theorem rd_block {α : Type} {enc : α → List Value} {sz : Nat} (hz : ∀ x, (enc x).length = sz) {w : World} {lo g : Nat} {l : List α} {T : TypeId} (hlo : lo ≤ g) (hn : l.length ≤ 9223372036854775807) (hg : w.heap[g]? = some (.cells (l.flatMap enc).toArray T)) : Rd enc sz w lo (some ⟨g, 0, none⟩) l.length l :=
  ⟨rfl, hn, fun _ => ⟨g, 0, rfl, hlo, fun i x hx j v hv => cell_at_block hg (by
    rw [Nat.zero_add]
    simpa using flatv_at enc sz hz l i x hx j v hv)⟩⟩
/-- A chain of new blocks. -/
theorem allocs_at : ∀ (os : List Obj) (w : World), (os.foldl World.alloc w).heap.size = w.heap.size + os.length ∧ Below w.heap.size w (os.foldl World.alloc w) ∧ ∀ (i : Nat) o, os[i]? = some o → (os.foldl World.alloc w).heap[w.heap.size + i]? = some o
  | [], w => ⟨rfl, Below.refl _ _, fun i o h => by simp at h⟩
  | o :: os, w => by
    obtain ⟨h1, h2, h3⟩ := allocs_at os (w.alloc o)
    refine ⟨by rw [List.foldl_cons, h1]; simp; omega, ?_, fun i p h => ?_⟩
    · exact bchain (below_new w o) h2
    · cases i with
      | zero =>
        simp at h
        subst h
        rw [List.foldl_cons]
        have h4 : (w.alloc o).heap[w.heap.size]? = some o := by
          show (w.heap.push _)[w.heap.size]? = _
          simp
        exact (h2.block _ (Array.getElem?_eq_some_iff.1 h4).1).trans h4
      | succ i =>
        have := h3 i p (by simpa using h)
        rw [World.size_alloc] at this
        rw [List.foldl_cons, show w.heap.size + (i + 1) = w.heap.size + 1 + i by omega]
        exact this
theorem results_tab1 {fn : Func} {p : Tmp} (h : fn.results = #[.cell p 40]) (tmps : Array Value) (w : World) (g : Nat) (a b : Value) (hp : tmps.getD p undef = .pointer (some ⟨g, 0, none⟩)) (hg : w.heap[g]? = some (.cells #[a, b] 40)) :
    (results fn tmps).run Tryz.prog w = .ok (.agg #[a, b]) w := by
  have hp' : tmps[p]?.getD undef = .pointer (some ⟨g, 0, none⟩) := by simpa using hp
  have hl := run_loadVar_row (P := Tryz.prog) w g 40 40 #[a, b] (0, 0) _ hg Tryz.underlying40 rfl (by kernel_rfl)
  simp [results, h, hp', asAddr, hl]

set_option maxRecDepth 100000 in
set_option maxHeartbeats 4000000 in
theorem Table_any (c r : Sl) (w : World) : Calls Tryz.prog 86 #[.slice c.A c.n c.cap, .slice r.A r.n r.cap] w fun e w' => e = .returned (.agg #[.slice c.A c.n c.cap, .slice r.A r.n r.cap]) ∧ w' = w.alloc (.cells #[.slice c.A c.n c.cap, .slice r.A r.n r.cap] 40) := by
  have HQ := Lib.hid (new_block w #[.slice c.A c.n c.cap, .slice r.A r.n r.cap] 40)
  go_enter Tryz.func86, Tryz.ntmps86
  go_wp2_with fail
  refine bodyPost_ret (results_tab1 rfl _ _ w.heap.size _ _ rfl HQ.out) rfl ?_
  exact ⟨rfl, rfl⟩
set_option maxRecDepth 100000 in
set_option maxHeartbeats 4000000 in
theorem Leaf_any (t : Int) (w : World) : Calls Tryz.prog 59 #[.int .i64 t] w fun e w' => e = .returned (.agg #[.int .i64 t, .slice none 0 0]) ∧ w' = w.alloc (.cells #[.int .i64 t, .slice none 0 0] 25) := by
  have HQ := Lib.hid (new_block w #[.int .i64 t, .slice none 0 0] 25)
  go_enter Tryz.func59, Tryz.ntmps59
  go_wp2_with fail
  refine bodyPost_ret (results_tr1 rfl _ _ w.heap.size _ _ rfl HQ.out) rfl ?_
  exact ⟨rfl, rfl⟩
/-- Rows, each in its own block, one behind the other. -/
def rowsSl (b : Nat) : List (List Int) → List Sl
  | [] => []
  | r :: rs => ⟨some ⟨b, 0, none⟩, r.length, r.length⟩ :: rowsSl (b + 1) rs
theorem rowsSl_len (b : Nat) (rs : List (List Int)) : (rowsSl b rs).length = rs.length := by
  induction rs generalizing b with
  | nil => rfl
  | cons r rs ih => simp [rowsSl, ih]
theorem ints_flat (l : List Int) : (l.flatMap iv).toArray = intsV l := by
  unfold intsV
  congr 1
  induction l with
  | nil => rfl
  | cons x l ih => rw [List.flatMap_cons, ih]; rfl
theorem ints_block {w : World} {lo g : Nat} {l : List Int} {T : TypeId} (hlo : lo ≤ g) (hn : l.length ≤ 9223372036854775807) (hg : w.heap[g]? = some (.cells (intsV l) T)) : IntsAt w lo ⟨some ⟨g, 0, none⟩, l.length, l.length⟩ l :=
  rd_block (enc := iv) (sz := 1) (fun _ => rfl) hlo hn (by rw [ints_flat]; exact hg)
theorem rows_all {w : World} {lo : Nat} {T : TypeId} : ∀ (rs : List (List Int)) (b : Nat), lo ≤ b → (∀ r ∈ rs, r.length ≤ 9223372036854775807) → (∀ (i : Nat) r, rs[i]? = some r → w.heap[b + i]? = some (.cells (intsV r) T)) → All2 (IntsAt w lo) (rowsSl b rs) rs
  | [], b, _, _, _ => All2.nil _
  | r :: rs, b, hb, hl, hr => All2.cons (ints_block hb (hl r List.mem_cons_self) (by have := hr 0 r rfl; exact this)) (rows_all rs (b + 1) (by omega) (fun q h => hl q (List.mem_cons_of_mem _ h)) (fun i q h => by
    have := hr (i + 1) q (by simpa using h)
    rw [show b + 1 + i = b + (i + 1) by omega]
    exact this))
theorem rows_block {w : World} {lo g b : Nat} {rs : List (List Int)} {T U : TypeId} (hlo : lo ≤ g) (hb : lo ≤ b) (hn : rs.length ≤ 9223372036854775807) (hl : ∀ r ∈ rs, r.length ≤ 9223372036854775807) (hr : ∀ (i : Nat) r, rs[i]? = some r → w.heap[b + i]? = some (.cells (intsV r) T)) (hg : w.heap[g]? = some (.cells ((rowsSl b rs).flatMap Sl.vs).toArray U)) : RowsAt w lo ⟨some ⟨g, 0, none⟩, rs.length, rs.length⟩ rs := by
  refine ⟨rowsSl b rs, ?_, rows_all rs b hb hl hr⟩
  have := rd_block (enc := Sl.vs) (sz := 1) (lo := lo) (fun _ => rfl) hlo (by rw [rowsSl_len]; exact hn) hg
  rw [rowsSl_len] at this
  exact this
def tabsL : List PT := [⟨[0, 1], [[1, 1], [1, 2], [2, 3]]⟩, ⟨[1, 2], [[1, 5], [2, 5], [2, 6]]⟩, ⟨[2, 3], [[5, 0], [6, 0], [7, 0]]⟩]
def rulesL : List PF := [⟨[0], 1⟩, ⟨[1], 2⟩]
def intO (l : List Int) : Obj := .cells (intsV l) 3
def rowO (b : Nat) (rs : List (List Int)) : Obj := .cells ((rowsSl b rs).flatMap Sl.vs).toArray 32
def tab3 (b : Nat) : Tb := ⟨⟨some ⟨b, 0, none⟩, 2, 2⟩, ⟨some ⟨b + 4, 0, none⟩, 3, 3⟩⟩
def tabO (b : Nat) : Obj := .cells (tab3 b).vs.toArray 40
def tabsOs (b : Nat) : List Obj := [intO [0, 1], intO [1, 1], intO [1, 2], intO [2, 3], rowO (b + 1) [[1, 1], [1, 2], [2, 3]], tabO b, intO [1, 2], intO [1, 5], intO [2, 5], intO [2, 6], rowO (b + 7) [[1, 5], [2, 5], [2, 6]], tabO (b + 6), intO [2, 3], intO [5, 0], intO [6, 0], intO [7, 0], rowO (b + 13) [[5, 0], [6, 0], [7, 0]], tabO (b + 12), .cells ([tab3 b, tab3 (b + 6), tab3 (b + 12)].flatMap Tb.vs).toArray 40]
theorem tab3_at {w : World} {b : Nat} {c r1 r2 r3 : List Int} (hc : c.length = 2) (h1 : r1.length = 2) (h2 : r2.length = 2) (h3 : r3.length = 2) (H : ∀ (i : Nat) o, [intO c, intO r1, intO r2, intO r3, rowO (b + 1) [r1, r2, r3]][i]? = some o → w.heap[b + i]? = some o) : TabAt w 0 (tab3 b) ⟨c, [r1, r2, r3]⟩ := by
  refine ⟨?_, ?_⟩
  · have := ints_block (lo := 0) (Nat.zero_le _) (by rw [hc]; omega) (H 0 _ rfl)
    rw [hc] at this
    exact this
  · refine rows_block (T := 3) (b := b + 1) (Nat.zero_le _) (Nat.zero_le _) (by simp) (fun r hr => ?_) (fun i r hr => ?_) (H 4 _ rfl)
    · simp at hr
      rcases hr with rfl | rfl | rfl <;> omega
    · match i, hr with
      | 0, hr => cases hr; exact H 1 _ rfl
      | 1, hr => cases hr; exact H 2 _ rfl
      | 2, hr => cases hr; exact H 3 _ rfl
      | n + 3, hr => simp at hr
theorem tabs_at (w : World) : TabsAt ((tabsOs w.heap.size).foldl World.alloc w) 0 (some ⟨w.heap.size + 18, 0, none⟩) 3 tabsL := by
  have H := (allocs_at (tabsOs w.heap.size) w).2.2
  refine ⟨[tab3 w.heap.size, tab3 (w.heap.size + 6), tab3 (w.heap.size + 12)], rd_block (enc := Tb.vs) (sz := 2) (fun _ => rfl) (Nat.zero_le _) (by simp) (H 18 _ rfl), ?_⟩
  refine All2.cons (tab3_at rfl rfl rfl rfl fun i o h => ?_) (All2.cons (tab3_at rfl rfl rfl rfl fun i o h => ?_) (All2.cons (tab3_at rfl rfl rfl rfl fun i o h => ?_) (All2.nil _)))
  · match i, h with
    | 0, h => cases h; exact H 0 _ rfl
    | 1, h => cases h; exact H 1 _ rfl
    | 2, h => cases h; exact H 2 _ rfl
    | 3, h => cases h; exact H 3 _ rfl
    | 4, h => cases h; exact H 4 _ rfl
    | n + 5, h => simp at h
  · match i, h with
    | 0, h => cases h; exact H 6 _ rfl
    | 1, h => cases h; exact H 7 _ rfl
    | 2, h => cases h; exact H 8 _ rfl
    | 3, h => cases h; exact H 9 _ rfl
    | 4, h => cases h; exact H 10 _ rfl
    | n + 5, h => simp at h
  · match i, h with
    | 0, h => cases h; exact H 12 _ rfl
    | 1, h => cases h; exact H 13 _ rfl
    | 2, h => cases h; exact H 14 _ rfl
    | 3, h => cases h; exact H 15 _ rfl
    | 4, h => cases h; exact H 16 _ rfl
    | n + 5, h => simp at h

set_option maxRecDepth 100000 in
set_option maxHeartbeats 4000000 in
theorem Tables_any (w : World) : Calls Tryz.prog 85 #[] w fun e w' => e = .returned (.slice (some ⟨w.heap.size + 18, 0, none⟩) 3 3) ∧ TabsAt w' 0 (some ⟨w.heap.size + 18, 0, none⟩) 3 tabsL ∧ Below w.heap.size w w' := by
  have QT := Lib.hid (fun c r W => Table_any c r W)
  go_enter Tryz.func85, Tryz.ntmps85
  go_wp2_with fail
  (with_reducible refine (QT.out ⟨_, _, _⟩ ⟨_, _, _⟩ _).mono ?_)
  rintro e w1 ⟨rfl, rfl⟩
  go_wp2_with fail
  (with_reducible refine (QT.out ⟨_, _, _⟩ ⟨_, _, _⟩ _).mono ?_)
  rintro e w1 ⟨rfl, rfl⟩
  go_wp2_with fail
  (with_reducible refine (QT.out ⟨_, _, _⟩ ⟨_, _, _⟩ _).mono ?_)
  rintro e w1 ⟨rfl, rfl⟩
  go_wp2_with fail
  go_ret
  exact ⟨rfl, tabs_at w, (allocs_at (tabsOs w.heap.size) w).2.1⟩
def rulesOs (b : Nat) : List Obj := [intO [0], intO [1], .cells ([⟨⟨some ⟨b, 0, none⟩, 1, 1⟩, 1⟩, ⟨⟨some ⟨b + 1, 0, none⟩, 1, 1⟩, 2⟩].flatMap Fd.vs).toArray 149]
theorem rules_at (w : World) : FdsAt ((rulesOs w.heap.size).foldl World.alloc w) 0 (some ⟨w.heap.size + 2, 0, none⟩) 2 rulesL := by
  have H := (allocs_at (rulesOs w.heap.size) w).2.2
  refine ⟨[⟨⟨some ⟨w.heap.size, 0, none⟩, 1, 1⟩, 1⟩, ⟨⟨some ⟨w.heap.size + 1, 0, none⟩, 1, 1⟩, 2⟩], rd_block (enc := Fd.vs) (sz := 2) (fun _ => rfl) (Nat.zero_le _) (by simp) (H 2 _ rfl), ?_⟩
  exact All2.cons ⟨rfl, ints_block (Nat.zero_le _) (by simp) (H 0 _ rfl)⟩ (All2.cons ⟨rfl, ints_block (Nat.zero_le _) (by simp) (H 1 _ rfl)⟩ (All2.nil _))
set_option maxRecDepth 100000 in
set_option maxHeartbeats 4000000 in
theorem Rules_any (w : World) : Calls Tryz.prog 87 #[] w fun e w' => e = .returned (.slice (some ⟨w.heap.size + 2, 0, none⟩) 2 2) ∧ FdsAt w' 0 (some ⟨w.heap.size + 2, 0, none⟩) 2 rulesL ∧ Below w.heap.size w w' := by
  go_enter Tryz.func87, Tryz.ntmps87
  go_wp2_with fail
  go_ret
  exact ⟨rfl, rules_at w, (allocs_at (rulesOs w.heap.size) w).2.1⟩
set_option maxRecDepth 100000 in
set_option maxHeartbeats 4000000 in
theorem Node_any (a b : Tr) (A B : PTr) (w : World) (ha : TreeAt w 0 a A) (hb : TreeAt w 0 b B) : Calls Tryz.prog 60 #[.agg #[.int .i64 a.table, .slice a.kids.A a.kids.n a.kids.cap], .agg #[.int .i64 b.table, .slice b.kids.A b.kids.n b.kids.cap]] w fun e w' => ∃ t : Tr, e = .returned (.agg #[.int .i64 t.table, .slice t.kids.A t.kids.n t.kids.cap]) ∧ TreeAt w' 0 t (nodeT A B) ∧ Below w.heap.size w w' := by
  have H4 := allocs_at [.cells #[.int .i64 a.table, .slice a.kids.A a.kids.n a.kids.cap] 25, .cells #[.int .i64 b.table, .slice b.kids.A b.kids.n b.kids.cap] 25, .cells #[.int .i64 0, .slice (some ⟨w.heap.size + 3, 0, none⟩) 2 2] 25, .cells #[.int .i64 a.table, .slice a.kids.A a.kids.n a.kids.cap, .int .i64 b.table, .slice b.kids.A b.kids.n b.kids.cap] 25] w
  have HQ3 := Lib.hid (H4.2.2 2 _ rfl)
  have hbf := H4.2.1
  have HND := Lib.hid (TreeAt.node (H4.2.2 3 _ rfl) (lo := 0) (Nat.zero_le _) (ha.keep hbf) (hb.keep hbf) 2)
  have HBF := Lib.hid hbf
  clear H4 hbf ha hb
  go_enter Tryz.func60, Tryz.ntmps60
  go_wp2_with fail
  refine bodyPost_ret (results_tr1 rfl _ _ (w.heap.size + 2) _ _ rfl HQ3.out) rfl ?_
  exact ⟨⟨0, ⟨some ⟨w.heap.size + 3, 0, none⟩, 2, 2⟩⟩, rfl, HND.out, HBF.out⟩
end Go.Proofs.Bg
end

section
/- A region that draws its order and only reads, inside a round of a loop over an iterator: one walk of the lexical order. No program in sight. -/
namespace Go.Proofs.Bg
open Go.RowKit
section
variable {F : Fence} {n : Nat} {P : Program} {ops : Array Oper} {md : Region.Mode} {C : World → Prop}
def noDefer (o : Oper) : Bool := match o.op with | .defer _ => false | _ => true
theorem noDefer_spec {o : Oper} (h : noDefer o = true) : ∀ c, o.op ≠ .defer c := fun c e => by
  unfold noDefer at h
  rw [e] at h
  cases h
theorem oper_quiet_r {o : Oper} {a : Act} {K : Act → Prop} {K' : Act → World → Prop} {Q' : Exit → Act → World → Prop} {w : World} (hnd : noDefer o = true) (hw : C w) (h : ∀ a w', C w' → K a → K' a w')
    (ha : o.askedIn F P a C) (hh : o.quietIn F n P a C K) : o.wpIn F n P a w K' Q' := by
  obtain ⟨v, h1, h2⟩ := hh
  have h3 := h1 w hw
  unfold Oper.quietAtIn at h3
  unfold Oper.wpIn
  refine ⟨ha w hw, ?_⟩
  rw [Oper.semAt_plain F _ _ (noDefer_spec hnd)]
  generalize (execOp a.eval o).run P w = r at *
  cases r with
  | halt x w' => simp only [Oper.quietUponIn] at h3
  | ok x w' =>
    cases x <;> simp only [Oper.quietUponIn] at h3 <;> simp only [Oper.uponIn]
    case value u =>
      obtain ⟨rfl, rfl⟩ := h3
      exact h _ _ hw h2
    case skip =>
      obtain ⟨rfl, e2⟩ := h3
      rw [← e2]
      exact h _ _ hw h2
    case enter f args =>
      obtain ⟨rfl, hd, hc⟩ := h3
      exact ⟨hd, hc.mono fun e w'' ⟨he, hw''⟩ => by subst he; exact h _ _ hw'' h2⟩
theorem op_quiet_r {i : Nat} {a : Act} {K : Act → Prop} {K' : Act → World → Prop} {Q' : Exit → Act → World → Prop} {w : World} (hnd : ∀ o, ops[i]? = some o → noDefer o = true) (hC : C w) (h : ∀ a w', C w' → K a → K' a w')
    (hh : qOpIn F n P ops C i K a) : wpOpIn F n P ops Q' i K' a w := by
  unfold qOpIn at hh
  unfold wpOpIn
  split
  · rename_i ho; simp only [ho] at hh; exact h _ _ hC hh
  · rename_i o ho
    simp only [ho] at hh
    split
    · rename_i hw; simp only [hw, if_true] at hh; exact oper_quiet_r (hnd o ho) hC h hh.1 hh.2
    · rename_i hw; simp only [hw] at hh; exact ⟨hh.1 w hC, h _ _ hC hh.2⟩
theorem any_quiet_r {Q : Act → Prop} {Q' : Exit → Act → World → Prop} (hnd : ∀ (i : Nat) o, ops[i]? = some o → noDefer o = true) (hQ : ∀ a w, C w → Q a → Q' .normal a w) : ∀ (fuel : Nat) (listed : Array Bool) (a : Act) (w : World), C w →
    wpAnyQIn F n P md ops C Q fuel listed a → wpAnyIn F n P md ops Q' fuel listed a w
  | 0, _, _, _, hw, h => ⟨h.1, hQ _ _ hw h.2⟩
  | fuel + 1, _, _, _, hw, h => ⟨fun h0 => hQ _ _ hw (h.1 h0), fun i hi => op_quiet_r (hnd i) hw (fun a' w' hw' => any_quiet_r hnd hQ fuel _ a' w' hw') (h.2 i hi)⟩
theorem region_quiet_r {id : Nat} {Q : Exit → Act → World → Prop} {a : Act} {w : World} {l : List Oper} (hm : P.follows .mixedOrders = true) (hB : Region.lexB .any l.toArray = true) (hnd : l.all noDefer = true)
    (h : wpQuietIn F n P l.toArray (fun w' => ∃ n, w' = w.drewN n) (fun a' => ∀ w', (∃ n, w' = w.drewN n) → Q .normal a' w') l a) : (Code.region id l.toArray true).wpIn F n P Q a w := by
  simp only [Region.lexB, Bool.and_eq_true] at hB
  refine wpIn_region_any hm (any_quiet_r (C := fun w' => ∃ n, w' = w.drewN n) (Q := fun a' => ∀ w', (∃ n, w' = w.drewN n) → Q .normal a' w') (fun i o ho => ?_) (fun _ w' hw' h => h w' hw') _ _ _ _ ⟨1, rfl⟩ ?_)
  · rw [List.all_eq_true] at hnd
    exact hnd o (List.mem_of_getElem? (by simpa using ho))
  · have := wpAnyQIn_lex (F := F) (n := n) (C := fun w' => ∃ n, w' = w.drewN n) (md := .any) hB.1 l 0 (Array.replicate l.toArray.size false) a (by simp) (by simpa using hB.2) h
    simpa using this
end
end Go.Proofs.Bg
end

section
/- Contract: Best. -/
namespace Go.Proofs.Bg
open Go.RowKit Go.Shelf
attribute [local go_sem] Oper.semAt_some

theorem wpListIn_store_row {F : Fence} {n : Nat} {P : Program} {ops : Array Oper} {rest : List Oper} {o : Oper} {a : Act} {w : World} {Q : Exit → Act → World → Prop} (hgd : o.guard = none) (ty : TypeId) (x y : Operand) (ho : o.op = .store ty x y)
    (g : Nat) (cells : Array Value) (hx : a.eval x = .pointer (some ⟨g, 0, none⟩)) (hy : a.eval y = .agg cells)
    (t : TypeId) (old : Array Value) (hg : w.heap[g]? = some (.cells old t (0, 0))) (hi : (P.info? ty).map (·.size) = some cells.size)
    (hold : old.size = cells.size) (h1 : cells.all (·.oneCell') = true)
    (h : wpListIn F n P ops Q rest (a.put o.dst undef) (w.setRow g cells)) : wpListIn F n P ops Q (o :: rest) a w := by
  refine wpListIn_plain hgd fun K hK => ?_
  unfold Oper.wpIn
  refine ⟨by simp [Oper.about, ho], ?_⟩
  rw [Oper.semAt_plain F _ _ (by rw [ho]; intro c hc'; cases hc')]
  simp only [ho, execOp, hx, hy, Instr.storeAt, Instr.sureAddr, Sem.run_bind, Sem.run_pure, Result.andThen_ok, run_storeVar_row w g t ty old cells hg hi hold h1]
  exact hK _ _ h

/-- Behind the marks: what was cells is as it was; below base nothing has turned. -/
structure Shut (base : Nat) (w w' : World) : Prop where
  below : Below base w w'
  same : ∀ (k : Nat) (o : Obj), w.heap[k]? = some o → o.isCells = true → w'.heap[k]? = some o
theorem Shut.refl (base : Nat) (w : World) : Shut base w w := ⟨Below.refl _ _, fun _ _ h _ => h⟩
theorem Shut.cell {base : Nat} {w w' : World} (h : Shut base w w') {a : Addr} {v : Value} (hc : w.cell? a = some v) : w'.cell? a = some v := by
  have hb : ∃ o, w.heap[a.block]? = some o ∧ o.isCells = true := by
    unfold World.cell? at hc
    split at hc
    · rename_i cs T fr hh
      exact ⟨_, hh, rfl⟩
    · cases hc
  obtain ⟨o, h1, h2⟩ := hb
  have h3 := h.same _ _ h1 h2
  unfold World.cell? at hc ⊢
  rw [h3]
  rw [h1] at hc
  exact hc
theorem Rd.shut {α : Type} {enc : α → List Value} {sz base lo n : Nat} {A : Option Addr} {w w' : World} {l : List α} (h : Rd enc sz w lo A n l) (hs : Shut base w w') : Rd enc sz w' lo A n l :=
  ⟨h.1, h.2.1, fun hn => by
    obtain ⟨b, off, e, hl, hc⟩ := h.2.2 hn
    exact ⟨b, off, e, hl, fun i x hx j v hv => hs.cell (hc i x hx j v hv)⟩⟩
theorem TreeAt.shut {base lo : Nat} {w w' : World} {t : Tr} {T : PTr} (h : TreeAt w lo t T) (hs : Shut base w w') : TreeAt w' lo t T := by
  induction h with
  | mk t kids ks h hl _ ih => exact .mk t kids ks (h.shut hs) hl ih
def mark (D : Nat) : Deferred := { target := .collected D, args := #[] }
/-- Leaving over marks, the results read in the world that is left. -/
theorem leaves_marks {F : Fence} {n : Nat} {P : Program} {fn : Func} {tmps : Array Value} {R : Ending → World → Prop} {v : Value} (base : Nat) : ∀ (ds : List Nat) (w : World), ds.Nodup → (∀ D ∈ ds, base ≤ D ∧ w.heap[D]? = some (.deferred (some []))) → (∀ w', Shut base w w' → (results fn tmps).run P w' = .ok v w' ∧ R (.returned v) w') → LeavesInM F n P fn tmps R (ds.map mark) .returning w
  | [], w, _, _, hR => ⟨v, (hR w (Shut.refl _ _)).1, (hR w (Shut.refl _ _)).2⟩
  | D :: ds, w, hn, hd, hR => by
    obtain ⟨hb, hD⟩ := hd D List.mem_cons_self
    refine ⟨by simp, .inl ⟨D, _, rfl, run_takeDeferred hD, ?_⟩⟩
    refine leaves_marks base ds _ (List.nodup_cons.1 hn).2 (fun D' h' => ?_) (fun w' hw' => hR w' ⟨?_, fun k o hk ho => ?_⟩)
    · obtain ⟨h1, h2⟩ := hd D' (List.mem_cons_of_mem _ h')
      refine ⟨h1, (World.putObj_heap_other (fun e => ?_)).trans h2⟩
      subst e
      exact (List.nodup_cons.1 hn).1 h'
    · exact Below.trans (a := w) (B := base) (show Below base w (w.putObj D (.deferred none)) from ⟨rfl, rfl, rfl, by simp, fun i hi => World.putObj_heap_other (by omega)⟩) hw'.below
    · refine hw'.same k o ((World.putObj_heap_other (fun e => ?_)).trans hk) ho
      subst e
      rw [hD] at hk
      cases hk
      cases ho
theorem ret_marks {F : Fence} {n : Nat} {P : Program} {fn : Func} {tmps : Array Value} {R : Ending → World → Prop} {v : Value} {w : World} (base : Nat) (ds : List Nat) (hn : ds.Nodup) (hd : ∀ D ∈ ds, base ≤ D ∧ w.heap[D]? = some (.deferred (some []))) (hR : ∀ w', Shut base w w' → (results fn tmps).run P w' = .ok v w' ∧ R (.returned v) w') : bodyPostM F n P fn R .ret { tmps := tmps, defers := ds.map mark } w :=
  leaves_marks base ds w hn hd hR
theorem ret_none {F : Fence} {n : Nat} {P : Program} {fn : Func} {tmps : Array Value} {R : Ending → World → Prop} {v : Value} {w : World} (hres : (results fn tmps).run P w = .ok v w) (hR : R (.returned v) w) : bodyPostM F n P fn R .ret { tmps := tmps, defers := [] } w := ⟨v, hres, hR⟩

def onlyN (Q : Exit → Act → World → Prop) : Exit → Act → World → Prop
  | .normal, a, w => Q .normal a w
  | .outgrown, a, w => Q .outgrown a w
  | _, _, _ => False
theorem onlyN_normal {Q : Exit → Act → World → Prop} {a : Act} {w : World} (h : Q .normal a w) : onlyN Q .normal a w := h
theorem wpIn_only {F : Fence} {rm : Nat} {P : Program} {s : Code} {Q : Exit → Act → World → Prop} {a : Act} {w : World} (h : s.wpIn F rm P (onlyN Q) a w) : s.wpIn F rm P Q a w := by
  refine wpIn_mono h ?_
  intro e a' w' hq
  cases e with
  | normal => exact hq
  | exit id => exact hq.elim
  | goto l => exact hq.elim
  | ret => exact hq.elim
  | panic ch => exact hq.elim
  | outgrown => exact hq
def outOnly (Q : Exit → Act → World → Prop) : Exit → Act → World → Prop
  | .outgrown, a, w => Q .outgrown a w
  | _, _, _ => False
/-- A statement that ends in one way alone. -/
theorem wpIn_one {F : Fence} {rm : Nat} {P : Program} {s : Code} {K : Act → World → Prop} {Q' : Exit → Act → World → Prop} {a : Act} {w : World} (h : s.wpIn F rm P (Exit.then K (outOnly Q')) a w) : s.wpIn F rm P (Exit.then K Q') a w := by
  refine wpIn_mono h ?_
  intro e a' w' hq
  cases e with
  | normal => exact hq
  | exit id => exact hq.elim
  | goto l => exact hq.elim
  | ret => exact hq.elim
  | panic ch => exact hq.elim
  | outgrown => exact hq

/-- The arrays while Best goes over the sets. -/
structure BSt (w : World) (g1 g7 g8 : Nat) (S C F : List Int) (W : World) : Prop where
  szs : W.heap[g1]? = some (.cells (intsV S) 95)
  cst : W.heap[g7]? = some (.cells (intsV C) 95)
  fst : W.heap[g8]? = some (.cells (intsV F) 95)
  res : W.heap[w.heap.size]? = some (.cells #[.int .i64 0, .slice none 0 0] 25)
  below : Below w.heap.size w W
theorem BSt.kept {w X Y : World} {g1 g7 g8 : Nat} {S C F : List Int} {row : Option Nat} (h : BSt w g1 g7 g8 S C F X) (hg : X.grownBy Y row) (hr : ∀ r, row = some r → w.heap.size ≤ r ∧ r ≠ g1 ∧ r ≠ g7 ∧ r ≠ g8 ∧ r ≠ w.heap.size) : BSt w g1 g7 g8 S C F Y :=
  ⟨(hg.block _ (Array.getElem?_eq_some_iff.1 h.szs).1 (fun e => (hr _ e.symm).2.1 rfl)).trans h.szs, (hg.block _ (Array.getElem?_eq_some_iff.1 h.cst).1 (fun e => (hr _ e.symm).2.2.1 rfl)).trans h.cst, (hg.block _ (Array.getElem?_eq_some_iff.1 h.fst).1 (fun e => (hr _ e.symm).2.2.2.1 rfl)).trans h.fst, (hg.block _ (Array.getElem?_eq_some_iff.1 h.res).1 (fun e => (hr _ e.symm).2.2.2.2 rfl)).trans h.res, h.below.grown hg h.below.size (fun g e => (hr g e).1)⟩
theorem no_cells {X : World} {g r : Nat} {cs : Array Value} {T : TypeId} {fr : Nat × Nat} (h : X.heap[g]? = some (.cells cs T fr)) {o : Obj} (ho : X.heap[r]? = some o) (hc : o.isCells = false) : r ≠ g := fun e => by
  subst e
  rw [h] at ho
  cases ho
  cases hc
theorem BSt.from {w : World} {g1 g7 g8 B : Nat} {S C F : List Int} (hB : w.heap.size ≤ B) {X Y : World} {row : Option Nat} (h : BSt w g1 g7 g8 S C F X) (hg : X.grownBy Y row) (hr : ∀ r, row = some r → B ≤ r ∧ ∃ o : Obj, X.heap[r]? = some o ∧ o.isCells = false) : BSt w g1 g7 g8 S C F Y :=
  h.kept hg fun r e => by
    obtain ⟨h1, o, ho, hc⟩ := hr r e
    exact ⟨Nat.le_trans hB h1, no_cells h.szs ho hc, no_cells h.cst ho hc, no_cells h.fst ho hc, no_cells h.res ho hc⟩
theorem BSt.low {w X Y : World} {g1 g7 g8 : Nat} {S C F : List Int} (h : BSt w g1 g7 g8 S C F X) (hb : Below X.heap.size X Y) : BSt w g1 g7 g8 S C F Y := h.kept (row := none) (below_grown hb) (fun r e => by cases e)
/-- A cost is stored, a first part. -/
theorem BSt.setC {w X : World} {g1 g7 g8 : Nat} {S C F : List Int} (h : BSt w g1 g7 g8 S C F X) (h1 : g1 ≠ g7) (h2 : g7 ≠ g8) (h3 : w.heap.size < g7) (i : Nat) (x : Int) : BSt w g1 g7 g8 S (C.set i x) F (X.setCell ⟨g7, i, none⟩ (.int .i64 x)) := by
  obtain ⟨q1, q2⟩ := setCell_at (off := i) h.cst (.int .i64 x)
  rw [intsV_set] at q1
  exact ⟨(q2.block _ (Array.getElem?_eq_some_iff.1 h.szs).1 (fun e => h1 (Option.some.inj e))).trans h.szs, q1, (q2.block _ (Array.getElem?_eq_some_iff.1 h.fst).1 (fun e => h2 (Option.some.inj e).symm)).trans h.fst, (q2.block _ (Array.getElem?_eq_some_iff.1 h.res).1 (fun e => by have := Option.some.inj e; omega)).trans h.res, h.below.grown q2 h.below.size (fun g e => by cases e; omega)⟩
theorem BSt.setF {w X : World} {g1 g7 g8 : Nat} {S C F : List Int} (h : BSt w g1 g7 g8 S C F X) (h1 : g1 ≠ g8) (h2 : g7 ≠ g8) (h3 : w.heap.size < g8) (i : Nat) (x : Int) : BSt w g1 g7 g8 S C (F.set i x) (X.setCell ⟨g8, i, none⟩ (.int .i64 x)) := by
  obtain ⟨q1, q2⟩ := setCell_at (off := i) h.fst (.int .i64 x)
  rw [intsV_set] at q1
  exact ⟨(q2.block _ (Array.getElem?_eq_some_iff.1 h.szs).1 (fun e => h1 (Option.some.inj e))).trans h.szs, (q2.block _ (Array.getElem?_eq_some_iff.1 h.cst).1 (fun e => h2 (Option.some.inj e))).trans h.cst, q1, (q2.block _ (Array.getElem?_eq_some_iff.1 h.res).1 (fun e => by have := Option.some.inj e; omega)).trans h.res, h.below.grown q2 h.below.size (fun g e => by cases e; omega)⟩
theorem keeps_drewN (W : World) (q : Nat) : KeepsOthers W (W.drewN q) := ⟨Nat.le_refl _, fun _ _ h _ => h⟩
def Marks (w : World) (ds : List Nat) (W : World) : Prop := ds.Nodup ∧ ∀ D ∈ ds, w.heap.size ≤ D ∧ W.heap[D]? = some (.deferred (some []))
theorem Marks.kept {w X Y : World} {ds : List Nat} {row : Option Nat} (h : Marks w ds X) (hg : X.grownBy Y row) (hr : ∀ r, row = some r → r ∉ ds) : Marks w ds Y := ⟨h.1, fun D hD => ⟨(h.2 D hD).1, (hg.block D (Array.getElem?_eq_some_iff.1 (h.2 D hD).2).1 (fun e => hr D e.symm hD)).trans (h.2 D hD).2⟩⟩
theorem Marks.cells {w X Y : World} {ds : List Nat} {g : Nat} {cs : Array Value} {T : TypeId} {fr : Nat × Nat} (h : Marks w ds X) (hg : X.grownBy Y (some g)) (hc : X.heap[g]? = some (.cells cs T fr)) : Marks w ds Y := h.kept hg fun r e hD => by
  cases e
  have := (h.2 g hD).2
  rw [hc] at this
  cases this
theorem Marks.low {w X Y : World} {ds : List Nat} (h : Marks w ds X) (hb : Below X.heap.size X Y) : Marks w ds Y := h.kept (row := none) (below_grown hb) (fun r e => by cases e)
theorem Marks.lt {w X : World} {ds : List Nat} (h : Marks w ds X) : ∀ D ∈ ds, D < X.heap.size := fun D hD => (Array.getElem?_eq_some_iff.1 (h.2 D hD).2).1
theorem Marks.cons {w X : World} {ds : List Nat} {D : Nat} (h : Marks w ds X) (hD : X.heap[D]? = some (.deferred (some []))) (hw : w.heap.size ≤ D) (hn : D ∉ ds) : Marks w (D :: ds) X := ⟨List.nodup_cons.2 ⟨hn, h.1⟩, fun D' h' => by
  rcases List.mem_cons.1 h' with rfl | h'
  · exact ⟨hw, hD⟩
  · exact h.2 D' h'⟩
def boxOf (v : Value) (W : World) : Value := match v with | .pointer (some p) => (W.cell? p).getD undef | _ => undef
theorem sizes_cell' {S : List Int} {x : Nat} {v : Int} (h : S[x]? = some v) : (intsV S)[x]? = some (.int .i64 v) := by
  obtain ⟨h1, h2⟩ := List.getElem?_eq_some_iff.1 h
  rw [intsV_at h1, h2]
theorem box_int {W : World} {B k : Nat} {t : TypeId} (h : Boxed W B t (.int .i64 (k : Nat))) : (intOf (boxOf (.pointer (some ⟨B, 0, none⟩)) W)).toNat = k := by
  unfold boxOf
  simp only [h.cell, Option.getD_some]
  simp [intOf]

set_option maxRecDepth 100000 in
set_option maxHeartbeats 4000000 in
theorem Best_any (A : Option Addr) (n cap : Nat) (l : List PT) (w : World) (h : TabsAt w 0 A n l) (ht : DeTab w) :
    Calls Tryz.prog 15 #[.slice A n cap] w (RetTree w (bestT l)) := by
  have HL : Hid (l.length = n) := h.len
  have hbn := below_new w (.cells #[.int .i64 0, .slice none 0 0] 25)
  have hnb := new_block w #[.int .i64 0, .slice none 0 0] 25
  have Q1 := Lib.hid (sizesOf_any2 A n cap l _ (h.below hbn))
  have HBN := Lib.hid hbn
  have HNB := Lib.hid hnb
  have HTB := Lib.hid ht
  have hle := h.le
  clear h hbn hnb ht
  refine (callsIn_wide (n := 6)).1 ?_
  refine callsIn_of_wp_marks Tryz.func15 rfl trivial ?_ rfl
  simp only [Tryz.ntmps15, List.size_toArray, List.length_cons, List.length_nil, Nat.reduceAdd, Nat.reduceSub, Array.replicate_succ, Array.replicate_zero, List.push_toArray, List.append_toArray, List.nil_append, List.cons_append]
  by_cases hE : joinsE l = 0
  · obtain ⟨hg, -⟩ := joinsE_ok hE
    have hlen := given_len hg
    rw [HL.out] at hlen
    have HR : Hid (bestT l = ((bestR (sizeFn l) n).1, (((bestR (sizeFn l) n).2 : Nat) : Int), 0)) := by show _ = _; unfold bestT; rw [if_pos hE, HL.out]
    have hpn := pw5 hlen.2
    obtain ⟨hlen1, hlen5⟩ := hlen
    have hsl : IntKind.i64.wrap (2 ^ n) = ((pw n : Nat) : Int) := shl_nat (by omega)
    have hn0 : (0 : Int) ≤ n := by omega
    have hn64 : (n : Int) ≤ 64 := by omega
    clear hg
    gi_wp2_with (first
      | (refine ⟨trivial, ?_⟩; gi_at_call 70; refine (callsIn_wide.2 Q1.out).mono ?_; rintro e w1 ⟨S, rfl, hSl, hSok, hb1⟩; obtain ⟨hs5, hsS⟩ := hSok hE; obtain ⟨q1, q2⟩ := setRow_at (new_block w1 (intsV (List.replicate 32 0)) 95) (intsV S); have hb2 : Below w1.heap.size w1 ((w1.alloc (.cells (intsV (List.replicate 32 0)) 95)).setRow w1.heap.size (intsV S)) := below_row (below_new w1 _) q2 (fun j e => by cases e; exact Nat.le_refl _); obtain ⟨W2, hW2⟩ : ∃ W2, (w1.alloc (.cells (intsV (List.replicate 32 0)) 95)).setRow w1.heap.size (intsV S) = W2 := ⟨_, rfl⟩; rw [hW2] at q1 hb2; have hn1 := (hb1.block _ (Array.getElem?_eq_some_iff.1 HNB.out).1).trans HNB.out; have HN2 := Lib.hid ((hb2.block _ (Array.getElem?_eq_some_iff.1 hn1).1).trans hn1); have HB2 := Lib.hid (bchain (bchain HBN.out hb1) hb2); have HQ1 := Lib.hid q1; have HW2 := Lib.hid hW2; have HS5 := Lib.hid hs5; have HSS := Lib.hid hsS; have hwsz := HB2.out.size; have hw1 : w.heap.size < w1.heap.size := (by have := hb1.size; simp at this; omega); rw [hE]; clear hb1 hSok hs5 hsS q1 q2 hb2 hW2 Q1 hE hn1 HNB HBN)
      | (refine wpListIn_store_row rfl 95 _ _ rfl w1.heap.size (intsV S) rfl rfl 95 (intsV (List.replicate 32 0)) (new_block w1 (intsV (List.replicate 32 0)) 95) (by rw [intsV_size, hSl]; kernel_rfl) (by rw [intsV_size, intsV_size, hSl, List.length_replicate]) (intsV_one _) ?_; change wpListIn _ _ _ _ _ _ _ ((w1.alloc (.cells (intsV (List.replicate 32 0)) 95)).setRow w1.heap.size (intsV S)); rw [HW2.out]))
    -- LOOP
    obtain ⟨g1, hg1⟩ : ∃ g1, w1.heap.size = g1 := ⟨_, rfl⟩
    have hg1W : g1 < W2.heap.size := by rw [← hg1]; exact (Array.getElem?_eq_some_iff.1 HQ1.out).1
    have hst : BSt w g1 W2.heap.size (W2.heap.size + 1) S (cstA (sizeFn l) 1) (fstA (sizeFn l) 1) (((W2.alloc (.cells (intsV (List.replicate 32 0)) 95)).alloc (.cells (intsV (List.replicate 32 0)) 95)).alloc (.cells #[.int .i64 1] 3)) := by
      have hb : Below W2.heap.size W2 (((W2.alloc (.cells (intsV (List.replicate 32 0)) 95)).alloc (.cells (intsV (List.replicate 32 0)) 95)).alloc (.cells #[.int .i64 1] 3)) := ((below_new W2 _).alloc (by simp) _).alloc (by simp; omega) _
      refine ⟨(hb.block _ hg1W).trans (by rw [← hg1]; exact HQ1.out), ?_, ?_, (hb.block _ (Array.getElem?_eq_some_iff.1 HN2.out).1).trans HN2.out, bchain HB2.out hb⟩
      · rw [cstA_one, Below.heap_alloc _ _ _ (by simp; omega), Below.heap_alloc _ _ _ (by simp)]
        exact new_block _ _ _
      · rw [fstA_one, Below.heap_alloc _ _ _ (by simp)]
        have := new_block (W2.alloc (.cells (intsV (List.replicate 32 0)) 95)) (intsV (List.replicate 32 0)) 95
        rw [World.size_alloc] at this
        exact this
    have hbx : Boxed (((W2.alloc (.cells (intsV (List.replicate 32 0)) 95)).alloc (.cells (intsV (List.replicate 32 0)) 95)).alloc (.cells #[.int .i64 1] 3)) (W2.heap.size + 1 + 1) 3 (.int .i64 (1 : Nat)) := by
      have := Boxed.new ((W2.alloc (.cells (intsV (List.replicate 32 0)) 95)).alloc (.cells (intsV (List.replicate 32 0)) 95)) 3 (.int .i64 (1 : Nat))
      rw [World.size_alloc, World.size_alloc] at this
      exact this
    have HST := Lib.hid hst
    have HBX := Lib.hid hbx
    have hpn1 := pw_pos n
    obtain ⟨g7, hg7⟩ : ∃ g7, W2.heap.size = g7 := ⟨_, rfl⟩
    obtain ⟨g8, hg8⟩ : ∃ g8, W2.heap.size + 1 = g8 := ⟨_, rfl⟩
    have h78 : g7 < g8 := by omega
    have h17 : g1 < g7 := by omega
    have hw7 : w.heap.size < g1 := by omega
    rw [hg8, hg7] at HST
    rw [hg8] at HBX
    obtain ⟨W3, hW3⟩ : ∃ W3, ((W2.alloc (.cells (intsV (List.replicate 32 0)) 95)).alloc (.cells (intsV (List.replicate 32 0)) 95)).alloc (.cells #[.int .i64 1] 3) = W3 := ⟨_, rfl⟩
    rw [hW3] at HST HBX
    change Code.wpIn _ _ _ _ _ { tmps := #[.slice A n cap, undef, .pointer (some ⟨w.heap.size, 0, none⟩), .int .i64 0, .int .i64 0, .pointer (some ⟨w1.heap.size, 0, none⟩), .int .i64 0, .pointer (some ⟨W2.heap.size, 0, none⟩), .pointer (some ⟨W2.heap.size + 1, 0, none⟩), .pointer (some ⟨W2.heap.size + 1 + 1, 0, none⟩), undef, undef, undef, undef, .tuple #[.agg (intsV S), .int .i64 0], .slice A n cap, .tuple #[.agg (intsV S), .int .i64 0], .agg (intsV S), .int .i64 0, .int .i64 0, .bool false, undef, undef, undef, undef, undef, undef, undef, undef, undef, undef, undef, undef, undef, undef, undef, undef, undef, undef, undef, undef, undef, undef, undef, undef, undef, undef, undef, undef, undef, undef, undef, undef, undef, undef, undef, undef, undef, undef, undef, undef, undef, undef, undef, undef, undef, undef, undef, undef, undef, undef, undef, undef, undef, undef, undef, undef, undef, undef, undef, undef], defers := [] } (((W2.alloc (.cells (intsV (List.replicate 32 0)) 95)).alloc (.cells (intsV (List.replicate 32 0)) 95)).alloc (.cells #[.int .i64 1] 3))
    rw [hW3, hg1, hg8, hg7]
    clear hst hbx hg1W HQ1 HN2 HB2 HW2 hwsz hw1 hg1 hg7 hg8 hW3
    have HS5' := HS5
    refine wpIn_loop (fun a W => ∃ (set : Nat) (ds : List Nat) (Bx : Nat) (x10 x11 x23 x24 x25 x26 x27 x28 x29 x30 x31 x32 x33 x34 x35 x36 x37 x38 x39 x40 x41 x42 x43 x44 x45 x46 x47 x48 x49 x50 x51 x52 x53 x54 x55 x56 x57 x58 x59 x60 x61 x62 x63 x64 x65 x66 x67 x68 x69 : Value), 1 ≤ set ∧ set ≤ pw n ∧ a = { tmps := #[.slice A n cap, undef, .pointer (some ⟨w.heap.size, 0, none⟩), .int .i64 0, .int .i64 0, .pointer (some ⟨g1, 0, none⟩), .int .i64 0, .pointer (some ⟨g7, 0, none⟩), .pointer (some ⟨g8, 0, none⟩), .pointer (some ⟨Bx, 0, none⟩), x10, x11, undef, undef, .tuple #[.agg (intsV S), .int .i64 0], .slice A n cap, .tuple #[.agg (intsV S), .int .i64 0], .agg (intsV S), .int .i64 0, .int .i64 0, .bool false, undef, undef, x23, x24, x25, x26, x27, x28, x29, x30, x31, x32, x33, x34, x35, x36, x37, x38, x39, x40, x41, x42, x43, x44, x45, x46, x47, x48, x49, x50, x51, x52, x53, x54, x55, x56, x57, x58, x59, x60, x61, x62, x63, x64, x65, x66, x67, x68, x69, undef, undef, undef, undef, undef, undef, undef, undef, undef, undef, undef], defers := ds.map mark } ∧ BSt w g1 g7 g8 S (cstA (sizeFn l) set) (fstA (sizeFn l) set) W ∧ Boxed W Bx 3 (.int .i64 (set : Nat)) ∧ g8 < Bx ∧ Marks w ds W) (fun a W => pw n - (intOf (boxOf (a.tmps.getD 9 undef) W)).toNat) ?_ ?_
    · exact ⟨1, [], g8 + 1, _, _, _, _, _, _, _, _, _, _, _, _, _, _, _, _, _, _, _, _, _, _, _, _, _, _, _, _, _, _, _, _, _, _, _, _, _, _, _, _, _, _, _, _, _, _, _, _, _, Nat.le_refl _, by omega, rfl, HST.out, HBX.out, by omega, ⟨by simp, fun D h => by simp at h⟩⟩
    · rintro a W ⟨set, ds, Bx, x10, x11, x23, x24, x25, x26, x27, x28, x29, x30, x31, x32, x33, x34, x35, x36, x37, x38, x39, x40, x41, x42, x43, x44, x45, x46, x47, x48, x49, x50, x51, x52, x53, x54, x55, x56, x57, x58, x59, x60, x61, x62, x63, x64, x65, x66, x67, x68, x69, hs1, hs2, rfl, hst, hbx, hBx, hmk⟩
      have HST2 := Lib.hid hst
      have HBX2 := Lib.hid hbx
      have HMK := Lib.hid hmk
      have bc := hbx.cell
      clear HST HBX
      by_cases hlt : set < pw n
      · have hs32 : set < 32 := by omega
        have d1 : decide ((set : Int) < ((pw n : Nat) : Int)) = true := by rw [decide_eq_true_eq]; omega
        have QO := Lib.hid (fun W => OnesCount_any set hs32 W)
        have HTBW := Lib.hid (HTB.out.below hst.below)
        have hset0 : (0 : Int) ≤ set := by omega
        have hset64 : (set : Int) < 64 := by omega
        gi_wp2
        gi_region
        cases ho : onceB set with
        | true =>
          have hone : onesN set = 1 := (ones_once set hs32 (by omega)).2 ho
          rw [hone] at QO
          have HC1 := Lib.hid (cstA_once (s := sizeFn l) hs32 ho)
          have HF1 := Lib.hid (fstA_once (s := sizeFn l) hs32 ho)
          have hbx3 : Boxed (W.alloc (.cells #[.int .i64 ((set : Int) + 1)] 3)).drew W.heap.size 3 (.int .i64 ((set + 1 : Nat) : Int)) := Boxed.new W 3 (.int .i64 ((set : Int) + 1))
          have hbn3 : Below W.heap.size W (W.alloc (.cells #[.int .i64 ((set : Int) + 1)] 3)).drew := (below_new W _).drew
          have hme := box_int hbx3
          have hme2 := box_int hbx
          have hbxl := hbx.lt
          have HME := Lib.hid hme
          have HME2 := Lib.hid hme2
          have HBX3 := Lib.hid hbx3
          have HBN3 := Lib.hid hbn3
          clear hme hme2 hbx3 hbn3
          have hwr : IntKind.i64.wrap ((set : Int) + 1) = ((set + 1 : Nat) : Int) := by rw [IntWalk.i64_in _ (by omega)]; omega
          clear ho hone
          gi_wp2_with (refine ⟨trivial, ?_⟩; gi_at_call 74; refine (callsIn_wide.2 (QO.out _)).mono ?_; rintro e w' ⟨rfl, rfl⟩)
          refine ⟨⟨set + 1, ds, W.heap.size, _, _, _, _, _, _, _, _, _, _, _, _, _, _, _, _, _, _, _, _, _, _, _, _, _, _, _, _, _, _, _, _, _, _, _, _, _, _, _, _, _, _, _, _, _, _, _, _, _, by omega, by omega, rfl, ?_, HBX3.out, by omega, HMK.out.low HBN3.out⟩, ?_⟩
          · rw [HC1.out, HF1.out]
            exact HST2.out.low HBN3.out
          · show pw n - (intOf (boxOf (.pointer (some ⟨W.heap.size, 0, none⟩)) (W.alloc (.cells #[.int .i64 ((set : Int) + 1)] 3)).drew)).toNat < pw n - (intOf (boxOf (.pointer (some ⟨Bx, 0, none⟩)) W)).toNat
            rw [HME.out, HME2.out]
            omega
        | false =>
          have hone : onesN set ≠ 1 := fun e => by have := (ones_once set hs32 (by omega)).1 e; rw [ho] at this; cases this
          have e1 : ((onesN set : Int) == 1) = false := by simp; omega
          have e1' : (onesN set == 1) = false := by simpa using hone
          have HO := Lib.hid ho
          obtain ⟨on, hon⟩ : ∃ on, onesN set = on := ⟨_, rfl⟩
          rw [hon] at QO e1 e1'
          have hcl : set < (cstA (sizeFn l) set).length := by rw [cstA_len]; exact hs32
          have c7 := cell_at_block (off := set) hst.cst (intsV_at hcl)
          have f7 := free_at_block (off := set) hst.cst
          have hset32 : (set : Int) < 32 := by omega
          clear ho hone hon
          gi_wp2_with (first
            | (refine ⟨trivial, ?_⟩; gi_at_call 74; refine (callsIn_wide.2 (QO.out _)).mono ?_; rintro e w' ⟨rfl, rfl⟩)
            | (refine ⟨trivial, ?_⟩; gi_at_call 75; refine (ways_in Fence.wide _ trivial rfl set (by omega) (by omega) _).mono ?_; rintro e w2 ⟨rfl, rfl⟩))
          have hs1 : Below (W.setCell ⟨g7, set, none⟩ (.int .i64 (-1))).heap.size (W.setCell ⟨g7, set, none⟩ (.int .i64 (-1))) (((W.setCell ⟨g7, set, none⟩ (.int .i64 (-1))).alloc (.cells #[.int .i64 (set : Nat)] 3)).alloc (.cells #[.int .i64 (leastBit set : Nat)] 3)).drew := ((below_new _ _).alloc (by simp) _).drew
          have hc0 := (hst.setC (by omega) (by omega) (by omega) set (-1)).low hs1
          rw [show (cstA (sizeFn l) set).set set (-1) = cstP (sizeFn l) set none from rfl, ← fstP_none] at hc0
          have hb0 := (hbx.other (B' := g7) (by omega) (.int .i64 (-1)))
          have hmk0 := (hmk.cells (setCell_at (off := set) hst.cst (.int .i64 (-1))).2 hst.cst).low hs1
          have hbx0 : Boxed (((W.setCell ⟨g7, set, none⟩ (.int .i64 (-1))).alloc (.cells #[.int .i64 (set : Nat)] 3)).alloc (.cells #[.int .i64 (leastBit set : Nat)] 3)).drew Bx 3 (.int .i64 (set : Nat)) := by
            have hq := (setCell_at (off := set) hst.cst (.int .i64 (-1))).2
            have h1 : Boxed (W.setCell ⟨g7, set, none⟩ (.int .i64 (-1))) Bx 3 (.int .i64 (set : Nat)) := hbx.kept hq (fun e => by have := Option.some.inj e; omega)
            exact (hs1.block _ h1.lt).trans h1
          have hbs0 : Boxed (((W.setCell ⟨g7, set, none⟩ (.int .i64 (-1))).alloc (.cells #[.int .i64 (set : Nat)] 3)).alloc (.cells #[.int .i64 (leastBit set : Nat)] 3)).drew W.heap.size 3 (.int .i64 (set : Nat)) := by
            have := (Boxed.new (W.setCell ⟨g7, set, none⟩ (.int .i64 (-1))) 3 (.int .i64 (set : Nat))).alloc (.cells #[.int .i64 (leastBit set : Nat)] 3)
            rw [World.size_setCell] at this
            exact this
          have hbl0 : Boxed (((W.setCell ⟨g7, set, none⟩ (.int .i64 (-1))).alloc (.cells #[.int .i64 (set : Nat)] 3)).alloc (.cells #[.int .i64 (leastBit set : Nat)] 3)).drew (W.heap.size + 1) 3 (.int .i64 (leastBit set : Nat)) := by
            have := Boxed.new ((W.setCell ⟨g7, set, none⟩ (.int .i64 (-1))).alloc (.cells #[.int .i64 (set : Nat)] 3)) 3 (.int .i64 (leastBit set : Nat))
            rw [World.size_alloc, World.size_setCell] at this
            exact this
          have hsz0 : (((W.setCell ⟨g7, set, none⟩ (.int .i64 (-1))).alloc (.cells #[.int .i64 (set : Nat)] 3)).alloc (.cells #[.int .i64 (leastBit set : Nat)] 3)).drew.heap.size = W.heap.size + 2 := by simp
          obtain ⟨W0, hW0⟩ : ∃ W0, (((W.setCell ⟨g7, set, none⟩ (.int .i64 (-1))).alloc (.cells #[.int .i64 (set : Nat)] 3)).alloc (.cells #[.int .i64 (leastBit set : Nat)] 3)).drew = W0 := ⟨_, rfl⟩
          rw [hW0] at hc0 hmk0 hbx0 hbs0 hbl0 hsz0 ⊢
          have hbxl := hbx.lt
          have hml := hmk.lt
          have hMEW := box_int hbx
          obtain ⟨s1, hs1e⟩ : ∃ s1, W.heap.size = s1 := ⟨_, rfl⟩
          have hwW := hst.below.size
          rw [hs1e] at hbs0 hbl0 hsz0 hbxl hml hwW ⊢
          have HME2 := Lib.hid hMEW
          have HML := Lib.hid hml
          clear hs1 hb0 hst hbx hmk hW0 hs1e HST2 HBX2 HMK bc c7 f7 QO e1 e1' hMEW hml
          refine wpIn_rangeFunc_ownH rfl (by decide) (gf := 131) (lb := #[.pointer (some ⟨s1, 0, none⟩), .pointer (some ⟨s1 + 1, 0, none⟩)]) rfl trivial (enters_of Tryz.func131 (by kernel_rfl) rfl)
            (ways_stops Fence.wide _ trivial rfl (by decide) w.heap.size s1 (s1 + 1) set (by omega) W0 hbs0.cell hbl0.cell) keepW_t (keepW_b (by omega)) (Below.refl _ _) (fun _ => rfl)
            (fun pre W => BSt w g1 g7 g8 S (cstP (sizeFn l) set (pickL (sizeFn l) (costF (sizeFn l)) set (pre.map Subtype.val))) (fstP (sizeFn l) set (pickL (sizeFn l) (costF (sizeFn l)) set (pre.map Subtype.val))) W ∧ Boxed W Bx 3 (.int .i64 (set : Nat)) ∧ Boxed W s1 3 (.int .i64 (set : Nat)) ∧ Boxed W (s1 + 1) 3 (.int .i64 (leastBit set : Nat)) ∧ Marks w ds W ∧ W0.heap.size ≤ W.heap.size)
            (fun _ _ _ => False)
            (fun pre X Y row ⟨h1, h2, h3, h4, h5, h6⟩ hg hr => ⟨h1.from (by omega) hg hr, h2.kept hg (fun e => by obtain ⟨_, o, ho, hc⟩ := hr Bx e.symm; exact no_cells h2 ho hc rfl), h3.kept hg (fun e => by obtain ⟨_, o, ho, hc⟩ := hr s1 e.symm; exact no_cells h3 ho hc rfl), h4.kept hg (fun e => by obtain ⟨_, o, ho, hc⟩ := hr (s1 + 1) e.symm; exact no_cells h4 ho hc rfl), h5.kept hg (fun r e hD => by have := (hr r e).1; have := HML.out r hD; omega), Nat.le_trans h6 hg.size⟩)
            (fun _ _ _ _ _ hs _ _ => hs)
            ⟨hc0, hbx0, hbs0, hbl0, hmk0, Nat.le_refl _⟩
            (fun x a' _ => a' = { tmps := #[.slice A n cap, undef, .pointer (some ⟨w.heap.size, 0, none⟩), .int .i64 0, .int .i64 0, .pointer (some ⟨g1, 0, none⟩), .int .i64 0, .pointer (some ⟨g7, 0, none⟩), .pointer (some ⟨g8, 0, none⟩), .pointer (some ⟨Bx, 0, none⟩), .int .i64 (x.1 : Nat), x11, undef, undef, .tuple #[.agg (intsV S), .int .i64 0], .slice A n cap, .tuple #[.agg (intsV S), .int .i64 0], .agg (intsV S), .int .i64 0, .int .i64 0, .bool false, undef, undef, .int .i64 (set : Nat), .slice A n cap, .int .i64 (n : Nat), .int .i64 (pw n : Nat), .bool true, x28, x29, .int .i64 (set : Nat), .int .u64 (set : Nat), .int .i64 (on : Nat), .bool false, .int .i64 (set : Nat), .pointer (some ⟨g7, set, none⟩), .int .i64 (set : Nat), .func (.func 131) #[] #[.pointer (some ⟨s1, 0, none⟩), .pointer (some ⟨s1 + 1, 0, none⟩)], .int .i64 (x.1 : Nat), x39, x40, x41, x42, x43, x44, x45, x46, x47, x48, x49, x50, x51, x52, x53, x54, x55, x56, x57, x58, x59, x60, x61, x62, x63, x64, x65, x66, x67, x68, x69, undef, undef, undef, undef, undef, undef, undef, undef, undef, undef, undef], defers := [] })
            (fun x a' _ X Y row hs hg hr => hs)
            ?assign ?body ?done ?stop
          case assign =>
            rintro ll pre x W K hI hK
            gi_wp2
            exact hK _ _ ((KeepsOthers.refl _).from _) ⟨Below.refl _ _, id, id⟩ hI rfl
          case body =>
            rintro ll pre x a' W hl ⟨r, hr⟩ ⟨h1, h2, h3, h4, h5, h6⟩ rfl hlt2
            obtain ⟨p, hp1, hp2⟩ := x
            obtain ⟨hq1, hq2⟩ := bdiff_part set hs32 p (by omega) hp2
            have HPC : Hid ((pre ++ [(⟨p, hp1, hp2⟩ : WayOf set)]).map Subtype.val = pre.map Subtype.val ++ [p]) := by show _ = _; simp
            have HPK := Lib.hid (pickL_snoc (sizeFn l) (costF (sizeFn l)) set (pre.map Subtype.val) p)
            obtain ⟨o, ho⟩ : ∃ o, pickL (sizeFn l) (costF (sizeFn l)) set (pre.map Subtype.val) = o := ⟨_, rfl⟩
            rw [ho] at h1 HPK
            have lp := costF_lt HS5.out p (by omega)
            have lq := costF_lt HS5.out (bdiff set p) (by omega)
            have ls := HS5.out set
            have cp := cell_at_block (off := p) h1.cst (sizes_cell' (cstP_at (sizeFn l) o hs32 hp1))
            have cq := cell_at_block (off := bdiff set p) h1.cst (sizes_cell' (cstP_at (sizeFn l) o hs32 hq1))
            have cs := cell_at_block (off := set) h1.szs (sizes_cell HSS.out hs32)
            have cm := cell_at_block (off := set) h1.cst (sizes_cell' (cstP_self (sizeFn l) o hs32))
            have bc := h2.cell
            have hbd := bandnot_nat (a := set) (b := p) (by omega) (by omega)
            have vp : (p : Int) < 32 := by omega
            have vq : ((bdiff set p : Nat) : Int) < 32 := by omega
            have vs : (set : Int) < 32 := by omega
            generalize hbb : bdiff set p = q at *
            have hw1 : IntKind.i64.wrap ((costF (sizeFn l) p : Int) + (costF (sizeFn l) q : Nat)) = ((costF (sizeFn l) p + costF (sizeFn l) q : Nat) : Int) := by rw [IntWalk.i64_in _ (by omega)] <;> omega
            have hw2 : IntKind.i64.wrap (((costF (sizeFn l) p + costF (sizeFn l) q : Nat) : Int) + (sizeFn l set : Nat)) = ((costF (sizeFn l) p + costF (sizeFn l) q + sizeFn l set : Nat) : Int) := by rw [IntWalk.i64_in _ (by omega)] <;> omega
            dsimp only
            gi_wp2
            refine region_quiet_r (by kernel_rfl) (by kernel_rfl) (by kernel_rfl) ?_
            repeat (gi_big_quiet_step (fail))
            refine wpQuietIn_nil ?_
            rintro _ ⟨nq, rfl⟩
            clear cp cq cs hw1 hw2
            cases o with
            | none =>
              gi_wp2
              have e5 := below_drewN (Below.refl W.heap.size W) nq
              have h15 := h1.low e5
              have h25 := (e5.block _ h2.lt).trans h2
              have h35 := (e5.block _ h3.lt).trans h3
              have h45 := (e5.block _ h4.lt).trans h4
              have h55 := h5.low e5
              obtain ⟨W5, hW5⟩ : ∃ W5, W.drewN nq = W5 := ⟨_, rfl⟩
              rw [hW5] at h15 h25 h35 h45 h55 e5 ⊢
              have hsz5 := e5.size
              have m7 := cell_at_block (off := set) h15.cst (sizes_cell' (cstP_self (sizeFn l) (none) hs32))
              have m8 := cell_at_block (off := set) h15.fst (sizes_cell' (fstP_self (sizeFn l) (none) hs32))
              have z7 := free_at_block (off := set) h15.cst
              have z8 := free_at_block (off := set) h15.fst
              have mb : W5.cell? ⟨Bx, 0, none⟩ = some (.int .i64 (set : Nat)) := Boxed.cell h25
              have HA := Lib.hid h15
              have HB := Lib.hid h25
              have HC := Lib.hid h35
              have HD := Lib.hid h45
              have HE := Lib.hid h55
              have HW5 := Lib.hid hW5
              clear h1 h2 h3 h4 h5 h15 h25 h35 h45 h55 e5 hW5 cm bc
              have hv : (((costF (sizeFn l) p + costF (sizeFn l) q + sizeFn l set : Nat)) : Int) = (costF (sizeFn l) p : Int) + (costF (sizeFn l) q : Nat) + (sizeFn l set : Nat) := by omega
              have hcs : cstP (sizeFn l) set (some (costF (sizeFn l) p + costF (sizeFn l) q + sizeFn l set, p)) = (cstP (sizeFn l) set (none)).set set ((costF (sizeFn l) p : Int) + (costF (sizeFn l) q : Nat) + (sizeFn l set : Nat)) := by
                rw [← hv]
                exact (cstP_set (sizeFn l) set (none) (some (costF (sizeFn l) p + costF (sizeFn l) q + sizeFn l set, p))).symm
              have hfs : fstP (sizeFn l) set (some (costF (sizeFn l) p + costF (sizeFn l) q + sizeFn l set, p)) = (fstP (sizeFn l) set (none)).set set ((p : Nat) : Int) := (fstP_set (sizeFn l) set (none) (some (costF (sizeFn l) p + costF (sizeFn l) q + sizeFn l set, p))).symm
              have k1 := HA.out.setC (by omega) (by omega) (by omega) set ((costF (sizeFn l) p : Int) + (costF (sizeFn l) q : Nat) + (sizeFn l set : Nat))
              have k2 := k1.setF (by omega) (by omega) (by omega) set ((p : Nat) : Int)
              rw [← hcs, ← hfs] at k2
              have e1 := (setCell_at (off := set) HA.out.cst (.int .i64 ((costF (sizeFn l) p : Int) + (costF (sizeFn l) q : Nat) + (sizeFn l set : Nat)))).2
              have e2 := (setCell_at (off := set) k1.fst (.int .i64 ((p : Nat) : Int))).2
              have hB2 : Boxed ((W5.setCell ⟨g7, set, none⟩ (.int .i64 ((costF (sizeFn l) p : Int) + (costF (sizeFn l) q : Nat) + (sizeFn l set : Nat)))).setCell ⟨g8, set, none⟩ (.int .i64 ((p : Nat) : Int))) Bx 3 (.int .i64 (set : Nat)) := (Boxed.kept HB.out e1 (fun e => by have := Option.some.inj e; omega)).kept e2 (fun e => by have := Option.some.inj e; omega)
              have hC2 : Boxed ((W5.setCell ⟨g7, set, none⟩ (.int .i64 ((costF (sizeFn l) p : Int) + (costF (sizeFn l) q : Nat) + (sizeFn l set : Nat)))).setCell ⟨g8, set, none⟩ (.int .i64 ((p : Nat) : Int))) s1 3 (.int .i64 (set : Nat)) := (Boxed.kept HC.out e1 (fun e => by have := Option.some.inj e; omega)).kept e2 (fun e => by have := Option.some.inj e; omega)
              have hD2 : Boxed ((W5.setCell ⟨g7, set, none⟩ (.int .i64 ((costF (sizeFn l) p : Int) + (costF (sizeFn l) q : Nat) + (sizeFn l set : Nat)))).setCell ⟨g8, set, none⟩ (.int .i64 ((p : Nat) : Int))) (s1 + 1) 3 (.int .i64 (leastBit set : Nat)) := (Boxed.kept HD.out e1 (fun e => by have := Option.some.inj e; omega)).kept e2 (fun e => by have := Option.some.inj e; omega)
              have hE2 := (HE.out.cells e1 HA.out.cst).cells e2 k1.fst
              have hKO : KeepsOthers W ((W5.setCell ⟨g7, set, none⟩ (.int .i64 ((costF (sizeFn l) p : Int) + (costF (sizeFn l) q : Nat) + (sizeFn l set : Nat)))).setCell ⟨g8, set, none⟩ (.int .i64 ((p : Nat) : Int))).drew := by
                rw [← HW5.out]
                exact (((keeps_drewN W nq).trans (KeepsOthers.setCell _ _ _)).trans (KeepsOthers.setCell _ _ _)).trans (KeepsOthers.drew _)
              have hBB : Below w.heap.size W ((W5.setCell ⟨g7, set, none⟩ (.int .i64 ((costF (sizeFn l) p : Int) + (costF (sizeFn l) q : Nat) + (sizeFn l set : Nat)))).setCell ⟨g8, set, none⟩ (.int .i64 ((p : Nat) : Int))).drew := by
                rw [← HW5.out]
                exact (((below_drewN (Below.refl w.heap.size W) nq).setCell (p := ⟨g7, set, none⟩) (by show w.heap.size ≤ g7; omega) _).setCell (p := ⟨g8, set, none⟩) (by show w.heap.size ≤ g8; omega) _).drew
              have hsl2 : W0.heap.size ≤ ((W5.setCell ⟨g7, set, none⟩ (.int .i64 ((costF (sizeFn l) p : Int) + (costF (sizeFn l) q : Nat) + (sizeFn l set : Nat)))).setCell ⟨g8, set, none⟩ (.int .i64 ((p : Nat) : Int))).drew.heap.size := Nat.le_trans h6 (Nat.le_trans hsz5 (Nat.le_trans e1.size e2.size))
              have hPK : pickL (sizeFn l) (costF (sizeFn l)) set ((pre ++ [(⟨p, hp1, hp2⟩ : WayOf set)]).map Subtype.val) = some (costF (sizeFn l) p + costF (sizeFn l) q + sizeFn l set, p) := by
                rw [HPC.out, HPK.out]
                simp only [wayF, hbb]
              have HFIN : Hid (KeepsFrom W0.heap.size W ((W5.setCell ⟨g7, set, none⟩ (.int .i64 ((costF (sizeFn l) p : Int) + (costF (sizeFn l) q : Nat) + (sizeFn l set : Nat)))).setCell ⟨g8, set, none⟩ (.int .i64 ((p : Nat) : Int))).drew ∧ KeepW w.heap.size s1 (s1 + 1) set (leastBit set) W ((W5.setCell ⟨g7, set, none⟩ (.int .i64 ((costF (sizeFn l) p : Int) + (costF (sizeFn l) q : Nat) + (sizeFn l set : Nat)))).setCell ⟨g8, set, none⟩ (.int .i64 ((p : Nat) : Int))).drew ∧ (BSt w g1 g7 g8 S (cstP (sizeFn l) set (pickL (sizeFn l) (costF (sizeFn l)) set ((pre ++ [(⟨p, hp1, hp2⟩ : WayOf set)]).map Subtype.val))) (fstP (sizeFn l) set (pickL (sizeFn l) (costF (sizeFn l)) set ((pre ++ [(⟨p, hp1, hp2⟩ : WayOf set)]).map Subtype.val))) ((W5.setCell ⟨g7, set, none⟩ (.int .i64 ((costF (sizeFn l) p : Int) + (costF (sizeFn l) q : Nat) + (sizeFn l set : Nat)))).setCell ⟨g8, set, none⟩ (.int .i64 ((p : Nat) : Int))).drew ∧ Boxed ((W5.setCell ⟨g7, set, none⟩ (.int .i64 ((costF (sizeFn l) p : Int) + (costF (sizeFn l) q : Nat) + (sizeFn l set : Nat)))).setCell ⟨g8, set, none⟩ (.int .i64 ((p : Nat) : Int))).drew Bx 3 (.int .i64 (set : Nat)) ∧ Boxed ((W5.setCell ⟨g7, set, none⟩ (.int .i64 ((costF (sizeFn l) p : Int) + (costF (sizeFn l) q : Nat) + (sizeFn l set : Nat)))).setCell ⟨g8, set, none⟩ (.int .i64 ((p : Nat) : Int))).drew s1 3 (.int .i64 (set : Nat)) ∧ Boxed ((W5.setCell ⟨g7, set, none⟩ (.int .i64 ((costF (sizeFn l) p : Int) + (costF (sizeFn l) q : Nat) + (sizeFn l set : Nat)))).setCell ⟨g8, set, none⟩ (.int .i64 ((p : Nat) : Int))).drew (s1 + 1) 3 (.int .i64 (leastBit set : Nat)) ∧ Marks w ds ((W5.setCell ⟨g7, set, none⟩ (.int .i64 ((costF (sizeFn l) p : Int) + (costF (sizeFn l) q : Nat) + (sizeFn l set : Nat)))).setCell ⟨g8, set, none⟩ (.int .i64 ((p : Nat) : Int))).drew ∧ W0.heap.size ≤ ((W5.setCell ⟨g7, set, none⟩ (.int .i64 ((costF (sizeFn l) p : Int) + (costF (sizeFn l) q : Nat) + (sizeFn l set : Nat)))).setCell ⟨g8, set, none⟩ (.int .i64 ((p : Nat) : Int))).drew.heap.size)) := by
                show _ ∧ _
                rw [hPK]
                exact ⟨hKO.from _, ⟨hBB, fun _ => hC2.cell, fun _ => hD2.cell⟩, k2.low ((Below.refl _ _).drew), hB2, hC2, hD2, hE2.low ((Below.refl _ _).drew), hsl2⟩
              clear hv hcs hfs k1 k2 e1 e2 hB2 hC2 hD2 hE2 hKO hBB hsl2 hPK hbb
              refine wpIn_only ?_
              gi_region
              all_goals
                refine onlyN_normal ?_
                gi_wp2
                exact HFIN.out
            | some kq =>
              obtain ⟨least, qq⟩ := kq
              by_cases hlq : costF (sizeFn l) p + costF (sizeFn l) q + sizeFn l set < least
              · have dl : decide ((costF (sizeFn l) p : Int) + (costF (sizeFn l) q : Nat) + (sizeFn l set : Nat) < (least : Int)) = true := by rw [decide_eq_true_eq]; omega
                have dl0 : decide ((least : Int) < 0) = false := by rw [decide_eq_false_iff_not]; omega
                simp only [costV] at cm
                gi_wp2
                have e5 := below_drewN (Below.refl W.heap.size W) nq
                have h15 := h1.low e5
                have h25 := (e5.block _ h2.lt).trans h2
                have h35 := (e5.block _ h3.lt).trans h3
                have h45 := (e5.block _ h4.lt).trans h4
                have h55 := h5.low e5
                obtain ⟨W5, hW5⟩ : ∃ W5, W.drewN nq = W5 := ⟨_, rfl⟩
                rw [hW5] at h15 h25 h35 h45 h55 e5 ⊢
                have hsz5 := e5.size
                have m7 := cell_at_block (off := set) h15.cst (sizes_cell' (cstP_self (sizeFn l) (some (least, qq)) hs32))
                have m8 := cell_at_block (off := set) h15.fst (sizes_cell' (fstP_self (sizeFn l) (some (least, qq)) hs32))
                have z7 := free_at_block (off := set) h15.cst
                have z8 := free_at_block (off := set) h15.fst
                have mb : W5.cell? ⟨Bx, 0, none⟩ = some (.int .i64 (set : Nat)) := Boxed.cell h25
                have HA := Lib.hid h15
                have HB := Lib.hid h25
                have HC := Lib.hid h35
                have HD := Lib.hid h45
                have HE := Lib.hid h55
                have HW5 := Lib.hid hW5
                clear h1 h2 h3 h4 h5 h15 h25 h35 h45 h55 e5 hW5 cm bc
                have hv : (((costF (sizeFn l) p + costF (sizeFn l) q + sizeFn l set : Nat)) : Int) = (costF (sizeFn l) p : Int) + (costF (sizeFn l) q : Nat) + (sizeFn l set : Nat) := by omega
                have hcs : cstP (sizeFn l) set (some (costF (sizeFn l) p + costF (sizeFn l) q + sizeFn l set, p)) = (cstP (sizeFn l) set (some (least, qq))).set set ((costF (sizeFn l) p : Int) + (costF (sizeFn l) q : Nat) + (sizeFn l set : Nat)) := by
                  rw [← hv]
                  exact (cstP_set (sizeFn l) set (some (least, qq)) (some (costF (sizeFn l) p + costF (sizeFn l) q + sizeFn l set, p))).symm
                have hfs : fstP (sizeFn l) set (some (costF (sizeFn l) p + costF (sizeFn l) q + sizeFn l set, p)) = (fstP (sizeFn l) set (some (least, qq))).set set ((p : Nat) : Int) := (fstP_set (sizeFn l) set (some (least, qq)) (some (costF (sizeFn l) p + costF (sizeFn l) q + sizeFn l set, p))).symm
                have k1 := HA.out.setC (by omega) (by omega) (by omega) set ((costF (sizeFn l) p : Int) + (costF (sizeFn l) q : Nat) + (sizeFn l set : Nat))
                have k2 := k1.setF (by omega) (by omega) (by omega) set ((p : Nat) : Int)
                rw [← hcs, ← hfs] at k2
                have e1 := (setCell_at (off := set) HA.out.cst (.int .i64 ((costF (sizeFn l) p : Int) + (costF (sizeFn l) q : Nat) + (sizeFn l set : Nat)))).2
                have e2 := (setCell_at (off := set) k1.fst (.int .i64 ((p : Nat) : Int))).2
                have hB2 : Boxed ((W5.setCell ⟨g7, set, none⟩ (.int .i64 ((costF (sizeFn l) p : Int) + (costF (sizeFn l) q : Nat) + (sizeFn l set : Nat)))).setCell ⟨g8, set, none⟩ (.int .i64 ((p : Nat) : Int))) Bx 3 (.int .i64 (set : Nat)) := (Boxed.kept HB.out e1 (fun e => by have := Option.some.inj e; omega)).kept e2 (fun e => by have := Option.some.inj e; omega)
                have hC2 : Boxed ((W5.setCell ⟨g7, set, none⟩ (.int .i64 ((costF (sizeFn l) p : Int) + (costF (sizeFn l) q : Nat) + (sizeFn l set : Nat)))).setCell ⟨g8, set, none⟩ (.int .i64 ((p : Nat) : Int))) s1 3 (.int .i64 (set : Nat)) := (Boxed.kept HC.out e1 (fun e => by have := Option.some.inj e; omega)).kept e2 (fun e => by have := Option.some.inj e; omega)
                have hD2 : Boxed ((W5.setCell ⟨g7, set, none⟩ (.int .i64 ((costF (sizeFn l) p : Int) + (costF (sizeFn l) q : Nat) + (sizeFn l set : Nat)))).setCell ⟨g8, set, none⟩ (.int .i64 ((p : Nat) : Int))) (s1 + 1) 3 (.int .i64 (leastBit set : Nat)) := (Boxed.kept HD.out e1 (fun e => by have := Option.some.inj e; omega)).kept e2 (fun e => by have := Option.some.inj e; omega)
                have hE2 := (HE.out.cells e1 HA.out.cst).cells e2 k1.fst
                have hKO : KeepsOthers W ((W5.setCell ⟨g7, set, none⟩ (.int .i64 ((costF (sizeFn l) p : Int) + (costF (sizeFn l) q : Nat) + (sizeFn l set : Nat)))).setCell ⟨g8, set, none⟩ (.int .i64 ((p : Nat) : Int))).drew := by
                  rw [← HW5.out]
                  exact (((keeps_drewN W nq).trans (KeepsOthers.setCell _ _ _)).trans (KeepsOthers.setCell _ _ _)).trans (KeepsOthers.drew _)
                have hBB : Below w.heap.size W ((W5.setCell ⟨g7, set, none⟩ (.int .i64 ((costF (sizeFn l) p : Int) + (costF (sizeFn l) q : Nat) + (sizeFn l set : Nat)))).setCell ⟨g8, set, none⟩ (.int .i64 ((p : Nat) : Int))).drew := by
                  rw [← HW5.out]
                  exact (((below_drewN (Below.refl w.heap.size W) nq).setCell (p := ⟨g7, set, none⟩) (by show w.heap.size ≤ g7; omega) _).setCell (p := ⟨g8, set, none⟩) (by show w.heap.size ≤ g8; omega) _).drew
                have hsl2 : W0.heap.size ≤ ((W5.setCell ⟨g7, set, none⟩ (.int .i64 ((costF (sizeFn l) p : Int) + (costF (sizeFn l) q : Nat) + (sizeFn l set : Nat)))).setCell ⟨g8, set, none⟩ (.int .i64 ((p : Nat) : Int))).drew.heap.size := Nat.le_trans h6 (Nat.le_trans hsz5 (Nat.le_trans e1.size e2.size))
                have hPK : pickL (sizeFn l) (costF (sizeFn l)) set ((pre ++ [(⟨p, hp1, hp2⟩ : WayOf set)]).map Subtype.val) = some (costF (sizeFn l) p + costF (sizeFn l) q + sizeFn l set, p) := by
                  rw [HPC.out, HPK.out]
                  simp only [wayF, hbb, if_pos hlq]
                have HFIN : Hid (KeepsFrom W0.heap.size W ((W5.setCell ⟨g7, set, none⟩ (.int .i64 ((costF (sizeFn l) p : Int) + (costF (sizeFn l) q : Nat) + (sizeFn l set : Nat)))).setCell ⟨g8, set, none⟩ (.int .i64 ((p : Nat) : Int))).drew ∧ KeepW w.heap.size s1 (s1 + 1) set (leastBit set) W ((W5.setCell ⟨g7, set, none⟩ (.int .i64 ((costF (sizeFn l) p : Int) + (costF (sizeFn l) q : Nat) + (sizeFn l set : Nat)))).setCell ⟨g8, set, none⟩ (.int .i64 ((p : Nat) : Int))).drew ∧ (BSt w g1 g7 g8 S (cstP (sizeFn l) set (pickL (sizeFn l) (costF (sizeFn l)) set ((pre ++ [(⟨p, hp1, hp2⟩ : WayOf set)]).map Subtype.val))) (fstP (sizeFn l) set (pickL (sizeFn l) (costF (sizeFn l)) set ((pre ++ [(⟨p, hp1, hp2⟩ : WayOf set)]).map Subtype.val))) ((W5.setCell ⟨g7, set, none⟩ (.int .i64 ((costF (sizeFn l) p : Int) + (costF (sizeFn l) q : Nat) + (sizeFn l set : Nat)))).setCell ⟨g8, set, none⟩ (.int .i64 ((p : Nat) : Int))).drew ∧ Boxed ((W5.setCell ⟨g7, set, none⟩ (.int .i64 ((costF (sizeFn l) p : Int) + (costF (sizeFn l) q : Nat) + (sizeFn l set : Nat)))).setCell ⟨g8, set, none⟩ (.int .i64 ((p : Nat) : Int))).drew Bx 3 (.int .i64 (set : Nat)) ∧ Boxed ((W5.setCell ⟨g7, set, none⟩ (.int .i64 ((costF (sizeFn l) p : Int) + (costF (sizeFn l) q : Nat) + (sizeFn l set : Nat)))).setCell ⟨g8, set, none⟩ (.int .i64 ((p : Nat) : Int))).drew s1 3 (.int .i64 (set : Nat)) ∧ Boxed ((W5.setCell ⟨g7, set, none⟩ (.int .i64 ((costF (sizeFn l) p : Int) + (costF (sizeFn l) q : Nat) + (sizeFn l set : Nat)))).setCell ⟨g8, set, none⟩ (.int .i64 ((p : Nat) : Int))).drew (s1 + 1) 3 (.int .i64 (leastBit set : Nat)) ∧ Marks w ds ((W5.setCell ⟨g7, set, none⟩ (.int .i64 ((costF (sizeFn l) p : Int) + (costF (sizeFn l) q : Nat) + (sizeFn l set : Nat)))).setCell ⟨g8, set, none⟩ (.int .i64 ((p : Nat) : Int))).drew ∧ W0.heap.size ≤ ((W5.setCell ⟨g7, set, none⟩ (.int .i64 ((costF (sizeFn l) p : Int) + (costF (sizeFn l) q : Nat) + (sizeFn l set : Nat)))).setCell ⟨g8, set, none⟩ (.int .i64 ((p : Nat) : Int))).drew.heap.size)) := by
                  show _ ∧ _
                  rw [hPK]
                  exact ⟨hKO.from _, ⟨hBB, fun _ => hC2.cell, fun _ => hD2.cell⟩, k2.low ((Below.refl _ _).drew), hB2, hC2, hD2, hE2.low ((Below.refl _ _).drew), hsl2⟩
                clear hv hcs hfs k1 k2 e1 e2 hB2 hC2 hD2 hE2 hKO hBB hsl2 hPK hbb
                refine wpIn_only ?_
                gi_region
                all_goals
                  refine onlyN_normal ?_
                  gi_wp2
                  exact HFIN.out
              · have dl : decide ((costF (sizeFn l) p : Int) + (costF (sizeFn l) q : Nat) + (sizeFn l set : Nat) < (least : Int)) = false := by rw [decide_eq_false_iff_not]; omega
                have dl0 : decide ((least : Int) < 0) = false := by rw [decide_eq_false_iff_not]; omega
                simp only [costV] at cm
                have hPK : pickL (sizeFn l) (costF (sizeFn l)) set ((pre ++ [(⟨p, hp1, hp2⟩ : WayOf set)]).map Subtype.val) = some (least, qq) := by
                  rw [HPC.out, HPK.out]
                  simp only [wayF, hbb, if_neg hlq]
                have HPQ := Lib.hid hPK
                have e5 := below_drewN (Below.refl W.heap.size W) nq
                have HA := Lib.hid (h1.low e5)
                have HB := Lib.hid ((e5.block _ h2.lt).trans h2)
                have HC := Lib.hid ((e5.block _ h3.lt).trans h3)
                have HD := Lib.hid ((e5.block _ h4.lt).trans h4)
                have HE := Lib.hid (h5.low e5)
                clear hPK hbb e5 h1 h2 h3 h4 h5
                gi_wp2
                refine ⟨(keeps_drewN W nq).from _, ⟨below_drewN (Below.refl w.heap.size W) nq, fun _ => Boxed.cell HC.out, fun _ => Boxed.cell HD.out⟩, ?_⟩
                show BSt _ _ _ _ _ _ _ _ ∧ _
                rw [HPQ.out]
                exact ⟨HA.out, HB.out, HC.out, HD.out, HE.out, h6⟩
          case done =>
            rintro D ys W hD hS ⟨h1, h2, h3, h4, h5, h6⟩ hK
            rw [hS, cstP_done hs32 (by omega) HO.out, fstP_done hs32 (by omega) HO.out] at h1
            have hbxw := h2.cell
            have hmk2 := h5.cons hK (by omega) (fun h => by have := HML.out D h; omega)
            have hbx3 : Boxed (W.alloc (.cells #[.int .i64 ((set : Int) + 1)] 3)) W.heap.size 3 (.int .i64 ((set + 1 : Nat) : Int)) := Boxed.new W 3 (.int .i64 ((set : Int) + 1))
            have hbn3 := below_new W (.cells #[.int .i64 ((set : Int) + 1)] 3)
            have HME := Lib.hid (box_int hbx3)
            have HBX3 := Lib.hid hbx3
            have HA := Lib.hid (h1.low hbn3)
            have HM := Lib.hid (hmk2.low hbn3)
            have hg8W := h2.lt
            have hwr : IntKind.i64.wrap ((set : Int) + 1) = ((set + 1 : Nat) : Int) := by rw [IntWalk.i64_in _ (by omega)]; omega
            clear h1 h2 h3 h4 h5 hmk2 hbx3 hbn3 hS hK hc0 hmk0 hbx0 hbs0 hbl0
            gi_wp2
            refine ⟨⟨set + 1, D :: ds, W.heap.size, _, _, _, _, _, _, _, _, _, _, _, _, _, _, _, _, _, _, _, _, _, _, _, _, _, _, _, _, _, _, _, _, _, _, _, _, _, _, _, _, _, _, _, _, _, _, _, _, _, by omega, by omega, rfl, HA.out, HBX3.out, by omega, HM.out⟩, ?_⟩
            show pw n - (intOf (boxOf (.pointer (some ⟨W.heap.size, 0, none⟩)) (W.alloc (.cells #[.int .i64 ((set : Int) + 1)] 3)))).toNat < _
            rw [HME.out]
            refine Nat.lt_of_lt_of_eq (m := pw n - set) (by omega) ?_
            exact congrArg (fun z => pw n - z) HME2.out.symm
          case stop =>
            rintro D c pre W _ _ h _
            exact h.elim
      · have hse : set = pw n := by omega
        subst hse
        have d1 : decide (((pw n : Nat) : Int) < ((pw n : Nat) : Int)) = false := by simp
        have hpn32 : pw n ≤ 32 := by omega
        have HTBW := Lib.hid (HTB.out.below hst.below)
        gi_wp2
        gi_region
        gi_wp2
        have hm2 : 2 ≤ pw n := by
          have hq : ∀ k, k ≤ 5 → 1 ≤ k → 2 ≤ pw k := by decide +kernel
          exact hq n hlen5 hlen1
        have hb1 := below_new W (.cells #[.func (.func 76) #[] #[.pointer (some ⟨W.heap.size, 0, none⟩), .pointer (some ⟨g8, 0, none⟩)]] 80)
        have hn1 := new_block W #[.func (.func 76) #[] #[.pointer (some ⟨W.heap.size, 0, none⟩), .pointer (some ⟨g8, 0, none⟩)]] 80
        have hst1 := hst.low hb1
        have htr : TrIs (sizeFn l) (pw n) W.heap.size g8 (W.alloc (.cells #[.func (.func 76) #[] #[.pointer (some ⟨W.heap.size, 0, none⟩), .pointer (some ⟨g8, 0, none⟩)]] 80)) := ⟨cell_at_block (off := 0) hn1 rfl, hst1.fst, HTBW.out.below hb1⟩
        have hmk1 := hmk.low hb1
        have c12 := cell_at_block (off := 0) hn1 rfl
        have hm32 : pw n - 1 < 32 := by omega
        have hcl : (cstA (sizeFn l) (pw n))[pw n - 1]? = some ((costF (sizeFn l) (pw n - 1) : Nat) : Int) := cstA_at (sizeFn l) (by omega) hm32
        have c7 := cell_at_block (off := pw n - 1) hst1.cst (sizes_cell' hcl)
        have hz : ((pw n : Nat) : Int) - 1 = ((pw n - 1 : Nat) : Int) := by omega
        have QT := Lib.hid (tree_any (sizeFn l) (pw n) W.heap.size g8 hpn32 n (pw n - 1) (by omega) (by omega) (ones_all n hlen5))
        rw [hz]
        have HTT : Hid (bestR (sizeFn l) n = (treeOf (bestTo (sizeFn l) (pw n)) n (pw n - 1), costF (sizeFn l) (pw n - 1))) := bestR_eq (sizeFn l) n
        have y0 := cell_at_block (off := 0) hst1.res rfl
        have y1 := cell_at_block (off := 1) hst1.res rfl
        have z0 := free_at_block (off := 0) hst1.res
        have z1 := free_at_block (off := 1) hst1.res
        obtain ⟨U, hU⟩ : ∃ U, W.alloc (.cells #[.func (.func 76) #[] #[.pointer (some ⟨W.heap.size, 0, none⟩), .pointer (some ⟨g8, 0, none⟩)]] 80) = U := ⟨_, rfl⟩
        have hUs : U.heap.size = W.heap.size + 1 := by rw [← hU]; simp
        rw [hU] at hst1 htr hmk1 c12 c7 y0 y1 z0 z1 ⊢
        have hm0 : (0 : Int) ≤ ((pw n - 1 : Nat) : Int) := by omega
        have hm33 : ((pw n - 1 : Nat) : Int) < 32 := by omega
        generalize pw n - 1 = m at *
        have HST1 := Lib.hid hst1
        have HTR := Lib.hid htr
        have HMK1 := Lib.hid hmk1
        have hwW := hst.below.size
        clear hst hbx hmk HST2 HBX2 HMK bc hb1 hn1 hst1 htr hmk1 hcl hz hU d1
        refine wpIn_one ?_
        gi_region_with (first
          | (refine ⟨trivial, ?_⟩; gi_at_call 76; refine (callsIn_wide.2 (QT.out _ (HTR.out.below ((Below.refl U.heap.size U).drew.drew)))).mono ?_; rintro e w9 ⟨t, rfl, ht9, hb9⟩; have c79 := (hb9.cell (World.block_lt_of_cell? _ _ c7)).trans c7; have hr9 := (hb9.block _ (Array.getElem?_eq_some_iff.1 HST1.out.res).1).trans HST1.out.res; have y09 := cell_at_block (off := 0) hr9 rfl; have y19 := cell_at_block (off := 1) hr9 rfl; have z09 := free_at_block (off := 0) hr9; have z19 := free_at_block (off := 1) hr9; have HR9 := Lib.hid hr9; have HT9 := Lib.hid ht9; have HB9 := Lib.hid hb9; clear ht9 hb9 hr9))
        all_goals
          gi_wp2
          obtain ⟨q1, q2⟩ := setCell_at (off := 0) HR9.out (.int .i64 t.table)
          obtain ⟨q3, q4⟩ := setCell_at (off := 1) q1 (.slice t.kids.A t.kids.n t.kids.cap)
          have hg := q2.then_ q4 (fun _ e => .inr e)
          have hta := HT9.out.far hg (by show w.heap.size < U.heap.size; omega)
          have hmk9 := (HMK1.out.low (bchain ((Below.refl U.heap.size U).drew.drew) HB9.out)).cells hg HR9.out
          have hbw := below_row (bchain (bchain HST1.out.below ((Below.refl U.heap.size U).drew.drew)) HB9.out) hg (fun j e => by cases e; exact Nat.le_refl _)
          refine ret_marks w.heap.size ds hmk9.1 hmk9.2 fun w' hw' => ⟨results_tree rfl _ _ w.heap.size (.int .i64 t.table) (.slice t.kids.A t.kids.n t.kids.cap) rfl (hw'.same _ _ q3 rfl), ?_⟩
          rw [HR.out, HTT.out]
          exact ⟨t, rfl, (hta.shut hw').low (Nat.zero_le _), hbw.trans hw'.below⟩
  · have HR : Hid (bestT l = (leafT 0, 0, joinsE l)) := by show _ = _; unfold bestT; rw [if_neg hE]
    have hE1 : (joinsE l != 0) = true := by simpa using hE
    gi_wp2_with (first
      | (refine ⟨trivial, ?_⟩; gi_at_call 70; refine (callsIn_wide.2 Q1.out).mono ?_; rintro e w1 ⟨S, rfl, hSl, -, hb1⟩; obtain ⟨q1, q2⟩ := setRow_at (new_block w1 (intsV (List.replicate 32 0)) 95) (intsV S); have hb2 : Below w1.heap.size w1 ((w1.alloc (.cells (intsV (List.replicate 32 0)) 95)).setRow w1.heap.size (intsV S)) := below_row (below_new w1 _) q2 (fun j e => by cases e; exact Nat.le_refl _); obtain ⟨W2, hW2⟩ : ∃ W2, (w1.alloc (.cells (intsV (List.replicate 32 0)) 95)).setRow w1.heap.size (intsV S) = W2 := ⟨_, rfl⟩; rw [hW2] at hb2; have hn1 := (hb1.block _ (Array.getElem?_eq_some_iff.1 HNB.out).1).trans HNB.out; have hn2 := (hb2.block _ (Array.getElem?_eq_some_iff.1 hn1).1).trans hn1; have r0 := cell_at_block (off := 0) hn2 rfl; have r1 := cell_at_block (off := 1) hn2 rfl; have y0 := free_at_block (off := 0) hn2; have y1 := free_at_block (off := 1) hn2; obtain ⟨q3, q4⟩ := setCell_at (off := 0) hn2 (.int .i64 0); obtain ⟨q5, q6⟩ := setCell_at (off := 1) q3 (.slice none 0 0); have HQ5 := Lib.hid q5; have HB5 := Lib.hid (below_row (bchain (bchain HBN.out hb1) hb2) (q4.then_ q6 (fun _ e => .inr e)) (fun j e => by cases e; exact Nat.le_refl _)); have HW2 := Lib.hid hW2; clear hb1 q1 q2 hb2 hW2 Q1 hn1 hn2 q3 q4 q5 q6)
      | (refine wpListIn_store_row rfl 95 _ _ rfl w1.heap.size (intsV S) rfl rfl 95 (intsV (List.replicate 32 0)) (new_block w1 (intsV (List.replicate 32 0)) 95) (by rw [intsV_size, hSl]; kernel_rfl) (by rw [intsV_size, intsV_size, hSl, List.length_replicate]) (intsV_one _) ?_; change wpListIn _ _ _ _ _ _ _ ((w1.alloc (.cells (intsV (List.replicate 32 0)) 95)).setRow w1.heap.size (intsV S)); rw [HW2.out]))
    refine ret_none (results_tree rfl _ _ w.heap.size (.int .i64 0) (.slice none 0 0) rfl HQ5.out) ?_
    rw [HR.out]
    exact ⟨⟨0, ⟨none, 0, 0⟩⟩, rfl, TreeAt.leaf _ _ 0, HB5.out⟩
end Go.Proofs.Bg
end

section
/- Plain words for next: a slice's tail reversed in place. -/
namespace Go.Proofs.Bg
open Go.RowKit
open Go.Sort (grow Holds putRow putCells mapBlock onCells)

theorem own_putTail {w : World} {base g cap : Nat} {l : List Int} (h : Own iv 1 3 base w (.slice (some ⟨g, 0, none⟩) l.length cap) l) (k m : Nat) (hk : k ≤ l.length) :
    Own iv 1 3 base (putRow (Value.int .i64) (Sort.ahead w m) g k (l.drop k).reverse.toArray) (.slice (some ⟨g, 0, none⟩) l.length cap) (turnTail l k) ∧ w.grownBy (putRow (Value.int .i64) (Sort.ahead w m) g k (l.drop k).reverse.toArray) (some g) := by
  rcases h.2 with ⟨e, _⟩ | ⟨g', cap', cur, e, hb, hh, h1, h2, h3, h4⟩
  · cases e
  · cases e
    have hg : g < w.heap.size := (Array.getElem?_eq_some_iff.1 hh).1
    have hlen : (turnTail l k).length = l.length := by simp [turnTail]; omega
    have hh' : (putRow (Value.int .i64) (Sort.ahead w m) g k (l.drop k).reverse.toArray).heap[g]? = some (.cells (putCells (Value.int .i64) k (l.drop k).reverse.toArray cur) 3 (0, 0)) := by
      simp [putRow, mapBlock, Sort.ahead, Array.getElem?_modify, hh, onCells]
    refine ⟨⟨by rw [flat_length iv_length, hlen], .inr ⟨g, cap, _, by rw [hlen], hb, hh', by rw [hlen]; exact h1, h2, by simp [putCells, h3], ?_⟩⟩, rfl, rfl, rfl, by simp [putRow, mapBlock, Sort.ahead], fun i _ hi => ?_⟩
    · rw [flat_iv] at h4 ⊢
      rw [hlen]
      apply List.ext_getElem?
      intro j
      have hcur : ∀ j, j < l.length → cur[j]? = some (.int .i64 (l.getD j 0)) := fun j hj => by
        have := congrArg (fun x => x[j]?) h4
        simp only [Nat.mul_one] at this
        rw [List.getElem?_take_of_lt (by omega), Array.getElem?_toList] at this
        rw [this]
        simp [hj]
      by_cases hj : j < l.length
      · rw [List.getElem?_take_of_lt (by omega), Array.getElem?_toList]
        have hjc : j < cur.size := by
          have := hcur j hj
          exact (Array.getElem?_eq_some_iff.1 this).1
        have hcj : cur[j] = .int .i64 (l.getD j 0) := by
          have := hcur j hj
          rw [Array.getElem?_eq_getElem hjc] at this
          exact Option.some.inj this
        simp only [putCells, Array.getElem?_mapIdx, Array.getElem?_eq_getElem hjc, Option.map_some]
        by_cases hjk : k ≤ j
        · have hin : k ≤ j ∧ j < k + (l.drop k).reverse.toArray.size := ⟨hjk, by simp; omega⟩
          rw [if_pos hin]
          have h5 : j - k < (l.drop k).reverse.length := by simp; omega
          simp only [turnTail, List.getElem?_map]
          rw [List.getElem?_append_right (by simp; omega), List.length_take, Nat.min_eq_left hk, List.getElem?_eq_getElem h5]
          have e6 : (l.drop k).reverse.toArray[j - k]! = (l.drop k).reverse[j - k] := by
            rw [getElem!_pos _ _ (by rw [List.size_toArray]; exact h5)]
            rfl
          rw [e6]
          rfl
        · rw [if_neg (by omega)]
          simp only [turnTail, List.getElem?_map]
          rw [List.getElem?_append_left (by simp; omega), List.getElem?_take_of_lt (by omega), hcj]
          simp [hj]
      · rw [List.getElem?_take_eq_none (by omega), List.getElem?_eq_none (by simp [hlen]; omega)]
    · have : g ≠ i := fun e => hi (by rw [e])
      simp [putRow, mapBlock, Sort.ahead, Array.getElem?_modify, this]
theorem own_holdsTail {w : World} {base g cap : Nat} {l : List Int} (h : Own iv 1 3 base w (.slice (some ⟨g, 0, none⟩) l.length cap) l) (k : Nat) : Holds (Value.int .i64) w g k (l.drop k).toArray := by
  intro j hj
  simp at hj
  obtain ⟨g', x, e, _, _, _, hx, hc, hf⟩ := Own.at_ iv_length h (i := k + j) (by omega)
  cases e
  have c0 := hc 0 _ rfl
  simp only [Nat.mul_one, Nat.add_zero] at c0
  refine ⟨?_, hf _⟩
  rw [c0]
  have : (l.drop k).toArray[j]! = x := by
    rw [getElem!_pos _ _ (by simp; omega)]
    simp
    obtain ⟨_, h2⟩ := List.getElem?_eq_some_iff.1 hx
    exact h2
  rw [this]
/-- Two cells exchanged. -/
theorem own_swap {w : World} {base g cap : Nat} {l : List Int} (h : Own iv 1 3 base w (.slice (some ⟨g, 0, none⟩) l.length cap) l) {i k : Nat} (hi : i < l.length) (hk : k < l.length) :
    Own iv 1 3 base ((w.setCell ⟨g, i, none⟩ (.int .i64 (itemI l k))).setCell ⟨g, k, none⟩ (.int .i64 (itemI l i))) (.slice (some ⟨g, 0, none⟩) l.length cap) (swapI l i k) ∧ w.grownBy ((w.setCell ⟨g, i, none⟩ (.int .i64 (itemI l k))).setCell ⟨g, k, none⟩ (.int .i64 (itemI l i))) (some g) := by
  obtain ⟨q1, q2⟩ := Own.set1 iv_length h hi (y := itemI l k) (u := .int .i64 (itemI l k)) rfl
  obtain ⟨q3, q4⟩ := Own.set1 iv_length q1 (i := k) (by simp; exact hk) (y := itemI l i) (u := .int .i64 (itemI l i)) rfl
  exact ⟨q3, q2.then_ q4 (fun _ e => .inr e)⟩
theorem own_item {w : World} {base g cap : Nat} {l : List Int} (h : Own iv 1 3 base w (.slice (some ⟨g, 0, none⟩) l.length cap) l) {i : Nat} (hi : i < l.length) : w.cell? ⟨g, i, none⟩ = some (.int .i64 (itemI l i)) ∧ w.frozen? ⟨g, i, none⟩ = false := by
  obtain ⟨g', x, e, _, _, _, hx, hc, hf⟩ := Own.at_ iv_length h hi
  cases e
  have c0 := hc 0 _ rfl
  simp only [Nat.mul_one, Nat.add_zero] at c0
  have : itemI l i = x := by unfold itemI; rw [List.getD_eq_getElem?_getD, hx]; rfl
  rw [this]
  exact ⟨c0, hf _⟩
end Go.Proofs.Bg
end

section
/- Contract: next. -/
namespace Go.Proofs.Bg
open Go.RowKit

theorem DrN.row {w w' : World} (h : DrN w w') (g : Nat) : w.grownBy w' (some g) := by
  obtain ⟨q, rfl⟩ := h
  have hb := below_drewN (Below.refl w.heap.size w) q
  exact ⟨hb.os, hb.tape, hb.output, hb.size, fun i hi _ => hb.block i hi⟩
theorem lastOver_spec {l : List Int} {x : Int} {i : Nat} (hi : ¬ itemI l i < x) : ∀ k, i ≤ k → i ≤ lastOver l x k ∧ lastOver l x k ≤ k
  | 0, h => by rw [lastOver]; omega
  | k + 1, h => by
    rw [lastOver]
    split
    · rename_i hk
      have : i ≤ k := by
        rcases Nat.lt_or_ge k i with h2 | h2
        · have : i = k + 1 := by omega
          subst this
          exact absurd hk hi
        · exact h2
      have := lastOver_spec hi k this
      omega
    · omega

set_option maxRecDepth 100000 in
set_option maxHeartbeats 1000000 in
theorem next_any (base g cap : Nat) (l : List Int) (w : World) (h : Own iv 1 3 base w (.slice (some ⟨g, 0, none⟩) l.length cap) l) (hl1 : 1 ≤ l.length) (hl2 : l.length ≤ 1000) :
    Calls Tryz.prog 79 #[.slice (some ⟨g, 0, none⟩) l.length cap] w fun e w' => e = .returned (.bool (nextL l).isSome) ∧ Own iv 1 3 base w' (.slice (some ⟨g, 0, none⟩) l.length cap) ((nextL l).getD l) ∧ w.grownBy w' (some g) := by
  have hcap := Own.capLe h
  have hcap2 := h.capMax
  have H := Lib.hid h
  obtain ⟨n, hn⟩ : ∃ n, l.length = n := ⟨_, rfl⟩
  have HN := Lib.hid hn
  rw [hn] at hl1 hl2 hcap H ⊢
  have HNX : Hid (nextL l = nextFrom l (n - 1)) := by show _ = _; unfold nextL; rw [hn]
  clear h hn
  go_enter Tryz.func79, Tryz.ntmps79
  go_wp2_with fail
  go_loopw [3] (fun i wr => ∃ m : Nat, m ≤ n - 1 ∧ i = .int .i64 ((m : Int) - 1) ∧ nextL l = nextFrom l m ∧ DrN w wr) (fun i _ => (intOf i + 1).toNat)
  case atStart => exact ⟨n - 1, by omega, by congr 1; omega, HNX.out, DrN.refl _⟩
  case round =>
    obtain ⟨m, hm, rfl, hnx, hD⟩ := hrel
    have HNX2 := Lib.hid hnx
    have HD := Lib.hid hD
    have ho := H.out.below hD.below
    clear hnx HNX
    cases m with
    | zero =>
      have HF : Hid (nextL l = none) := by show _ = _; rw [HNX2.out, nextFrom]
      have HO := Lib.hid ho
      clear hD ho
      go_wp2_with fail
      go_ret
      rw [HF.out]
      exact ⟨rfl, HO.out, HD.out.row g⟩
    | succ i =>
      have e1 : (((i + 1 : Nat) : Int) - 1) = (i : Int) := by omega
      rw [e1]
      have hi1 : i + 1 < n := by omega
      have ho2 := ho
      rw [← HN.out] at ho2
      obtain ⟨c0, f0⟩ := own_item ho2 (i := i) (by rw [HN.out]; omega)
      obtain ⟨c1, f1⟩ := own_item ho2 (i := i + 1) (by rw [HN.out]; omega)
      have b0 : (0 : Int) ≤ i := by omega
      have b1 : (i : Int) < n := by omega
      have b2 : (i : Int) + 1 < n := by omega
      have b3 : (0 : Int) ≤ (i : Int) + 1 := by omega
      by_cases hcmp : itemI l (i + 1) < itemI l i
      · have HNX3 : Hid (nextL l = nextFrom l i) := by show _ = _; rw [HNX2.out, nextFrom, if_pos hcmp]
        clear hD ho ho2 HNX2 f0 f1
        go_wp2_with fail
        go_quiet (fail)
        go_wp2_with fail
        exact ⟨⟨i, by omega, by go_num, HNX3.out, by first | exact HD.out.drewN _ | exact HD.out.drew⟩, by simp [intOf]⟩
      · have HNX3 : Hid (nextL l = some (turnTail (swapI l i (lastOver l (itemI l i) (n - 1))) (i + 1))) := by show _ = _; rw [HNX2.out, nextFrom, if_neg hcmp, HN.out]
        clear hD ho ho2 HNX2 f0 f1
        go_wp2_with fail
        go_quiet (fail)
        go_wp2_with fail
        obtain ⟨wo, rfl⟩ : ∃ x, x = wr := ⟨_, rfl⟩
        have e2 : (n : Int) - 1 = ((n - 1 : Nat) : Int) := by omega
        clear c0 c1
        go_loopw [4] (fun v wx => ∃ k : Nat, i + 1 ≤ k ∧ k ≤ n - 1 ∧ v = .int .i64 k ∧ lastOver l (itemI l i) (n - 1) = lastOver l (itemI l i) k ∧ DrN w wx) (fun v _ => (intOf v).toNat)
        case atStart => exact ⟨n - 1, by omega, by omega, by rw [e2], rfl, by first | exact HD.out.drewN _ | exact HD.out.drew⟩
        case round =>
          obtain ⟨k, hk1, hk2, rfl, hlo, hD2⟩ := hrel
          have HLO := Lib.hid hlo
          have HD2 := Lib.hid hD2
          have ho2 := H.out.below hD2.below
          rw [← HN.out] at ho2
          obtain ⟨c0, f0⟩ := own_item ho2 (i := i) (by rw [HN.out]; omega)
          obtain ⟨c1, f1⟩ := own_item ho2 (i := k) (by rw [HN.out]; omega)
          have b4 : (0 : Int) ≤ k := by omega
          have b5 : (k : Int) < n := by omega
          by_cases hlt : itemI l k < itemI l i
          · obtain ⟨k', rfl⟩ : ∃ k', k = k' + 1 := ⟨k - 1, by omega⟩
            have hne : k' ≠ i := fun e => by subst e; omega
            have HLO2 : Hid (lastOver l (itemI l i) (n - 1) = lastOver l (itemI l i) k') := by show _ = _; rw [HLO.out, lastOver, if_pos hlt]
            clear hlo hD2 ho2 f0 f1 HLO
            go_wp2_with fail
            go_quiet (fail)
            go_wp2_with fail
            exact ⟨⟨k', by omega, by omega, by go_num, HLO2.out, by first | exact HD2.out.drewN _ | exact HD2.out.drew⟩, by simp [intOf]⟩
          · have HLO2 : Hid (lastOver l (itemI l i) (n - 1) = k) := by
              show _ = _
              rw [HLO.out]
              cases k with
              | zero => rfl
              | succ k => rw [lastOver, if_neg hlt]
            rw [HLO2.out] at HNX3
            clear hlo hD2 ho2 HLO
            go_wp2_with fail
            go_quiet (fail)
            go_wp2_with fail
            have hik : i ≠ k := by omega
            obtain ⟨W8, hW8⟩ : ∃ W, wr.drewN nq = W := ⟨_, rfl⟩
            have hD8 : DrN w W8 := by rw [← hW8]; first | exact HD2.out.drewN _ | exact HD2.out.drew
            rw [hW8]
            have ho8 := H.out.below hD8.below
            rw [← HN.out] at ho8
            clear c0 c1 f0 f1
            obtain ⟨c0, f0⟩ := own_item ho8 (i := i) (by rw [HN.out]; omega)
            obtain ⟨c1, f1⟩ := own_item ho8 (i := k) (by rw [HN.out]; omega)
            have y1 : (W8.setCell ⟨g, i, none⟩ (.int .i64 (itemI l k))).cell? ⟨g, k, none⟩ = some (.int .i64 (itemI l k)) := by
              rw [World.cell?_setCell_other _ _ _ _ (fun e => by have := congrArg Addr.off e; simp at this; omega)]
              exact c1
            obtain ⟨q1, q2⟩ := own_swap ho8 (i := i) (k := k) (by rw [HN.out]; omega) (by rw [HN.out]; omega)
            have HQ1 := Lib.hid q1
            have HQ2 := Lib.hid ((hD8.row g).then_ q2 (fun _ e => .inr e))
            clear hW8 hD8 ho8 q1 q2
            go_cut [] (fun wz => Own iv 1 3 base wz (.slice (some ⟨g, 0, none⟩) l.length cap) (swapI l i k) ∧ w.grownBy wz (some g))
            case first =>
              go_region
              all_goals
                go_wp2_with fail
                go_meet
                exact ⟨HQ1.out.below ((Below.refl _ _).drew), HQ2.out.os, HQ2.out.tape, HQ2.out.output, HQ2.out.size, HQ2.out.block⟩
            case rest =>
              obtain ⟨hO, hG⟩ := hcut
              have HG := Lib.hid hG
              have hl2' : (swapI l i k).length = n := by simp [swapI, HN.out]
              obtain ⟨l2, hl2e⟩ : ∃ l2, swapI l i k = l2 := ⟨_, rfl⟩
              rw [hl2e] at hO hl2' HNX3
              have HO : Hid (Own iv 1 3 base wc (.slice (some ⟨g, 0, none⟩) l2.length cap) l2) := by
                show Own _ _ _ _ _ _ _
                rw [hl2', ← HN.out]
                exact hO
              have hdl : (l2.drop (i + 1)).length = n - (i + 1) := by simp [hl2']
              have QR := Lib.hid (Tryz.slices_Reverse_int g (i + 1) (cap - (i + 1)) (l2.drop (i + 1)) wc (own_holdsTail HO.out (i + 1)) (by rw [hdl]; omega))
              have HDL := Lib.hid hdl
              have HL2 := Lib.hid hl2'
              have b6 : (i : Int) + 1 ≤ n := by omega
              have b7 : (n : Int) ≤ cap := by omega
              have b8 : (i : Int) + 1 ≤ cap := by omega
              clear hO hG hl2' hl2e hdl HQ1 HQ2 y1 c0 f0 c1 f1
              go_wp2_with fail
              have QR2 := QR.out
              rw [HDL.out] at QR2
              (with_reducible refine QR2.mono ?_)
              rintro e w2 ⟨rfl, m, hw2⟩
              obtain ⟨p1, p2⟩ := own_putTail HO.out (i + 1) m (by rw [HL2.out]; omega)
              rw [← hw2] at p1 p2
              rw [HL2.out] at p1
              have HP1 := Lib.hid p1
              have HP2 := Lib.hid (HG.out.then_ p2 (fun _ e => .inr e))
              clear hw2 p1 p2 QR2 QR
              go_wp2_with fail
              go_ret
              rw [HNX3.out]
              exact ⟨rfl, HP1.out, HP2.out⟩
theorem swapI_mem {l : List Int} {i k : Nat} (hi : i < l.length) (hk : k < l.length) {x : Int} (h : x ∈ swapI l i k) : x ∈ l := by
  unfold swapI at h
  have g : ∀ j, j < l.length → itemI l j ∈ l := fun j hj => by
    unfold itemI
    rw [List.getD_eq_getElem?_getD, List.getElem?_eq_getElem hj]
    exact List.getElem_mem hj
  rcases List.mem_or_eq_of_mem_set h with h | rfl
  · rcases List.mem_or_eq_of_mem_set h with h | rfl
    · exact h
    · exact g k hk
  · exact g i hi
end Go.Proofs.Bg
end

section
/- Plain words for Line: all lines in order, and the best one. -/
namespace Go.Proofs.Bg
open Go.RowKit

def permsFrom : Nat → List Int → List (List Int)
  | 0, l => [l]
  | f + 1, l => l :: (match nextL l with | none => [] | some l' => permsFrom f l')
def permsN (n : Nat) : List (List Int) := permsFrom 119 (iota n)
def chainB : List (List Int) → Bool
  | a :: b :: r => decide (nextL a = some b) && chainB (b :: r)
  | [a] => decide (nextL a = none)
  | [] => true
def permsOK (n : Nat) : Bool := chainB (permsN n) && decide ((permsN n).head? = some (iota n)) && (permsN n).all (fun l => decide (l.length = n) && l.all fun x => decide (0 ≤ x) && decide (x < n)) && decide ((permsN n).length ≤ 120)
theorem perms_ok : permsOK 1 = true ∧ permsOK 2 = true ∧ permsOK 3 = true ∧ permsOK 4 = true ∧ permsOK 5 = true := by decide +kernel
theorem chain_at : ∀ {P : List (List Int)}, chainB P = true → ∀ (i : Nat) (l : List Int), P[i]? = some l → nextL l = P[i + 1]?
  | [], _, i, l, h => by simp at h
  | [a], hc, i, l, h => by
    cases i with
    | zero =>
      simp at h
      subst h
      simpa [chainB] using hc
    | succ i => simp at h
  | a :: b :: r, hc, i, l, h => by
    simp only [chainB, Bool.and_eq_true, decide_eq_true_eq] at hc
    cases i with
    | zero =>
      simp at h
      subst h
      simpa using hc.1
    | succ i =>
      have := chain_at hc.2 i l (by simpa using h)
      simpa using this
/-- What is known of the lines of n tables. -/
structure Perms (n : Nat) (P : List (List Int)) : Prop where
  pos : 0 < P.length
  most : P.length ≤ 120
  first : P[0]? = some (iota n)
  len : ∀ l ∈ P, l.length = n
  mem : ∀ l ∈ P, ∀ x ∈ l, 0 ≤ x ∧ x < n
  next : ∀ (i : Nat) (l : List Int), P[i]? = some l → nextL l = P[i + 1]?
theorem perms_of {n : Nat} (h : permsOK n = true) : Perms n (permsN n) := by
  simp only [permsOK, Bool.and_eq_true, decide_eq_true_eq, List.all_eq_true] at h
  obtain ⟨⟨⟨h1, h2⟩, h3⟩, h4⟩ := h
  refine ⟨?_, h4, ?_, fun l hl => (h3 l hl).1, fun l hl x hx => (h3 l hl).2 x hx, chain_at h1⟩
  · cases hp : permsN n with
    | nil => rw [hp] at h2; cases h2
    | cons a r => simp
  · rw [List.head?_eq_getElem?] at h2
    exact h2
theorem perms_all {n : Nat} (h1 : 1 ≤ n) (h5 : n ≤ 5) : Perms n (permsN n) := by
  have h := perms_ok
  have : n = 1 ∨ n = 2 ∨ n = 3 ∨ n = 4 ∨ n = 5 := by omega
  rcases this with rfl | rfl | rfl | rfl | rfl
  · exact perms_of h.1
  · exact perms_of h.2.1
  · exact perms_of h.2.2.1
  · exact perms_of h.2.2.2.1
  · exact perms_of h.2.2.2.2

/-- The cost and the set of a line's first tables. -/
def lineAt (s : Nat → Nat) (l : List Int) : Nat → Nat × Nat
  | 0 => (0, 0)
  | i + 1 => (if i = 0 then (lineAt s l i).1 else (lineAt s l i).1 + s ((lineAt s l i).2 ||| pw (itemI l i).toNat), (lineAt s l i).2 ||| pw (itemI l i).toNat)
def costL (s : Nat → Nat) (l : List Int) : Nat := (lineAt s l l.length).1
theorem lineAt_mono (s : Nat → Nat) (l : List Int) (i : Nat) : (lineAt s l i).1 ≤ (lineAt s l (i + 1)).1 := by
  rw [lineAt]
  simp only []
  split <;> omega
theorem lineAt_mono2 (s : Nat → Nat) (l : List Int) {i j : Nat} (h : i ≤ j) : (lineAt s l i).1 ≤ (lineAt s l j).1 := by
  induction h with
  | refl => exact Nat.le_refl _
  | step h ih => exact Nat.le_trans ih (lineAt_mono s l _)
theorem lineAt_le {s : Nat → Nat} (hs : ∀ x, s x ≤ 500) (l : List Int) : ∀ i, (lineAt s l i).1 ≤ 500 * i
  | 0 => by simp [lineAt]
  | i + 1 => by
    have := lineAt_le hs l i
    rw [lineAt]
    simp only []
    split
    · omega
    · have := hs ((lineAt s l i).2 ||| pw (itemI l i).toNat)
      omega
theorem itemI_mem {l : List Int} {j : Nat} (hj : j < l.length) : itemI l j ∈ l := by
  unfold itemI
  rw [List.getD_eq_getElem?_getD, List.getElem?_eq_getElem hj]
  exact List.getElem_mem hj
theorem lineAt_lt {s : Nat → Nat} {l : List Int} {n : Nat} (hm : ∀ x ∈ l, 0 ≤ x ∧ x < (n : Int)) : ∀ i, i ≤ l.length → (lineAt s l i).2 < pw n
  | 0, _ => by rw [lineAt]; exact pw_pos n
  | i + 1, h => by
    rw [lineAt]
    have h1 := lineAt_lt (s := s) hm i (by omega)
    have h2 := hm _ (itemI_mem (l := l) (j := i) (by omega))
    exact Nat.or_lt_two_pow h1 (Nat.pow_lt_pow_right (by decide) (by omega))
def better (s : Nat → Nat) (b : Option (List Int × Nat)) (l : List Int) : Option (List Int × Nat) :=
  match b with
  | none => some (l, costL s l)
  | some (m, c) => if costL s l < c then some (l, costL s l) else some (m, c)
def bestL (s : Nat → Nat) (P : List (List Int)) : Option (List Int × Nat) := P.foldl (better s) none
theorem bestL_succ (s : Nat → Nat) {P : List (List Int)} {j : Nat} {l : List Int} (h : P[j]? = some l) : bestL s (P.take (j + 1)) = better s (bestL s (P.take j)) l := by
  unfold bestL
  rw [List.take_add_one, h, List.foldl_append]
  rfl
theorem better_some (s : Nat → Nat) (b : Option (List Int × Nat)) (l : List Int) : ∃ m c, better s b l = some (m, c) := by
  unfold better
  split
  · exact ⟨_, _, rfl⟩
  · split <;> exact ⟨_, _, rfl⟩
theorem bestL_some (s : Nat → Nat) {P : List (List Int)} (h : 0 < P.length) : ∃ m c, bestL s P = some (m, c) := by
  have h1 : P[P.length - 1]? = some (P[P.length - 1]'(by omega)) := List.getElem?_eq_getElem _
  have h2 := bestL_succ s h1
  have h3 : P.length - 1 + 1 = P.length := by omega
  rw [h3, List.take_length] at h2
  rw [h2]
  exact better_some s _ _
def lineB (s : Nat → Nat) (n : Nat) : List Int × Nat := (bestL s (permsN n)).getD ([], 0)
/-- What Line hands back. -/
def lineT (l : List PT) : List Int × Int × Int := if joinsE l = 0 then ((lineB (sizeFn l) l.length).1, ((lineB (sizeFn l) l.length).2 : Nat), 0) else ([], 0, joinsE l)
/-- The numbers from 0 on, the first ones laid. -/
def iotaTo (n k : Nat) : List Int := (List.range n).map fun (i : Nat) => if i < k then (i : Int) else 0
theorem iotaTo_length (n k : Nat) : (iotaTo n k).length = n := by simp [iotaTo]
theorem iotaTo_zero (n : Nat) : iotaTo n 0 = List.replicate n 0 := by
  apply List.ext_getElem (by simp [iotaTo])
  intro i h1 h2
  rw [List.getElem_replicate]
  simp [iotaTo]
theorem iotaTo_succ (n k : Nat) (_ : k < n) : iotaTo n (k + 1) = (iotaTo n k).set k (k : Int) := by
  apply List.ext_getElem (by simp [iotaTo])
  intro i h1 h2
  rw [List.getElem_set]
  simp only [iotaTo, List.getElem_map, List.getElem_range]
  by_cases h : k = i
  · subst h
    simp
  · rw [if_neg h]
    by_cases h3 : i < k
    · rw [if_pos h3, if_pos (by omega)]
    · rw [if_neg h3, if_neg (by omega)]
theorem iotaTo_all (n : Nat) : iotaTo n n = iota n := by
  apply List.ext_getElem (by simp [iotaTo, iota])
  intro i h1 h2
  simp only [iotaTo, iota, List.getElem_map, List.getElem_range]
  rw [if_pos (by simpa [iotaTo] using h1)]
end Go.Proofs.Bg
end

section
/- Contract: Quick. -/
namespace Go.Proofs.Bg
open Go.RowKit

def leafP (i : Nat) : Pt := ⟨⟨(i : Int), ⟨none, 0, 0⟩⟩, pw i⟩
def leafPs (k : Nat) : List Pt := (List.range k).map leafP
theorem leafPs_len (k : Nat) : (leafPs k).length = k := by simp [leafPs]
theorem leafPs_succ (k : Nat) : leafPs (k + 1) = leafPs k ++ [leafP k] := by simp [leafPs, List.range_succ]
theorem leafPs_at (w : World) (lo n : Nat) : PAt w lo (leafPs n) ((List.range n).map fun i => (leafT i, pw i)) := by
  refine ⟨by simp [leafPs], fun i x y h1 h2 => ?_⟩
  simp only [leafPs, List.getElem?_map] at h1 h2
  cases hr : (List.range n)[i]? with
  | none => rw [hr] at h1; cases h1
  | some j =>
    rw [hr] at h1 h2
    cases h1; cases h2
    exact ⟨rfl, TreeAt.leaf _ _ _⟩
theorem own_formP {base : Nat} {w : World} {v : Value} {l : List Pt} (h : Own Pt.vs 3 115 base w v l) (hl : 0 < l.length) : ∃ g cap, v = .slice (some ⟨g, 0, none⟩) l.length cap ∧ base ≤ g := by
  rcases h.2 with ⟨e, e0⟩ | ⟨g, cap, cur, e, hb, _⟩
  · omega
  · exact ⟨g, cap, e, hb⟩
/-- A part's cells. -/
theorem own_ptAt {base g cap lo : Nat} {w : World} {ps : List Pt} {P : List (PTr × Nat)} (h : Own Pt.vs 3 115 base w (.slice (some ⟨g, 0, none⟩) ps.length cap) ps) (hP : PAt w lo ps P) {i : Nat} (hi : i < P.length) :
    ∃ t : Tr, TreeAt w lo t (P.getD i (leafT 0, 0)).1 ∧ ps[i]? = some ⟨t, (P.getD i (leafT 0, 0)).2⟩ ∧ w.cell? ⟨g, i * 3, none⟩ = some (.int .i64 t.table) ∧ w.cell? ⟨g, i * 3 + 1, none⟩ = some (.slice t.kids.A t.kids.n t.kids.cap) ∧ w.cell? ⟨g, i * 3 + 2, none⟩ = some (.int .i64 ((P.getD i (leafT 0, 0)).2 : Nat)) ∧ ∀ o, w.frozen? ⟨g, o, none⟩ = false := by
  obtain ⟨p, hp, hs, ht⟩ := hP.at_ hi
  obtain ⟨g', x, e, -, -, -, hx, hc, hf⟩ := Own.at_ Pt.vs_length h (i := i) (by rw [hP.1]; exact hi)
  cases e
  rw [hp] at hx
  cases hx
  obtain ⟨t, st⟩ := p
  simp only [] at hs ht
  subst hs
  exact ⟨t, ht, hp, hc 0 _ rfl, hc 1 _ rfl, hc 2 _ rfl, hf⟩
/-- A part put at a place. -/
theorem own_ptPut {base g cap : Nat} {w : World} {ps : List Pt} (h : Own Pt.vs 3 115 base w (.slice (some ⟨g, 0, none⟩) ps.length cap) ps) {i : Nat} {p : Pt} (hp : ps[i]? = some p) (q : Pt) :
    Own Pt.vs 3 115 base (((w.setCell ⟨g, i * 3, none⟩ (.int .i64 q.t.table)).setCell ⟨g, i * 3 + 1, none⟩ (.slice q.t.kids.A q.t.kids.n q.t.kids.cap)).setCell ⟨g, i * 3 + 2, none⟩ (.int .i64 (q.set : Nat))) (.slice (some ⟨g, 0, none⟩) ps.length cap) (ps.set i q) ∧ w.grownBy (((w.setCell ⟨g, i * 3, none⟩ (.int .i64 q.t.table)).setCell ⟨g, i * 3 + 1, none⟩ (.slice q.t.kids.A q.t.kids.n q.t.kids.cap)).setCell ⟨g, i * 3 + 2, none⟩ (.int .i64 (q.set : Nat))) (some g) := by
  have hi : i < ps.length := (List.getElem?_eq_some_iff.1 hp).1
  obtain ⟨q1, q2⟩ := Own.setAt Pt.vs_length h (i := i) (j := 0) (y := ⟨⟨q.t.table, p.t.kids⟩, p.set⟩) hp rfl (by decide)
  obtain ⟨q3, q4⟩ := Own.setAt Pt.vs_length q1 (i := i) (j := 1) (x := ⟨⟨q.t.table, p.t.kids⟩, p.set⟩) (y := ⟨⟨q.t.table, q.t.kids⟩, p.set⟩) (by simp [hi]) rfl (by decide)
  obtain ⟨q5, q6⟩ := Own.setAt Pt.vs_length q3 (i := i) (j := 2) (x := ⟨⟨q.t.table, q.t.kids⟩, p.set⟩) (y := q) (by simp [hi]) rfl (by decide)
  rw [List.set_set, List.set_set] at q5
  exact ⟨q5, (q2.then_ q4 (fun _ e => .inr e)).then_ q6 (fun _ e => .inr e)⟩
theorem PAt.set {w : World} {lo : Nat} {ps : List Pt} {P : List (PTr × Nat)} (h : PAt w lo ps P) {i : Nat} {p : Pt} {q : PTr × Nat} (h1 : p.set = q.2) (h2 : TreeAt w lo p.t q.1) : PAt w lo (ps.set i p) (P.set i q) := All2.set h ⟨h1, h2⟩
def setAtP (P : List (PTr × Nat)) (i : Nat) : Nat := (P.getD i (leafT 0, 0)).2
theorem setAtP_lt {P : List (PTr × Nat)} (h : ∀ p ∈ P, p.2 < 32) (i : Nat) : setAtP P i < 32 := by
  unfold setAtP
  by_cases hi : i < P.length
  · have : P.getD i (leafT 0, 0) = P[i] := by simp [hi]
    rw [this]
    exact h _ (List.getElem_mem hi)
  · have : P.getD i (leafT 0, 0) = (leafT 0, 0) := by simp [List.getElem?_eq_none (Nat.le_of_not_lt hi)]
    rw [this]
    show 0 < 32
    decide
theorem quickK_succ (s : Nat → Nat) (P : List (PTr × Nat)) (i k : Nat) (ab : Nat × Nat) : quickK s P i (k + 1) ab = if s (setAtP P i ||| setAtP P (i + 1 + k)) < s (setAtP P (quickK s P i k ab).1 ||| setAtP P (quickK s P i k ab).2) then (i, i + 1 + k) else quickK s P i k ab := rfl
theorem quickI_succ (s : Nat → Nat) (P : List (PTr × Nat)) (i : Nat) (ab : Nat × Nat) : quickI s P (i + 1) ab = quickK s P i (P.length - (i + 1)) (quickI s P i ab) := rfl
/-- What is left to do with some parts. -/
theorem quickF_one {s : Nat → Nat} {f : Nat} {P : List (PTr × Nat)} {c : Nat} (h : P.length ≤ 1) : quickF s f P c = ((P.getD 0 (leafT 0, 0)).1, c) := by
  cases f with
  | zero => rfl
  | succ f => rw [quickF, if_pos h]
theorem quickF_more {s : Nat → Nat} {f : Nat} {P : List (PTr × Nat)} {c a b : Nat} (h : 1 < P.length) (hab : quickI s P P.length (0, 1) = (a, b)) : quickF s (f + 1) P c = quickF s f ((P.set a (nodeT (P.getD a (leafT 0, 0)).1 (P.getD b (leafT 0, 0)).1, setAtP P a ||| setAtP P b)).eraseIdx b) (c + s (setAtP P a ||| setAtP P b)) := by
  rw [quickF, if_neg (by omega)]
  simp only [hab]
  rfl
/-- The loop's state. -/
structure QSt (base : Nat) (s : Nat → Nat) (n g cap : Nat) (wr : World) (ps : List Pt) (P : List (PTr × Nat)) (f c : Nat) : Prop where
  own : Own Pt.vs 3 115 base wr (.slice (some ⟨g, 0, none⟩) ps.length cap) ps
  at_ : PAt wr (g + 1) ps P
  one : 1 ≤ P.length
  fuel : P.length ≤ f + 1
  eq : quickR s n = quickF s f P c
  lt : ∀ p ∈ P, p.2 < 32
  few : P.length ≤ 5
  cost : c + 500 * P.length ≤ 2500

set_option maxRecDepth 100000 in
set_option maxHeartbeats 1000000 in
theorem Quick_any (A : Option Addr) (n cap : Nat) (l : List PT) (w : World) (h : TabsAt w 0 A n l) :
    Calls Tryz.prog 20 #[.slice A n cap] w (RetTree w (quickT l)) := by
  have HL : Hid (l.length = n) := h.len
  have hbn := below_new w (.cells #[.int .i64 0, .slice none 0 0] 25)
  have hnb := new_block w #[.int .i64 0, .slice none 0 0] 25
  have Q1 := Lib.hid (sizesOf_any2 A n cap l _ (h.below hbn))
  have HBN := Lib.hid hbn
  have HNB := Lib.hid hnb
  have hle := h.le
  clear h hbn hnb
  by_cases hE : joinsE l = 0
  · obtain ⟨hg, -⟩ := joinsE_ok hE
    have hlen := given_len hg
    rw [HL.out] at hlen
    have HR : Hid (quickT l = ((quickR (sizeFn l) n).1, (((quickR (sizeFn l) n).2 : Nat) : Int), 0)) := by show _ = _; unfold quickT; rw [if_pos hE, HL.out]
    have hpn := pw5 hlen.2
    obtain ⟨hlen1, hlen5⟩ := hlen
    clear hg
    go_enter Tryz.func20, Tryz.ntmps20
    go_wp2_with fail
    (with_reducible refine Q1.out.mono ?_)
    rintro e w1 ⟨S, rfl, hSl, hSok, hb1⟩
    obtain ⟨hs5, hsS⟩ := hSok hE
    obtain ⟨q1, q2⟩ := setRow_at (new_block w1 (intsV (List.replicate 32 0)) 95) (intsV S)
    have hb2 : Below w1.heap.size w1 ((w1.alloc (.cells (intsV (List.replicate 32 0)) 95)).setRow w1.heap.size (intsV S)) := below_row (below_new w1 _) q2 (fun j e => by cases e; exact Nat.le_refl _)
    obtain ⟨W2, hW2⟩ : ∃ W2, (w1.alloc (.cells (intsV (List.replicate 32 0)) 95)).setRow w1.heap.size (intsV S) = W2 := ⟨_, rfl⟩
    rw [hW2] at q1 hb2
    have hn1 := (hb1.block _ (Array.getElem?_eq_some_iff.1 HNB.out).1).trans HNB.out
    have HN2 := Lib.hid ((hb2.block _ (Array.getElem?_eq_some_iff.1 hn1).1).trans hn1)
    have HB2 := Lib.hid (bchain (bchain HBN.out hb1) hb2)
    have HQ1 := Lib.hid q1
    have HW2 := Lib.hid hW2
    have HS5 := Lib.hid hs5
    have HSS := Lib.hid hsS
    have hwsz := HB2.out.size
    have hw1 : w.heap.size < w1.heap.size := by have := hb1.size; simp at this; omega
    rw [hE]
    clear hb1 hSok hs5 hsS q1 q2 hb2 hW2 Q1 hE hn1 HNB HBN
    go_wp2_with (first
      | (refine wpList_store_row rfl 95 _ _ rfl w1.heap.size (intsV S) rfl rfl 95 (intsV (List.replicate 32 0)) (new_block w1 (intsV (List.replicate 32 0)) 95) (by rw [intsV_size, hSl]; kernel_rfl) (by rw [intsV_size, intsV_size, hSl, List.length_replicate]) (intsV_one _) ?_; change wpList _ _ _ _ _ ((w1.alloc (.cells (intsV (List.replicate 32 0)) 95)).setRow w1.heap.size (intsV S)); rw [HW2.out]))
    go_loopw [7, 26] (fun v i wr => ∃ k : Nat, k ≤ n ∧ i = .int .i64 k ∧ Own Pt.vs 3 115 W2.heap.size wr v (leafPs k) ∧ Below W2.heap.size W2 wr) (fun _ i _ => n - (intOf i).toNat)
    case atStart => exact ⟨0, by omega, rfl, Own.nil _ _ _ _ _, Below.refl _ _⟩
    case round =>
      obtain ⟨k, hk, rfl, ho, hB⟩ := hrel
      have HO := Lib.hid ho
      have HB := Lib.hid hB
      have hll := leafPs_len k
      obtain ⟨A1, c1, rfl⟩ := ho.shape
      by_cases hlt : k < n
      · have HSU := Lib.hid (leafPs_succ k)
        have hsl : IntKind.i64.wrap (2 ^ k) = ((pw k : Nat) : Int) := shl_nat (by omega)
        have hk0 : (0 : Int) ≤ k := by omega
        have hk64 : (k : Int) ≤ 64 := by omega
        have hi1 : (k : Int) < n := by omega
        generalize leafPs k = L at *
        clear ho hB
        go_wp2_with (at_builtin; go_loud (refine wpList_app1 Pt.vs 3 115 _ 40 infoPart rfl (by decide) rfl _ _ _ rfl Tryz.underlying113 W2.heap.size _ L rfl (HO.out.alloc _) (leafP k) _ _ rfl rfl (newAt _ _ _ _ (by simp)) (by simp [Pt.vs, leafP, Value.oneCell']) (by omega) (by unfold maxLen; omega) (by have := HB.out.size; simp; omega) (fun v4 w4 hown4 hg4 _ => ?_)))
        exact ⟨⟨k + 1, by omega, by go_num, by rw [HSU.out]; exact hown4, below_row (HB.out.alloc HB.out.size _) hg4 (fun g e => (HO.out.blk g e).1)⟩, by simp [intOf]; omega⟩
      · have hk' : k = n := by omega
        subst hk'
        obtain ⟨g, cp, e, hgb⟩ := own_formP ho (by omega)
        cases e
        have hgW : g < wr.heap.size := (ho.blk g rfl).2
        have hl0 : ((List.range k).map fun i => (leafT i, pw i)).length = k := by simp
        have H0 : Hid (QSt W2.heap.size (sizeFn l) k g c1 wr (leafPs k) ((List.range k).map fun i => (leafT i, pw i)) k 0) := by
          refine ⟨ho, leafPs_at _ _ _, by omega, by omega, ?_, ?_, by omega, by omega⟩
          · rfl
          · intro p hp
            obtain ⟨i, hi, rfl⟩ := List.mem_map.1 hp
            exact Nat.lt_of_lt_of_le (Nat.pow_lt_pow_right (by decide) (List.mem_range.1 hi)) hpn
        have d1 : decide ((k : Int) < (k : Int)) = false := by simp
        have hS0 := (hB.block _ (Array.getElem?_eq_some_iff.1 HQ1.out).1).trans HQ1.out
        have hR0 := (hB.block _ (Array.getElem?_eq_some_iff.1 HN2.out).1).trans HN2.out
        have HS0 := Lib.hid hS0
        have HR0 := Lib.hid hR0
        have hg1 : w1.heap.size < g := by have := (Array.getElem?_eq_some_iff.1 HQ1.out).1; omega
        have HBA := Lib.hid (bchain HB2.out hB)
        clear ho hB HO HB hS0 hR0 hlt hl0
        go_wp2_with fail
        clear d1
        go_loopw [7, 9] (fun v c wr => ∃ ps P f cc, v = .slice (some ⟨g, 0, none⟩) ps.length c1 ∧ c = .int .i64 (cc : Nat) ∧ QSt W2.heap.size (sizeFn l) k g c1 wr ps P f cc ∧ Below w.heap.size w wr ∧ wr.heap[w1.heap.size]? = some (.cells (intsV S) 95) ∧ wr.heap[w.heap.size]? = some (.cells #[.int .i64 0, .slice none 0 0] 25)) (fun v _ _ => lenOf v)
        case atStart => exact ⟨_, _, _, 0, rfl, rfl, H0.out, HBA.out, HS0.out, HR0.out⟩
        case round =>
          clear H0 HBA HS0 HR0
          obtain ⟨ps, P, f, cc, rfl, rfl, hq, hB, hS, hRs⟩ := hrel
          have HQ := Lib.hid hq
          have HB := Lib.hid hB
          have HSB := Lib.hid hS
          have HRC := Lib.hid hRs
          obtain ⟨wo, rfl⟩ : ∃ x, x = wr := ⟨_, rfl⟩
          have hpl : ps.length = P.length := hq.at_.1
          have hcap := hq.own.capOf
          have hfew := hq.few
          have hone := hq.one
          rw [hpl] at hcap ⊢
          by_cases h1 : 1 < P.length
          · obtain ⟨f', rfl⟩ : ∃ f', f = f' + 1 := ⟨f - 1, by have := hq.fuel; omega⟩
            have e1 : decide ((1 : Int) < (P.length : Int)) = true := by rw [decide_eq_true_eq]; omega
            have e1' : decide (1 < P.length) = true := by rw [decide_eq_true_eq]; exact h1
            have HCELL := Lib.hid (fun (W : World) (hW : Below wo.heap.size wo W) (i : Nat) (hi : i < P.length) => own_ptAt (hq.own.below hW) (hq.at_.below hW) hi)
            have HLT := Lib.hid (fun i => setAtP_lt hq.lt i)
            clear hq hB hS hRs
            go_wp2_with fail
            clear e1 e1'
            go_loopw [10, 11, 43] (fun a b i wr => ∃ i' : Nat, i' ≤ P.length ∧ i = .int .i64 i' ∧ a = .int .i64 ((quickI (sizeFn l) P i' (0, 1)).1 : Nat) ∧ b = .int .i64 ((quickI (sizeFn l) P i' (0, 1)).2 : Nat) ∧ DrN wo wr) (fun _ _ i _ => P.length - (intOf i).toNat)
            case atStart => exact ⟨0, by omega, rfl, rfl, rfl, DrN.refl _⟩
            case round =>
              obtain ⟨i', hi', rfl, rfl, rfl, hD1⟩ := hrel
              by_cases hlt : i' < P.length
              · have hi1 : (i' : Int) < (P.length : Int) := by omega
                have HQS := Lib.hid (quickI_succ (sizeFn l) P i' (0, 1))
                obtain ⟨hab1, hab2⟩ := quickI_ok (s := sizeFn l) (P := P) i' (0, 1) (by omega) ⟨by show 0 < 1; omega, h1⟩
                have HKO := Lib.hid (fun k hk => quickK_ok (s := sizeFn l) (P := P) (i := i') k (quickI (sizeFn l) P i' (0, 1)) hk ⟨hab1, hab2⟩)
                generalize quickI (sizeFn l) P i' (0, 1) = ab at *
                clear hab1 hab2
                go_wp2_with fail
                go_loopw [10, 11, 13] (fun a b k wr => ∃ k' : Nat, k' ≤ P.length - (i' + 1) ∧ k = .int .i64 ((i' + 1 + k' : Nat) : Int) ∧ a = .int .i64 ((quickK (sizeFn l) P i' k' ab).1 : Nat) ∧ b = .int .i64 ((quickK (sizeFn l) P i' k' ab).2 : Nat) ∧ DrN wo wr) (fun _ _ k _ => P.length - (intOf k).toNat)
                case atStart => exact ⟨0, by omega, by go_num, rfl, rfl, hD1⟩
                case round =>
                  obtain ⟨k', hk', rfl, rfl, rfl, hD⟩ := hrel
                  by_cases hlt2 : i' + 1 + k' < P.length
                  · obtain ⟨ha1, ha2⟩ := HKO.out k' (by omega)
                    have HKS := Lib.hid (quickK_succ (sizeFn l) P i' k' ab)
                    generalize quickK (sizeFn l) P i' k' ab = cd at *
                    obtain ⟨ca, cb⟩ := cd
                    simp only [] at ha1 ha2 HKS
                    obtain ⟨-, -, -, -, -, m1, -⟩ := HCELL.out wr hD.below i' hlt
                    obtain ⟨-, -, -, -, -, m2, -⟩ := HCELL.out wr hD.below (i' + 1 + k') hlt2
                    obtain ⟨-, -, -, -, -, m3, -⟩ := HCELL.out wr hD.below ca (by omega)
                    obtain ⟨-, -, -, -, -, m4, -⟩ := HCELL.out wr hD.below cb ha2
                    change _ = some (Value.int .i64 (setAtP P i' : Nat)) at m1
                    change _ = some (Value.int .i64 (setAtP P (i' + 1 + k') : Nat)) at m2
                    change _ = some (Value.int .i64 (setAtP P ca : Nat)) at m3
                    change _ = some (Value.int .i64 (setAtP P cb : Nat)) at m4
                    have l1 := HLT.out i'
                    have l2 := HLT.out (i' + 1 + k')
                    have l3 := HLT.out ca
                    have l4 := HLT.out cb
                    have b12 := bor_nat (a := setAtP P i') (b := setAtP P (i' + 1 + k')) (by omega) (by omega)
                    have b34 := bor_nat (a := setAtP P ca) (b := setAtP P cb) (by omega) (by omega)
                    have u12 : setAtP P i' ||| setAtP P (i' + 1 + k') < 32 := Nat.or_lt_two_pow (n := 5) l1 l2
                    have u34 : setAtP P ca ||| setAtP P cb < 32 := Nat.or_lt_two_pow (n := 5) l3 l4
                    generalize setAtP P i' = x1 at *
                    generalize setAtP P (i' + 1 + k') = x2 at *
                    generalize setAtP P ca = x3 at *
                    generalize setAtP P cb = x4 at *
                    generalize x1 ||| x2 = y1 at *
                    generalize x3 ||| x4 = y2 at *
                    have hS2 := (hD.below.block _ (Array.getElem?_eq_some_iff.1 HSB.out).1).trans HSB.out
                    have s1 := cell_at_block (off := y1) hS2 (sizes_cell HSS.out (x := y1) u12)
                    have s2 := cell_at_block (off := y2) hS2 (sizes_cell HSS.out (x := y2) u34)
                    have v1 : (y1 : Int) < 32 := by omega
                    have v2 : (y2 : Int) < 32 := by omega
                    have v3 : (0 : Int) ≤ y1 := by omega
                    have v4 : (0 : Int) ≤ y2 := by omega
                    have j1 : (i' : Int) < (P.length : Int) := by omega
                    have j2 : ((i' + 1 + k' : Nat) : Int) < (P.length : Int) := by omega
                    have j3 : (ca : Int) < (P.length : Int) := by omega
                    have j4 : (cb : Int) < (P.length : Int) := by omega
                    generalize hq : i' + 1 + k' = q at *
                    have HD := Lib.hid hD
                    have HQE := Lib.hid hq
                    clear hD hD1 hS2 hq
                    by_cases hs : sizeFn l y1 < sizeFn l y2
                    · have e2 : decide ((sizeFn l y1 : Int) < (sizeFn l y2 : Int)) = true := by rw [decide_eq_true_eq]; omega
                      have e2' : decide (sizeFn l y1 < sizeFn l y2) = true := by rw [decide_eq_true_eq]; exact hs
                      rw [if_pos hs] at HKS
                      clear hs
                      go_wp2_with fail
                      go_quiet (fail)
                      go_wp2_with fail
                      have hqe := HQE.out
                      exact ⟨⟨k' + 1, by omega, by go_num, by rw [HKS.out], by rw [HKS.out], HD.out.drewN _⟩, by simp [intOf]; omega⟩
                    · have e2 : decide ((sizeFn l y1 : Int) < (sizeFn l y2 : Int)) = false := by rw [decide_eq_false_iff_not]; omega
                      have e2' : decide (sizeFn l y1 < sizeFn l y2) = false := by rw [decide_eq_false_iff_not]; exact hs
                      rw [if_neg hs] at HKS
                      clear hs
                      go_wp2_with fail
                      go_quiet (fail)
                      go_wp2_with fail
                      have hqe := HQE.out
                      exact ⟨⟨k' + 1, by omega, by go_num, by rw [HKS.out], by rw [HKS.out], HD.out.drewN _⟩, by simp [intOf]; omega⟩
                  · have hkk : k' = P.length - (i' + 1) := by omega
                    have hde : decide ((((i' + 1 + k' : Nat) : Int)) < (P.length : Int)) = false := by rw [decide_eq_false_iff_not]; omega
                    have hde' : decide (i' + 1 + k' < P.length) = false := by rw [decide_eq_false_iff_not]; omega
                    rw [← hkk] at HQS
                    have HD := Lib.hid hD
                    generalize quickK (sizeFn l) P i' k' ab = cd at *
                    generalize i' + 1 + k' = q at *
                    clear hD hD1 hlt2 hkk
                    go_wp2_with fail
                    exact ⟨⟨i' + 1, by omega, by go_num, by rw [HQS.out], by rw [HQS.out], HD.out⟩, by simp [intOf]; omega⟩
              · have hil : i' = P.length := by omega
                have d1 : decide ((i' : Int) < (P.length : Int)) = false := by rw [decide_eq_false_iff_not]; omega
                have d1' : decide (i' < P.length) = false := by rw [decide_eq_false_iff_not]; omega
                obtain ⟨hab1, hab2⟩ := quickI_ok (s := sizeFn l) (P := P) i' (0, 1) (by omega) ⟨by show 0 < 1; omega, h1⟩
                obtain ⟨a, b, hab⟩ : ∃ a b, quickI (sizeFn l) P i' (0, 1) = (a, b) := ⟨_, _, rfl⟩
                rw [hab] at hab1 hab2 ⊢
                simp only [] at hab1 hab2 ⊢
                have HF := Lib.hid (quickF_more (s := sizeFn l) (f := f') (c := cc) h1 (by rw [← hil, hab]))
                obtain ⟨ta, ta1, ta2, ta3, ta4, ta5, -⟩ := HCELL.out wr hD1.below a (by omega)
                obtain ⟨tb, tb1, tb2, tb3, tb4, tb5, tb6⟩ := HCELL.out wr hD1.below b hab2
                have HTA := Lib.hid ta1
                have HTB := Lib.hid tb1
                have HPA := Lib.hid ta2
                change _ = some (Value.int .i64 (setAtP P a : Nat)) at ta5
                change _ = some (Value.int .i64 (setAtP P b : Nat)) at tb5
                have l1 := HLT.out a
                have l2 := HLT.out b
                have b12 := bor_nat (a := setAtP P a) (b := setAtP P b) (by omega) (by omega)
                have u12 : setAtP P a ||| setAtP P b < 32 := Nat.or_lt_two_pow (n := 5) l1 l2
                generalize hx1 : setAtP P a = x1 at *
                generalize hx2 : setAtP P b = x2 at *
                generalize x1 ||| x2 = y1 at *
                have hS2 := (hD1.below.block _ (Array.getElem?_eq_some_iff.1 HSB.out).1).trans HSB.out
                have s1 := cell_at_block (off := y1) hS2 (sizes_cell HSS.out (x := y1) u12)
                have v1 : (y1 : Int) < 32 := by omega
                have v3 : (0 : Int) ≤ y1 := by omega
                have j3 : (a : Int) < (P.length : Int) := by omega
                have j4 : (b : Int) < (P.length : Int) := by omega
                have hs500 := HS5.out y1
                have hcost := HQ.out.cost
                have hw : IntKind.i64.wrap ((cc : Int) + (sizeFn l y1 : Nat)) = ((cc + sizeFn l y1 : Nat) : Int) := by rw [IntWalk.i64_in _ (by omega)] <;> omega
                have HD := Lib.hid hD1
                clear hab ta1 ta2 tb1 tb2 hD1 hS2 hlt HCELL
                go_wp2_with fail
                go_quiet (fail)
                go_wp2_with fail
                have hD5 := HD.out.drewN nq
                obtain ⟨W5, hW5⟩ : ∃ W5, wr.drewN nq = W5 := ⟨_, rfl⟩
                have m1 := (below_drewN (Below.refl _ _) nq : Below wr.heap.size wr (wr.drewN nq))
                have ta3' := (m1.cell (World.block_lt_of_cell? _ _ ta3)).trans ta3
                have ta4' := (m1.cell (World.block_lt_of_cell? _ _ ta4)).trans ta4
                have ta5' := (m1.cell (World.block_lt_of_cell? _ _ ta5)).trans ta5
                have tb3' := (m1.cell (World.block_lt_of_cell? _ _ tb3)).trans tb3
                have tb4' := (m1.cell (World.block_lt_of_cell? _ _ tb4)).trans tb4
                have tb6' : ∀ o, W5.frozen? ⟨g, o, none⟩ = false := fun o => by
                  rw [← hW5]
                  exact (m1.frozen (p := ⟨g, o, none⟩) (World.block_lt_of_cell? _ ⟨g, a * 3, none⟩ ta3)).trans (tb6 o)
                have hta5 := HTA.out.keep m1
                have htb5 := HTB.out.keep m1
                rw [hW5] at hD5 ta3' ta4' ta5' tb3' tb4' hta5 htb5 ⊢
                have HTA5 := Lib.hid hta5
                have HTB5 := Lib.hid htb5
                clear hta5 htb5
                clear m1 ta3 ta4 ta5 tb3 tb4 tb5 tb6 s1 hW5
                have hn6 := below_new W5 (.cells #[.int .i64 ta.table, .slice ta.kids.A ta.kids.n ta.kids.cap, .int .i64 tb.table, .slice tb.kids.A tb.kids.n tb.kids.cap] 25)
                have k0 := (hn6.cell (World.block_lt_of_cell? W5 ⟨g, a * 3, none⟩ ta3')).trans ta3'
                have k1 := (hn6.cell (World.block_lt_of_cell? W5 ⟨g, a * 3 + 1, none⟩ ta4')).trans ta4'
                have k2 := (hn6.cell (World.block_lt_of_cell? W5 ⟨g, a * 3 + 2, none⟩ ta5')).trans ta5'
                have z0 := (hn6.frozen (World.block_lt_of_cell? W5 ⟨g, a * 3, none⟩ ta3')).trans (tb6' (a * 3))
                have z1 := (hn6.frozen (World.block_lt_of_cell? W5 ⟨g, a * 3 + 1, none⟩ ta4')).trans (tb6' (a * 3 + 1))
                have z2 := (hn6.frozen (World.block_lt_of_cell? W5 ⟨g, a * 3 + 2, none⟩ ta5')).trans (tb6' (a * 3 + 2))
                clear hn6 tb6'
                have HD5 := Lib.hid hD5
                clear hD5
                go_cut [] from 100 to 116 (fun wz => wz = ((((W5.alloc (.cells #[.int .i64 ta.table, .slice ta.kids.A ta.kids.n ta.kids.cap, .int .i64 tb.table, .slice tb.kids.A tb.kids.n tb.kids.cap] 25)).setCell ⟨g, a * 3, none⟩ (.int .i64 0)).setCell ⟨g, a * 3 + 1, none⟩ (.slice (some ⟨W5.heap.size, 0, none⟩) 2 2)).setCell ⟨g, a * 3 + 2, none⟩ (.int .i64 (y1 : Nat))).drew)
                case first =>
                  go_region
                  all_goals
                    go_wp2_with fail
                    go_meet
                    rfl
                case rest =>
                  subst hcut
                  clear k0 k1 k2 z0 z1 z2 ta3' ta4' ta5' tb3' tb4'
                  have hb5 : Below wo.heap.size wo W5 := HD5.out.below
                  have hb6 := below_new W5 (.cells #[.int .i64 ta.table, .slice ta.kids.A ta.kids.n ta.kids.cap, .int .i64 tb.table, .slice tb.kids.A tb.kids.n tb.kids.cap] 25)
                  have hnk := new_block W5 #[.int .i64 ta.table, .slice ta.kids.A ta.kids.n ta.kids.cap, .int .i64 tb.table, .slice tb.kids.A tb.kids.n tb.kids.cap] 25
                  have hbw := bchain hb5 hb6
                  obtain ⟨gk, hgk⟩ : ∃ gk, W5.heap.size = gk := ⟨_, rfl⟩
                  have hgkg : g + 1 ≤ gk := by
                    have h1 := (HQ.out.own.blk g rfl).2
                    have h2 := hb5.size
                    omega
                  obtain ⟨W6, hW6⟩ : ∃ W6, W5.alloc (.cells #[.int .i64 ta.table, .slice ta.kids.A ta.kids.n ta.kids.cap, .int .i64 tb.table, .slice tb.kids.A tb.kids.n tb.kids.cap] 25) = W6 := ⟨_, rfl⟩
                  rw [hW6] at hb6 hnk hbw ⊢
                  rw [hgk] at hnk ⊢
                  have hpa := HPA.out
                  obtain ⟨q1, q2⟩ := own_ptPut (HQ.out.own.below hbw) hpa ⟨⟨0, ⟨some ⟨gk, 0, none⟩, 2, 2⟩⟩, y1⟩
                  have hat6 := HQ.out.at_.below hbw
                  have hpl2 := HQ.out.at_.1
                  have hta6 := HTA5.out.keep hb6
                  have htb6 := HTB5.out.keep hb6
                  rw [hpl2] at q1
                  have hgt : g < g + 1 := by omega
                  have hnk7 := (q2.block gk (Array.getElem?_eq_some_iff.1 hnk).1 (fun e => by have := Option.some.inj e; omega)).trans hnk
                  have hat7 := (hat6.far q2 hgt).set (i := a) (p := ⟨⟨0, ⟨some ⟨gk, 0, none⟩, 2, 2⟩⟩, y1⟩) (q := (nodeT (P.getD a (leafT 0, 0)).1 (P.getD b (leafT 0, 0)).1, y1)) rfl (TreeAt.node hnk7 hgkg (hta6.far q2 hgt) (htb6.far q2 hgt) 2)
                  have hS6 := (hbw.block _ (Array.getElem?_eq_some_iff.1 HSB.out).1).trans HSB.out
                  have hS7 := (q2.block _ (Array.getElem?_eq_some_iff.1 hS6).1 (fun e => by have := Option.some.inj e; omega)).trans hS6
                  have hR6 := (hbw.block _ (Array.getElem?_eq_some_iff.1 HRC.out).1).trans HRC.out
                  have hR7 := (q2.block _ (Array.getElem?_eq_some_iff.1 hR6).1 (fun e => by have := Option.some.inj e; omega)).trans hR6
                  have hB7 := below_row (bchain HB.out hbw) q2 (fun j e => by cases e; omega)
                  obtain ⟨W7, hW7⟩ : ∃ W7, ((W6.setCell ⟨g, a * 3, none⟩ (.int .i64 0)).setCell ⟨g, a * 3 + 1, none⟩ (.slice (some ⟨gk, 0, none⟩) 2 2)).setCell ⟨g, a * 3 + 2, none⟩ (.int .i64 (y1 : Nat)) = W7 := ⟨_, rfl⟩
                  change Own _ _ _ _ (((W6.setCell ⟨g, a * 3, none⟩ (.int .i64 0)).setCell ⟨g, a * 3 + 1, none⟩ (.slice (some ⟨gk, 0, none⟩) 2 2)).setCell ⟨g, a * 3 + 2, none⟩ (.int .i64 (y1 : Nat))) _ _ at q1
                  change PAt (((W6.setCell ⟨g, a * 3, none⟩ (.int .i64 0)).setCell ⟨g, a * 3 + 1, none⟩ (.slice (some ⟨gk, 0, none⟩) 2 2)).setCell ⟨g, a * 3 + 2, none⟩ (.int .i64 (y1 : Nat))) _ _ _ at hat7
                  change (((W6.setCell ⟨g, a * 3, none⟩ (.int .i64 0)).setCell ⟨g, a * 3 + 1, none⟩ (.slice (some ⟨gk, 0, none⟩) 2 2)).setCell ⟨g, a * 3 + 2, none⟩ (.int .i64 (y1 : Nat))).heap[_]? = _ at hS7
                  change (((W6.setCell ⟨g, a * 3, none⟩ (.int .i64 0)).setCell ⟨g, a * 3 + 1, none⟩ (.slice (some ⟨gk, 0, none⟩) 2 2)).setCell ⟨g, a * 3 + 2, none⟩ (.int .i64 (y1 : Nat))).heap[_]? = _ at hR7
                  change Below _ _ (((W6.setCell ⟨g, a * 3, none⟩ (.int .i64 0)).setCell ⟨g, a * 3 + 1, none⟩ (.slice (some ⟨gk, 0, none⟩) 2 2)).setCell ⟨g, a * 3 + 2, none⟩ (.int .i64 (y1 : Nat))) at hB7
                  rw [hW7] at q1 hat7 hS7 hR7 hB7 ⊢
                  have hsl : (ps.set a ⟨⟨0, ⟨some ⟨gk, 0, none⟩, 2, 2⟩⟩, y1⟩).length = P.length := by rw [List.length_set, hpl2]
                  have QD := Lib.hid (DelPt_any W2.heap.size g c1 b (ps.set a ⟨⟨0, ⟨some ⟨gk, 0, none⟩, 2, 2⟩⟩, y1⟩) W7.drew (by rw [hsl]; exact q1.drew) (by rw [hsl]; exact hab2) (by rw [hsl]; omega))
                  rw [hsl] at QD
                  have HA7 := Lib.hid hat7
                  have HS7 := Lib.hid hS7
                  have HR7 := Lib.hid hR7
                  have HB7 := Lib.hid hB7
                  have HLE : Hid ((P.eraseIdx b).length = P.length - 1) := by show _ = _; rw [List.length_eraseIdx, if_pos hab2]
                  clear q1 q2 hat6 hat7 hta6 htb6 hnk7 hnk hS6 hS7 hR6 hR7 hB7 hW7 hW6 hb5 hb6 hbw hpa
                  go_wp2_with fail
                  (with_reducible refine QD.out.mono ?_)
                  rintro e w9 ⟨rfl, ho9, hg9⟩
                  have HO9 := Lib.hid ho9
                  have HG9 := Lib.hid hg9
                  clear ho9 hg9 QD
                  go_wp2_with fail
                  have hat9 := ((HA7.out.below ((Below.refl W7.heap.size W7).drew)).far HG9.out (by omega)).erase b
                  have hl9 := hat9.1
                  have hlp : ((P.set a (nodeT (P.getD a (leafT 0, 0)).1 (P.getD b (leafT 0, 0)).1, y1)).eraseIdx b).length = P.length - 1 := by rw [List.length_eraseIdx, List.length_set, if_pos hab2]
                  rw [hlp] at hl9
                  have hS9 := (HG9.out.block w1.heap.size (Array.getElem?_eq_some_iff.1 HS7.out).1 (fun e => by have := Option.some.inj e; omega)).trans HS7.out
                  have hR9 := (HG9.out.block w.heap.size (Array.getElem?_eq_some_iff.1 HR7.out).1 (fun e => by have := Option.some.inj e; omega)).trans HR7.out
                  have hB9 := below_row (HB7.out.drew) HG9.out (fun j e => by cases e; omega)
                  have ho9 := HO9.out
                  rw [← hl9] at ho9
                  have hfu := HQ.out.fuel
                  refine ⟨⟨_, _, f', cc + sizeFn l y1, by rw [hl9], by go_num, ⟨ho9, hat9, by omega, by omega, HQ.out.eq.trans HF.out, fun p hp => ?_, by omega, by omega⟩, hB9, hS9, hR9⟩, by simp [lenOf]; omega⟩
                  rcases List.mem_or_eq_of_mem_set (List.mem_of_mem_eraseIdx hp) with h | h
                  · exact HQ.out.lt p h
                  · subst h; exact u12
          · have hP1 : P.length = 1 := by omega
            have e1 : decide ((1 : Int) < (P.length : Int)) = false := by rw [decide_eq_false_iff_not]; omega
            have e1' : decide (1 < P.length) = false := by rw [decide_eq_false_iff_not]; exact h1
            obtain ⟨t0, t1, t2, t3, t4, t5, -⟩ := own_ptAt hq.own hq.at_ (i := 0) (by omega)
            have HF : Hid (quickR (sizeFn l) k = ((P.getD 0 (leafT 0, 0)).1, cc)) := by show _ = _; rw [hq.eq, quickF_one (by omega)]
            have HT0 := Lib.hid t1
            have hp0 : (0 : Int) < (P.length : Int) := by omega
            simp only [Nat.zero_mul, Nat.zero_add] at t3 t4
            have r0 := cell_at_block (off := 0) hRs rfl
            have r1 := cell_at_block (off := 1) hRs rfl
            have y0 := free_at_block (off := 0) hRs
            have y1 := free_at_block (off := 1) hRs
            obtain ⟨q1, q2⟩ := setCell_at (off := 0) hRs (.int .i64 t0.table)
            obtain ⟨q3, q4⟩ := setCell_at (off := 1) q1 (.slice t0.kids.A t0.kids.n t0.kids.cap)
            have hgg := hq.own.blk g rfl
            have HQ3 := Lib.hid q3
            have HG3 := Lib.hid (q2.then_ q4 (fun _ e => .inr e))
            have HB3 := Lib.hid (below_row hB (q2.then_ q4 (fun _ e => .inr e)) (fun j e => by cases e; exact Nat.le_refl _))
            clear hq hB hS hRs t1 t2 t5 h1 q1 q2 q3 q4
            go_wp2_with fail
            refine bodyPost_ret (results_tree rfl _ _ w.heap.size (.int .i64 t0.table) (.slice t0.kids.A t0.kids.n t0.kids.cap) rfl HQ3.out) rfl ?_
            rw [HR.out, HF.out]
            exact ⟨t0, rfl, (HT0.out.far HG3.out (by omega)).low (Nat.zero_le _), HB3.out⟩
  · have HR : Hid (quickT l = (leafT 0, 0, joinsE l)) := by show _ = _; unfold quickT; rw [if_neg hE]
    have hE1 : (joinsE l != 0) = true := by simpa using hE
    go_enter Tryz.func20, Tryz.ntmps20
    go_wp2_with fail
    (with_reducible refine Q1.out.mono ?_)
    rintro e w1 ⟨S, rfl, hSl, -, hb1⟩
    obtain ⟨q1, q2⟩ := setRow_at (new_block w1 (intsV (List.replicate 32 0)) 95) (intsV S)
    have hb2 : Below w1.heap.size w1 ((w1.alloc (.cells (intsV (List.replicate 32 0)) 95)).setRow w1.heap.size (intsV S)) := below_row (below_new w1 _) q2 (fun j e => by cases e; exact Nat.le_refl _)
    obtain ⟨W2, hW2⟩ : ∃ W2, (w1.alloc (.cells (intsV (List.replicate 32 0)) 95)).setRow w1.heap.size (intsV S) = W2 := ⟨_, rfl⟩
    rw [hW2] at hb2
    have hn1 := (hb1.block _ (Array.getElem?_eq_some_iff.1 HNB.out).1).trans HNB.out
    have hn2 := (hb2.block _ (Array.getElem?_eq_some_iff.1 hn1).1).trans hn1
    have r0 := cell_at_block (off := 0) hn2 rfl
    have r1 := cell_at_block (off := 1) hn2 rfl
    have y0 := free_at_block (off := 0) hn2
    have y1 := free_at_block (off := 1) hn2
    obtain ⟨q3, q4⟩ := setCell_at (off := 0) hn2 (.int .i64 0)
    obtain ⟨q5, q6⟩ := setCell_at (off := 1) q3 (.slice none 0 0)
    have HQ5 := Lib.hid q5
    have HB5 := Lib.hid (below_row (bchain (bchain HBN.out hb1) hb2) (q4.then_ q6 (fun _ e => .inr e)) (fun j e => by cases e; exact Nat.le_refl _))
    have HW2 := Lib.hid hW2
    clear hb1 q1 q2 hb2 hW2 Q1 hn1 hn2 q3 q4 q5 q6
    go_wp2_with (refine wpList_store_row rfl 95 _ _ rfl w1.heap.size (intsV S) rfl rfl 95 (intsV (List.replicate 32 0)) (new_block w1 (intsV (List.replicate 32 0)) 95) (by rw [intsV_size, hSl]; kernel_rfl) (by rw [intsV_size, intsV_size, hSl, List.length_replicate]) (intsV_one _) ?_; change wpList _ _ _ _ _ ((w1.alloc (.cells (intsV (List.replicate 32 0)) 95)).setRow w1.heap.size (intsV S)); rw [HW2.out])
    refine bodyPost_ret (results_tree rfl _ _ w.heap.size (.int .i64 0) (.slice none 0 0) rfl HQ5.out) rfl ?_
    rw [HR.out]
    exact ⟨⟨0, ⟨none, 0, 0⟩⟩, rfl, TreeAt.leaf _ _ 0, HB5.out⟩
end Go.Proofs.Bg
end
