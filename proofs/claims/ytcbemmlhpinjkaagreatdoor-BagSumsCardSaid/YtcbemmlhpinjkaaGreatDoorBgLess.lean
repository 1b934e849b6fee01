/- The contract of less: a list of items whose first one is there so often less, in place. -/
import Derived.Test.YtcbemmlhpinjkaaGreatDoorBgOps
namespace Go.Proofs.Bg
open Go.RowKit

def lessL (l : List It) (k : Int) : List It := match l with
  | [] => []
  | x :: r => if x.n = k then r else ⟨x.r, x.n - k⟩ :: r

/-- A window of the list l in block b, that may be written. -/
structure Win (b : Nat) (w : World) (A : Option Addr) (cap : Nat) (l : List It) : Prop where
  rd : Rd It.vs 4 w 0 A l.length l
  blk : l ≠ [] → (∃ off, A = some ⟨b, off, none⟩) ∧ l.length ≤ cap ∧ ∃ c, w.heap[b]? = some (.cells c 40)

theorem Win.kept {b : Nat} {w w' : World} {A : Option Addr} {cap : Nat} {l : List It} (h : Win b w A cap l) {row : Option Nat} (hg : w.grownBy w' row) (hne : l ≠ [] → row ≠ some b) : Win b w' A cap l := by
  by_cases hl : l = []
  · subst hl
    exact ⟨Rd.nil _ _ _, fun h => absurd rfl h⟩
  · obtain ⟨⟨off, rfl⟩, hc, c, hb⟩ := h.blk hl
    have hlt : b < w.heap.size := (Array.getElem?_eq_some_iff.1 hb).1
    have heq : w'.heap[b]? = w.heap[b]? := hg.block b hlt (fun e => hne hl e.symm)
    refine ⟨⟨h.rd.1, h.rd.2.1, fun h0 => ?_⟩, fun _ => ⟨⟨off, rfl⟩, hc, c, heq.trans hb⟩⟩
    obtain ⟨b2, off2, e2, hlo, hcell⟩ := h.rd.2.2 h0
    cases e2
    exact ⟨_, _, rfl, hlo, fun i y hy j v hv => (World.cell?_of_block (w := w) (a := ⟨b, off + i * 4 + j, none⟩) heq).trans (hcell i y hy j v hv)⟩

theorem Win.head {b : Nat} {w : World} {A : Option Addr} {cap : Nat} {x : It} {r : List It} (h : Win b w A cap (x :: r)) : ∃ off c, A = some ⟨b, off, none⟩ ∧ r.length + 1 ≤ cap ∧ r.length + 1 ≤ 9223372036854775807 ∧ w.heap[b]? = some (.cells c 40) ∧ w.cell? ⟨b, off, none⟩ = some (.int .i64 x.r.at_) ∧ w.cell? ⟨b, off + 1, none⟩ = some (.int .i64 x.r.key) ∧ w.cell? ⟨b, off + 2, none⟩ = some (.int .i64 x.r.val) ∧ w.cell? ⟨b, off + 3, none⟩ = some (.int .i64 x.n) := by
  obtain ⟨⟨off, rfl⟩, hc, c, hb⟩ := h.blk (by simp)
  obtain ⟨b2, off2, e2, _, hcell⟩ := h.rd.2.2 (by simp)
  cases e2
  have hle := h.rd.2.1
  have h0 := hcell 0 x rfl 0 _ rfl
  have h1 := hcell 0 x rfl 1 _ rfl
  have h2 := hcell 0 x rfl 2 _ rfl
  have h3 := hcell 0 x rfl 3 _ rfl
  simp only [Nat.zero_mul, Nat.add_zero] at h0 h1 h2 h3
  exact ⟨off, c, rfl, hc, hle, hb, h0, h1, h2, h3⟩

theorem Win.tail {b off o' : Nat} {w : World} {cap : Nat} {x : It} {r : List It} (h : Win b w (some ⟨b, off, none⟩) cap (x :: r)) (ho : 0 < r.length → o' = off + 4) : Win b w (some ⟨b, o', none⟩) (cap - 1) r := by
  obtain ⟨⟨_, e⟩, hc, c, hb⟩ := h.blk (by simp)
  cases e
  obtain ⟨b2, off2, e2, _, hcell⟩ := h.rd.2.2 (by simp)
  cases e2
  have hle := h.rd.2.1
  simp only [List.length_cons] at hle hc
  refine ⟨⟨rfl, by omega, fun h0 => ⟨b, o', rfl, Nat.zero_le _, fun i y hy j v hv => ?_⟩⟩, fun _ => ⟨⟨o', rfl⟩, by omega, c, hb⟩⟩
  have h1 := hcell (i + 1) y (by simpa using hy) j v hv
  rw [ho h0]
  have e3 : off + 4 + i * 4 + j = off + (i + 1) * 4 + j := by omega
  rw [e3]
  exact h1

theorem Win.setHead {b off : Nat} {w : World} {cap : Nat} {x : It} {r : List It} (h : Win b w (some ⟨b, off, none⟩) cap (x :: r)) (n : Int) : Win b (w.setCell ⟨b, off + 3, none⟩ (.int .i64 n)) (some ⟨b, off, none⟩) cap (⟨x.r, n⟩ :: r) ∧ w.grownBy (w.setCell ⟨b, off + 3, none⟩ (.int .i64 n)) (some b) := by
  obtain ⟨_, hc, c, hb⟩ := h.blk (by simp)
  obtain ⟨s1, s2⟩ := setCell_at (off := off + 3) hb (.int .i64 n)
  obtain ⟨b2, off2, e2, _, hcell⟩ := h.rd.2.2 (by simp)
  cases e2
  have hle := h.rd.2.1
  have hcell' : ∀ i y, (x :: r)[i]? = some y → ∀ j v, (It.vs y)[j]? = some v → c[off + i * 4 + j]? = some v := fun i y hy j v hv => by
    have := hcell i y hy j v hv
    simpa [World.cell?, hb] using this
  have hsz : off + 3 < c.size := by
    have := hcell' 0 x rfl 3 _ rfl
    simp only [Nat.zero_mul, Nat.add_zero] at this
    exact (Array.getElem?_eq_some_iff.1 this).1
  refine ⟨⟨⟨rfl, hle, fun _ => ⟨b, off, rfl, Nat.zero_le _, fun i y hy j v hv => ?_⟩⟩, fun _ => ⟨⟨off, rfl⟩, hc, _, s1⟩⟩, s2⟩
  refine cell_at_block s1 ?_
  rw [Array.getElem?_setIfInBounds]
  cases i with
  | zero =>
    cases hy
    simp only [Nat.zero_mul, Nat.add_zero]
    rcases (by
      have : j < 4 := by simpa [It.vs] using (List.getElem?_eq_some_iff.1 hv).1
      omega : j = 0 ∨ j = 1 ∨ j = 2 ∨ j = 3) with rfl | rfl | rfl | rfl
    · rw [if_neg (by omega)]
      have := hcell' 0 x rfl 0 v (by simpa [It.vs] using hv)
      simpa using this
    · rw [if_neg (by omega)]
      have := hcell' 0 x rfl 1 v (by simpa [It.vs] using hv)
      simpa using this
    · rw [if_neg (by omega)]
      have := hcell' 0 x rfl 2 v (by simpa [It.vs] using hv)
      simpa using this
    · rw [if_pos rfl, if_pos hsz]
      simpa [It.vs] using hv
  | succ i =>
    have hj : j < 4 := by simpa [It.vs] using (List.getElem?_eq_some_iff.1 hv).1
    rw [if_neg (by omega)]
    exact hcell' (i + 1) y (by simpa using hy) j v hv

set_option maxRecDepth 100000 in
theorem less_any (b : Nat) (A : Option Addr) (cap : Nat) (x : It) (r : List It) (k : Int) (w : World) (h : Win b w A cap (x :: r)) (hk : -9223372036854775808 ≤ x.n - k ∧ x.n - k ≤ 9223372036854775807) :
    Calls Tryz.prog 108 #[.slice A (r.length + 1) cap, .int .i64 k] w fun e w' => ∃ A' cap', e = .returned (.slice A' (lessL (x :: r) k).length cap') ∧ Win b w' A' cap' (lessL (x :: r) k) ∧ w.grownBy w' (some b) := by
  have HW := Lib.hid h
  obtain ⟨off, c, rfl, hc, hle, hb, _, _, _, c3⟩ := h.head
  have g3 := free_at_block (off := off + 3) hb
  have hw : IntKind.i64.wrap (x.n - k) = x.n - k := IntWalk.i64_in _ hk
  clear h hb hk
  by_cases he : x.n = k
  · have hq : (x.n == k) = true := by simpa using he
    have e1 : lessL (x :: r) k = r := by simp [lessL, he]
    rw [e1]
    clear e1 he
    by_cases hc1 : cap = 1
    · have hc2 : Hid (cap = 1) := hc1
      go_enter Tryz.func108, Tryz.ntmps108
      go_wp2
      go_ret
      have t := HW.out.tail (o' := off) (fun h => by have := hc2.out; omega)
      have e : cap - 1 = 0 := by have := hc2.out; omega
      rw [e] at t
      exact ⟨_, _, rfl, t, World.grownBy.refl _ _⟩
    · go_enter Tryz.func108, Tryz.ntmps108
      go_wp2
      go_ret
      exact ⟨_, _, rfl, HW.out.tail (fun h => rfl), World.grownBy.refl _ _⟩
  · have hq : (x.n == k) = false := by simpa using he
    have e1 : lessL (x :: r) k = ⟨x.r, x.n - k⟩ :: r := by simp [lessL, he]
    rw [e1]
    clear e1 he
    go_enter Tryz.func108, Tryz.ntmps108
    go_wp2
    go_ret
    exact ⟨_, _, rfl, (HW.out.setHead _).1, (HW.out.setHead _).2⟩
end Go.Proofs.Bg
