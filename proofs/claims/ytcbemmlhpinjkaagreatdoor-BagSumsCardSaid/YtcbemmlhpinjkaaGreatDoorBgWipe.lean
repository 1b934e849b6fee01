/- Plain words: a list of the call's own is wiped; what lies elsewhere stays. -/
import Derived.Test.YtcbemmlhpinjkaaGreatDoorBgNewR
namespace Go.Proofs.Bg
open Go.RowKit

theorem Rd.wiped {α : Type} {enc : α → List Value} {sz lo n : Nat} {w w' : World} {A : Option Addr} {l : List α} {row : Option Nat} (h : Rd enc sz w lo A n l) (hg : w.grownBy w' row) (hr : ∀ g, row = some g → g < lo) : Rd enc sz w' lo A n l := by
  refine ⟨h.1, h.2.1, fun h0 => ?_⟩
  obtain ⟨b, off, rfl, hlo, hc⟩ := h.2.2 h0
  refine ⟨b, off, rfl, hlo, fun i x hx j v hv => ?_⟩
  have h1 := hc i x hx j v hv
  have hb := World.block_lt_of_cell? w _ h1
  have e : w'.heap[b]? = w.heap[b]? := hg.block b hb (fun e => by have := hr b e.symm; omega)
  exact (World.cell?_of_block e).trans h1
/-- What the loop that wipes holds. -/
def WipeRel (row : Option Nat) (n : Nat) (w0 wr : World) : Prop := w0.grownBy wr row ∧ (0 < n → ∃ g c, row = some g ∧ wr.heap[g]? = some (.cells c 40) ∧ n * 4 ≤ c.size)
theorem WipeRel.start {base n cap : Nat} {A : Option Addr} {w w' : World} {l : List It} (h : Own It.vs 4 40 base w (.slice A n cap) l) (hn : l.length = n) : WipeRel (Value.slice A n cap).ownBlock n w w := by
  refine ⟨World.grownBy.refl _ _, fun h0 => ?_⟩
  rcases h.2 with ⟨_, e0⟩ | ⟨g, cap', cur, e, _, hb, h1, _, h3, _⟩
  · omega
  · cases e
    exact ⟨g, cur, rfl, hb, by omega⟩
theorem WipeRel.at_ {row : Option Nat} {g n k : Nat} {w0 wr : World} (h : WipeRel row n w0 wr) (hr : row = some g) (hk : k < n) : ∃ c v0 v1 v2 v3, wr.heap[g]? = some (.cells c 40) ∧ n * 4 ≤ c.size ∧ wr.cell? ⟨g, k * 4, none⟩ = some v0 ∧ wr.cell? ⟨g, k * 4 + 1, none⟩ = some v1 ∧ wr.cell? ⟨g, k * 4 + 2, none⟩ = some v2 ∧ wr.cell? ⟨g, k * 4 + 3, none⟩ = some v3 := by
  obtain ⟨g', c, e, hb, hs⟩ := h.2 (by omega)
  have : g' = g := by rw [hr] at e; exact (Option.some.inj e).symm
  subst this
  have hc : ∀ j (hj : j < 4), wr.cell? ⟨g', k * 4 + j, none⟩ = some (c[k * 4 + j]'(by omega)) := fun j hj => cell_at_block hb (Array.getElem?_eq_getElem _)
  exact ⟨c, _, _, _, _, hb, hs, hc 0 (by omega), hc 1 (by omega), hc 2 (by omega), hc 3 (by omega)⟩
theorem WipeRel.set {row : Option Nat} {g n : Nat} {w0 wr : World} {c : Array Value} (h : WipeRel row n w0 wr) (hr : row = some g) (hb : wr.heap[g]? = some (.cells c 40)) (hs : n * 4 ≤ c.size) (o0 o1 o2 o3 : Nat) (v0 v1 v2 v3 : Value) :
    WipeRel row n w0 ((((wr.setCell ⟨g, o0, none⟩ v0).setCell ⟨g, o1, none⟩ v1).setCell ⟨g, o2, none⟩ v2).setCell ⟨g, o3, none⟩ v3) := by
  obtain ⟨h1, g1⟩ := setCell_at (off := o0) hb v0
  obtain ⟨h2, g2⟩ := setCell_at (off := o1) h1 v1
  obtain ⟨h3, g3⟩ := setCell_at (off := o2) h2 v2
  obtain ⟨h4, g4⟩ := setCell_at (off := o3) h3 v3
  subst hr
  refine ⟨(((h.1.then_ g1 (fun j e => .inr e)).then_ g2 (fun j e => .inr e)).then_ g3 (fun j e => .inr e)).then_ g4 (fun j e => .inr e), fun _ => ⟨g, _, rfl, h4, by simpa using hs⟩⟩
end Go.Proofs.Bg
