/- A bag that is handed in, opened: its cells are whole numbers. -/
import Derived.Deep.Slices
import Derived.Deep.Strs
import Derived.WideShapes
import Derived.Test.YtcbemmlhpinjkaaGreatDoorBgOps
namespace Go.Proofs.Bg
open Go.RowKit Go.ChangeShapes Go.WideShapes Go.Deep

instance : Inhabited It := ⟨⟨⟨0, 0, 0⟩, 0⟩⟩
theorem cells40 : Tryz.prog.cellsOf 40 = 4 := by kernel_rfl
theorem cells38 : Tryz.prog.cellsOf 38 = 3 := by kernel_rfl
theorem cells3 : Tryz.prog.cellsOf 3 = 1 := by kernel_rfl
theorem spot_none {w : World} {a : Addr} {v : Value} (h : w.cell? a = some v) : a.spot = none := by
  unfold World.cell? at h
  split at h
  · split at h
    · cases h
    · rename_i hs
      cases hh : a.spot with
      | none => rfl
      | some q => rw [hh] at hs; simp at hs
  · cases h

set_option maxRecDepth 100000 in
theorem item_cells {H : Type} {enc : TypeId × Value → H} {W : World} {spare : Nat → Bool} {held : Bool} {n : Nat} {cs : List Value} {x : DataW H × List MemPlace} (h : DataW.trod enc Tryz.prog W 0 spare held n 40 cs = some x) : ∃ y : It, cs = y.vs := by
  obtain ⟨y0, y1, k, _, hlen, u0, u1⟩ := trod_struct2 Tryz.underlying40 h
  rw [cells40] at hlen
  match cs, hlen with
  | [v0, v1, v2, v3], _ =>
    simp only [cells38, cells3, List.drop, List.take] at u0 u1
    obtain ⟨z0, z1, z2, k2, _, _, w0, w1, w2⟩ := trod_struct3 Tryz.underlying38 u0
    simp only [cells3, List.drop, List.take] at w0 w1 w2
    obtain ⟨a, e0, _, _⟩ := DataW.trod_int Tryz.underlying3 w0
    obtain ⟨b, e1, _, _⟩ := DataW.trod_int Tryz.underlying3 w1
    obtain ⟨c, e2, _, _⟩ := DataW.trod_int Tryz.underlying3 w2
    obtain ⟨d, e3, _, _⟩ := DataW.trod_int Tryz.underlying3 u1
    simp only [List.cons.injEq, and_true] at e0 e1 e2 e3
    exact ⟨⟨⟨a, b, c⟩, d⟩, by rw [e0, e1, e2, e3]; rfl⟩

set_option maxRecDepth 100000 in
theorem open_bag {H : Type} {enc : TypeId × Value → H} {W : World} {base : Nat} {spare : Nat → Bool} {held : Bool} {r : Reach} {t : TypeId} {v : Value} {d : DataW H} {ps : List MemPlace} (ht : Tryz.prog.underlying t = some (.slice 40)) (hval : Value.okWide Tryz.prog W r base t v) (h : DataW.Trod enc Tryz.prog W 0 spare held t v d ps) :
    ∃ A n cap l, v = .slice A n cap ∧ Rd It.vs 4 W 0 A n l ∧ n ≤ cap ∧ cap ≤ maxLen := by
  obtain ⟨A, n, cap, rfl⟩ := okWide_slice ht hval
  obtain ⟨fuel, hf⟩ := h
  rcases open_slice ht hf with ⟨hc, _⟩ | ⟨a, len, cap', m, k, D, Pl, hc, _, hl, hm, hmm, _, hall⟩
  · simp [Value.cells] at hc
    obtain ⟨rfl, rfl, rfl⟩ := hc
    exact ⟨none, 0, 0, [], rfl, Rd.nil _ _ _, Nat.le_refl _, by unfold maxLen; omega⟩
  · simp [Value.cells] at hc
    obtain ⟨rfl, rfl, rfl⟩ := hc
    have hlm : n ≤ m := by rw [hmm]; split <;> omega
    have each : ∀ i, i < n → ∃ y : It, ∀ j v, (It.vs y)[j]? = some v → W.cell? (a.add (i * 4 + j)) = some v := fun i hi => by
      obtain ⟨cs', h1, h2⟩ := hall i (by omega)
      rw [cells40] at h1
      obtain ⟨_, hlen, hcell⟩ := World.cells?_some h1
      obtain ⟨y, rfl⟩ := item_cells h2
      refine ⟨y, fun j v hv => ?_⟩
      have hj : j < 4 := by simpa [It.vs] using (List.getElem?_eq_some_iff.1 hv).1
      have := hcell j hj
      rw [add_add] at this
      rw [this, hv]
    obtain ⟨f, hf'⟩ := choose_lt each
    refine ⟨some a, n, cap, (List.range n).map f, rfl, ⟨by simp, by unfold maxLen at hm; omega, fun h0 => ?_⟩, hl, hm⟩
    have hs : a.spot = none := by
      have := spot_none (hf' 0 h0 0 _ rfl)
      have e : (a.add (0 * 4 + 0)).spot = none := this
      have ea : a.add (0 * 4 + 0) = a := by unfold Addr.add; simp
      rwa [ea] at e
    obtain ⟨b, off, sp⟩ := a
    simp only at hs
    subst hs
    refine ⟨b, off, rfl, Nat.zero_le _, fun i x hx j v hv => ?_⟩
    have hi : i < n := by simpa using (List.getElem?_eq_some_iff.1 hx).1
    have ex : f i = x := by simpa [List.getElem?_map, List.getElem?_range hi] using hx
    subst ex
    have := hf' i hi j v hv
    have e1 : (⟨b, off, none⟩ : Addr).add (i * 4 + j) = ⟨b, off + (i * 4 + j), none⟩ := by unfold Addr.add; split <;> simp_all
    rw [e1] at this
    have e2 : off + i * 4 + j = off + (i * 4 + j) := by omega
    rw [e2]
    exact this
end Go.Proofs.Bg
