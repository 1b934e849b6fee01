/- A bag that is handed in, opened, with its size: it takes no more bytes than the form's reach. -/
import Derived.SizedLaws
import Derived.Test.YtcbemmlhpinjkaaGreatDoorBgOpen
namespace Go.Proofs.Bg
open Go.RowKit Go.ChangeShapes Go.WideShapes Go.Deep

theorem bytes40 : Tryz.prog.bytesOf 40 = 32 := by kernel_rfl

set_option maxRecDepth 100000 in
theorem open_bag2 {H : Type} {enc : TypeId × Value → H} {W : World} {base : Nat} {held : Bool} {r : Reach} {t : TypeId} {v : Value} {d : DataW H} {ps : List MemPlace} (ht : Tryz.prog.underlying t = some (.slice 40)) (hval : Value.okWide Tryz.prog W r base t v) (h : DataW.Trod enc Tryz.prog W 0 (fun _ => true) held t v d ps) :
    ∃ A n cap l, v = .slice A n cap ∧ Rd It.vs 4 W 0 A n l ∧ n ≤ cap ∧ (cap = 0 ∨ ∃ es sp, d = .slice es sp ∧ es.length + sp.length = cap) := by
  obtain ⟨A, n, cap, rfl⟩ := okWide_slice ht hval
  obtain ⟨fuel, hf⟩ := h
  rcases open_slice ht hf with ⟨hc, _⟩ | ⟨a, len, cap', m, k, D, Pl, hc, _, hl, hm, hmm, hd, hall⟩
  · simp [Value.cells] at hc
    obtain ⟨rfl, rfl, rfl⟩ := hc
    exact ⟨none, 0, 0, [], rfl, Rd.nil _ _ _, Nat.le_refl _, .inl rfl⟩
  · simp [Value.cells] at hc
    obtain ⟨rfl, rfl, rfl⟩ := hc
    have hmc : m = cap := by simpa using hmm
    have hlm : n ≤ m := by omega
    have each : ∀ i, i < n → ∃ y : It, ∀ j v, (It.vs y)[j]? = some v → W.cell? (a.add (i * 4 + j)) = some v := fun i hi => by
      obtain ⟨cs', h1, h2⟩ := hall i (by omega)
      rw [cells40] at h1
      obtain ⟨_, hlen, hcell⟩ := World.cells?_some h1
      obtain ⟨y, rfl⟩ := item_cells h2
      refine ⟨y, fun j v hv => ?_⟩
      have hj : j < 4 := by simpa [It.vs] using (List.getElem?_eq_some_iff.1 hv).1
      have := hcell j hj
      rw [add_add] at this
      rw [this, hv]
    obtain ⟨f, hf'⟩ := choose_lt each
    refine ⟨some a, n, cap, (List.range n).map f, rfl, ⟨by simp, by unfold maxLen at hm; omega, fun h0 => ?_⟩, hl, .inr ⟨_, _, (Prod.mk.inj hd).1, by simp; omega⟩⟩
    have hs : a.spot = none := by
      have := spot_none (hf' 0 h0 0 _ rfl)
      have e : (a.add (0 * 4 + 0)).spot = none := this
      have ea : a.add (0 * 4 + 0) = a := by unfold Addr.add; simp
      rwa [ea] at e
    obtain ⟨b, off, sp⟩ := a
    simp only at hs
    subst hs
    refine ⟨b, off, rfl, Nat.zero_le _, fun i x hx j v hv => ?_⟩
    have hi : i < n := by simpa using (List.getElem?_eq_some_iff.1 hx).1
    have ex : f i = x := by simpa [List.getElem?_map, List.getElem?_range hi] using hx
    subst ex
    have := hf' i hi j v hv
    have e1 : (⟨b, off, none⟩ : Addr).add (i * 4 + j) = ⟨b, off + (i * 4 + j), none⟩ := by unfold Addr.add; split <;> simp_all
    rw [e1] at this
    have e2 : off + i * 4 + j = off + (i * 4 + j) := by omega
    rw [e2]
    exact this

/-- What the form's reach says of a bag that is handed in. -/
theorem reach_bag {H : Type} {ts : List TypeId} {ds : List (DataW H)} {t : TypeId} {d : DataW H} {cap : Nat} (h : (DataW.weightsEach Tryz.prog ts ds).all (· ≤ reachBytes) = true) (j : Nat) (ht : ts[j]? = some t) (hd : ds[j]? = some d) (hu : Tryz.prog.underlying t = some (.slice 40)) (hc : cap = 0 ∨ ∃ es sp, d = .slice es sp ∧ es.length + sp.length = cap) : cap * 32 ≤ 140737488355328 := by
  rcases hc with rfl | ⟨es, sp, rfl, rfl⟩
  · omega
  · have := sized_slice h ht hd hu
    rw [bytes40] at this
    have hr := reachBytes_lt
    omega
end Go.Proofs.Bg
