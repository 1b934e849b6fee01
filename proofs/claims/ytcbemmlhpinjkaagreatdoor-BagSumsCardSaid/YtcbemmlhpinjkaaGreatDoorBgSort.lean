/- Plain words: what stands behind a sort; the order of records is a strict one. No program in sight. -/
import Derived.Shelf.GgSortFunc.InsertionK
import Derived.Sort.OwnSorted
import Derived.Shelf.SlSortCmp.Insertion
import Derived.Test.YtcbemmlhpinjkaaGreatDoorBgApp
namespace Go.Proofs.Bg
open Go.RowKit
open Go.Sort (grow putRow mapBlock flatK HoldsK Holds putRowK SWO PermIn SortedIn get_flatK size_flatK heap_grow_old)

theorem grownBy_row {α : Type} [Inhabited α] (enc : α → Value) {w : World} {g n : Nat} {os : Array Obj} (d : Array α) : w.grownBy (grow (putRow enc (Sort.ahead w n) g 0 d) os) (some g) := by
  refine ⟨rfl, rfl, rfl, by simp, fun k hk hne => ?_⟩
  rw [heap_grow_old _ _ (by simpa using hk)]
  have : g ≠ k := fun e => hne (by rw [e])
  simp [putRow, mapBlock, Sort.ahead, Array.getElem?_modify, this]

theorem holdsK_of_own {α : Type} [Inhabited α] {enc : α → List Value} {sz : Nat} (h0 : 0 < sz) (hs : ∀ x, (enc x).length = sz) {w : World} {base g cap : Nat} {e : TypeId} {l : List α} (h : Own enc sz e base w (.slice (some ⟨g, 0, none⟩) l.length cap) l) : HoldsK enc sz w g 0 l.toArray := by
  intro j hj
  rw [size_flatK] at hj
  have hj' : j < l.length * sz := by simpa using hj
  have hd : j / sz < l.length := (Nat.div_lt_iff_lt_mul h0).2 hj'
  have hm : j % sz < sz := Nat.mod_lt _ h0
  have hjj : j / sz * sz + j % sz = j := by rw [Nat.mul_comm]; exact Nat.div_add_mod j sz
  have hx : l[j / sz]? = some l[j / sz] := List.getElem?_eq_getElem hd
  have hm' : j % sz < (enc l[j / sz]).length := by rw [hs]; exact hm
  have hv : (enc l[j / sz])[j % sz]? = some ((enc l[j / sz])[j % sz]'hm') := List.getElem?_eq_getElem hm'
  have hf := flat_at hs l _ _ hx _ _ hv
  rw [hjj] at hf
  have hc := World.ownsRow.cellAt h j (by rw [← flat_length hs l]; exact (List.getElem?_eq_some_iff.1 hf).1)
  refine ⟨?_, by rw [Nat.zero_add]; exact World.ownsRow.frozenAt h j⟩
  rw [Nat.zero_add, hc, hf, id_eq, get_flatK _ _ _ _ (by simpa using hj')]
  have e1 : l.toArray[j / sz]! = l[j / sz] := by simp [hd]
  rw [e1, getElem!_pos (enc l[j / sz]) (j % sz) hm']

theorem rd_of_holdsK {α : Type} [Inhabited α] {enc : α → List Value} {sz : Nat} (hs : ∀ x, (enc x).length = sz) {w : World} {base g : Nat} {l : List α} (h : HoldsK enc sz w g 0 l.toArray) (hb : base ≤ g) (hl : l.length ≤ 9223372036854775807) : Rd enc sz w base (some ⟨g, 0, none⟩) l.length l := by
  refine ⟨rfl, hl, fun _ => ⟨g, 0, rfl, hb, fun i x hx j v hv => ?_⟩⟩
  have hi : i < l.length := (List.getElem?_eq_some_iff.1 hx).1
  have hj : j < sz := by rw [← hs x]; exact (List.getElem?_eq_some_iff.1 hv).1
  have hc := (h.cell (i := i) (c := j) (by simpa using hi) hj).1
  have e1 : l.toArray[i]! = x := by
    have := (List.getElem?_eq_some_iff.1 hx).2
    simp [hi, this]
  rw [e1] at hc
  rw [hc]
  have := (List.getElem?_eq_some_iff.1 hv)
  obtain ⟨h1, h2⟩ := this
  simp [h1, h2]

/-! ### the order of records -/
def cmpI (a b : Int) : Int := if a < b then -1 else if b < a then 1 else 0
/-- The first of three numbers that is not 0. -/
def or3 (a b c : Int) : Int := if a = 0 then if b = 0 then c else b else a
/-- The order of records. -/
def rcmp (x y : Rc) : Int := or3 (cmpI x.at_ y.at_) (cmpI x.key y.key) (cmpI x.val y.val)

theorem rcmp_neg (x y : Rc) : rcmp x y < 0 ↔ x.at_ < y.at_ ∨ (x.at_ = y.at_ ∧ (x.key < y.key ∨ (x.key = y.key ∧ x.val < y.val))) := by
  unfold rcmp or3 cmpI
  repeat' split
  all_goals omega
theorem rcmp_zero (x y : Rc) : rcmp x y = 0 ↔ x = y := by
  have : x = y ↔ x.at_ = y.at_ ∧ x.key = y.key ∧ x.val = y.val := by cases x; cases y; simp
  rw [this]
  unfold rcmp or3 cmpI
  repeat' split
  all_goals omega
theorem rcmp_swo : SWO (ltOf rcmp) where
  irrefl x := by unfold ltOf; rw [decide_eq_false_iff_not, rcmp_neg]; omega
  trans x y z h1 h2 := by
    unfold ltOf at *
    rw [decide_eq_true_iff, rcmp_neg] at *
    omega
  ntrans x y z h1 h2 := by
    unfold ltOf at *
    rw [decide_eq_false_iff_not, rcmp_neg] at *
    omega

/-- Sorted, and each once. -/
def Incr (l : List Rc) : Prop := l.Pairwise (fun x y => rcmp x y < 0)
instance : Inhabited Rc := ⟨⟨0, 0, 0⟩⟩
theorem incr_of_sorted {d d' : Array Rc} (hp : PermIn 0 d.size d d') (hs : SortedIn (ltOf rcmp) 0 d.size d') (hn : d.toList.Nodup) : Incr d'.toList ∧ d'.toList.Perm d.toList := by
  obtain ⟨h1, _, h3⟩ := hp
  have hp' : d'.toList.Perm d.toList := by
    have e1 : d'.extract 0 d.size = d' := by rw [← h1]; simp
    have e2 : d.extract 0 d.size = d := by simp
    rw [e1, e2] at h3
    exact h3
  refine ⟨List.pairwise_iff_getElem.2 fun i j hi hj hij => ?_, hp'⟩
  have hi' : i < d'.size := by simpa using hi
  have hj' : j < d'.size := by simpa using hj
  have h := hs i j (Nat.zero_le _) hij (by omega)
  rw [getElem!_pos d' j hj', getElem!_pos d' i hi'] at h
  have hne : d'[i] ≠ d'[j] := by
    intro e
    have hnn := (hp'.nodup_iff).2 hn
    have := (List.getElem_inj hnn (h₀ := hi) (h₁ := hj)).1 (by simpa using e)
    omega
  unfold ltOf at h
  rw [decide_eq_false_iff_not, rcmp_neg] at h
  have hz := mt (rcmp_zero d'[i] d'[j]).1 hne
  have hx : rcmp d'[i] d'[j] < 0 := by
    rw [rcmp_neg]
    have : ¬ (d'[i].at_ = d'[j].at_ ∧ d'[i].key = d'[j].key ∧ d'[i].val = d'[j].val) := by
      intro hc
      apply hne
      cases hu : d'[i]; cases hv : d'[j]
      rw [hu, hv] at hc
      simp at hc
      simp [hc]
    omega
  simpa using hx

end Go.Proofs.Bg
