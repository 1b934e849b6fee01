/- Plain law: the bag of items. No program, no memory. -/
import Derived.Test.YtcbemmlhpinjkaaGreatDoorBgSort
namespace Go.Proofs.Bg

/-- How often a record is there in a list of items. -/
def sumN : List It → Rc → Int
  | [], _ => 0
  | x :: r, k => (if x.r = k then x.n else 0) + sumN r k
theorem sumN_append (a b : List It) (k : Rc) : sumN (a ++ b) k = sumN a k + sumN b k := by
  induction a with
  | nil => simp [sumN]
  | cons x r ih => simp only [List.cons_append, sumN, ih]; omega
theorem sumN_perm {a b : List It} (h : a.Perm b) (k : Rc) : sumN a k = sumN b k := by
  induction h with
  | nil => rfl
  | cons x _ ih => simp only [sumN, ih]
  | swap x y l => simp only [sumN]; omega
  | trans _ _ h1 h2 => exact h1.trans h2
theorem sumN_none {l : List It} {k : Rc} (h : k ∉ l.map (·.r)) : sumN l k = 0 := by
  induction l with
  | nil => rfl
  | cons x r ih =>
    simp only [List.map_cons, List.mem_cons, not_or] at h
    rw [sumN, if_neg (fun e => h.1 e.symm), ih h.2]
    rfl

def Bdd (B : Int) (l : List It) : Prop := ∀ x ∈ l, -B ≤ x.n ∧ x.n ≤ B
theorem sumN_bdd {B : Int} (hB : 0 ≤ B) {l : List It} (h : Bdd B l) (k : Rc) : -(B * l.length) ≤ sumN l k ∧ sumN l k ≤ B * l.length := by
  induction l with
  | nil => simp [sumN]
  | cons x r ih =>
    have h1 := h x List.mem_cons_self
    have h2 := ih (fun y hy => h y (List.mem_cons_of_mem _ hy))
    have e : B * ((x :: r).length : Int) = B * (r.length : Int) + B := by
      rw [List.length_cons, Int.natCast_add, Int.mul_add]
      simp
    rw [sumN, e]
    split <;> omega

theorem rcmp_total (x y : Rc) : rcmp x y < 0 ∨ x = y ∨ rcmp y x < 0 := by
  have : x = y ↔ x.at_ = y.at_ ∧ x.key = y.key ∧ x.val = y.val := by cases x; cases y; simp
  rw [this, rcmp_neg, rcmp_neg]
  omega
theorem rcmp_trans {x y z : Rc} (h1 : rcmp x y < 0) (h2 : rcmp y z < 0) : rcmp x z < 0 := by
  rw [rcmp_neg] at *
  omega
theorem rcmp_irr (x : Rc) : ¬ rcmp x x < 0 := by
  rw [rcmp_neg]
  omega

/-- m is the bag of the items l. -/
structure IsBag (m l : List It) : Prop where
  incr : Incr (m.map (·.r))
  not0 : ∀ x ∈ m, x.n ≠ 0
  sums : ∀ k, sumN m k = sumN l k

theorem incr_not_head {x : Rc} {r : List Rc} (h : Incr (x :: r)) : x ∉ r := fun hm => rcmp_irr x ((List.pairwise_cons.1 h).1 x hm)
theorem incr_tail {x : Rc} {r : List Rc} (h : Incr (x :: r)) : Incr r := (List.pairwise_cons.1 h).2

/-- There is one such bag. -/
theorem IsBag.uniq : ∀ {m m' l : List It}, IsBag m l → IsBag m' l → m = m'
  | [], [], _, _, _ => rfl
  | [], y :: r, l, h, h' => by
    have h1 := h.sums y.r
    rw [← h'.sums y.r] at h1
    rw [sumN, sumN, if_pos rfl, sumN_none (incr_not_head (by simpa using h'.incr))] at h1
    exact absurd (by omega) (h'.not0 y List.mem_cons_self)
  | x :: r, [], l, h, h' => by
    have h1 := h'.sums x.r
    rw [← h.sums x.r] at h1
    rw [sumN, sumN, if_pos rfl, sumN_none (incr_not_head (by simpa using h.incr))] at h1
    exact absurd (by omega) (h.not0 x List.mem_cons_self)
  | x :: r, y :: s, l, h, h' => by
    have hx : x.r ∉ r.map (·.r) := incr_not_head (by simpa using h.incr)
    have hy : y.r ∉ s.map (·.r) := incr_not_head (by simpa using h'.incr)
    have hxs : ∀ z ∈ r.map (·.r), rcmp x.r z < 0 := (List.pairwise_cons.1 (by simpa [Incr] using h.incr : (x.r :: r.map (·.r)).Pairwise fun a b => rcmp a b < 0)).1
    have hys : ∀ z ∈ s.map (·.r), rcmp y.r z < 0 := (List.pairwise_cons.1 (by simpa [Incr] using h'.incr : (y.r :: s.map (·.r)).Pairwise fun a b => rcmp a b < 0)).1
    have e1 : ∀ k, sumN (x :: r) k = sumN (y :: s) k := fun k => (h.sums k).trans (h'.sums k).symm
    have er : x.r = y.r := by
      rcases rcmp_total x.r y.r with hc | hc | hc
      · have hn : x.r ∉ (y :: s).map (·.r) := by
          simp only [List.map_cons, List.mem_cons, not_or]
          refine ⟨fun e => rcmp_irr y.r (by rw [e] at hc; exact hc), fun hm => rcmp_irr x.r (rcmp_trans hc (hys _ hm))⟩
        have := e1 x.r
        rw [sumN_none hn, sumN, if_pos rfl, sumN_none hx] at this
        exact absurd (by omega) (h.not0 x List.mem_cons_self)
      · exact hc
      · have hn : y.r ∉ (x :: r).map (·.r) := by
          simp only [List.map_cons, List.mem_cons, not_or]
          refine ⟨fun e => rcmp_irr x.r (by rw [e] at hc; exact hc), fun hm => rcmp_irr y.r (rcmp_trans hc (hxs _ hm))⟩
        have := e1 y.r
        rw [sumN_none hn, sumN, if_pos rfl, sumN_none hy] at this
        exact absurd (by omega) (h'.not0 y List.mem_cons_self)
    have en : x.n = y.n := by
      have := e1 x.r
      rw [sumN, sumN, if_pos rfl, if_pos er.symm, sumN_none hx, er, sumN_none hy] at this
      omega
    have exy : x = y := by cases x; cases y; simp at er en; simp [er, en]
    subst exy
    have : r = s := IsBag.uniq (l := r)
      ⟨incr_tail (by simpa using h.incr), fun z hz => h.not0 z (List.mem_cons_of_mem _ hz), fun _ => rfl⟩
      ⟨incr_tail (by simpa using h'.incr), fun z hz => h'.not0 z (List.mem_cons_of_mem _ hz), fun k => by
        have := e1 k
        simp only [sumN] at this
        omega⟩
    rw [this]

/-! ### the bag of items, computed -/
def insIt (x : It) : List It → List It
  | [] => [x]
  | y :: r => if rcmp x.r y.r < 0 then x :: y :: r else if x.r = y.r then ⟨y.r, y.n + x.n⟩ :: r else y :: insIt x r
def gather : List It → List It
  | [] => []
  | x :: r => insIt x (gather r)
def canon (l : List It) : List It := (gather l).filter (fun x => x.n != 0)

theorem insIt_sum (x : It) (m : List It) (k : Rc) : sumN (insIt x m) k = (if x.r = k then x.n else 0) + sumN m k := by
  induction m with
  | nil => rfl
  | cons y r ih =>
    rw [insIt]
    split
    · rfl
    · split
      · rename_i h
        simp only [sumN, h]
        split <;> omega
      · simp only [sumN, ih]
        omega
theorem insIt_mem (x : It) (m : List It) : ∀ k ∈ (insIt x m).map (·.r), k = x.r ∨ k ∈ m.map (·.r) := by
  induction m with
  | nil => intro k hk; simp [insIt] at hk; exact .inl hk
  | cons y r ih =>
    intro k hk
    rw [insIt] at hk
    split at hk
    · simp at hk ⊢; rcases hk with h | h | h
      · exact .inl h
      · exact .inr (.inl h)
      · exact .inr (.inr h)
    · split at hk
      · rename_i h
        simp at hk ⊢
        rcases hk with h | h
        · exact .inr (.inl h)
        · exact .inr (.inr h)
      · simp only [List.map_cons, List.mem_cons] at hk ⊢
        rcases hk with h | h
        · exact .inr (.inl h)
        · rcases ih k h with h | h
          · exact .inl h
          · exact .inr (.inr h)
theorem insIt_incr (x : It) (m : List It) (h : Incr (m.map (·.r))) : Incr ((insIt x m).map (·.r)) := by
  induction m with
  | nil => simp [insIt, Incr]
  | cons y r ih =>
    have h' : (y.r :: r.map (·.r)).Pairwise fun a b => rcmp a b < 0 := by simpa [Incr] using h
    obtain ⟨h1, h2⟩ := List.pairwise_cons.1 h'
    rw [insIt]
    split
    · rename_i hc
      show ((x.r :: y.r :: r.map (·.r))).Pairwise _
      refine List.pairwise_cons.2 ⟨fun z hz => ?_, h'⟩
      rcases List.mem_cons.1 hz with e | hm
      · rw [e]; exact hc
      · exact rcmp_trans hc (h1 z hm)
    · split
      · exact h'
      · rename_i hc hne
        show ((y.r :: (insIt x r).map (·.r))).Pairwise _
        refine List.pairwise_cons.2 ⟨fun z hz => ?_, ih h2⟩
        rcases insIt_mem x r z hz with e | hm
        · rw [e]
          rcases rcmp_total x.r y.r with h | h | h
          · exact absurd h hc
          · exact absurd h hne
          · exact h
        · exact h1 z hm
theorem gather_sum (l : List It) (k : Rc) : sumN (gather l) k = sumN l k := by
  induction l with
  | nil => rfl
  | cons x r ih => rw [gather, insIt_sum, ih, sumN]
theorem gather_incr (l : List It) : Incr ((gather l).map (·.r)) := by
  induction l with
  | nil => simp [gather, Incr]
  | cons x r ih => exact insIt_incr x _ ih
theorem filter_sum (l : List It) (k : Rc) : sumN (l.filter (fun x => x.n != 0)) k = sumN l k := by
  induction l with
  | nil => rfl
  | cons x r ih =>
    rw [List.filter_cons]
    split
    · rw [sumN, sumN, ih]
    · rename_i h
      have : x.n = 0 := by simpa using h
      rw [ih, sumN, this]
      split <;> omega
theorem incr_filter {l : List It} (p : It → Bool) (h : Incr (l.map (·.r))) : Incr ((l.filter p).map (·.r)) :=
  List.Pairwise.sublist (List.Sublist.map _ List.filter_sublist) h
theorem canon_is (l : List It) : IsBag (canon l) l :=
  ⟨incr_filter _ (gather_incr l), fun x hx => by simpa using (List.mem_filter.1 hx).2, fun k => by rw [canon, filter_sum, gather_sum]⟩
theorem IsBag.eq {m l : List It} (h : IsBag m l) : m = canon l := h.uniq (canon_is l)
theorem canon_eq {l l' : List It} (h : ∀ k, sumN l k = sumN l' k) : canon l = canon l' :=
  IsBag.uniq (l := l') ⟨(canon_is l).incr, (canon_is l).not0, fun k => ((canon_is l).sums k).trans (h k)⟩ (canon_is l')
end Go.Proofs.Bg
