/- Texts of our own, merged: BgAlg BgLeastP BgRef BgIsEdit BgSorted BgOf. -/
import Derived.Test.YtcbemmlhpinjkaaGreatDoorBgMPa2
import Derived.Test.YtcbemmlhpinjkaaGreatDoorBgMPa1
import Derived.StillTactics
import Derived.Deep.RegionWith
import Derived.Test.YtcbemmlhpinjkaaGreatDoorWLast
import Derived.BigQuiet

section
/- Plain law: sums of bags are a group; products of sums are sums of products. No program, no memory. -/
namespace Go.Proofs.Bg

/-- A number for each record, added over a list of items. -/
def linS (G : Rc → Int) : List It → Int
  | [] => 0
  | x :: r => x.n * G x.r + linS G r
theorem linS_append (G : Rc → Int) (a b : List It) : linS G (a ++ b) = linS G a + linS G b := by
  induction a with
  | nil => simp [linS]
  | cons x r ih => simp only [List.cons_append, linS, ih]; omega
theorem linS_ins (G : Rc → Int) (x : It) (m : List It) : linS G (insIt x m) = x.n * G x.r + linS G m := by
  induction m with
  | nil => rfl
  | cons y r ih =>
    rw [insIt]
    split
    · rfl
    · split
      · rename_i h
        simp only [linS, h]
        rw [Int.add_mul]
        omega
      · simp only [linS, ih]
        omega
theorem linS_gather (G : Rc → Int) (l : List It) : linS G (gather l) = linS G l := by
  induction l with
  | nil => rfl
  | cons x r ih => rw [gather, linS_ins, ih, linS]
theorem linS_filter (G : Rc → Int) (l : List It) : linS G (l.filter (fun x => x.n != 0)) = linS G l := by
  induction l with
  | nil => rfl
  | cons x r ih =>
    rw [List.filter_cons]
    split
    · rw [linS, linS, ih]
    · rename_i h
      have : x.n = 0 := by simpa using h
      rw [ih, linS, this]
      omega
theorem linS_canon (G : Rc → Int) (l : List It) : linS G (canon l) = linS G l := by rw [canon, linS_filter, linS_gather]

theorem canon_id {a : List It} (h : bagB a = true) : canon a = a := by
  have hs := (bagB_spec a).1 h
  exact (IsBag.eq ⟨hs.2.1, fun x hx => by have := (itB_spec x).1 (hs.1 x hx); omega, fun _ => rfl⟩).symm
theorem canon_comm (a b : List It) : canon (a ++ b) = canon (b ++ a) := canon_eq fun k => by rw [sumN_append, sumN_append]; omega
theorem canon_left (a b : List It) : canon (canon a ++ b) = canon (a ++ b) := canon_eq fun k => by rw [sumN_append, sumN_append, (canon_is a).sums]
theorem canon_right (a b : List It) : canon (a ++ canon b) = canon (a ++ b) := canon_eq fun k => by rw [sumN_append, sumN_append, (canon_is b).sums]
theorem sumN_neg (a : List It) (k : Rc) : sumN (a.map negIt) k = - sumN a k := by
  induction a with
  | nil => rfl
  | cons x r ih => simp only [List.map_cons, sumN, ih, negIt]; split <;> omega
theorem canon_minus (a : List It) : canon (a ++ a.map negIt) = [] := by
  have : canon (a ++ a.map negIt) = canon [] := canon_eq fun k => by rw [sumN_append, sumN_neg, sumN]; omega
  exact this
theorem bagOr_congr {a b : List It} (h : canon a = canon b) : bagOr a = bagOr b ∧ errOr a = errOr b := by
  unfold bagOr errOr
  rw [h]
  exact ⟨rfl, rfl⟩

theorem addR_comm (a b : List It) : addR a b = addR b a := by
  unfold addR
  obtain ⟨h1, h2⟩ := bagOr_congr (canon_comm a b)
  rw [h1, h2, Bool.and_comm]
theorem addR_err {a b : List It} (ha : bagB a = true) (hb : bagB b = true) : (addR a b).2 = 0 ∨ (addR a b).2 = 3 := by
  simp only [addR, ha, hb, errOr]
  simp
theorem bagB_nil : bagB [] = true := by decide
theorem addR_nil {a : List It} (ha : bagB a = true) : addR a [] = (a, 0) := by
  simp [addR, ha, bagB_nil, bagOr, errOr, canon_id ha]
theorem addR_neg {a : List It} (ha : bagB a = true) : addR a (a.map negIt) = ([], 0) := by
  simp [addR, ha, bagB_neg ha, bagOr, errOr, canon_minus, bagB_nil]

/-- What is there, and the contrary of what is missing. -/
def isL (b : List It) : List It := b.filter (fun x => decide (0 < x.n))
def notL (b : List It) : List It := (b.filter (fun x => !decide (0 < x.n))).map negIt
theorem bagB_filter {a : List It} (p : It → Bool) (h : bagB a = true) : bagB (a.filter p) = true := by
  rw [bagB_spec] at h ⊢
  exact ⟨fun x hx => h.1 x (List.mem_filter.1 hx).1, incr_filter p h.2.1, Nat.le_trans (List.length_filter_le _ _) h.2.2⟩
theorem bagB_isL {a : List It} (h : bagB a = true) : bagB (isL a) = true := bagB_filter _ h
theorem bagB_notL {a : List It} (h : bagB a = true) : bagB (notL a) = true := bagB_neg (bagB_filter _ h)
theorem negIt_negIt (x : It) : negIt (negIt x) = x := by cases x; simp [negIt]
theorem map_neg_neg (l : List It) : (l.map negIt).map negIt = l := by
  rw [List.map_map]
  conv => rhs; rw [← List.map_id l]
  exact List.map_congr_left (fun x _ => negIt_negIt x)
theorem sumN_filter_add (p : It → Bool) (l : List It) (k : Rc) : sumN (l.filter p) k + sumN (l.filter (fun x => !p x)) k = sumN l k := by
  induction l with
  | nil => rfl
  | cons x r ih =>
    cases h : p x <;> simp [h, sumN] <;> omega
theorem addR_split {a : List It} (ha : bagB a = true) : addR (isL a) ((notL a).map negIt) = (a, 0) := by
  have h1 : canon (isL a ++ (notL a).map negIt) = a := by
    rw [notL, map_neg_neg, isL]
    exact (canon_eq (l' := a) fun k => by rw [sumN_append, sumN_filter_add]).trans (canon_id ha)
  simp only [addR, bagB_isL ha, bagB_neg (bagB_notL ha), bagOr, errOr, h1, ha]
  rfl
theorem whole_isL {a : List It} : (isL a).all (fun x => !decide (x.n < 0)) = true := by
  rw [List.all_eq_true]
  intro x hx
  have := (List.mem_filter.1 hx).2
  simp at this ⊢
  omega
theorem whole_notL {a : List It} : (notL a).all (fun x => !decide (x.n < 0)) = true := by
  rw [List.all_eq_true]
  intro x hx
  obtain ⟨y, hy, rfl⟩ := List.mem_map.1 hx
  have := (List.mem_filter.1 hy).2
  simp [negIt] at this ⊢
  omega
theorem addR_ok {a b : List It} (h : (addR a b).2 = 0) : bagB a = true ∧ bagB b = true ∧ bagB (canon (a ++ b)) = true ∧ (addR a b).1 = canon (a ++ b) := by
  unfold addR errOr bagOr at *
  cases ha : bagB a <;> cases hb : bagB b <;> cases hc : bagB (canon (a ++ b)) <;> simp_all
theorem addR_assoc {a b c : List It} (h1 : (addR a b).2 = 0) (h2 : (addR b c).2 = 0) : addR (addR a b).1 c = addR a (addR b c).1 := by
  obtain ⟨ha, hb, hab, e1⟩ := addR_ok h1
  obtain ⟨_, hc, hbc, e2⟩ := addR_ok h2
  have e : canon (canon (a ++ b) ++ c) = canon (a ++ canon (b ++ c)) := by rw [canon_left, canon_right, List.append_assoc]
  obtain ⟨g1, g2⟩ := bagOr_congr e
  rw [e1, e2]
  simp only [addR, ha, hc, hab, hbc, g1, g2]

/-! ### products -/
/-- What an item with the record r, once, gives with the item y, at the record k. -/
def oneP (apart : Int) (k : Rc) (r : Rc) (y : It) : Int :=
  if r.key = y.r.key ∧ max r.at_ y.r.at_ - min r.at_ y.r.at_ ≤ apart then (if (⟨max r.at_ y.r.at_, r.key, clampI (r.val + y.r.val)⟩ : Rc) = k then y.n else 0) else 0
def rowP (apart : Int) (k : Rc) (c : List It) (r : Rc) : Int := (c.map (oneP apart k r)).sum
theorem pairIt_sum (apart : Int) (k : Rc) (x y : It) : sumN (pairIt apart x y) k = x.n * oneP apart k x.r y := by
  unfold pairIt oneP
  split
  · simp only [sumN]
    split <;> simp
  · simp [sumN]
theorem rowIts_sum (apart : Int) (k : Rc) (x : It) (c : List It) : sumN (rowIts apart x c) k = x.n * rowP apart k c x.r := by
  unfold rowIts rowP
  induction c with
  | nil => simp [sumN]
  | cons y r ih => rw [List.flatMap_cons, sumN_append, ih, pairIt_sum, List.map_cons, List.sum_cons, Int.mul_add]
theorem pairIts_lin (apart : Int) (k : Rc) (a c : List It) : sumN (pairIts apart a c) k = linS (rowP apart k c) a := by
  unfold pairIts
  induction a with
  | nil => rfl
  | cons x r ih => rw [List.flatMap_cons, sumN_append, ih, rowIts_sum, linS]
theorem oneP_comm (apart : Int) (k : Rc) (x y : It) : x.n * oneP apart k x.r y = y.n * oneP apart k y.r x := by
  unfold oneP
  have e1 : max x.r.at_ y.r.at_ = max y.r.at_ x.r.at_ := by omega
  have e2 : min x.r.at_ y.r.at_ = min y.r.at_ x.r.at_ := by omega
  have e3 : x.r.val + y.r.val = y.r.val + x.r.val := by omega
  by_cases hk : x.r.key = y.r.key
  · simp only [hk, true_and]
    rw [e1, e2, e3]
    split
    · split
      · exact Int.mul_comm _ _
      · simp
    · simp
  · have hk' : ¬ y.r.key = x.r.key := fun e => hk e.symm
    simp [hk, hk']
theorem sum_comm2 (f : It → It → Int) (a c : List It) : (a.map (fun x => (c.map (f x)).sum)).sum = (c.map (fun y => (a.map (fun x => f x y)).sum)).sum := by
  induction a with
  | nil =>
    induction c with
    | nil => rfl
    | cons y r ih => simp only [List.map_nil, List.sum_nil, List.map_cons, List.sum_cons] at ih ⊢; omega
  | cons x r ih =>
    rw [List.map_cons, List.sum_cons, ih]
    clear ih
    induction c with
    | nil => rfl
    | cons y s ih =>
      simp only [List.map_cons, List.sum_cons] at ih ⊢
      omega
theorem mul_sum (n : Int) (l : List Int) : n * l.sum = (l.map (fun z => n * z)).sum := by
  induction l with
  | nil => simp
  | cons x r ih => rw [List.sum_cons, Int.mul_add, ih, List.map_cons, List.sum_cons]
theorem linS_rowP (apart : Int) (k : Rc) (a c : List It) : linS (rowP apart k c) a = (a.map (fun x => (c.map (fun y => x.n * oneP apart k x.r y)).sum)).sum := by
  induction a with
  | nil => rfl
  | cons x r ih =>
    rw [linS, ih, List.map_cons, List.sum_cons, rowP, mul_sum, List.map_map]
    rfl
theorem pairIts_comm (apart : Int) (a c : List It) : canon (pairIts apart a c) = canon (pairIts apart c a) := canon_eq fun k => by
  rw [pairIts_lin, pairIts_lin, linS_rowP, linS_rowP, sum_comm2]
  congr 1
  refine List.map_congr_left fun y _ => ?_
  congr 1
  exact List.map_congr_left fun x _ => oneP_comm apart k x y
theorem pairR_comm (apart : Int) (a c : List It) : pairR a c apart = pairR c a apart := by
  obtain ⟨h1, h2⟩ := bagOr_congr (pairIts_comm apart a c)
  unfold pairR
  rw [h1, h2, Bool.and_comm (bagB a)]
theorem pairR_ok {a c : List It} {apart : Int} (h : (pairR a c apart).2 = 0) : bagB a = true ∧ bagB c = true ∧ 0 ≤ apart ∧ bagB (canon (pairIts apart a c)) = true ∧ (pairR a c apart).1 = canon (pairIts apart a c) := by
  unfold pairR errOr bagOr at *
  by_cases h0 : 0 ≤ apart
  · cases ha : bagB a <;> cases hb : bagB c <;> cases hc : bagB (canon (pairIts apart a c)) <;> simp_all
  · simp [h0] at h
theorem pairIts_nil (apart : Int) (a : List It) : pairIts apart a [] = [] := by
  unfold pairIts rowIts
  simp
theorem pairR_nil {a : List It} {apart : Int} (ha : bagB a = true) (h0 : 0 ≤ apart) : pairR a [] apart = ([], 0) := by
  have e : canon [] = [] := rfl
  simp [pairR, ha, bagB_nil, h0, pairIts_nil, bagOr, errOr, e]
theorem pairIts_two (apart : Int) (a b c : List It) : canon (pairIts apart (canon (a ++ b)) c) = canon (canon (pairIts apart a c) ++ canon (pairIts apart b c)) := canon_eq fun k => by
  rw [sumN_append, (canon_is _).sums, (canon_is _).sums, pairIts_lin, pairIts_lin, pairIts_lin, linS_canon, linS_append]
theorem bilinear {a b c : List It} {apart : Int} (h1 : (addR a b).2 = 0) (h2 : (pairR a c apart).2 = 0) (h3 : (pairR b c apart).2 = 0) :
    pairR (addR a b).1 c apart = addR (pairR a c apart).1 (pairR b c apart).1 := by
  obtain ⟨ha, hb, hab, e1⟩ := addR_ok h1
  obtain ⟨_, hc, h0, hac, e2⟩ := pairR_ok h2
  obtain ⟨_, _, _, hbc, e3⟩ := pairR_ok h3
  obtain ⟨g1, g2⟩ := bagOr_congr (pairIts_two apart a b c)
  rw [e1, e2, e3]
  simp only [pairR, addR, hab, hc, h0, hac, hbc, g1, g2]
  rfl
end Go.Proofs.Bg
end

section
/- Plain law: edits lead from one bag to the other one, and none that do so are shorter. No program, no memory. -/
namespace Go.Proofs.Bg

/-! ### what edits add -/
def edIt (x : Ed) : List It := (if x.d = 1 then [] else [⟨x.old, -x.n⟩]) ++ (if x.d = 2 then [] else [⟨x.new, x.n⟩])
def edIts (l : List Ed) : List It := l.flatMap edIt
def edB (x : Ed) : Bool := withinB x.n 1 1000000 && (if x.d = 1 then recB x.new && decide (x.old = zRc) else if x.d = 2 then recB x.old && decide (x.new = zRc) else if x.d = 3 then recB x.old && (recB x.new && (!decide (x.old = x.new) && decide (x.old.key = x.new.key))) else false)
def doR (b : List It) (l : List Ed) : List It × Int := if bagB b && (decide (l.length ≤ 600) && l.all edB) then (bagOr (b ++ edIts l), errOr (b ++ edIts l)) else ([], 2)
def lenE (l : List Ed) : Int := (l.map (·.n)).sum
theorem lenE_append (a b : List Ed) : lenE (a ++ b) = lenE a + lenE b := by simp [lenE]
theorem edIts_append (a b : List Ed) : edIts (a ++ b) = edIts a ++ edIts b := by simp [edIts]
theorem edIts_cons (x : Ed) (r : List Ed) : edIts (x :: r) = edIt x ++ edIts r := by simp [edIts]

/-! ### what is above 0, and below, of a key -/
def posS (k : Int) : List It → Int
  | [] => 0
  | x :: r => (if x.r.key = k then max x.n 0 else 0) + posS k r
def negS (k : Int) : List It → Int
  | [] => 0
  | x :: r => (if x.r.key = k then max (-x.n) 0 else 0) + negS k r
theorem posS_append (k : Int) (a b : List It) : posS k (a ++ b) = posS k a + posS k b := by
  induction a with
  | nil => simp [posS]
  | cons x r ih => simp only [List.cons_append, posS, ih]; omega
theorem negS_append (k : Int) (a b : List It) : negS k (a ++ b) = negS k a + negS k b := by
  induction a with
  | nil => simp [negS]
  | cons x r ih => simp only [List.cons_append, negS, ih]; omega
theorem posS_neg (k : Int) (l : List It) : posS k (l.map negIt) = negS k l := by
  induction l with
  | nil => rfl
  | cons x r ih => simp only [List.map_cons, posS, negS, ih, negIt]
theorem posS_ins (k : Int) (x : It) (m : List It) : posS k (insIt x m) ≤ posS k (x :: m) := by
  induction m with
  | nil => exact Int.le_refl _
  | cons y r ih =>
    rw [insIt]
    split
    · exact Int.le_refl _
    · split
      · rename_i h
        simp only [posS, h]
        split <;> omega
      · simp only [posS] at ih ⊢
        omega
theorem negS_ins (k : Int) (x : It) (m : List It) : negS k (insIt x m) ≤ negS k (x :: m) := by
  induction m with
  | nil => exact Int.le_refl _
  | cons y r ih =>
    rw [insIt]
    split
    · exact Int.le_refl _
    · split
      · rename_i h
        simp only [negS, h]
        split <;> omega
      · simp only [negS] at ih ⊢
        omega
theorem posS_gather (k : Int) (l : List It) : posS k (gather l) ≤ posS k l := by
  induction l with
  | nil => exact Int.le_refl _
  | cons x r ih => rw [gather]; have := posS_ins k x (gather r); simp only [posS] at this ⊢; omega
theorem negS_gather (k : Int) (l : List It) : negS k (gather l) ≤ negS k l := by
  induction l with
  | nil => exact Int.le_refl _
  | cons x r ih => rw [gather]; have := negS_ins k x (gather r); simp only [negS] at this ⊢; omega
theorem posS_filter (k : Int) (l : List It) : posS k (l.filter (fun x => x.n != 0)) = posS k l := by
  induction l with
  | nil => rfl
  | cons x r ih =>
    rw [List.filter_cons]
    split
    · rw [posS, posS, ih]
    · rename_i h
      have : x.n = 0 := by simpa using h
      rw [ih, posS, this]
      split <;> omega
theorem negS_filter (k : Int) (l : List It) : negS k (l.filter (fun x => x.n != 0)) = negS k l := by
  induction l with
  | nil => rfl
  | cons x r ih =>
    rw [List.filter_cons]
    split
    · rw [negS, negS, ih]
    · rename_i h
      have : x.n = 0 := by simpa using h
      rw [ih, negS, this]
      split <;> omega
theorem posS_canon (k : Int) (l : List It) : posS k (canon l) ≤ posS k l := by rw [canon, posS_filter]; exact posS_gather k l
theorem negS_canon (k : Int) (l : List It) : negS k (canon l) ≤ negS k l := by rw [canon, negS_filter]; exact negS_gather k l

/-! ### how long edits are -/
def sumIt : List It → Int
  | [] => 0
  | x :: r => x.n + sumIt r
theorem sumIt_less (x : It) (r : List It) (k : Int) : sumIt (lessL (x :: r) k) = sumIt (x :: r) - k := by
  simp only [lessL]
  split <;> simp only [sumIt] <;> omega
theorem sumIt_pos {l : List It} (h : PosL l) : 0 ≤ sumIt l := by
  induction l with
  | nil => simp [sumIt]
  | cons x r ih =>
    have := h x List.mem_cons_self
    have := ih (fun y hy => h y (List.mem_cons_of_mem _ hy))
    simp only [sumIt]
    omega
theorem lenE_gone (l : List It) : lenE (l.map goneE) = sumIt l := by
  induction l with
  | nil => rfl
  | cons x r ih => simp only [lenE, List.map_cons, List.sum_cons, goneE, sumIt] at ih ⊢; omega
theorem lenE_say (l : List It) : lenE (l.map sayE) = sumIt l := by
  induction l with
  | nil => rfl
  | cons x r ih => simp only [lenE, List.map_cons, List.sum_cons, sayE, sumIt] at ih ⊢; omega
theorem lessL_pos {x : It} {r : List It} {k : Int} (h : PosL (x :: r)) (hk : 0 < k) (hk2 : k ≤ x.n) : PosL (lessL (x :: r) k) := h.less hk hk2
theorem turnF_len : ∀ (f : Nat) (l1 l2 : List It), PosL l1 → PosL l2 → l1.length + l2.length < f → lenE (turnF f l1 l2) = max (sumIt l1) (sumIt l2)
  | 0, _, _, _, _, h => absurd h (by omega)
  | f + 1, [], l2, _, h2, _ => by
    have := sumIt_pos h2
    rw [turnF, lenE_say]
    simp only [sumIt]
    omega
  | f + 1, x :: r, [], h1, _, _ => by
    have := sumIt_pos h1
    rw [turnF, lenE_gone]
    simp only [sumIt] at this ⊢
    omega
  | f + 1, x :: r, y :: s, h1, h2, hf => by
    have hx := h1 x List.mem_cons_self
    have hy := h2 y List.mem_cons_self
    have hm : 0 < min x.n y.n := by omega
    have e1 := lessL_length x r (min x.n y.n)
    have e2 := lessL_length y s (min x.n y.n)
    have ho : x.n = min x.n y.n ∨ y.n = min x.n y.n := by omega
    simp only [List.length_cons] at hf
    have ih := turnF_len f (lessL (x :: r) (min x.n y.n)) (lessL (y :: s) (min x.n y.n)) (lessL_pos h1 hm (by omega)) (lessL_pos h2 hm (by omega)) (by
      split at e1 <;> split at e2 <;> omega)
    rw [sumIt_less, sumIt_less] at ih
    rw [turnF]
    have : lenE (⟨3, x.r, y.r, min x.n y.n⟩ :: turnF f (lessL (x :: r) (min x.n y.n)) (lessL (y :: s) (min x.n y.n))) = min x.n y.n + lenE (turnF f (lessL (x :: r) (min x.n y.n)) (lessL (y :: s) (min x.n y.n))) := by simp [lenE]
    rw [this, ih]
    omega
theorem sumIt_miss (d : List It) (k : Int) : sumIt (missL d k) = negS k d := by
  unfold missL
  induction d with
  | nil => rfl
  | cons x r ih =>
    by_cases hk : x.r.key = k <;> by_cases hn : x.n < 0
    · simp [List.filter_cons, hk, hn, sumIt, negS, negIt, ih]; omega
    · simp [List.filter_cons, hk, hn, negS, ih]; omega
    · simp [List.filter_cons, hk, negS, ih]
    · simp [List.filter_cons, hk, negS, ih]
theorem sumIt_there (d : List It) (k : Int) : sumIt (thereL d k) = posS k d := by
  unfold thereL
  induction d with
  | nil => rfl
  | cons x r ih =>
    by_cases hk : x.r.key = k <;> by_cases hn : x.n < 0
    · simp [List.filter_cons, hk, hn, posS, ih]; omega
    · simp [List.filter_cons, hk, hn, sumIt, posS, ih]; omega
    · simp [List.filter_cons, hk, posS, ih]
    · simp [List.filter_cons, hk, posS, ih]
theorem edKey_len {d : List It} (h : DOk d) (k : Int) : lenE (edKey d k) = max (negS k d) (posS k d) := by
  have p1 : PosL (missL d k) := sideL_pos h k false
  have p2 : PosL (thereL d k) := sideL_pos h k true
  unfold edKey turnL
  rw [turnF_len _ _ _ p1 p2 (by omega), sumIt_miss, sumIt_there]
theorem editsL_len {d : List It} (h : DOk d) : lenE (editsL d) = ((keysL d).map (fun k => max (negS k d) (posS k d))).sum := by
  unfold editsL
  generalize keysL d = ks
  induction ks with
  | nil => rfl
  | cons k r ih => rw [List.flatMap_cons, lenE_append, ih, edKey_len h, List.map_cons, List.sum_cons]

/-! ### none are shorter -/
/-- The key of an edit. -/
def keyE (x : Ed) : Int := if x.d = 1 then x.new.key else x.old.key
theorem edB_spec {x : Ed} (h : edB x = true) : 1 ≤ x.n ∧ x.n ≤ 1000000 ∧ (x.d = 1 ∨ x.d = 2 ∨ (x.d = 3 ∧ x.old.key = x.new.key)) := by
  unfold edB at h
  rw [Bool.and_eq_true] at h
  obtain ⟨h1, h2⟩ := h
  simp [withinB] at h1
  refine ⟨h1.1, h1.2, ?_⟩
  split at h2
  · left; assumption
  · split at h2
    · right; left; assumption
    · split at h2
      · right; right
        simp at h2
        exact ⟨by assumption, h2.2.2.2⟩
      · cases h2
def ofKey (k : Int) (l : List Ed) : Int := (l.map (fun x => if keyE x = k then x.n else 0)).sum
theorem posS_edIt {x : Ed} (h : edB x = true) (k : Int) : posS k (edIt x) ≤ (if keyE x = k then x.n else 0) ∧ negS k (edIt x) ≤ (if keyE x = k then x.n else 0) := by
  obtain ⟨h1, h2, h3⟩ := edB_spec h
  unfold edIt keyE
  rcases h3 with h3 | h3 | ⟨h3, h4⟩
  · simp only [h3, if_pos, List.nil_append, posS, negS]
    constructor
    · simp [posS]; split <;> omega
    · simp [negS]; split <;> omega
  · simp only [h3]
    constructor
    · simp [posS]; split <;> omega
    · simp [negS]; split <;> omega
  · simp only [h3]
    constructor
    · simp [posS, h4]; split <;> omega
    · simp [negS, h4]; split <;> omega
theorem posS_edIts {l : List Ed} (h : ∀ x ∈ l, edB x = true) (k : Int) : posS k (edIts l) ≤ ofKey k l ∧ negS k (edIts l) ≤ ofKey k l := by
  induction l with
  | nil => exact ⟨Int.le_refl _, Int.le_refl _⟩
  | cons x r ih =>
    obtain ⟨i1, i2⟩ := ih (fun y hy => h y (List.mem_cons_of_mem _ hy))
    obtain ⟨j1, j2⟩ := posS_edIt (h x List.mem_cons_self) k
    rw [edIts_cons, posS_append, negS_append]
    simp only [ofKey, List.map_cons, List.sum_cons] at i1 i2 ⊢
    exact ⟨by omega, by omega⟩
theorem ofKey_cons (k : Int) (x : Ed) (l : List Ed) : ofKey k (x :: l) = (if keyE x = k then x.n else 0) + ofKey k l := by simp [ofKey]
theorem sum_one (ks : List Int) (hn : ks.Nodup) (k n : Int) (h : 0 ≤ n) : (ks.map (fun q => if k = q then n else 0)).sum ≤ n := by
  induction ks with
  | nil => simpa using h
  | cons q r ih =>
    obtain ⟨h1, h2⟩ := List.nodup_cons.1 hn
    rw [List.map_cons, List.sum_cons]
    by_cases e : k = q
    · subst e
      have : (r.map (fun q => if k = q then n else 0)).sum = 0 := by
        clear ih hn h2
        induction r with
        | nil => rfl
        | cons z t ih =>
          simp only [List.mem_cons, not_or] at h1
          rw [List.map_cons, List.sum_cons, if_neg h1.1, ih h1.2]
          rfl
      rw [if_pos rfl, this]
      omega
    · rw [if_neg e]
      have := ih h2
      omega
theorem ofKeys_le {l : List Ed} (h : ∀ x ∈ l, edB x = true) (ks : List Int) (hn : ks.Nodup) : (ks.map (fun k => ofKey k l)).sum ≤ lenE l := by
  induction l with
  | nil =>
    have : (ks.map (fun k => ofKey k [])).sum = 0 := by
      clear hn
      induction ks with
      | nil => rfl
      | cons k r ih => rw [List.map_cons, List.sum_cons, ih]; rfl
    rw [this]
    exact Int.le_refl _
  | cons x r ih =>
    have h1 := ih (fun y hy => h y (List.mem_cons_of_mem _ hy))
    have h2 := (edB_spec (h x List.mem_cons_self)).1
    have h3 := sum_one ks hn (keyE x) x.n (by omega)
    have e : (ks.map (fun k => ofKey k (x :: r))).sum = (ks.map (fun q => if keyE x = q then x.n else 0)).sum + (ks.map (fun k => ofKey k r)).sum := by
      clear hn h1 h3 ih
      induction ks with
      | nil => rfl
      | cons k t ih => rw [List.map_cons, List.sum_cons, ih, ofKey_cons, List.map_cons, List.sum_cons, List.map_cons, List.sum_cons]; omega
    have e2 : lenE (x :: r) = x.n + lenE r := by simp [lenE]
    omega
theorem incrI_nodup {l : List Int} (h : IncrI l) : l.Nodup := List.Pairwise.imp (fun {a b} (hab : a < b) => by omega) h
theorem sum_le_sum (ks : List Int) (f g : Int → Int) (h : ∀ k, f k ≤ g k) : (ks.map f).sum ≤ (ks.map g).sum := by
  induction ks with
  | nil => exact Int.le_refl _
  | cons k r ih => rw [List.map_cons, List.sum_cons, List.map_cons, List.sum_cons]; have := h k; omega
theorem least {a : List It} {l : List Ed} (hl : ∀ x ∈ l, edB x = true) (hd : DOk (diffL a (canon (a ++ edIts l)))) : lenE (editsL (diffL a (canon (a ++ edIts l)))) ≤ lenE l := by
  have e : diffL a (canon (a ++ edIts l)) = canon (edIts l) := canon_eq fun k => by
    rw [sumN_append, (canon_is _).sums, sumN_append, sumN_neg]
    omega
  rw [editsL_len hd, e]
  refine Int.le_trans (sum_le_sum _ _ (fun k => ofKey k l) (fun k => ?_)) (ofKeys_le hl _ (incrI_nodup (keysL_incr _)))
  have h1 := posS_canon k (edIts l)
  have h2 := negS_canon k (edIts l)
  obtain ⟨h3, h4⟩ := posS_edIts hl k
  omega

/-! ### they lead there -/
theorem sumN_less (x : It) (r : List It) (k : Int) (z : Rc) : sumN (lessL (x :: r) k) z = sumN (x :: r) z - (if x.r = z then k else 0) := by
  simp only [lessL]
  split <;> simp only [sumN] <;> split <;> omega
theorem gone_sum (l : List It) (z : Rc) : sumN (edIts (l.map goneE)) z = - sumN l z := by
  induction l with
  | nil => rfl
  | cons x r ih =>
    rw [List.map_cons, edIts_cons, sumN_append, ih]
    simp only [edIt, goneE, sumN]
    simp [sumN]
    split <;> omega
theorem say_sum (l : List It) (z : Rc) : sumN (edIts (l.map sayE)) z = sumN l z := by
  induction l with
  | nil => rfl
  | cons x r ih =>
    rw [List.map_cons, edIts_cons, sumN_append, ih]
    simp only [edIt, sayE, sumN]
    simp [sumN]
theorem turnF_sum : ∀ (f : Nat) (l1 l2 : List It) (z : Rc), PosL l1 → PosL l2 → l1.length + l2.length < f → sumN (edIts (turnF f l1 l2)) z = sumN l2 z - sumN l1 z
  | 0, _, _, _, _, _, h => absurd h (by omega)
  | f + 1, [], l2, z, _, h2, _ => by rw [turnF, say_sum]; simp [sumN]
  | f + 1, x :: r, [], z, h1, _, _ => by rw [turnF, gone_sum]; simp [sumN]
  | f + 1, x :: r, y :: s, z, h1, h2, hf => by
    have hx := h1 x List.mem_cons_self
    have hy := h2 y List.mem_cons_self
    have hm : 0 < min x.n y.n := by omega
    have e1 := lessL_length x r (min x.n y.n)
    have e2 := lessL_length y s (min x.n y.n)
    have ho : x.n = min x.n y.n ∨ y.n = min x.n y.n := by omega
    simp only [List.length_cons] at hf
    have ih := turnF_sum f (lessL (x :: r) (min x.n y.n)) (lessL (y :: s) (min x.n y.n)) z (lessL_pos h1 hm (by omega)) (lessL_pos h2 hm (by omega)) (by
      split at e1 <;> split at e2 <;> omega)
    rw [sumN_less, sumN_less] at ih
    rw [turnF, edIts_cons, sumN_append, ih]
    have : sumN (edIt ⟨3, x.r, y.r, min x.n y.n⟩) z = (if y.r = z then min x.n y.n else 0) - (if x.r = z then min x.n y.n else 0) := by
      simp [edIt, sumN]
      split <;> split <;> omega
    rw [this]
    omega
theorem miss_sum (d : List It) (k : Int) (z : Rc) : sumN (missL d k) z = if z.key = k then - sumN (d.filter (fun x => decide (x.n < 0))) z else 0 := by
  unfold missL
  induction d with
  | nil => simp [sumN]
  | cons x r ih =>
    by_cases hk : x.r.key = k <;> by_cases hn : x.n < 0
    · simp only [List.filter_cons, hk, hn, decide_true, Bool.and_self, if_true, List.map_cons, sumN, ih, negIt]
      by_cases hz : x.r = z
      · subst hz; simp [hk]; omega
      · simp [hz]
    · simp [List.filter_cons, hk, hn, ih]
    · simp only [List.filter_cons, hk, hn, decide_false, decide_true, Bool.false_and, if_true, Bool.false_eq_true, if_false, sumN, ih]
      by_cases hz : x.r = z
      · subst hz; simp [hk]
      · simp [hz]
    · simp [List.filter_cons, hk, hn, ih]
theorem there_sum (d : List It) (k : Int) (z : Rc) : sumN (thereL d k) z = if z.key = k then sumN (d.filter (fun x => !decide (x.n < 0))) z else 0 := by
  unfold thereL
  induction d with
  | nil => simp [sumN]
  | cons x r ih =>
    by_cases hk : x.r.key = k <;> by_cases hn : x.n < 0
    · simp [List.filter_cons, hk, hn, ih]
    · simp only [List.filter_cons, hk, hn, decide_true, decide_false, Bool.not_false, Bool.and_self, if_true, sumN, ih]
      by_cases hz : x.r = z
      · subst hz; simp [hk]
      · simp [hz]
    · simp [List.filter_cons, hk, hn, ih]
    · simp only [List.filter_cons, hk, hn, decide_false, Bool.not_false, Bool.false_and, Bool.false_eq_true, if_false, if_true, sumN, ih]
      by_cases hz : x.r = z
      · subst hz; simp [hk]
      · simp [hz]
theorem edKey_sum {d : List It} (h : DOk d) (k : Int) (z : Rc) : sumN (edIts (edKey d k)) z = if z.key = k then sumN d z else 0 := by
  have p1 : PosL (missL d k) := sideL_pos h k false
  have p2 : PosL (thereL d k) := sideL_pos h k true
  unfold edKey turnL
  rw [turnF_sum _ _ _ _ p1 p2 (by omega), miss_sum, there_sum]
  have := sumN_filter_add (fun x => decide (x.n < 0)) d z
  split <;> omega
theorem edits_sum0 {d : List It} (h : DOk d) (z : Rc) : ∀ ks : List Int, ks.Nodup → sumN (edIts (ks.flatMap (edKey d))) z = if z.key ∈ ks then sumN d z else 0
  | [], _ => by simp [edIts, sumN]
  | k :: r, hn => by
    obtain ⟨h1, h2⟩ := List.nodup_cons.1 hn
    rw [List.flatMap_cons, edIts_append, sumN_append, edKey_sum h, edits_sum0 h z r h2]
    by_cases hk : z.key = k
    · subst hk
      simp [h1]
    · simp [hk]
theorem edits_sum {d : List It} (h : DOk d) (z : Rc) : sumN (edIts (editsL d)) z = sumN d z := by
  unfold editsL
  rw [edits_sum0 h z _ (incrI_nodup (keysL_incr d))]
  split
  · rfl
  · rename_i hc
    rw [sumN_none]
    intro hm
    obtain ⟨x, hx, e⟩ := List.mem_map.1 hm
    exact hc ((keysL_mem d z.key).2 (List.mem_map.2 ⟨x, hx, by rw [e]⟩))
theorem edits_lead {a b : List It} (ha : bagB a = true) (hb : bagB b = true) : canon (a ++ edIts (editsL (diffL a b))) = b := by
  have h := diff_ok ha hb
  refine (canon_eq (l' := b) fun k => ?_).trans (canon_id hb)
  rw [sumN_append, edits_sum h, diffL, (canon_is _).sums, sumN_append, sumN_neg]
  omega

/-! ### each of them is one -/
/-- Records that lie in one list lie not in the other one. -/
def Apart (l1 l2 : List It) : Prop := ∀ x ∈ l1, ∀ y ∈ l2, x.r ≠ y.r
theorem less_mem {x : It} {r : List It} {k : Int} {z : It} (h : z ∈ lessL (x :: r) k) : ∃ y ∈ x :: r, y.r = z.r := by
  simp only [lessL] at h
  split at h
  · exact ⟨z, List.mem_cons_of_mem _ h, rfl⟩
  · rcases List.mem_cons.1 h with rfl | h
    · exact ⟨x, List.mem_cons_self, rfl⟩
    · exact ⟨z, List.mem_cons_of_mem _ h, rfl⟩
/-- What is asked of the items of a side. -/
def SideOk (key : Int) (l : List It) : Prop := ∀ x ∈ l, recB x.r = true ∧ x.r.key = key
theorem less_side {x : It} {r : List It} {k key : Int} (h : SideOk key (x :: r)) : SideOk key (lessL (x :: r) k) := fun z hz => by
  obtain ⟨y, hy, e⟩ := less_mem hz
  rw [← e]
  exact h y hy
theorem less_apart {x y : It} {r s : List It} {j k : Int} (h : Apart (x :: r) (y :: s)) : Apart (lessL (x :: r) j) (lessL (y :: s) k) := fun u hu v hv => by
  obtain ⟨u', hu', e1⟩ := less_mem hu
  obtain ⟨v', hv', e2⟩ := less_mem hv
  rw [← e1, ← e2]
  exact h u' hu' v' hv'
/-- An edit as it must be, but for a number that is too great. -/
def edOk (x : Ed) : Prop := 1 ≤ x.n ∧ (x.n ≤ 1000000 → edB x = true)
theorem turnF_ok (key : Int) : ∀ (f : Nat) (l1 l2 : List It), PosL l1 → PosL l2 → SideOk key l1 → SideOk key l2 → Apart l1 l2 → ∀ e ∈ turnF f l1 l2, edOk e
  | 0, _, _, _, _, _, _, _, e, he => by cases he
  | f + 1, [], l2, _, h2, _, s2, _, e, he => by
    rw [turnF] at he
    obtain ⟨x, hx, rfl⟩ := List.mem_map.1 he
    have := h2 x hx
    have := s2 x hx
    refine ⟨by simp only [sayE]; omega, fun hm => ?_⟩
    simp only [sayE] at hm
    have e4 : withinB x.n 1 1000000 = true := by simp [withinB]; omega
    simp [edB, sayE, e4, this.1]
  | f + 1, x :: r, [], h1, _, s1, _, _, e, he => by
    rw [turnF] at he
    obtain ⟨y, hy, rfl⟩ := List.mem_map.1 he
    have := h1 y hy
    have := s1 y hy
    refine ⟨by simp only [goneE]; omega, fun hm => ?_⟩
    simp only [goneE] at hm
    have e4 : withinB y.n 1 1000000 = true := by simp [withinB]; omega
    simp [edB, goneE, e4, this.1]
  | f + 1, x :: r, y :: s, h1, h2, s1, s2, ap, e, he => by
    have hx := h1 x List.mem_cons_self
    have hy := h2 y List.mem_cons_self
    have hm : 0 < min x.n y.n := by omega
    rw [turnF] at he
    rcases List.mem_cons.1 he with rfl | he
    · have a1 := s1 x List.mem_cons_self
      have a2 := s2 y List.mem_cons_self
      have a3 := ap x List.mem_cons_self y List.mem_cons_self
      refine ⟨by simp only; omega, fun hm2 => ?_⟩
      simp only at hm2
      have e2 : decide (x.r = y.r) = false := by simpa using a3
      have e3 : x.r.key = y.r.key := by rw [a1.2, a2.2]
      have e4 : withinB (min x.n y.n) 1 1000000 = true := by simp [withinB]; omega
      simp [edB, a1.1, a2.1, e2, e3, e4]
    · exact turnF_ok key f _ _ (lessL_pos h1 hm (by omega)) (lessL_pos h2 hm (by omega)) (less_side s1) (less_side s2) (less_apart ap) e he
theorem editsL_ok {a b : List It} (ha : bagB a = true) (hb : bagB b = true) : ∀ e ∈ editsL (diffL a b), edOk e := by
  intro e he
  have h := diff_ok ha hb
  have hrec : ∀ x ∈ diffL a b, recB x.r = true := fun x hx => by
    obtain ⟨y, hy, e⟩ := List.mem_map.1 (canon_mem _ _ (List.mem_map.2 ⟨x, hx, rfl⟩))
    rw [← e]
    have : itB y = true := (List.mem_append.1 hy).elim (((bagB_spec _).1 (bagB_neg ha)).1 y) (((bagB_spec b).1 hb).1 y)
    unfold itB at this
    rw [Bool.and_eq_true] at this
    exact this.1
  obtain ⟨k, hk, he⟩ := List.mem_flatMap.1 he
  refine turnF_ok k _ _ _ (sideL_pos h k false) (sideL_pos h k true) (fun x hx => ?_) (fun x hx => ?_) (fun x hx y hy e => ?_) e he
  · obtain ⟨y, hy, rfl⟩ := List.mem_map.1 hx
    obtain ⟨hy, hc⟩ := List.mem_filter.1 hy
    simp at hc
    exact ⟨hrec y hy, hc.1⟩
  · obtain ⟨hy, hc⟩ := List.mem_filter.1 hx
    simp at hc
    exact ⟨hrec x hy, hc.1⟩
  · obtain ⟨z, hz, rfl⟩ := List.mem_map.1 hx
    obtain ⟨hz, hc⟩ := List.mem_filter.1 hz
    obtain ⟨hy, hd⟩ := List.mem_filter.1 hy
    have n1 := sumN_at (canon_is _).incr hz
    have n2 := sumN_at (canon_is _).incr hy
    simp only [negIt] at e
    rw [e] at n1
    simp at hc hd
    omega
theorem bigE_false {l : List Ed} (h : bigE l = false) : ∀ x ∈ l, x.n ≤ 1000000 := by
  unfold bigE at h
  rw [List.any_eq_false] at h
  intro x hx
  have := h x hx
  simp at this
  exact this
theorem editsR_ok {a b : List It} (h : (editsR a b).2 = 0) : bagB a = true ∧ bagB b = true ∧ bigE (editsL (diffL a b)) = false ∧ (editsR a b).1 = editsL (diffL a b) := by
  unfold editsR at *
  cases ha : bagB a <;> cases hb : bagB b <;> cases hc : bigE (editsL (diffL a b)) <;> simp_all
theorem do_edits {a b : List It} (h : (editsR a b).2 = 0) (hl : (editsR a b).1.length ≤ 600) : doR a (editsR a b).1 = (b, 0) := by
  obtain ⟨ha, hb, hg, e⟩ := editsR_ok h
  rw [e] at hl ⊢
  have hall : (editsL (diffL a b)).all edB = true := List.all_eq_true.2 fun x hx => (editsL_ok ha hb x hx).2 (bigE_false hg x hx)
  simp only [doR, ha, hl, hall, decide_true, bagOr, errOr, edits_lead ha hb, hb]
  rfl

/-! ### and back they are as long -/
def flipE (x : Ed) : Ed := ⟨if x.d = 1 then 2 else if x.d = 2 then 1 else x.d, x.new, x.old, x.n⟩
theorem turnF_flip : ∀ (f : Nat) (l1 l2 : List It), turnF f l2 l1 = (turnF f l1 l2).map flipE
  | 0, _, _ => rfl
  | f + 1, [], [] => rfl
  | f + 1, [], y :: s => by
    rw [turnF, turnF, List.map_map]
    exact List.map_congr_left fun x _ => rfl
  | f + 1, x :: r, [] => by
    rw [turnF, turnF, List.map_map]
    exact List.map_congr_left fun x _ => rfl
  | f + 1, x :: r, y :: s => by
    have e : min y.n x.n = min x.n y.n := by omega
    rw [turnF, turnF, List.map_cons, e, turnF_flip f]
    rfl
theorem miss_neg {d : List It} (h : ∀ x ∈ d, x.n ≠ 0) (k : Int) : missL (d.map negIt) k = thereL d k ∧ thereL (d.map negIt) k = missL d k := by
  unfold missL thereL
  induction d with
  | nil => exact ⟨rfl, rfl⟩
  | cons x r ih =>
    obtain ⟨i1, i2⟩ := ih (fun y hy => h y (List.mem_cons_of_mem _ hy))
    have h0 := h x List.mem_cons_self
    by_cases hk : x.r.key = k
    · by_cases hn : x.n < 0
      · have : ¬ 0 < x.n := by omega
        simp [List.filter_cons, negIt, hk, hn, this] at i1 i2 ⊢
        exact ⟨i1, i2⟩
      · have : 0 < x.n := by omega
        simp [List.filter_cons, negIt, hk, hn, this] at i1 i2 ⊢
        exact ⟨i1, i2⟩
    · simp [List.filter_cons, negIt, hk] at i1 i2 ⊢
      exact ⟨i1, i2⟩
theorem diff_back (a b : List It) : diffL b a = (diffL a b).map negIt := by
  have hi := canon_is (a.map negIt ++ b)
  refine (IsBag.eq ⟨?_, fun x hx => ?_, fun k => ?_⟩).symm
  · have e : ((diffL a b).map negIt).map (·.r) = (diffL a b).map (·.r) := by rw [List.map_map]; exact List.map_congr_left fun x _ => rfl
    rw [e]
    exact hi.incr
  · obtain ⟨y, hy, rfl⟩ := List.mem_map.1 hx
    have := hi.not0 y hy
    simp only [negIt]
    omega
  · rw [sumN_neg, diffL, hi.sums, sumN_append, sumN_append, sumN_neg, sumN_neg]
    omega
theorem keysL_neg (d : List It) : keysL (d.map negIt) = keysL d := by
  induction d with
  | nil => rfl
  | cons x r ih => rw [List.map_cons, keysL, keysL, ih]; rfl
theorem edits_back {a b : List It} : editsL (diffL b a) = (editsL (diffL a b)).map flipE := by
  rw [diff_back, editsL, editsL, keysL_neg, List.map_flatMap]
  congr 1
  funext k
  obtain ⟨m1, m2⟩ := miss_neg (fun x hx => (canon_is (a.map negIt ++ b)).not0 x hx) (d := diffL a b) k
  unfold edKey turnL
  rw [m1, m2, turnF_flip, Nat.add_comm (thereL (diffL a b) k).length]
theorem lenE_flip (l : List Ed) : lenE (l.map flipE) = lenE l := by
  unfold lenE
  rw [List.map_map]
  rfl
theorem bigE_flip (l : List Ed) : bigE (l.map flipE) = bigE l := by
  unfold bigE
  rw [List.any_map]
  rfl
theorem edits_back_ok {a b : List It} (h : (editsR a b).2 = 0) : (editsR b a).2 = 0 ∧ lenE (editsR b a).1 = lenE (editsR a b).1 := by
  obtain ⟨ha, hb, hg, e⟩ := editsR_ok h
  have e2 : editsR b a = ((editsL (diffL a b)).map flipE, 0) := by
    unfold editsR
    rw [edits_back, bigE_flip, hg, ha, hb]
    rfl
  rw [e2, e, lenE_flip]
  exact ⟨rfl, rfl⟩
theorem doR_ok {a : List It} {l : List Ed} (h : (doR a l).2 = 0) : bagB a = true ∧ l.length ≤ 600 ∧ (∀ x ∈ l, edB x = true) ∧ bagB (canon (a ++ edIts l)) = true ∧ (doR a l).1 = canon (a ++ edIts l) := by
  unfold doR bagOr errOr at *
  by_cases hl : l.length ≤ 600
  · cases ha : bagB a <;> cases hb : l.all edB <;> cases hc : bagB (canon (a ++ edIts l)) <;> simp_all
  · simp [hl] at h
theorem edits_least {a : List It} {l : List Ed} (h : (doR a l).2 = 0) : (editsR a (doR a l).1).2 = 3 ∨ ((editsR a (doR a l).1).2 = 0 ∧ lenE (editsR a (doR a l).1).1 ≤ lenE l) := by
  obtain ⟨ha, hl, hall, hc, e⟩ := doR_ok h
  rw [e]
  have hL := least hall (diff_ok ha hc)
  unfold editsR
  rw [ha, hc]
  cases hg : bigE (editsL (diffL a (canon (a ++ edIts l))))
  · exact .inr ⟨rfl, hL⟩
  · exact .inl rfl
end Go.Proofs.Bg
end

section
/- The reference: in, Rec, Less. -/
namespace Go.Proofs.Bg
open Go.RowKit

theorem in_any (x : Int) (w : World) : Calls Tryz.prog 103 #[.int .i64 x] w fun e w' => e = .returned (.bool (withinB x (-1000000000) 1000000000)) ∧ w = w' := by
  by_cases h1 : -1000000000 ≤ x
  · by_cases h2 : x ≤ 1000000000
    · have e : withinB x (-1000000000) 1000000000 = true := by simp [withinB]; omega
      rw [e]
      clear e
      go_enter Tryz.func103, Tryz.ntmps103
      go_wp2
      go_ret
      exact ⟨rfl, rfl⟩
    · have e : withinB x (-1000000000) 1000000000 = false := by simp [withinB]; omega
      have hd : decide (x ≤ 1000000000) = false := by simpa using h2
      rw [e]
      clear e h2
      go_enter Tryz.func103, Tryz.ntmps103
      go_wp2
      go_ret
      exact ⟨rfl, rfl⟩
  · have e : withinB x (-1000000000) 1000000000 = false := by simp [withinB]; omega
    have hd : decide (-1000000000 ≤ x) = false := by simpa using h1
    rw [e]
    clear e h1
    go_enter Tryz.func103, Tryz.ntmps103
    go_wp2
    go_ret
    exact ⟨rfl, rfl⟩

set_option maxRecDepth 100000 in
theorem Rec_any (r : Rc) (w : World) : Calls Tryz.prog 69 #[.agg #[.int .i64 r.at_, .int .i64 r.key, .int .i64 r.val]] w fun e w' => e = .returned (.bool (recB r)) ∧ Below w.heap.size w w' := by
  have HB := Lib.hid (below_new w (.cells #[.int .i64 r.at_, .int .i64 r.key, .int .i64 r.val] 38))
  by_cases h0 : 0 ≤ r.at_
  · have d0 : decide (0 ≤ r.at_) = true := by simpa using h0
    by_cases h1 : r.at_ ≤ 200
    · have d1 : decide (r.at_ ≤ 200) = true := by simpa using h1
      cases hk : withinB r.key (-1000000000) 1000000000 with
      | false =>
        have e : recB r = false := by simp [recB, hk]
        rw [e]
        have HK := Lib.hid hk
        clear e h0 h1 hk
        go_enter Tryz.func69, Tryz.ntmps69
        go_wp2_with (go_at_call 103; refine (in_any _ _).mono ?_; rintro e w' ⟨rfl, rfl⟩; rw [HK.out])
        go_ret
        exact ⟨rfl, HB.out⟩
      | true =>
        have e : recB r = withinB r.val (-1000000000) 1000000000 := by simp [recB, hk]; simp [withinB, h0, h1]
        rw [e]
        have HK := Lib.hid hk
        generalize hv : withinB r.val (-1000000000) 1000000000 = q
        have HV := Lib.hid hv
        clear e h0 h1 hk hv
        go_enter Tryz.func69, Tryz.ntmps69
        go_wp2_with (go_at_call 103; refine (in_any _ _).mono ?_; rintro e w' ⟨rfl, rfl⟩; first | rw [HK.out] | rw [HV.out])
        go_ret
        exact ⟨rfl, HB.out⟩
    · have d1 : decide (r.at_ ≤ 200) = false := by simpa using h1
      have e : recB r = false := by simp [recB, withinB, h1]
      rw [e]
      clear e h1
      go_enter Tryz.func69, Tryz.ntmps69
      go_wp2_with fail
      go_ret
      exact ⟨rfl, HB.out⟩
  · have d0 : decide (0 ≤ r.at_) = false := by simpa using h0
    have e : recB r = false := by simp [recB, withinB, h0]
    rw [e]
    clear e h0
    go_enter Tryz.func69, Tryz.ntmps69
    go_wp2_with fail
    go_ret
    exact ⟨rfl, HB.out⟩

def lessB (x y : Rc) : Bool := decide (rcmp x y < 0)
theorem Less_any (x y : Rc) (w : World) : Calls Tryz.prog 95 #[.agg #[.int .i64 x.at_, .int .i64 x.key, .int .i64 x.val], .agg #[.int .i64 y.at_, .int .i64 y.key, .int .i64 y.val]] w fun e w' => e = .returned (.bool (lessB x y)) ∧ Below w.heap.size w w' := by
  have HB := Lib.hid (((below_new w (.cells #[.int .i64 x.at_, .int .i64 x.key, .int .i64 x.val] 38))).alloc (by simp) (.cells #[.int .i64 y.at_, .int .i64 y.key, .int .i64 y.val] 38))
  have hl : ∀ b : Bool, (b = true ↔ (x.at_ < y.at_ ∨ (x.at_ = y.at_ ∧ (x.key < y.key ∨ (x.key = y.key ∧ x.val < y.val))))) → lessB x y = b := fun b h => by
    rw [← rcmp_neg] at h
    unfold lessB
    cases b
    · have hn : ¬ rcmp x y < 0 := fun hh => Bool.noConfusion (h.2 hh)
      simpa using hn
    · simpa using h.1 rfl
  cases h1 : (x.at_ != y.at_) with
  | true =>
    have e := hl (decide (x.at_ < y.at_)) (by simp at h1 ⊢; omega)
    rw [e]
    generalize hq : decide (x.at_ < y.at_) = q
    clear e hl
    go_enter Tryz.func95, Tryz.ntmps95
    go_wp2_with fail
    go_ret
    exact ⟨rfl, HB.out⟩
  | false =>
    cases h2 : (x.key != y.key) with
    | true =>
      have e := hl (decide (x.key < y.key)) (by simp at h1 h2 ⊢; omega)
      rw [e]
      generalize hq : decide (x.key < y.key) = q
      clear e hl
      go_enter Tryz.func95, Tryz.ntmps95
      go_wp2_with fail
      go_ret
      exact ⟨rfl, HB.out⟩
    | false =>
      have e := hl (decide (x.val < y.val)) (by simp at h1 h2 ⊢; omega)
      rw [e]
      generalize hq : decide (x.val < y.val) = q
      clear e hl
      go_enter Tryz.func95, Tryz.ntmps95
      go_wp2_with fail
      go_ret
      exact ⟨rfl, HB.out⟩

theorem clampR_any (n : Int) (w : World) : Calls Tryz.prog 97 #[.int .i64 n] w fun e w' => e = .returned (.int .i64 (clampI n)) ∧ w = w' := by
  go_enter Tryz.func97, Tryz.ntmps97
  go_wp2
  go_ret
  exact ⟨rfl, rfl⟩
end Go.Proofs.Bg
end

section
/- The contracts of isEdit, and of the reference's Edit. -/
namespace Go.Proofs.Bg
open Go.RowKit

theorem box8 {w1 : World} {g : Nat} {v0 v1 v2 v3 v4 v5 v6 v7 : Value} {T : TypeId} (h : w1.heap[g]? = some (.cells #[v0, v1, v2, v3, v4, v5, v6, v7] T)) :
    w1.cell? ⟨g, 0, none⟩ = some v0 ∧ w1.cell? ⟨g, 1, none⟩ = some v1 ∧ w1.cell? ⟨g, 2, none⟩ = some v2 ∧ w1.cell? ⟨g, 3, none⟩ = some v3 ∧ w1.cell? ⟨g, 4, none⟩ = some v4 ∧ w1.cell? ⟨g, 5, none⟩ = some v5 ∧ w1.cell? ⟨g, 6, none⟩ = some v6 ∧ w1.cell? ⟨g, 7, none⟩ = some v7 :=
  ⟨cell_at_block h rfl, cell_at_block h rfl, cell_at_block h rfl, cell_at_block h rfl, cell_at_block h rfl, cell_at_block h rfl, cell_at_block h rfl, cell_at_block h rfl⟩
theorem block_keep {w1 w2 : World} {g : Nat} {o : Obj} (h : w1.heap[g]? = some o) (hb : Below w1.heap.size w1 w2) : w2.heap[g]? = some o := (hb.block g (Array.getElem?_eq_some_iff.1 h).1).trans h

set_option maxRecDepth 100000 in
set_option maxHeartbeats 4000000 in
theorem isEdit_any (d a k v a' k' v' n : Int) (w : World) :
    Calls Tryz.prog 80 #[.agg #[.int .i64 d, .int .i64 a, .int .i64 k, .int .i64 v, .int .i64 a', .int .i64 k', .int .i64 v', .int .i64 n]] w fun e w' => e = .returned (.bool (edB ⟨d, ⟨a, k, v⟩, ⟨a', k', v'⟩, n⟩)) ∧ Below w.heap.size w w' := by
  have HR1 : Hid (∀ w, Calls Tryz.prog 66 #[.agg #[.int .i64 a, .int .i64 k, .int .i64 v]] w fun e w' => e = .returned (.bool (recB ⟨a, k, v⟩)) ∧ Below w.heap.size w w') := fun w => isRec_any ⟨a, k, v⟩ w
  have HR2 : Hid (∀ w, Calls Tryz.prog 66 #[.agg #[.int .i64 a', .int .i64 k', .int .i64 v']] w fun e w' => e = .returned (.bool (recB ⟨a', k', v'⟩)) ∧ Below w.heap.size w w') := fun w => isRec_any ⟨a', k', v'⟩ w
  cases hn : withinB n 1 1000000 with
  | false =>
    have HN := Lib.hid hn
    have EB : Hid (edB ⟨d, ⟨a, k, v⟩, ⟨a', k', v'⟩, n⟩ = false) := by show _ = _; simp [edB, hn]
    have HB := Lib.hid (below_new w (.cells #[.int .i64 d, .int .i64 a, .int .i64 k, .int .i64 v, .int .i64 a', .int .i64 k', .int .i64 v', .int .i64 n] 79))
    have HK := Lib.hid (new_block w #[.int .i64 d, .int .i64 a, .int .i64 k, .int .i64 v, .int .i64 a', .int .i64 k', .int .i64 v', .int .i64 n] 79)
    clear hn
    go_enter Tryz.func80, Tryz.ntmps80
    go_wp2_with ((go_at_call 67; (with_reducible refine (within_any _ _ _ _).mono ?_); rintro e w' ⟨rfl, rfl⟩; rw [HN.out]))
    go_ret
    rw [EB.out]
    exact ⟨rfl, HB.out⟩
  | true =>
    have HN := Lib.hid hn
    by_cases hd : d = 1
    · subst hd
      cases hr : recB ⟨a', k', v'⟩ with
      | false =>
        have H2 := Lib.hid hr
        have EB : Hid (edB ⟨1, ⟨a, k, v⟩, ⟨a', k', v'⟩, n⟩ = false) := by show _ = _; simp [edB, hn, hr]
        have HB := Lib.hid (below_new w (.cells #[.int .i64 1, .int .i64 a, .int .i64 k, .int .i64 v, .int .i64 a', .int .i64 k', .int .i64 v', .int .i64 n] 79))
        have HK := Lib.hid (new_block w #[.int .i64 1, .int .i64 a, .int .i64 k, .int .i64 v, .int .i64 a', .int .i64 k', .int .i64 v', .int .i64 n] 79)
        clear hn hr
        go_enter Tryz.func80, Tryz.ntmps80
        go_wp2_with (first | (go_at_call 67; (with_reducible refine (within_any _ _ _ _).mono ?_); rintro e w' ⟨rfl, rfl⟩; rw [HN.out]) | (go_at_call 66; (with_reducible refine (HR2.out _).mono ?_); rintro e w' ⟨rfl, hb⟩; rw [H2.out]; have hk' := block_keep HK.out hb; obtain ⟨c0, c1, c2, c3, c4, c5, c6, c7⟩ := box8 hk'; have HBa := Lib.hid (bchain HB.out hb); clear HK HB; have HK := Lib.hid hk'; have HB := Lib.hid HBa.out; clear hk' hb HBa))
        go_ret
        rw [EB.out]
        exact ⟨rfl, HB.out⟩
      | true =>
        have H2 := Lib.hid hr
        by_cases hz : a = 0
        · subst hz
          by_cases hz : k = 0
          · subst hz
            by_cases hz : v = 0
            · subst hz
              have EB : Hid (edB ⟨1, ⟨0, 0, 0⟩, ⟨a', k', v'⟩, n⟩ = true) := by show _ = _; simp [edB, hn, hr, zRc]
              have HB := Lib.hid (below_new w (.cells #[.int .i64 1, .int .i64 0, .int .i64 0, .int .i64 0, .int .i64 a', .int .i64 k', .int .i64 v', .int .i64 n] 79))
              have HK := Lib.hid (new_block w #[.int .i64 1, .int .i64 0, .int .i64 0, .int .i64 0, .int .i64 a', .int .i64 k', .int .i64 v', .int .i64 n] 79)
              clear hn hr
              go_enter Tryz.func80, Tryz.ntmps80
              go_wp2_with (first | (go_at_call 67; (with_reducible refine (within_any _ _ _ _).mono ?_); rintro e w' ⟨rfl, rfl⟩; rw [HN.out]) | (go_at_call 66; (with_reducible refine (HR2.out _).mono ?_); rintro e w' ⟨rfl, hb⟩; rw [H2.out]; have hk' := block_keep HK.out hb; obtain ⟨c0, c1, c2, c3, c4, c5, c6, c7⟩ := box8 hk'; have HBa := Lib.hid (bchain HB.out hb); clear HK HB; have HK := Lib.hid hk'; have HB := Lib.hid HBa.out; clear hk' hb HBa))
              go_ret
              rw [EB.out]
              exact ⟨rfl, HB.out⟩
            · have q : (v == 0) = false := by simpa using hz
              have q1 : (v != 0) = true := by simpa using hz
              have EB : Hid (edB ⟨1, ⟨0, 0, v⟩, ⟨a', k', v'⟩, n⟩ = false) := by show _ = _; simp [edB, hn, hr, zRc, hz]
              have HB := Lib.hid (below_new w (.cells #[.int .i64 1, .int .i64 0, .int .i64 0, .int .i64 v, .int .i64 a', .int .i64 k', .int .i64 v', .int .i64 n] 79))
              have HK := Lib.hid (new_block w #[.int .i64 1, .int .i64 0, .int .i64 0, .int .i64 v, .int .i64 a', .int .i64 k', .int .i64 v', .int .i64 n] 79)
              clear hn hz hr
              go_enter Tryz.func80, Tryz.ntmps80
              go_wp2_with (first | (go_at_call 67; (with_reducible refine (within_any _ _ _ _).mono ?_); rintro e w' ⟨rfl, rfl⟩; rw [HN.out]) | (go_at_call 66; (with_reducible refine (HR2.out _).mono ?_); rintro e w' ⟨rfl, hb⟩; rw [H2.out]; have hk' := block_keep HK.out hb; obtain ⟨c0, c1, c2, c3, c4, c5, c6, c7⟩ := box8 hk'; have HBa := Lib.hid (bchain HB.out hb); clear HK HB; have HK := Lib.hid hk'; have HB := Lib.hid HBa.out; clear hk' hb HBa))
              go_ret
              rw [EB.out]
              exact ⟨rfl, HB.out⟩
          · have q : (k == 0) = false := by simpa using hz
            have q1 : (k != 0) = true := by simpa using hz
            have EB : Hid (edB ⟨1, ⟨0, k, v⟩, ⟨a', k', v'⟩, n⟩ = false) := by show _ = _; simp [edB, hn, hr, zRc, hz]
            have HB := Lib.hid (below_new w (.cells #[.int .i64 1, .int .i64 0, .int .i64 k, .int .i64 v, .int .i64 a', .int .i64 k', .int .i64 v', .int .i64 n] 79))
            have HK := Lib.hid (new_block w #[.int .i64 1, .int .i64 0, .int .i64 k, .int .i64 v, .int .i64 a', .int .i64 k', .int .i64 v', .int .i64 n] 79)
            clear hn hz hr
            go_enter Tryz.func80, Tryz.ntmps80
            go_wp2_with (first | (go_at_call 67; (with_reducible refine (within_any _ _ _ _).mono ?_); rintro e w' ⟨rfl, rfl⟩; rw [HN.out]) | (go_at_call 66; (with_reducible refine (HR2.out _).mono ?_); rintro e w' ⟨rfl, hb⟩; rw [H2.out]; have hk' := block_keep HK.out hb; obtain ⟨c0, c1, c2, c3, c4, c5, c6, c7⟩ := box8 hk'; have HBa := Lib.hid (bchain HB.out hb); clear HK HB; have HK := Lib.hid hk'; have HB := Lib.hid HBa.out; clear hk' hb HBa))
            go_ret
            rw [EB.out]
            exact ⟨rfl, HB.out⟩
        · have q : (a == 0) = false := by simpa using hz
          have q1 : (a != 0) = true := by simpa using hz
          have EB : Hid (edB ⟨1, ⟨a, k, v⟩, ⟨a', k', v'⟩, n⟩ = false) := by show _ = _; simp [edB, hn, hr, zRc, hz]
          have HB := Lib.hid (below_new w (.cells #[.int .i64 1, .int .i64 a, .int .i64 k, .int .i64 v, .int .i64 a', .int .i64 k', .int .i64 v', .int .i64 n] 79))
          have HK := Lib.hid (new_block w #[.int .i64 1, .int .i64 a, .int .i64 k, .int .i64 v, .int .i64 a', .int .i64 k', .int .i64 v', .int .i64 n] 79)
          clear hn hz hr
          go_enter Tryz.func80, Tryz.ntmps80
          go_wp2_with (first | (go_at_call 67; (with_reducible refine (within_any _ _ _ _).mono ?_); rintro e w' ⟨rfl, rfl⟩; rw [HN.out]) | (go_at_call 66; (with_reducible refine (HR2.out _).mono ?_); rintro e w' ⟨rfl, hb⟩; rw [H2.out]; have hk' := block_keep HK.out hb; obtain ⟨c0, c1, c2, c3, c4, c5, c6, c7⟩ := box8 hk'; have HBa := Lib.hid (bchain HB.out hb); clear HK HB; have HK := Lib.hid hk'; have HB := Lib.hid HBa.out; clear hk' hb HBa))
          go_ret
          rw [EB.out]
          exact ⟨rfl, HB.out⟩
    · have q1 : (d == 1) = false := by simpa using hd
      by_cases hd2 : d = 2
      · subst hd2
        clear q1 hd
        cases hr : recB ⟨a, k, v⟩ with
        | false =>
          have H1 := Lib.hid hr
          have EB : Hid (edB ⟨2, ⟨a, k, v⟩, ⟨a', k', v'⟩, n⟩ = false) := by show _ = _; simp [edB, hn, hr]
          have HB := Lib.hid (below_new w (.cells #[.int .i64 2, .int .i64 a, .int .i64 k, .int .i64 v, .int .i64 a', .int .i64 k', .int .i64 v', .int .i64 n] 79))
          have HK := Lib.hid (new_block w #[.int .i64 2, .int .i64 a, .int .i64 k, .int .i64 v, .int .i64 a', .int .i64 k', .int .i64 v', .int .i64 n] 79)
          clear hn hr
          go_enter Tryz.func80, Tryz.ntmps80
          go_wp2_with (first | (go_at_call 67; (with_reducible refine (within_any _ _ _ _).mono ?_); rintro e w' ⟨rfl, rfl⟩; rw [HN.out]) | (go_at_call 66; (with_reducible refine (HR1.out _).mono ?_); rintro e w' ⟨rfl, hb⟩; rw [H1.out]; have hk' := block_keep HK.out hb; obtain ⟨c0, c1, c2, c3, c4, c5, c6, c7⟩ := box8 hk'; have HBa := Lib.hid (bchain HB.out hb); clear HK HB; have HK := Lib.hid hk'; have HB := Lib.hid HBa.out; clear hk' hb HBa))
          go_ret
          rw [EB.out]
          exact ⟨rfl, HB.out⟩
        | true =>
          have H1 := Lib.hid hr
          by_cases hz : a' = 0
          · subst hz
            by_cases hz : k' = 0
            · subst hz
              by_cases hz : v' = 0
              · subst hz
                have EB : Hid (edB ⟨2, ⟨a, k, v⟩, ⟨0, 0, 0⟩, n⟩ = true) := by show _ = _; simp [edB, hn, hr, zRc]
                have HB := Lib.hid (below_new w (.cells #[.int .i64 2, .int .i64 a, .int .i64 k, .int .i64 v, .int .i64 0, .int .i64 0, .int .i64 0, .int .i64 n] 79))
                have HK := Lib.hid (new_block w #[.int .i64 2, .int .i64 a, .int .i64 k, .int .i64 v, .int .i64 0, .int .i64 0, .int .i64 0, .int .i64 n] 79)
                clear hn hr
                go_enter Tryz.func80, Tryz.ntmps80
                go_wp2_with (first | (go_at_call 67; (with_reducible refine (within_any _ _ _ _).mono ?_); rintro e w' ⟨rfl, rfl⟩; rw [HN.out]) | (go_at_call 66; (with_reducible refine (HR1.out _).mono ?_); rintro e w' ⟨rfl, hb⟩; rw [H1.out]; have hk' := block_keep HK.out hb; obtain ⟨c0, c1, c2, c3, c4, c5, c6, c7⟩ := box8 hk'; have HBa := Lib.hid (bchain HB.out hb); clear HK HB; have HK := Lib.hid hk'; have HB := Lib.hid HBa.out; clear hk' hb HBa))
                go_ret
                rw [EB.out]
                exact ⟨rfl, HB.out⟩
              · have q : (v' == 0) = false := by simpa using hz
                have q1 : (v' != 0) = true := by simpa using hz
                have EB : Hid (edB ⟨2, ⟨a, k, v⟩, ⟨0, 0, v'⟩, n⟩ = false) := by show _ = _; simp [edB, hn, hr, zRc, hz]
                have HB := Lib.hid (below_new w (.cells #[.int .i64 2, .int .i64 a, .int .i64 k, .int .i64 v, .int .i64 0, .int .i64 0, .int .i64 v', .int .i64 n] 79))
                have HK := Lib.hid (new_block w #[.int .i64 2, .int .i64 a, .int .i64 k, .int .i64 v, .int .i64 0, .int .i64 0, .int .i64 v', .int .i64 n] 79)
                clear hn hz hr
                go_enter Tryz.func80, Tryz.ntmps80
                go_wp2_with (first | (go_at_call 67; (with_reducible refine (within_any _ _ _ _).mono ?_); rintro e w' ⟨rfl, rfl⟩; rw [HN.out]) | (go_at_call 66; (with_reducible refine (HR1.out _).mono ?_); rintro e w' ⟨rfl, hb⟩; rw [H1.out]; have hk' := block_keep HK.out hb; obtain ⟨c0, c1, c2, c3, c4, c5, c6, c7⟩ := box8 hk'; have HBa := Lib.hid (bchain HB.out hb); clear HK HB; have HK := Lib.hid hk'; have HB := Lib.hid HBa.out; clear hk' hb HBa))
                go_ret
                rw [EB.out]
                exact ⟨rfl, HB.out⟩
            · have q : (k' == 0) = false := by simpa using hz
              have q1 : (k' != 0) = true := by simpa using hz
              have EB : Hid (edB ⟨2, ⟨a, k, v⟩, ⟨0, k', v'⟩, n⟩ = false) := by show _ = _; simp [edB, hn, hr, zRc, hz]
              have HB := Lib.hid (below_new w (.cells #[.int .i64 2, .int .i64 a, .int .i64 k, .int .i64 v, .int .i64 0, .int .i64 k', .int .i64 v', .int .i64 n] 79))
              have HK := Lib.hid (new_block w #[.int .i64 2, .int .i64 a, .int .i64 k, .int .i64 v, .int .i64 0, .int .i64 k', .int .i64 v', .int .i64 n] 79)
              clear hn hz hr
              go_enter Tryz.func80, Tryz.ntmps80
              go_wp2_with (first | (go_at_call 67; (with_reducible refine (within_any _ _ _ _).mono ?_); rintro e w' ⟨rfl, rfl⟩; rw [HN.out]) | (go_at_call 66; (with_reducible refine (HR1.out _).mono ?_); rintro e w' ⟨rfl, hb⟩; rw [H1.out]; have hk' := block_keep HK.out hb; obtain ⟨c0, c1, c2, c3, c4, c5, c6, c7⟩ := box8 hk'; have HBa := Lib.hid (bchain HB.out hb); clear HK HB; have HK := Lib.hid hk'; have HB := Lib.hid HBa.out; clear hk' hb HBa))
              go_ret
              rw [EB.out]
              exact ⟨rfl, HB.out⟩
          · have q : (a' == 0) = false := by simpa using hz
            have q1 : (a' != 0) = true := by simpa using hz
            have EB : Hid (edB ⟨2, ⟨a, k, v⟩, ⟨a', k', v'⟩, n⟩ = false) := by show _ = _; simp [edB, hn, hr, zRc, hz]
            have HB := Lib.hid (below_new w (.cells #[.int .i64 2, .int .i64 a, .int .i64 k, .int .i64 v, .int .i64 a', .int .i64 k', .int .i64 v', .int .i64 n] 79))
            have HK := Lib.hid (new_block w #[.int .i64 2, .int .i64 a, .int .i64 k, .int .i64 v, .int .i64 a', .int .i64 k', .int .i64 v', .int .i64 n] 79)
            clear hn hz hr
            go_enter Tryz.func80, Tryz.ntmps80
            go_wp2_with (first | (go_at_call 67; (with_reducible refine (within_any _ _ _ _).mono ?_); rintro e w' ⟨rfl, rfl⟩; rw [HN.out]) | (go_at_call 66; (with_reducible refine (HR1.out _).mono ?_); rintro e w' ⟨rfl, hb⟩; rw [H1.out]; have hk' := block_keep HK.out hb; obtain ⟨c0, c1, c2, c3, c4, c5, c6, c7⟩ := box8 hk'; have HBa := Lib.hid (bchain HB.out hb); clear HK HB; have HK := Lib.hid hk'; have HB := Lib.hid HBa.out; clear hk' hb HBa))
            go_ret
            rw [EB.out]
            exact ⟨rfl, HB.out⟩
      · have q2 : (d == 2) = false := by simpa using hd2
        by_cases hd3 : d = 3
        · subst hd3
          clear q1 q2 hd hd2
          cases hr1 : recB ⟨a, k, v⟩ with
          | false =>
            have H1 := Lib.hid hr1
            have EB : Hid (edB ⟨3, ⟨a, k, v⟩, ⟨a', k', v'⟩, n⟩ = false) := by show _ = _; simp [edB, hn, hr1]
            have HB := Lib.hid (below_new w (.cells #[.int .i64 3, .int .i64 a, .int .i64 k, .int .i64 v, .int .i64 a', .int .i64 k', .int .i64 v', .int .i64 n] 79))
            have HK := Lib.hid (new_block w #[.int .i64 3, .int .i64 a, .int .i64 k, .int .i64 v, .int .i64 a', .int .i64 k', .int .i64 v', .int .i64 n] 79)
            clear hn hr1
            go_enter Tryz.func80, Tryz.ntmps80
            go_wp2_with (first | (go_at_call 67; (with_reducible refine (within_any _ _ _ _).mono ?_); rintro e w' ⟨rfl, rfl⟩; rw [HN.out]) | (go_at_call 66; (with_reducible refine (HR1.out _).mono ?_); rintro e w' ⟨rfl, hb⟩; rw [H1.out]; have hk' := block_keep HK.out hb; obtain ⟨c0, c1, c2, c3, c4, c5, c6, c7⟩ := box8 hk'; have HBa := Lib.hid (bchain HB.out hb); clear HK HB; have HK := Lib.hid hk'; have HB := Lib.hid HBa.out; clear hk' hb HBa))
            go_ret
            rw [EB.out]
            exact ⟨rfl, HB.out⟩
          | true =>
            have H1 := Lib.hid hr1
            cases hr2 : recB ⟨a', k', v'⟩ with
            | false =>
              have H2 := Lib.hid hr2
              have EB : Hid (edB ⟨3, ⟨a, k, v⟩, ⟨a', k', v'⟩, n⟩ = false) := by show _ = _; simp [edB, hn, hr1, hr2]
              have HB := Lib.hid (below_new w (.cells #[.int .i64 3, .int .i64 a, .int .i64 k, .int .i64 v, .int .i64 a', .int .i64 k', .int .i64 v', .int .i64 n] 79))
              have HK := Lib.hid (new_block w #[.int .i64 3, .int .i64 a, .int .i64 k, .int .i64 v, .int .i64 a', .int .i64 k', .int .i64 v', .int .i64 n] 79)
              clear hn hr1 hr2
              go_enter Tryz.func80, Tryz.ntmps80
              go_wp2_with (first | (go_at_call 67; (with_reducible refine (within_any _ _ _ _).mono ?_); rintro e w' ⟨rfl, rfl⟩; rw [HN.out]) | (go_at_call 66; (with_reducible refine (HR1.out _).mono ?_); rintro e w' ⟨rfl, hb⟩; rw [H1.out]; have hk' := block_keep HK.out hb; obtain ⟨c0, c1, c2, c3, c4, c5, c6, c7⟩ := box8 hk'; have HBa := Lib.hid (bchain HB.out hb); clear HK HB; have HK := Lib.hid hk'; have HB := Lib.hid HBa.out; clear hk' hb HBa) | (go_at_call 66; (with_reducible refine (HR2.out _).mono ?_); rintro e w' ⟨rfl, hb⟩; rw [H2.out]; have hk' := block_keep HK.out hb; obtain ⟨c0, c1, c2, c3, c4, c5, c6, c7⟩ := box8 hk'; have HBa := Lib.hid (bchain HB.out hb); clear HK HB; have HK := Lib.hid hk'; have HB := Lib.hid HBa.out; clear hk' hb HBa))
              go_ret
              rw [EB.out]
              exact ⟨rfl, HB.out⟩
            | true =>
              have H2 := Lib.hid hr2
              by_cases ha : a = a'
              · subst ha
                by_cases hk : k = k'
                · subst hk
                  by_cases hv : v = v'
                  · subst hv
                    clear HR2 H2
                    have EB : Hid (edB ⟨3, ⟨a, k, v⟩, ⟨a, k, v⟩, n⟩ = false) := by show _ = _; simp [edB, hn]
                    have HB := Lib.hid (below_new w (.cells #[.int .i64 3, .int .i64 a, .int .i64 k, .int .i64 v, .int .i64 a, .int .i64 k, .int .i64 v, .int .i64 n] 79))
                    have HK := Lib.hid (new_block w #[.int .i64 3, .int .i64 a, .int .i64 k, .int .i64 v, .int .i64 a, .int .i64 k, .int .i64 v, .int .i64 n] 79)
                    clear hn hr1 hr2
                    go_enter Tryz.func80, Tryz.ntmps80
                    go_wp2_with (first | (go_at_call 67; (with_reducible refine (within_any _ _ _ _).mono ?_); rintro e w' ⟨rfl, rfl⟩; rw [HN.out]) | (go_at_call 66; (with_reducible refine (HR1.out _).mono ?_); rintro e w' ⟨rfl, hb⟩; rw [H1.out]; have hk' := block_keep HK.out hb; obtain ⟨c0, c1, c2, c3, c4, c5, c6, c7⟩ := box8 hk'; have HBa := Lib.hid (bchain HB.out hb); clear HK HB; have HK := Lib.hid hk'; have HB := Lib.hid HBa.out; clear hk' hb HBa))
                    go_ret
                    rw [EB.out]
                    exact ⟨rfl, HB.out⟩
                  · have q3 : (v == v') = false := by simpa using hv
                    have q4 : (v != v') = true := by simpa using hv
                    have EB : Hid (edB ⟨3, ⟨a, k, v⟩, ⟨a, k, v'⟩, n⟩ = true) := by show _ = _; simp [edB, hn, hr1, hr2, hv]
                    have HB := Lib.hid (below_new w (.cells #[.int .i64 3, .int .i64 a, .int .i64 k, .int .i64 v, .int .i64 a, .int .i64 k, .int .i64 v', .int .i64 n] 79))
                    have HK := Lib.hid (new_block w #[.int .i64 3, .int .i64 a, .int .i64 k, .int .i64 v, .int .i64 a, .int .i64 k, .int .i64 v', .int .i64 n] 79)
                    clear hn hr1 hr2 hv
                    go_enter Tryz.func80, Tryz.ntmps80
                    go_wp2_with (first | (go_at_call 67; (with_reducible refine (within_any _ _ _ _).mono ?_); rintro e w' ⟨rfl, rfl⟩; rw [HN.out]) | (go_at_call 66; (with_reducible refine (HR1.out _).mono ?_); rintro e w' ⟨rfl, hb⟩; rw [H1.out]; have hk' := block_keep HK.out hb; obtain ⟨c0, c1, c2, c3, c4, c5, c6, c7⟩ := box8 hk'; have HBa := Lib.hid (bchain HB.out hb); clear HK HB; have HK := Lib.hid hk'; have HB := Lib.hid HBa.out; clear hk' hb HBa) | (go_at_call 66; (with_reducible refine (HR2.out _).mono ?_); rintro e w' ⟨rfl, hb⟩; rw [H2.out]; have hk' := block_keep HK.out hb; obtain ⟨c0, c1, c2, c3, c4, c5, c6, c7⟩ := box8 hk'; have HBa := Lib.hid (bchain HB.out hb); clear HK HB; have HK := Lib.hid hk'; have HB := Lib.hid HBa.out; clear hk' hb HBa))
                    go_ret
                    rw [EB.out]
                    exact ⟨rfl, HB.out⟩
                · have q3 : (k == k') = false := by simpa using hk
                  have q4 : (k != k') = true := by simpa using hk
                  have EB : Hid (edB ⟨3, ⟨a, k, v⟩, ⟨a, k', v'⟩, n⟩ = false) := by show _ = _; simp [edB, hn, hr1, hr2, hk]
                  have HB := Lib.hid (below_new w (.cells #[.int .i64 3, .int .i64 a, .int .i64 k, .int .i64 v, .int .i64 a, .int .i64 k', .int .i64 v', .int .i64 n] 79))
                  have HK := Lib.hid (new_block w #[.int .i64 3, .int .i64 a, .int .i64 k, .int .i64 v, .int .i64 a, .int .i64 k', .int .i64 v', .int .i64 n] 79)
                  clear hn hr1 hr2 hk
                  go_enter Tryz.func80, Tryz.ntmps80
                  go_wp2_with (first | (go_at_call 67; (with_reducible refine (within_any _ _ _ _).mono ?_); rintro e w' ⟨rfl, rfl⟩; rw [HN.out]) | (go_at_call 66; (with_reducible refine (HR1.out _).mono ?_); rintro e w' ⟨rfl, hb⟩; rw [H1.out]; have hk' := block_keep HK.out hb; obtain ⟨c0, c1, c2, c3, c4, c5, c6, c7⟩ := box8 hk'; have HBa := Lib.hid (bchain HB.out hb); clear HK HB; have HK := Lib.hid hk'; have HB := Lib.hid HBa.out; clear hk' hb HBa) | (go_at_call 66; (with_reducible refine (HR2.out _).mono ?_); rintro e w' ⟨rfl, hb⟩; rw [H2.out]; have hk' := block_keep HK.out hb; obtain ⟨c0, c1, c2, c3, c4, c5, c6, c7⟩ := box8 hk'; have HBa := Lib.hid (bchain HB.out hb); clear HK HB; have HK := Lib.hid hk'; have HB := Lib.hid HBa.out; clear hk' hb HBa))
                  go_ret
                  rw [EB.out]
                  exact ⟨rfl, HB.out⟩
              · have q3 : (a == a') = false := by simpa using ha
                have q4 : (a != a') = true := by simpa using ha
                by_cases hk : k = k'
                · subst hk
                  have EB : Hid (edB ⟨3, ⟨a, k, v⟩, ⟨a', k, v'⟩, n⟩ = true) := by show _ = _; simp [edB, hn, hr1, hr2, ha]
                  have HB := Lib.hid (below_new w (.cells #[.int .i64 3, .int .i64 a, .int .i64 k, .int .i64 v, .int .i64 a', .int .i64 k, .int .i64 v', .int .i64 n] 79))
                  have HK := Lib.hid (new_block w #[.int .i64 3, .int .i64 a, .int .i64 k, .int .i64 v, .int .i64 a', .int .i64 k, .int .i64 v', .int .i64 n] 79)
                  clear hn hr1 hr2 ha
                  go_enter Tryz.func80, Tryz.ntmps80
                  go_wp2_with (first | (go_at_call 67; (with_reducible refine (within_any _ _ _ _).mono ?_); rintro e w' ⟨rfl, rfl⟩; rw [HN.out]) | (go_at_call 66; (with_reducible refine (HR1.out _).mono ?_); rintro e w' ⟨rfl, hb⟩; rw [H1.out]; have hk' := block_keep HK.out hb; obtain ⟨c0, c1, c2, c3, c4, c5, c6, c7⟩ := box8 hk'; have HBa := Lib.hid (bchain HB.out hb); clear HK HB; have HK := Lib.hid hk'; have HB := Lib.hid HBa.out; clear hk' hb HBa) | (go_at_call 66; (with_reducible refine (HR2.out _).mono ?_); rintro e w' ⟨rfl, hb⟩; rw [H2.out]; have hk' := block_keep HK.out hb; obtain ⟨c0, c1, c2, c3, c4, c5, c6, c7⟩ := box8 hk'; have HBa := Lib.hid (bchain HB.out hb); clear HK HB; have HK := Lib.hid hk'; have HB := Lib.hid HBa.out; clear hk' hb HBa))
                  go_ret
                  rw [EB.out]
                  exact ⟨rfl, HB.out⟩
                · have q5 : (k == k') = false := by simpa using hk
                  have q6 : (k != k') = true := by simpa using hk
                  have EB : Hid (edB ⟨3, ⟨a, k, v⟩, ⟨a', k', v'⟩, n⟩ = false) := by show _ = _; simp [edB, hn, hr1, hr2, hk]
                  have HB := Lib.hid (below_new w (.cells #[.int .i64 3, .int .i64 a, .int .i64 k, .int .i64 v, .int .i64 a', .int .i64 k', .int .i64 v', .int .i64 n] 79))
                  have HK := Lib.hid (new_block w #[.int .i64 3, .int .i64 a, .int .i64 k, .int .i64 v, .int .i64 a', .int .i64 k', .int .i64 v', .int .i64 n] 79)
                  clear hn hr1 hr2 ha hk
                  go_enter Tryz.func80, Tryz.ntmps80
                  go_wp2_with (first | (go_at_call 67; (with_reducible refine (within_any _ _ _ _).mono ?_); rintro e w' ⟨rfl, rfl⟩; rw [HN.out]) | (go_at_call 66; (with_reducible refine (HR1.out _).mono ?_); rintro e w' ⟨rfl, hb⟩; rw [H1.out]; have hk' := block_keep HK.out hb; obtain ⟨c0, c1, c2, c3, c4, c5, c6, c7⟩ := box8 hk'; have HBa := Lib.hid (bchain HB.out hb); clear HK HB; have HK := Lib.hid hk'; have HB := Lib.hid HBa.out; clear hk' hb HBa) | (go_at_call 66; (with_reducible refine (HR2.out _).mono ?_); rintro e w' ⟨rfl, hb⟩; rw [H2.out]; have hk' := block_keep HK.out hb; obtain ⟨c0, c1, c2, c3, c4, c5, c6, c7⟩ := box8 hk'; have HBa := Lib.hid (bchain HB.out hb); clear HK HB; have HK := Lib.hid hk'; have HB := Lib.hid HBa.out; clear hk' hb HBa))
                  go_ret
                  rw [EB.out]
                  exact ⟨rfl, HB.out⟩
        · have q3 : (d == 3) = false := by simpa using hd3
          have EB : Hid (edB ⟨d, ⟨a, k, v⟩, ⟨a', k', v'⟩, n⟩ = false) := by show _ = _; simp [edB, hd, hd2, hd3]
          have HB := Lib.hid (below_new w (.cells #[.int .i64 d, .int .i64 a, .int .i64 k, .int .i64 v, .int .i64 a', .int .i64 k', .int .i64 v', .int .i64 n] 79))
          have HK := Lib.hid (new_block w #[.int .i64 d, .int .i64 a, .int .i64 k, .int .i64 v, .int .i64 a', .int .i64 k', .int .i64 v', .int .i64 n] 79)
          clear hn hd hd2 hd3
          go_enter Tryz.func80, Tryz.ntmps80
          go_wp2_with ((go_at_call 67; (with_reducible refine (within_any _ _ _ _).mono ?_); rintro e w' ⟨rfl, rfl⟩; rw [HN.out]))
          go_ret
          rw [EB.out]
          exact ⟨rfl, HB.out⟩

set_option maxRecDepth 100000 in
set_option maxHeartbeats 4000000 in
theorem Edit_any (d a k v a' k' v' n : Int) (w : World) :
    Calls Tryz.prog 81 #[.agg #[.int .i64 d, .int .i64 a, .int .i64 k, .int .i64 v, .int .i64 a', .int .i64 k', .int .i64 v', .int .i64 n]] w fun e w' => e = .returned (.bool (edB ⟨d, ⟨a, k, v⟩, ⟨a', k', v'⟩, n⟩)) ∧ Below w.heap.size w w' := by
  have HR1 : Hid (∀ w, Calls Tryz.prog 69 #[.agg #[.int .i64 a, .int .i64 k, .int .i64 v]] w fun e w' => e = .returned (.bool (recB ⟨a, k, v⟩)) ∧ Below w.heap.size w w') := fun w => Rec_any ⟨a, k, v⟩ w
  have HR2 : Hid (∀ w, Calls Tryz.prog 69 #[.agg #[.int .i64 a', .int .i64 k', .int .i64 v']] w fun e w' => e = .returned (.bool (recB ⟨a', k', v'⟩)) ∧ Below w.heap.size w w') := fun w => Rec_any ⟨a', k', v'⟩ w
  by_cases hlo : n < 1
  · have hlod : decide (n < 1) = true := by simpa using hlo
    have EB : Hid (edB ⟨d, ⟨a, k, v⟩, ⟨a', k', v'⟩, n⟩ = false) := by show _ = _; have h0 : withinB n 1 1000000 = false := (by simp [withinB]; omega); simp [edB, h0]
    have HB := Lib.hid (below_new w (.cells #[.int .i64 d, .int .i64 a, .int .i64 k, .int .i64 v, .int .i64 a', .int .i64 k', .int .i64 v', .int .i64 n] 79))
    have HK := Lib.hid (new_block w #[.int .i64 d, .int .i64 a, .int .i64 k, .int .i64 v, .int .i64 a', .int .i64 k', .int .i64 v', .int .i64 n] 79)
    clear hlo
    go_enter Tryz.func81, Tryz.ntmps81
    go_wp2_with fail
    go_ret
    rw [EB.out]
    exact ⟨rfl, HB.out⟩
  · have hlod : decide (n < 1) = false := by simpa using hlo
    by_cases hhi : 1000000 < n
    · have hhid : decide (1000000 < n) = true := by simpa using hhi
      have EB : Hid (edB ⟨d, ⟨a, k, v⟩, ⟨a', k', v'⟩, n⟩ = false) := by show _ = _; have h0 : withinB n 1 1000000 = false := (by simp [withinB]; omega); simp [edB, h0]
      have HB := Lib.hid (below_new w (.cells #[.int .i64 d, .int .i64 a, .int .i64 k, .int .i64 v, .int .i64 a', .int .i64 k', .int .i64 v', .int .i64 n] 79))
      have HK := Lib.hid (new_block w #[.int .i64 d, .int .i64 a, .int .i64 k, .int .i64 v, .int .i64 a', .int .i64 k', .int .i64 v', .int .i64 n] 79)
      clear hlo hhi
      go_enter Tryz.func81, Tryz.ntmps81
      go_wp2_with fail
      go_ret
      rw [EB.out]
      exact ⟨rfl, HB.out⟩
    · have hhid : decide (1000000 < n) = false := by simpa using hhi
      have hn : withinB n 1 1000000 = true := by simp [withinB]; omega
      clear hlo hhi
      by_cases hd : d = 1
      · subst hd
        by_cases hz : a = 0
        · subst hz
          by_cases hz : k = 0
          · subst hz
            by_cases hz : v = 0
            · subst hz
              cases hr : recB ⟨a', k', v'⟩ with
              | false =>
                have H2 := Lib.hid hr
                have EB : Hid (edB ⟨1, ⟨0, 0, 0⟩, ⟨a', k', v'⟩, n⟩ = false) := by show _ = _; simp [edB, hn, hr, zRc]
                have HB := Lib.hid (below_new w (.cells #[.int .i64 1, .int .i64 0, .int .i64 0, .int .i64 0, .int .i64 a', .int .i64 k', .int .i64 v', .int .i64 n] 79))
                have HK := Lib.hid (new_block w #[.int .i64 1, .int .i64 0, .int .i64 0, .int .i64 0, .int .i64 a', .int .i64 k', .int .i64 v', .int .i64 n] 79)
                clear hn hr
                go_enter Tryz.func81, Tryz.ntmps81
                go_wp2_with ((go_at_call 69; (with_reducible refine (HR2.out _).mono ?_); rintro e w' ⟨rfl, hb⟩; rw [H2.out]; have hk' := block_keep HK.out hb; obtain ⟨c0, c1, c2, c3, c4, c5, c6, c7⟩ := box8 hk'; have HBa := Lib.hid (bchain HB.out hb); clear HK HB; have HK := Lib.hid hk'; have HB := Lib.hid HBa.out; clear hk' hb HBa))
                go_ret
                rw [EB.out]
                exact ⟨rfl, HB.out⟩
              | true =>
                have H2 := Lib.hid hr
                have EB : Hid (edB ⟨1, ⟨0, 0, 0⟩, ⟨a', k', v'⟩, n⟩ = true) := by show _ = _; simp [edB, hn, hr, zRc]
                have HB := Lib.hid (below_new w (.cells #[.int .i64 1, .int .i64 0, .int .i64 0, .int .i64 0, .int .i64 a', .int .i64 k', .int .i64 v', .int .i64 n] 79))
                have HK := Lib.hid (new_block w #[.int .i64 1, .int .i64 0, .int .i64 0, .int .i64 0, .int .i64 a', .int .i64 k', .int .i64 v', .int .i64 n] 79)
                clear hn hr
                go_enter Tryz.func81, Tryz.ntmps81
                go_wp2_with ((go_at_call 69; (with_reducible refine (HR2.out _).mono ?_); rintro e w' ⟨rfl, hb⟩; rw [H2.out]; have hk' := block_keep HK.out hb; obtain ⟨c0, c1, c2, c3, c4, c5, c6, c7⟩ := box8 hk'; have HBa := Lib.hid (bchain HB.out hb); clear HK HB; have HK := Lib.hid hk'; have HB := Lib.hid HBa.out; clear hk' hb HBa))
                go_ret
                rw [EB.out]
                exact ⟨rfl, HB.out⟩
            · have q : (v == 0) = false := by simpa using hz
              have q1 : (v != 0) = true := by simpa using hz
              have EB : Hid (edB ⟨1, ⟨0, 0, v⟩, ⟨a', k', v'⟩, n⟩ = false) := by show _ = _; simp [edB, hn, zRc, hz]
              have HB := Lib.hid (below_new w (.cells #[.int .i64 1, .int .i64 0, .int .i64 0, .int .i64 v, .int .i64 a', .int .i64 k', .int .i64 v', .int .i64 n] 79))
              have HK := Lib.hid (new_block w #[.int .i64 1, .int .i64 0, .int .i64 0, .int .i64 v, .int .i64 a', .int .i64 k', .int .i64 v', .int .i64 n] 79)
              clear hn hz
              go_enter Tryz.func81, Tryz.ntmps81
              go_wp2_with fail
              go_ret
              rw [EB.out]
              exact ⟨rfl, HB.out⟩
          · have q : (k == 0) = false := by simpa using hz
            have q1 : (k != 0) = true := by simpa using hz
            have EB : Hid (edB ⟨1, ⟨0, k, v⟩, ⟨a', k', v'⟩, n⟩ = false) := by show _ = _; simp [edB, hn, zRc, hz]
            have HB := Lib.hid (below_new w (.cells #[.int .i64 1, .int .i64 0, .int .i64 k, .int .i64 v, .int .i64 a', .int .i64 k', .int .i64 v', .int .i64 n] 79))
            have HK := Lib.hid (new_block w #[.int .i64 1, .int .i64 0, .int .i64 k, .int .i64 v, .int .i64 a', .int .i64 k', .int .i64 v', .int .i64 n] 79)
            clear hn hz
            go_enter Tryz.func81, Tryz.ntmps81
            go_wp2_with fail
            go_ret
            rw [EB.out]
            exact ⟨rfl, HB.out⟩
        · have q : (a == 0) = false := by simpa using hz
          have q1 : (a != 0) = true := by simpa using hz
          have EB : Hid (edB ⟨1, ⟨a, k, v⟩, ⟨a', k', v'⟩, n⟩ = false) := by show _ = _; simp [edB, hn, zRc, hz]
          have HB := Lib.hid (below_new w (.cells #[.int .i64 1, .int .i64 a, .int .i64 k, .int .i64 v, .int .i64 a', .int .i64 k', .int .i64 v', .int .i64 n] 79))
          have HK := Lib.hid (new_block w #[.int .i64 1, .int .i64 a, .int .i64 k, .int .i64 v, .int .i64 a', .int .i64 k', .int .i64 v', .int .i64 n] 79)
          clear hn hz
          go_enter Tryz.func81, Tryz.ntmps81
          go_wp2_with fail
          go_ret
          rw [EB.out]
          exact ⟨rfl, HB.out⟩
      · have q1 : (d == 1) = false := by simpa using hd
        by_cases hd2 : d = 2
        · subst hd2
          clear q1 hd
          by_cases hz : a' = 0
          · subst hz
            by_cases hz : k' = 0
            · subst hz
              by_cases hz : v' = 0
              · subst hz
                cases hr : recB ⟨a, k, v⟩ with
                | false =>
                  have H1 := Lib.hid hr
                  have EB : Hid (edB ⟨2, ⟨a, k, v⟩, ⟨0, 0, 0⟩, n⟩ = false) := by show _ = _; simp [edB, hn, hr, zRc]
                  have HB := Lib.hid (below_new w (.cells #[.int .i64 2, .int .i64 a, .int .i64 k, .int .i64 v, .int .i64 0, .int .i64 0, .int .i64 0, .int .i64 n] 79))
                  have HK := Lib.hid (new_block w #[.int .i64 2, .int .i64 a, .int .i64 k, .int .i64 v, .int .i64 0, .int .i64 0, .int .i64 0, .int .i64 n] 79)
                  clear hn hr
                  go_enter Tryz.func81, Tryz.ntmps81
                  go_wp2_with ((go_at_call 69; (with_reducible refine (HR1.out _).mono ?_); rintro e w' ⟨rfl, hb⟩; rw [H1.out]; have hk' := block_keep HK.out hb; obtain ⟨c0, c1, c2, c3, c4, c5, c6, c7⟩ := box8 hk'; have HBa := Lib.hid (bchain HB.out hb); clear HK HB; have HK := Lib.hid hk'; have HB := Lib.hid HBa.out; clear hk' hb HBa))
                  go_ret
                  rw [EB.out]
                  exact ⟨rfl, HB.out⟩
                | true =>
                  have H1 := Lib.hid hr
                  have EB : Hid (edB ⟨2, ⟨a, k, v⟩, ⟨0, 0, 0⟩, n⟩ = true) := by show _ = _; simp [edB, hn, hr, zRc]
                  have HB := Lib.hid (below_new w (.cells #[.int .i64 2, .int .i64 a, .int .i64 k, .int .i64 v, .int .i64 0, .int .i64 0, .int .i64 0, .int .i64 n] 79))
                  have HK := Lib.hid (new_block w #[.int .i64 2, .int .i64 a, .int .i64 k, .int .i64 v, .int .i64 0, .int .i64 0, .int .i64 0, .int .i64 n] 79)
                  clear hn hr
                  go_enter Tryz.func81, Tryz.ntmps81
                  go_wp2_with ((go_at_call 69; (with_reducible refine (HR1.out _).mono ?_); rintro e w' ⟨rfl, hb⟩; rw [H1.out]; have hk' := block_keep HK.out hb; obtain ⟨c0, c1, c2, c3, c4, c5, c6, c7⟩ := box8 hk'; have HBa := Lib.hid (bchain HB.out hb); clear HK HB; have HK := Lib.hid hk'; have HB := Lib.hid HBa.out; clear hk' hb HBa))
                  go_ret
                  rw [EB.out]
                  exact ⟨rfl, HB.out⟩
              · have q : (v' == 0) = false := by simpa using hz
                have q1 : (v' != 0) = true := by simpa using hz
                have EB : Hid (edB ⟨2, ⟨a, k, v⟩, ⟨0, 0, v'⟩, n⟩ = false) := by show _ = _; simp [edB, hn, zRc, hz]
                have HB := Lib.hid (below_new w (.cells #[.int .i64 2, .int .i64 a, .int .i64 k, .int .i64 v, .int .i64 0, .int .i64 0, .int .i64 v', .int .i64 n] 79))
                have HK := Lib.hid (new_block w #[.int .i64 2, .int .i64 a, .int .i64 k, .int .i64 v, .int .i64 0, .int .i64 0, .int .i64 v', .int .i64 n] 79)
                clear hn hz
                go_enter Tryz.func81, Tryz.ntmps81
                go_wp2_with fail
                go_ret
                rw [EB.out]
                exact ⟨rfl, HB.out⟩
            · have q : (k' == 0) = false := by simpa using hz
              have q1 : (k' != 0) = true := by simpa using hz
              have EB : Hid (edB ⟨2, ⟨a, k, v⟩, ⟨0, k', v'⟩, n⟩ = false) := by show _ = _; simp [edB, hn, zRc, hz]
              have HB := Lib.hid (below_new w (.cells #[.int .i64 2, .int .i64 a, .int .i64 k, .int .i64 v, .int .i64 0, .int .i64 k', .int .i64 v', .int .i64 n] 79))
              have HK := Lib.hid (new_block w #[.int .i64 2, .int .i64 a, .int .i64 k, .int .i64 v, .int .i64 0, .int .i64 k', .int .i64 v', .int .i64 n] 79)
              clear hn hz
              go_enter Tryz.func81, Tryz.ntmps81
              go_wp2_with fail
              go_ret
              rw [EB.out]
              exact ⟨rfl, HB.out⟩
          · have q : (a' == 0) = false := by simpa using hz
            have q1 : (a' != 0) = true := by simpa using hz
            have EB : Hid (edB ⟨2, ⟨a, k, v⟩, ⟨a', k', v'⟩, n⟩ = false) := by show _ = _; simp [edB, hn, zRc, hz]
            have HB := Lib.hid (below_new w (.cells #[.int .i64 2, .int .i64 a, .int .i64 k, .int .i64 v, .int .i64 a', .int .i64 k', .int .i64 v', .int .i64 n] 79))
            have HK := Lib.hid (new_block w #[.int .i64 2, .int .i64 a, .int .i64 k, .int .i64 v, .int .i64 a', .int .i64 k', .int .i64 v', .int .i64 n] 79)
            clear hn hz
            go_enter Tryz.func81, Tryz.ntmps81
            go_wp2_with fail
            go_ret
            rw [EB.out]
            exact ⟨rfl, HB.out⟩
        · have q2 : (d == 2) = false := by simpa using hd2
          by_cases hd3 : d = 3
          · subst hd3
            clear q1 q2 hd hd2
            cases hr1 : recB ⟨a, k, v⟩ with
            | false =>
              have H1 := Lib.hid hr1
              have EB : Hid (edB ⟨3, ⟨a, k, v⟩, ⟨a', k', v'⟩, n⟩ = false) := by show _ = _; simp [edB, hn, hr1]
              have HB := Lib.hid (below_new w (.cells #[.int .i64 3, .int .i64 a, .int .i64 k, .int .i64 v, .int .i64 a', .int .i64 k', .int .i64 v', .int .i64 n] 79))
              have HK := Lib.hid (new_block w #[.int .i64 3, .int .i64 a, .int .i64 k, .int .i64 v, .int .i64 a', .int .i64 k', .int .i64 v', .int .i64 n] 79)
              clear hn hr1
              go_enter Tryz.func81, Tryz.ntmps81
              go_wp2_with ((go_at_call 69; (with_reducible refine (HR1.out _).mono ?_); rintro e w' ⟨rfl, hb⟩; rw [H1.out]; have hk' := block_keep HK.out hb; obtain ⟨c0, c1, c2, c3, c4, c5, c6, c7⟩ := box8 hk'; have HBa := Lib.hid (bchain HB.out hb); clear HK HB; have HK := Lib.hid hk'; have HB := Lib.hid HBa.out; clear hk' hb HBa))
              go_ret
              rw [EB.out]
              exact ⟨rfl, HB.out⟩
            | true =>
              have H1 := Lib.hid hr1
              cases hr2 : recB ⟨a', k', v'⟩ with
              | false =>
                have H2 := Lib.hid hr2
                have EB : Hid (edB ⟨3, ⟨a, k, v⟩, ⟨a', k', v'⟩, n⟩ = false) := by show _ = _; simp [edB, hn, hr1, hr2]
                have HB := Lib.hid (below_new w (.cells #[.int .i64 3, .int .i64 a, .int .i64 k, .int .i64 v, .int .i64 a', .int .i64 k', .int .i64 v', .int .i64 n] 79))
                have HK := Lib.hid (new_block w #[.int .i64 3, .int .i64 a, .int .i64 k, .int .i64 v, .int .i64 a', .int .i64 k', .int .i64 v', .int .i64 n] 79)
                clear hn hr1 hr2
                go_enter Tryz.func81, Tryz.ntmps81
                go_wp2_with (first | (go_at_call 69; (with_reducible refine (HR1.out _).mono ?_); rintro e w' ⟨rfl, hb⟩; rw [H1.out]; have hk' := block_keep HK.out hb; obtain ⟨c0, c1, c2, c3, c4, c5, c6, c7⟩ := box8 hk'; have HBa := Lib.hid (bchain HB.out hb); clear HK HB; have HK := Lib.hid hk'; have HB := Lib.hid HBa.out; clear hk' hb HBa) | (go_at_call 69; (with_reducible refine (HR2.out _).mono ?_); rintro e w' ⟨rfl, hb⟩; rw [H2.out]; have hk' := block_keep HK.out hb; obtain ⟨c0, c1, c2, c3, c4, c5, c6, c7⟩ := box8 hk'; have HBa := Lib.hid (bchain HB.out hb); clear HK HB; have HK := Lib.hid hk'; have HB := Lib.hid HBa.out; clear hk' hb HBa))
                go_ret
                rw [EB.out]
                exact ⟨rfl, HB.out⟩
              | true =>
                have H2 := Lib.hid hr2
                by_cases ha : a = a'
                · subst ha
                  by_cases hk : k = k'
                  · subst hk
                    by_cases hv : v = v'
                    · subst hv
                      clear HR2 H2
                      have EB : Hid (edB ⟨3, ⟨a, k, v⟩, ⟨a, k, v⟩, n⟩ = false) := by show _ = _; simp [edB, hn]
                      have HB := Lib.hid (below_new w (.cells #[.int .i64 3, .int .i64 a, .int .i64 k, .int .i64 v, .int .i64 a, .int .i64 k, .int .i64 v, .int .i64 n] 79))
                      have HK := Lib.hid (new_block w #[.int .i64 3, .int .i64 a, .int .i64 k, .int .i64 v, .int .i64 a, .int .i64 k, .int .i64 v, .int .i64 n] 79)
                      clear hn hr1 hr2
                      go_enter Tryz.func81, Tryz.ntmps81
                      go_wp2_with ((go_at_call 69; (with_reducible refine (HR1.out _).mono ?_); rintro e w' ⟨rfl, hb⟩; rw [H1.out]; have hk' := block_keep HK.out hb; obtain ⟨c0, c1, c2, c3, c4, c5, c6, c7⟩ := box8 hk'; have HBa := Lib.hid (bchain HB.out hb); clear HK HB; have HK := Lib.hid hk'; have HB := Lib.hid HBa.out; clear hk' hb HBa))
                      go_ret
                      rw [EB.out]
                      exact ⟨rfl, HB.out⟩
                    · have q3 : (v == v') = false := by simpa using hv
                      have q4 : (v != v') = true := by simpa using hv
                      have EB : Hid (edB ⟨3, ⟨a, k, v⟩, ⟨a, k, v'⟩, n⟩ = true) := by show _ = _; simp [edB, hn, hr1, hr2, hv]
                      have HB := Lib.hid (below_new w (.cells #[.int .i64 3, .int .i64 a, .int .i64 k, .int .i64 v, .int .i64 a, .int .i64 k, .int .i64 v', .int .i64 n] 79))
                      have HK := Lib.hid (new_block w #[.int .i64 3, .int .i64 a, .int .i64 k, .int .i64 v, .int .i64 a, .int .i64 k, .int .i64 v', .int .i64 n] 79)
                      clear hn hr1 hr2 hv
                      go_enter Tryz.func81, Tryz.ntmps81
                      go_wp2_with (first | (go_at_call 69; (with_reducible refine (HR1.out _).mono ?_); rintro e w' ⟨rfl, hb⟩; rw [H1.out]; have hk' := block_keep HK.out hb; obtain ⟨c0, c1, c2, c3, c4, c5, c6, c7⟩ := box8 hk'; have HBa := Lib.hid (bchain HB.out hb); clear HK HB; have HK := Lib.hid hk'; have HB := Lib.hid HBa.out; clear hk' hb HBa) | (go_at_call 69; (with_reducible refine (HR2.out _).mono ?_); rintro e w' ⟨rfl, hb⟩; rw [H2.out]; have hk' := block_keep HK.out hb; obtain ⟨c0, c1, c2, c3, c4, c5, c6, c7⟩ := box8 hk'; have HBa := Lib.hid (bchain HB.out hb); clear HK HB; have HK := Lib.hid hk'; have HB := Lib.hid HBa.out; clear hk' hb HBa))
                      go_ret
                      rw [EB.out]
                      exact ⟨rfl, HB.out⟩
                  · have q3 : (k == k') = false := by simpa using hk
                    have q4 : (k != k') = true := by simpa using hk
                    have EB : Hid (edB ⟨3, ⟨a, k, v⟩, ⟨a, k', v'⟩, n⟩ = false) := by show _ = _; simp [edB, hn, hr1, hr2, hk]
                    have HB := Lib.hid (below_new w (.cells #[.int .i64 3, .int .i64 a, .int .i64 k, .int .i64 v, .int .i64 a, .int .i64 k', .int .i64 v', .int .i64 n] 79))
                    have HK := Lib.hid (new_block w #[.int .i64 3, .int .i64 a, .int .i64 k, .int .i64 v, .int .i64 a, .int .i64 k', .int .i64 v', .int .i64 n] 79)
                    clear hn hr1 hr2 hk
                    go_enter Tryz.func81, Tryz.ntmps81
                    go_wp2_with (first | (go_at_call 69; (with_reducible refine (HR1.out _).mono ?_); rintro e w' ⟨rfl, hb⟩; rw [H1.out]; have hk' := block_keep HK.out hb; obtain ⟨c0, c1, c2, c3, c4, c5, c6, c7⟩ := box8 hk'; have HBa := Lib.hid (bchain HB.out hb); clear HK HB; have HK := Lib.hid hk'; have HB := Lib.hid HBa.out; clear hk' hb HBa) | (go_at_call 69; (with_reducible refine (HR2.out _).mono ?_); rintro e w' ⟨rfl, hb⟩; rw [H2.out]; have hk' := block_keep HK.out hb; obtain ⟨c0, c1, c2, c3, c4, c5, c6, c7⟩ := box8 hk'; have HBa := Lib.hid (bchain HB.out hb); clear HK HB; have HK := Lib.hid hk'; have HB := Lib.hid HBa.out; clear hk' hb HBa))
                    go_ret
                    rw [EB.out]
                    exact ⟨rfl, HB.out⟩
                · have q3 : (a == a') = false := by simpa using ha
                  have q4 : (a != a') = true := by simpa using ha
                  by_cases hk : k = k'
                  · subst hk
                    have EB : Hid (edB ⟨3, ⟨a, k, v⟩, ⟨a', k, v'⟩, n⟩ = true) := by show _ = _; simp [edB, hn, hr1, hr2, ha]
                    have HB := Lib.hid (below_new w (.cells #[.int .i64 3, .int .i64 a, .int .i64 k, .int .i64 v, .int .i64 a', .int .i64 k, .int .i64 v', .int .i64 n] 79))
                    have HK := Lib.hid (new_block w #[.int .i64 3, .int .i64 a, .int .i64 k, .int .i64 v, .int .i64 a', .int .i64 k, .int .i64 v', .int .i64 n] 79)
                    clear hn hr1 hr2 ha
                    go_enter Tryz.func81, Tryz.ntmps81
                    go_wp2_with (first | (go_at_call 69; (with_reducible refine (HR1.out _).mono ?_); rintro e w' ⟨rfl, hb⟩; rw [H1.out]; have hk' := block_keep HK.out hb; obtain ⟨c0, c1, c2, c3, c4, c5, c6, c7⟩ := box8 hk'; have HBa := Lib.hid (bchain HB.out hb); clear HK HB; have HK := Lib.hid hk'; have HB := Lib.hid HBa.out; clear hk' hb HBa) | (go_at_call 69; (with_reducible refine (HR2.out _).mono ?_); rintro e w' ⟨rfl, hb⟩; rw [H2.out]; have hk' := block_keep HK.out hb; obtain ⟨c0, c1, c2, c3, c4, c5, c6, c7⟩ := box8 hk'; have HBa := Lib.hid (bchain HB.out hb); clear HK HB; have HK := Lib.hid hk'; have HB := Lib.hid HBa.out; clear hk' hb HBa))
                    go_ret
                    rw [EB.out]
                    exact ⟨rfl, HB.out⟩
                  · have q5 : (k == k') = false := by simpa using hk
                    have q6 : (k != k') = true := by simpa using hk
                    have EB : Hid (edB ⟨3, ⟨a, k, v⟩, ⟨a', k', v'⟩, n⟩ = false) := by show _ = _; simp [edB, hn, hr1, hr2, hk]
                    have HB := Lib.hid (below_new w (.cells #[.int .i64 3, .int .i64 a, .int .i64 k, .int .i64 v, .int .i64 a', .int .i64 k', .int .i64 v', .int .i64 n] 79))
                    have HK := Lib.hid (new_block w #[.int .i64 3, .int .i64 a, .int .i64 k, .int .i64 v, .int .i64 a', .int .i64 k', .int .i64 v', .int .i64 n] 79)
                    clear hn hr1 hr2 ha hk
                    go_enter Tryz.func81, Tryz.ntmps81
                    go_wp2_with (first | (go_at_call 69; (with_reducible refine (HR1.out _).mono ?_); rintro e w' ⟨rfl, hb⟩; rw [H1.out]; have hk' := block_keep HK.out hb; obtain ⟨c0, c1, c2, c3, c4, c5, c6, c7⟩ := box8 hk'; have HBa := Lib.hid (bchain HB.out hb); clear HK HB; have HK := Lib.hid hk'; have HB := Lib.hid HBa.out; clear hk' hb HBa) | (go_at_call 69; (with_reducible refine (HR2.out _).mono ?_); rintro e w' ⟨rfl, hb⟩; rw [H2.out]; have hk' := block_keep HK.out hb; obtain ⟨c0, c1, c2, c3, c4, c5, c6, c7⟩ := box8 hk'; have HBa := Lib.hid (bchain HB.out hb); clear HK HB; have HK := Lib.hid hk'; have HB := Lib.hid HBa.out; clear hk' hb HBa))
                    go_ret
                    rw [EB.out]
                    exact ⟨rfl, HB.out⟩
          · have q3 : (d == 3) = false := by simpa using hd3
            have EB : Hid (edB ⟨d, ⟨a, k, v⟩, ⟨a', k', v'⟩, n⟩ = false) := by show _ = _; simp [edB, hd, hd2, hd3]
            have HB := Lib.hid (below_new w (.cells #[.int .i64 d, .int .i64 a, .int .i64 k, .int .i64 v, .int .i64 a', .int .i64 k', .int .i64 v', .int .i64 n] 79))
            have HK := Lib.hid (new_block w #[.int .i64 d, .int .i64 a, .int .i64 k, .int .i64 v, .int .i64 a', .int .i64 k', .int .i64 v', .int .i64 n] 79)
            clear hn hd hd2 hd3
            go_enter Tryz.func81, Tryz.ntmps81
            go_wp2_with fail
            go_ret
            rw [EB.out]
            exact ⟨rfl, HB.out⟩
end Go.Proofs.Bg
end

section
/- The reference: sorted. -/
namespace Go.Proofs.Bg
open Go.RowKit Go.Proofs.YtcbemmlhpinjkaaGreatDoorW.PrintLast

def SortedL (l : List It) : Prop := l.Pairwise (fun x y => ¬ rcmp y.r x.r < 0)
def SortRet (w : World) (l : List It) (e : Ending) (w' : World) : Prop :=
  ∃ v l', e = .returned v ∧ Own It.vs 4 40 w.heap.size w' v l' ∧ l'.Perm l ∧ SortedL l' ∧ Below w.heap.size w w'

theorem Rd.take {w : World} {lo n : Nat} {A : Option Addr} {l : List It} (h : Rd It.vs 4 w lo A n l) (k : Nat) (hk : k ≤ n) : Rd It.vs 4 w lo A k (l.take k) := by
  refine ⟨by rw [List.length_take, h.len]; omega, Nat.le_trans hk h.le, fun h0 => ?_⟩
  obtain ⟨b, off, rfl, hlo, hc⟩ := h.2.2 (by omega)
  refine ⟨b, off, rfl, hlo, fun i x hx j v hv => hc i x ?_ j v hv⟩
  rw [List.getElem?_take] at hx
  split at hx
  · exact hx
  · cases hx
theorem Rd.drop {w : World} {lo n b off : Nat} {l : List It} (h : Rd It.vs 4 w lo (some ⟨b, off, none⟩) n l) (k : Nat) (hk : k < n) : Rd It.vs 4 w lo (some ⟨b, off + k * 4, none⟩) (n - k) (l.drop k) := by
  refine ⟨by rw [List.length_drop, h.len], by have := h.le; omega, fun h0 => ?_⟩
  obtain ⟨b', off', e, hlo, hc⟩ := h.2.2 (by omega)
  cases e
  refine ⟨b, off + k * 4, rfl, hlo, fun i x hx j v hv => ?_⟩
  rw [List.getElem?_drop] at hx
  have := hc (k + i) x hx j v hv
  have e : off + k * 4 + i * 4 + j = off + (k + i) * 4 + j := by omega
  rw [e]
  exact this

/-- What the merge holds. -/
structure MRel (b1 b2 : Nat) (wS : World) (l : List It) (L l1 l2 : List It) (o1 c1 o2 c2 : Nat) (v : Value) (wr : World) : Prop where
  own : Own It.vs 4 40 wS.heap.size wr v L
  w1 : Win b1 wr (some ⟨b1, o1, none⟩) c1 l1
  w2 : Win b2 wr (some ⟨b2, o2, none⟩) c2 l2
  below : Below wS.heap.size wS wr
  perm : (L ++ (l1 ++ l2)).Perm l
  s1 : SortedL l1
  s2 : SortedL l2
  s0 : SortedL L
  lo : ∀ x ∈ L, ∀ y, y ∈ l1 ∨ y ∈ l2 → ¬ rcmp y.r x.r < 0
  k1 : b1 < wS.heap.size
  k2 : b2 < wS.heap.size

theorem MRel.app {b1 b2 : Nat} {wS : World} {l L l1 l2 : List It} {o1 c1 o2 c2 : Nat} {v : Value} {wr W w' : World} (h : MRel b1 b2 wS l L l1 l2 o1 c1 o2 c2 v wr) (h0 : wr.grownBy W none) (hg : W.grownBy w' v.ownBlock) : Win b1 w' (some ⟨b1, o1, none⟩) c1 l1 ∧ Win b2 w' (some ⟨b2, o2, none⟩) c2 l2 ∧ Below wS.heap.size wS w' :=
  ⟨(h.w1.kept h0 (fun _ e => by cases e)).kept hg (fun _ e => by have := (h.own.blk _ e).1; have := h.k1; omega), (h.w2.kept h0 (fun _ e => by cases e)).kept hg (fun _ e => by have := (h.own.blk _ e).1; have := h.k2; omega),
    (h.below.grown h0 h.below.size (fun k e => by cases e)).grown hg (Nat.le_trans h.below.size h0.size) (fun k e => (h.own.blk _ e).1)⟩
theorem sorted_snoc {L : List It} {y : It} (h : SortedL L) (hy : ∀ x ∈ L, ¬ rcmp y.r x.r < 0) : SortedL (L ++ [y]) := by
  unfold SortedL at *
  rw [List.pairwise_append]
  exact ⟨h, by simp, fun x hx z hz => by rw [List.mem_singleton.1 hz]; exact hy x hx⟩
theorem le_trans_not {x y z : Rc} (h1 : ¬ rcmp y x < 0) (h2 : ¬ rcmp z y < 0) : ¬ rcmp z x < 0 := by
  rw [rcmp_neg] at *
  omega
theorem lt_le {x y z : Rc} (h1 : rcmp y x < 0) (h2 : ¬ rcmp z x < 0) : ¬ rcmp z y < 0 := fun h => h2 (rcmp_trans h h1)

/-- Behind an item of the second list. -/
theorem MRel.take2 {b1 b2 : Nat} {wS : World} {l L r s : List It} {x y : It} {o1 c1 o2 c2 o' : Nat} {v v' : Value} {wr W w' : World} (h : MRel b1 b2 wS l L (x :: r) (y :: s) o1 c1 o2 c2 v wr) (hlt : rcmp y.r x.r < 0) (h0 : wr.grownBy W none) (hg : W.grownBy w' v.ownBlock) (ho : Own It.vs 4 40 wS.heap.size w' v' (L ++ [y])) (ho' : 0 < s.length → o' = o2 + 4) : MRel b1 b2 wS l (L ++ [y]) (x :: r) s o1 c1 o' (c2 - 1) v' w' := by
  obtain ⟨a1, a2, a3⟩ := h.app h0 hg
  obtain ⟨p1, p2⟩ := List.pairwise_cons.1 h.s1
  obtain ⟨q1, q2⟩ := List.pairwise_cons.1 h.s2
  refine ⟨ho, a1, a2.tail ho', a3, ?_, h.s1, q2, sorted_snoc h.s0 (fun z hz => h.lo z hz y (.inr List.mem_cons_self)), fun z hz u hu => ?_, h.k1, h.k2⟩
  · refine List.Perm.trans ?_ h.perm
    rw [List.append_assoc]
    exact List.Perm.append_left L (List.perm_middle (l₁ := x :: r) (l₂ := s) (a := y)).symm
  · rcases List.mem_append.1 hz with hz | hz
    · exact h.lo z hz u (hu.imp_right (List.mem_cons_of_mem _))
    · rw [List.mem_singleton.1 hz]
      rcases hu with hu | hu
      · rcases List.mem_cons.1 hu with e | hu
        · rw [e]; exact lt_le hlt (rcmp_irr _)
        · exact lt_le hlt (p1 u hu)
      · exact q1 u hu
/-- Behind an item of the first list. -/
theorem MRel.take1 {b1 b2 : Nat} {wS : World} {l L r s : List It} {x y : It} {o1 c1 o2 c2 o' : Nat} {v v' : Value} {wr W w' : World} (h : MRel b1 b2 wS l L (x :: r) (y :: s) o1 c1 o2 c2 v wr) (hge : ¬ rcmp y.r x.r < 0) (h0 : wr.grownBy W none) (hg : W.grownBy w' v.ownBlock) (ho : Own It.vs 4 40 wS.heap.size w' v' (L ++ [x])) (ho' : 0 < r.length → o' = o1 + 4) : MRel b1 b2 wS l (L ++ [x]) r (y :: s) o' (c1 - 1) o2 c2 v' w' := by
  obtain ⟨a1, a2, a3⟩ := h.app h0 hg
  obtain ⟨p1, p2⟩ := List.pairwise_cons.1 h.s1
  obtain ⟨q1, q2⟩ := List.pairwise_cons.1 h.s2
  refine ⟨ho, a1.tail ho', a2, a3, ?_, p2, h.s2, sorted_snoc h.s0 (fun z hz => h.lo z hz x (.inl List.mem_cons_self)), fun z hz u hu => ?_, h.k1, h.k2⟩
  · refine List.Perm.trans ?_ h.perm
    simp
  · rcases List.mem_append.1 hz with hz | hz
    · exact h.lo z hz u (hu.imp_left (List.mem_cons_of_mem _))
    · rw [List.mem_singleton.1 hz]
      rcases hu with hu | hu
      · exact p1 u hu
      · rcases List.mem_cons.1 hu with e | hu
        · rw [e]; exact hge
        · exact le_trans_not hge (q1 u hu)
theorem merged {L l1 l2 : List It} (h0 : SortedL L) (h1 : SortedL l1) (h2 : SortedL l2) (hlo : ∀ x ∈ L, ∀ y, y ∈ l1 ∨ y ∈ l2 → ¬ rcmp y.r x.r < 0) (he : l1 = [] ∨ l2 = []) : SortedL (L ++ l1 ++ l2) := by
  unfold SortedL at *
  rcases he with rfl | rfl
  · rw [List.append_nil, List.pairwise_append]
    exact ⟨h0, h2, fun x hx y hy => hlo x hx y (.inr hy)⟩
  · rw [List.append_nil, List.pairwise_append]
    exact ⟨h0, h1, fun x hx y hy => hlo x hx y (.inl hy)⟩

theorem Rd.news {w : World} {lo n b off : Nat} {l : List It} (h : Rd It.vs 4 w lo (some ⟨b, off, none⟩) n l) : ∀ j u, (l.flatMap It.vs)[j]? = some u → w.cell? ((⟨b, off, none⟩ : Addr).add j) = some u := by
  intro j u hu
  have hlen := flat_length It.vs_length l
  have hj : j < l.length * 4 := by rw [← hlen]; exact (List.getElem?_eq_some_iff.1 hu).1
  have e1 : (⟨b, off, none⟩ : Addr).add j = ⟨b, off + j, none⟩ := by unfold Addr.add; split <;> simp_all
  have hd : j / 4 < l.length := by omega
  have hx : l[j / 4]? = some l[j / 4] := List.getElem?_eq_getElem hd
  have hm : j % 4 < (It.vs l[j / 4]).length := by rw [It.vs_length]; omega
  have hv : (It.vs l[j / 4])[j % 4]? = some ((It.vs l[j / 4])[j % 4]'hm) := List.getElem?_eq_getElem hm
  have hf := flat_at It.vs_length l _ _ hx _ _ hv
  have hjj : j / 4 * 4 + j % 4 = j := by omega
  rw [hjj, hu] at hf
  cases hf
  obtain ⟨b', off', e, _, hc⟩ := h.2.2 (by rw [← h.len]; omega)
  cases e
  have := hc _ _ hx _ _ hv
  have e2 : off + j / 4 * 4 + j % 4 = off + j := by omega
  rw [e2] at this
  rw [e1]
  exact this
/-- 'append(s, y...)', y a window. -/
theorem wpList_appW {P : Program} {w : World} {ops : Array Oper} {rest : List Oper} {o : Oper} {a : Act} {Q : Exit → Act → World → Prop} (e : TypeId) (z : Value) (bytes : Nat) (hinf : (P.info? e).map (fun i => (i.zero, i.size, i.bytes)) = some (some z, 4, bytes)) (hzs : z.cells.size = 4)
    (hgd : o.guard = none) (s x : Operand) (t : TypeId) (ho : o.op = .call { callee := .builtin .append, args := #[s, x], argTypes := #[t, t] }) (ht : P.underlying t = some (.slice e)) (base : Nat) (v : Value) (l : List It) (hs : a.eval s = v) (hown : Own It.vs 4 e base w v l)
    (lo b off n c : Nat) (y : List It) (hx : a.eval x = .slice (some ⟨b, off, none⟩) n c) (hy : Rd It.vs 4 w lo (some ⟨b, off, none⟩) n y)
    (hbytes : (l.length + n) * bytes ≤ 140737488355328) (h63 : l.length + n ≤ maxLen) (hbase : base ≤ w.heap.size)
    (h : ∀ v' w', Own It.vs 4 e base w' v' (l ++ y) → w.grownBy w' v.ownBlock → (v'.ownBlock = v.ownBlock ∨ v'.ownBlock = some w.heap.size) → wpList P ops Q rest (a.put o.dst v') w') : wpList P ops Q (o :: rest) a w := by
  obtain ⟨i, hi, hz0, hz1, hz2⟩ := info_parts hinf
  have hn := hy.len
  refine wpList_append_own_at w hgd s x t ho base e i z 4 bytes ht hi hz0 hz1 hz2 hzs (by omega) v l.length (l.flatMap It.vs) hs hown ⟨b, off, none⟩ n c (y.flatMap It.vs) hx (by rw [flat_length It.vs_length, hn]) hy.news (fun u hu => ?_) h63 hbytes hbase fun v' w' h2 h3 _ h5 => h v' w' ?_ h3 h5
  · obtain ⟨q, _, hq⟩ := List.mem_flatMap.1 hu
    simp [It.vs] at hq
    rcases hq with rfl | rfl | rfl | rfl <;> rfl
  · unfold Own
    rw [List.length_append, List.flatMap_append, hn]
    exact h2

theorem wpList_appNil {P : Program} {w : World} {ops : Array Oper} {rest : List Oper} {o : Oper} {a : Act} {Q : Exit → Act → World → Prop} (hgd : o.guard = none) (s x : Operand) (t : TypeId) (ho : o.op = .call { callee := .builtin .append, args := #[s, x], argTypes := #[t, t] }) (c : Nat) (hs : a.eval s = .slice none 0 0) (hx : a.eval x = .slice none 0 c)
    (hrun : (Builtin.append_ #[t, t] o.type #[.slice none 0 0, .slice none 0 c]).run P w = .ok (.slice none 0 0) w) (h : wpList P ops Q rest (a.put o.dst (.slice none 0 0)) w) : wpList P ops Q (o :: rest) a w := by
  refine wpList_plain hgd fun K hK => ?_
  unfold Oper.wp
  simp [execOp, ho, resolve, invoke, builtin, hs, hx, hrun, Result.andThen]
  exact hK _ _ h

set_option maxRecDepth 100000 in
set_option maxHeartbeats 8000000 in
theorem sorted_any : ∀ (N : Nat) (A : Option Addr) (n cap : Nat) (l : List It) (w : World), n < N → Rd It.vs 4 w 0 A n l → n ≤ cap → n * 32 ≤ 140737488355328 →
    Calls Tryz.prog 104 #[.slice A n cap] w (SortRet w l)
  | 0, _, n, _, _, _, hN, _, _, _ => absurd hN (by omega)
  | N + 1, A, n, cap, l, w, hN, hR, hc, hS => by
    have IH := Lib.hid (sorted_any N)
    have HR := Lib.hid hR
    have hle := hR.le
    by_cases h2 : n < 2
    · have hd : decide ((n : Int) < 2) = true := by simp; omega
      have hsrt : SortedL l := by
        have := hR.len
        match l, this with
        | [], _ => exact List.Pairwise.nil
        | [x], _ => simp [SortedL]
        | _ :: _ :: _, h => simp at h; omega
      have HSR := Lib.hid hsrt
      rcases (by omega : n = 0 ∨ n = 1) with rfl | rfl
      · clear hsrt hR
        have hl0 : l = [] := List.length_eq_zero_iff.1 HR.out.len
        subst hl0
        cases A with
        | none =>
          have hap : ∀ (w : World) (t : TypeId) (cap : Nat), (Builtin.append_ #[22, 22] t #[.slice none 0 0, .slice none 0 cap]).run Tryz.prog w = .ok (.slice none 0 0) w := fun _ _ _ => by kernel_rfl
          go_enter Tryz.func104, Tryz.ntmps104
          go_wp2_with (at_builtin; go_loud (refine wpList_appNil rfl _ _ _ rfl cap rfl rfl (hap _ _ _) ?_))
          go_ret
          exact ⟨_, [], rfl, Own.nil _ _ _ _ _, List.Perm.refl _, HSR.out, Below.refl _ _⟩
        | some ad =>
          obtain ⟨i0, hi0, hz0, hz1, hz2⟩ := info_parts infoIt
          go_enter Tryz.func104, Tryz.ntmps104
          go_wp2_with (at_builtin; go_loud (refine wpList_append_own_at w rfl _ _ _ rfl w.heap.size 40 i0 _ 4 32 Tryz.underlying22 hi0 hz0 hz1 hz2 rfl (by omega) _ 0 [] rfl (World.ownsRow_nil w w.heap.size 40 4) ad 0 cap [] rfl rfl (by simp) (by simp) (by unfold maxLen; omega) (by omega) (Nat.le_refl _) (fun v4 w4 hown4 hg4 _ _ => ?_)))
          go_ret
          exact ⟨_, [], rfl, hown4, List.Perm.refl _, HSR.out, (Below.refl _ _).grown hg4 (Nat.le_refl _) (fun k e => nomatch (show (none : Option Nat) = some k from e))⟩
      · obtain ⟨b, off, x, rfl, _, hx, _⟩ := hR.it_at (k := 0) (by omega)
        clear hsrt hR hx
        go_enter Tryz.func104, Tryz.ntmps104
        go_wp2_with (at_builtin; go_loud (refine wpList_appW 40 _ 32 infoIt rfl rfl _ _ _ rfl Tryz.underlying22 w.heap.size _ [] rfl (Own.nil _ _ _ _ _) 0 b off 1 cap l rfl HR.out (by simp) (by unfold maxLen; simp) (Nat.le_refl _) (fun v4 w4 hown4 hg4 _ => ?_)))
        go_ret
        exact ⟨_, l, rfl, by simpa using hown4, List.Perm.refl _, HSR.out, (Below.refl _ _).grown hg4 (Nat.le_refl _) (fun k e => nomatch (show (none : Option Nat) = some k from e))⟩
    · have hd : decide ((n : Int) < 2) = false := by simp; omega
      obtain ⟨b, off, x, rfl, _, hx, _⟩ := hR.it_at (k := 0) (by omega)
      clear hR hx
      go_enter Tryz.func104, Tryz.ntmps104
      go_wp2_with fail
      -- THE HALVES
      obtain ⟨h, hh⟩ : ∃ h, n / 2 = h := ⟨_, rfl⟩
      have hh1 : 1 ≤ h := by omega
      have hh2 : h + 1 ≤ n := by omega
      have hq : Int.tdiv (n : Int) 2 = (h : Int) := by rw [Int.tdiv_eq_ediv_of_nonneg (by omega)]; omega
      have hwq : IntKind.i64.wrap (h : Int) = h := IntWalk.i64_in _ (by omega)
      have hi0 : (0 : Int) ≤ h := by omega
      have hi1 : (h : Int) ≤ n := by omega
      have hi2 : (h : Int) ≤ cap := by omega
      have hi3 : (h : Int).toNat = h := by omega
      have hcn : cap ≠ h := by omega
      have C1 := Lib.hid (IH.out (some ⟨b, off, none⟩) h cap (l.take h) w.drew (by omega) (HR.out.take h (by omega)) (by omega) (by omega))
      have HH := Lib.hid hh
      clear hh
      refine start_ (n := 14) (S := fun _ => True) (ds := []) #[false, false, false, false, false, false, false, false, false, false, false, false, false, false] (by kernel_rfl) rfl rfl trivial (fun _ => ?_)
      refine pure_ (i := 0) (N := some 11) (v := ?_) (a' := ?_) #[true, false, false, false, false, false, false, false, false, false, false, false, false, false] rfl rfl (by kernel_rfl) (fun _ _ _ h => h) (Or.inl ⟨by rfl, ?_⟩) ?_ ?_
      rotate_left
      · intro w'
        go_simp
        with_reducible rfl
      rotate_left
      · simp only [Act.put, List.setIfInBounds_toArray, List.set_cons_zero, List.set_cons_succ]
        rfl
      refine pure_ (i := 1) (N := some 12) (v := ?_) (a' := ?_) #[true, true, false, false, false, false, false, false, false, false, false, false, false, false] rfl rfl (by kernel_rfl) (fun _ _ _ h => h) (Or.inl ⟨by rfl, ?_⟩) ?_ ?_
      rotate_left
      · intro w'
        go_simp
        with_reducible rfl
      rotate_left
      · simp only [Act.put, List.setIfInBounds_toArray, List.set_cons_zero, List.set_cons_succ]
        rfl
      refine pure_ (i := 2) (N := some 13) (v := ?_) (a' := ?_) #[true, true, true, false, false, false, false, false, false, false, false, false, false, false] rfl rfl (by kernel_rfl) (fun _ _ _ h => h) (Or.inl ⟨by rfl, ?_⟩) ?_ ?_
      rotate_left
      · intro w'
        go_simp
        with_reducible rfl
      rotate_left
      · simp only [Act.put, List.setIfInBounds_toArray, List.set_cons_zero, List.set_cons_succ]
        rfl
      refine pure_ (i := 3) (N := some 14) (v := ?_) (a' := ?_) #[true, true, true, true, false, false, false, false, false, false, false, false, false, false] rfl rfl (by kernel_rfl) (fun _ _ _ h => h) (Or.inl ⟨by rfl, ?_⟩) ?_ ?_
      rotate_left
      · intro w'
        go_simp
        with_reducible rfl
      rotate_left
      · simp only [Act.put, List.setIfInBounds_toArray, List.set_cons_zero, List.set_cons_succ]
        rfl
      refine pure_ (i := 4) (N := some 15) (v := ?_) (a' := ?_) #[true, true, true, true, true, false, false, false, false, false, false, false, false, false] rfl rfl (by kernel_rfl) (fun _ _ _ h => h) (Or.inl ⟨by rfl, ?_⟩) ?_ ?_
      rotate_left
      · intro w'
        go_simp
        with_reducible rfl
      rotate_left
      · simp only [Act.put, List.setIfInBounds_toArray, List.set_cons_zero, List.set_cons_succ]
        rfl
      refine pure_ (i := 6) (N := some 17) (v := ?_) (a' := ?_) #[true, true, true, true, true, false, true, false, false, false, false, false, false, false] rfl rfl (by kernel_rfl) (fun _ _ _ h => h) (Or.inl ⟨by rfl, ?_⟩) ?_ ?_
      rotate_left
      · intro w'
        go_simp
        with_reducible rfl
      rotate_left
      · simp only [Act.put, List.setIfInBounds_toArray, List.set_cons_zero, List.set_cons_succ]
        rfl
      refine pure_ (i := 7) (N := some 18) (v := ?_) (a' := ?_) #[true, true, true, true, true, false, true, true, false, false, false, false, false, false] rfl rfl (by kernel_rfl) (fun _ _ _ h => h) (Or.inl ⟨by rfl, ?_⟩) ?_ ?_
      rotate_left
      · intro w'
        go_simp
        with_reducible rfl
      rotate_left
      · simp only [Act.put, List.setIfInBounds_toArray, List.set_cons_zero, List.set_cons_succ]
        rfl
      refine pure_ (i := 8) (N := some 19) (v := ?_) (a' := ?_) #[true, true, true, true, true, false, true, true, true, false, false, false, false, false] rfl rfl (by kernel_rfl) (fun _ _ _ h => h) (Or.inl ⟨by rfl, ?_⟩) ?_ ?_
      rotate_left
      · intro w'
        go_simp
        with_reducible rfl
      rotate_left
      · simp only [Act.put, List.setIfInBounds_toArray, List.set_cons_zero, List.set_cons_succ]
        rfl
      refine pure_ (i := 9) (N := some 20) (v := ?_) (a' := ?_) #[true, true, true, true, true, false, true, true, true, true, false, false, false, false] rfl rfl (by kernel_rfl) (fun _ _ _ h => h) (Or.inl ⟨by rfl, ?_⟩) ?_ ?_
      rotate_left
      · intro w'
        go_simp
        with_reducible rfl
      rotate_left
      · simp only [Act.put, List.setIfInBounds_toArray, List.set_cons_zero, List.set_cons_succ]
        rfl
      refine pure_ (i := 10) (N := some 21) (v := ?_) (a' := ?_) #[true, true, true, true, true, false, true, true, true, true, true, false, false, false] rfl rfl (by kernel_rfl) (fun _ _ _ h => h) (Or.inl ⟨by rfl, ?_⟩) ?_ ?_
      rotate_left
      · intro w'
        go_simp
        with_reducible rfl
      rotate_left
      · simp only [Act.put, List.setIfInBounds_toArray, List.set_cons_zero, List.set_cons_succ]
        rfl
      refine one_ (i := 5) (N := some 16) #[true, true, true, true, true, true, true, true, true, true, true, false, false, false] rfl rfl (by kernel_rfl) (by decide) (fun K hK => ?_)
      refine goes_ Tryz.func104 (by kernel_rfl) rfl #[.slice (some ⟨b, off, none⟩) h cap] (by rfl) rfl rfl (by (try simp only [List.map_toArray, List.map_cons, List.map_nil]); first | done | rfl) ?_
      with_reducible refine C1.out.mono ?_
      rintro e w1 ⟨v1, m1, rfl, ho1, hp1, hs1, hb1⟩
      refine ⟨_, rfl, ?_⟩
      have C2 := Lib.hid (IH.out (some ⟨b, off + h * 4, none⟩) (n - h) (cap - h) (l.drop h) w1 (by omega) ((HR.out.below hb1.drew_left).drop h (by omega)) (by omega) (by omega))
      have hl1 : m1.length = h := by rw [hp1.length_eq, List.length_take, HR.out.len]; omega
      obtain ⟨g1, k1, rfl⟩ : ∃ g1 k1, v1 = .slice (some ⟨g1, 0, none⟩) m1.length k1 := by
        rcases ho1.2 with ⟨_, e0⟩ | ⟨g, cap, cur, e, _⟩
        · omega
        · exact ⟨g, cap, e⟩
      have HO1 := Lib.hid ho1
      have HP1 := Lib.hid hp1
      have HS1 := Lib.hid hs1
      have HB1 := Lib.hid hb1
      have HL1 := Lib.hid hl1
      clear ho1 hp1 hs1 hb1 hl1 C1
      refine hK.out _ _ trivial (fun _ => ?_)
      clear hK K
      refine norm_ (a' := ?_) ?_ ?_
      rotate_left
      · show Act.put _ (some 16) _ = _
        simp only [Act.put, List.setIfInBounds_toArray, List.set_cons_zero, List.set_cons_succ]
        rfl
      refine one_ (i := 11) (N := some 22) #[true, true, true, true, true, true, true, true, true, true, true, true, false, false] rfl rfl (by kernel_rfl) (by decide) (fun K hK => ?_)
      refine goes_ Tryz.func104 (by kernel_rfl) rfl #[.slice (some ⟨b, off + h * 4, none⟩) (n - h) (cap - h)] (by rfl) rfl rfl (by (try simp only [List.map_toArray, List.map_cons, List.map_nil]); first | done | rfl) ?_
      with_reducible refine C2.out.mono ?_
      rintro e w2 ⟨v2, m2, rfl, ho2, hp2, hs2, hb2⟩
      refine ⟨_, rfl, ?_⟩
      have hl2 : m2.length = n - h := by rw [hp2.length_eq, List.length_drop, HR.out.len]
      obtain ⟨g2, k2, rfl⟩ : ∃ g2 k2, v2 = .slice (some ⟨g2, 0, none⟩) m2.length k2 := by
        rcases ho2.2 with ⟨_, e0⟩ | ⟨g, cap, cur, e, _⟩
        · omega
        · exact ⟨g, cap, e⟩
      have HO2 := Lib.hid ho2
      have HP2 := Lib.hid hp2
      have HS2 := Lib.hid hs2
      have HB2 := Lib.hid hb2
      have HL2 := Lib.hid hl2
      clear ho2 hp2 hs2 hb2 hl2 C2
      refine hK.out _ _ trivial (fun _ => ?_)
      clear hK K
      refine norm_ (a' := ?_) ?_ ?_
      rotate_left
      · show Act.put _ (some 22) _ = _
        simp only [Act.put, List.setIfInBounds_toArray, List.set_cons_zero, List.set_cons_succ]
        rfl
      refine pure_ (i := 12) (N := some 3) (v := ?_) (a' := ?_) #[true, true, true, true, true, true, true, true, true, true, true, true, true, false] rfl rfl (by kernel_rfl) (fun _ _ _ h => h) (Or.inl ⟨by rfl, ?_⟩) ?_ ?_
      rotate_left
      · intro w'
        go_simp
        with_reducible rfl
      rotate_left
      · simp only [Act.put, List.setIfInBounds_toArray, List.set_cons_zero, List.set_cons_succ]
        rfl
      refine pure_ (i := 13) (N := some 4) (v := ?_) (a' := ?_) #[true, true, true, true, true, true, true, true, true, true, true, true, true, true] rfl rfl (by kernel_rfl) (fun _ _ _ h => h) (Or.inl ⟨by rfl, ?_⟩) ?_ ?_
      rotate_left
      · intro w'
        go_simp
        with_reducible rfl
      rotate_left
      · simp only [Act.put, List.setIfInBounds_toArray, List.set_cons_zero, List.set_cons_succ]
        rfl
      refine done_ (by kernel_rfl) ?_
      have HREL : Hid (MRel g1 g2 w2 l [] m1 m2 0 k1 0 k2 (.slice none 0 0) w2) := by
        have hg1 := HO1.out.blk g1 rfl
        have hg2 := HO2.out.blk g2 rfl
        have hz := HB2.out.size
        refine ⟨Own.nil _ _ _ _ _, (HO1.out.below HB2.out).win 0, HO2.out.win 0, Below.refl _ _, ?_, HS1.out, HS2.out, List.Pairwise.nil, (fun x hx => by cases hx), by omega, by omega⟩
        have := HP1.out.append HP2.out
        rwa [List.take_append_drop] at this
      have HWB : Hid (Below w.heap.size w w2) := HB1.out.drew_left.trans (HB2.out.mono HB1.out.size)
      have hlen : m1.length + m2.length = n := by have := HL1.out; have := HL2.out; omega
      have HLEN := Lib.hid hlen
      clear hh1 hh2 hq hwq hi0 hi1 hi2 hi3 hcn hlen hle h2 hd
      go_wp2_with fail
      go_loopw [3, 4, 5] (fun v3 v4 v wr => ∃ L l1 l2 o1 c1 o2 c2, v3 = .slice (some ⟨g1, o1, none⟩) l1.length c1 ∧ v4 = .slice (some ⟨g2, o2, none⟩) l2.length c2 ∧ MRel g1 g2 w2 l L l1 l2 o1 c1 o2 c2 v wr) (fun v3 v4 _ _ => lenOf v3 + lenOf v4)
      case atStart => exact ⟨_, _, _, _, _, _, _, rfl, rfl, HREL.out⟩
      case round =>
        clear HREL
        obtain ⟨L, l1, l2, o1, c1, o2, c2, rfl, rfl, hrel⟩ := hrel
        obtain ⟨B3, c3, rfl⟩ := hrel.own.shape
        have HRL := Lib.hid hrel
        have htot : L.length + (l1.length + l2.length) = n := by
          have := hrel.perm.length_eq
          rw [HR.out.len] at this
          simpa using this
        have hz1 := hrel.w1.rd.2.1
        have hz2 := hrel.w2.rd.2.1
        clear hrel
        by_cases hm1 : l1 = []
        · have hd1 : decide (0 < l1.length) = false := by rw [hm1]; rfl
          have HE : Hid (l1 = [] ∨ l2 = []) := .inl hm1
          clear hm1
          go_wp2_with (first | (at_builtin; refine wpList_appW 40 _ 32 infoIt rfl rfl _ _ _ rfl Tryz.underlying22 w2.heap.size _ L rfl HRL.out.own 0 g1 o1 l1.length c1 l1 rfl HRL.out.w1.rd (by omega) (by unfold maxLen; omega) HRL.out.below.size (fun v5 z5 hown5 hg5 _ => ?_); have HA5 := Lib.hid (HRL.out.app (World.grownBy.refl _ _) hg5); have HO5 := Lib.hid hown5; clear hown5 hg5) | (at_builtin; refine wpList_appW 40 _ 32 infoIt rfl rfl _ _ _ rfl Tryz.underlying22 w2.heap.size _ (L ++ l1) rfl HO5.out 0 g2 o2 l2.length c2 l2 rfl HA5.out.2.1.rd (by rw [List.length_append]; omega) (by rw [List.length_append]; unfold maxLen; omega) HA5.out.2.2.size (fun v6 z6 hown6 hg6 _ => ?_); have HG6 := Lib.hid hg6; have HO6 := Lib.hid hown6; clear hown6 hg6))
          go_ret
          have hsz := HWB.out.size
          refine ⟨_, L ++ l1 ++ l2, rfl, HO6.out.low hsz, by rw [List.append_assoc]; exact HRL.out.perm, merged HRL.out.s0 HRL.out.s1 HRL.out.s2 HRL.out.lo HE.out, ?_⟩
          have hb6 := HA5.out.2.2.grown HG6.out HA5.out.2.2.size (fun k e => (HO5.out.blk k e).1)
          exact HWB.out.trans (hb6.mono hsz)
        · by_cases hm2 : l2 = []
          · have hd1 : decide (0 < l1.length) = true := by cases l1 with | nil => exact absurd rfl hm1 | cons _ _ => simp
            have hd2 : decide (0 < l2.length) = false := by rw [hm2]; rfl
            have HE : Hid (l1 = [] ∨ l2 = []) := .inr hm2
            clear hm1 hm2
            go_wp2_with (first | (at_builtin; refine wpList_appW 40 _ 32 infoIt rfl rfl _ _ _ rfl Tryz.underlying22 w2.heap.size _ L rfl HRL.out.own 0 g1 o1 l1.length c1 l1 rfl HRL.out.w1.rd (by omega) (by unfold maxLen; omega) HRL.out.below.size (fun v5 z5 hown5 hg5 _ => ?_); have HA5 := Lib.hid (HRL.out.app (World.grownBy.refl _ _) hg5); have HO5 := Lib.hid hown5; clear hown5 hg5) | (at_builtin; refine wpList_appW 40 _ 32 infoIt rfl rfl _ _ _ rfl Tryz.underlying22 w2.heap.size _ (L ++ l1) rfl HO5.out 0 g2 o2 l2.length c2 l2 rfl HA5.out.2.1.rd (by rw [List.length_append]; omega) (by rw [List.length_append]; unfold maxLen; omega) HA5.out.2.2.size (fun v6 z6 hown6 hg6 _ => ?_); have HG6 := Lib.hid hg6; have HO6 := Lib.hid hown6; clear hown6 hg6))
            go_ret
            have hsz := HWB.out.size
            refine ⟨_, L ++ l1 ++ l2, rfl, HO6.out.low hsz, by rw [List.append_assoc]; exact HRL.out.perm, merged HRL.out.s0 HRL.out.s1 HRL.out.s2 HRL.out.lo HE.out, ?_⟩
            have hb6 := HA5.out.2.2.grown HG6.out HA5.out.2.2.size (fun k e => (HO5.out.blk k e).1)
            exact HWB.out.trans (hb6.mono hsz)
          · obtain ⟨x, r, rfl⟩ : ∃ x r, l1 = x :: r := by cases l1 with | nil => exact absurd rfl hm1 | cons x r => exact ⟨x, r, rfl⟩
            obtain ⟨y, s, rfl⟩ : ∃ y s, l2 = y :: s := by cases l2 with | nil => exact absurd rfl hm2 | cons y s => exact ⟨y, s, rfl⟩
            clear hm1 hm2
            obtain ⟨_, q1, e1, hc1, hl1, hb1, x0, x1, x2, x3⟩ := HRL.out.w1.head
            cases e1
            obtain ⟨_, q2, e2, hc2, hl2, hb2, y0, y1, y2, y3⟩ := HRL.out.w2.head
            cases e2
            have hown := HRL.out.own
            have hszw := HRL.out.below.size
            clear hb1 hb2 hz1 hz2
            simp only [List.length_cons] at htot ⊢
            cases hls : lessB y.r x.r with
            | true =>
              have HLS := Lib.hid hls
              have hcm : rcmp y.r x.r < 0 := by simpa [lessB] using hls
              have HCM := Lib.hid hcm
              clear hls hcm
              by_cases hcap : c2 = 1
              · have HC1 : Hid (c2 = 1) := hcap
                go_wp2_with fail
                refine wp_region_still_tail 8 (by kernel_rfl) (by kernel_rfl) ?_
                simp only [List.take_succ_cons, List.take_zero, List.drop_succ_cons, List.drop_zero]
                change wpStill _ _ (World.drew _) _ _ _
                repeat still_step
                refine wpStill_nil ?_
                change wpList _ _ _ _ _ (World.drew _)
                go_wp2_with (first | (go_at_call 95; refine (Less_any y.r x.r _).mono ?_; rintro e w5 ⟨rfl, hb5⟩; rw [HLS.out]; have hb5' := hb5.drew_left; have kk : ∀ {b o : Nat} {v : Value}, wr.cell? ⟨b, o, none⟩ = some v → w5.cell? ⟨b, o, none⟩ = some v := fun h => (hb5'.cell (World.block_lt_of_cell? wr _ h)).trans h; have t0 := kk y0; have t1 := kk y1; have t2 := kk y2; have t3 := kk y3; have H0 : Hid (wr.grownBy w5 none) := ⟨hb5'.os, hb5'.tape, hb5'.output, hb5'.size, fun i hi _ => hb5'.block i hi⟩; have hown5 := hown.below hb5'; clear hb5 hb5' kk) | (at_builtin; refine wpList_app1 It.vs 4 40 _ 32 infoIt rfl (by decide) rfl _ _ _ rfl Tryz.underlying22 w2.heap.size _ L rfl (hown5.alloc _) y _ _ rfl rfl (newAt _ _ _ _ rfl) (by simp [It.vs, Value.oneCell']) (by omega) (by unfold maxLen; omega) (by have := H0.out.size; simp; omega) (fun v6 z6 hown6 hg6 _ => ?_); have HO6 := Lib.hid hown6; have HG6 := Lib.hid hg6; clear hown6 hg6))
                have st := HRL.out.take2 (o' := o2) (by have := HCM.out; omega) (grownBy_none_then H0.out (alloc_none _ _)) HG6.out HO6.out (fun h0 => by have := HC1.out; omega)
                have hc0 : c2 - 1 = 0 := by have := HC1.out; omega
                rw [hc0] at st
                exact ⟨⟨L ++ [y], x :: r, s, o1, c1, o2, _, rfl, rfl, st⟩, by simp [lenOf]⟩
              · have HC1 : Hid (c2 ≠ 1) := hcap
                go_wp2_with fail
                refine wp_region_still_tail 8 (by kernel_rfl) (by kernel_rfl) ?_
                simp only [List.take_succ_cons, List.take_zero, List.drop_succ_cons, List.drop_zero]
                change wpStill _ _ (World.drew _) _ _ _
                repeat still_step
                refine wpStill_nil ?_
                change wpList _ _ _ _ _ (World.drew _)
                go_wp2_with (first | (go_at_call 95; refine (Less_any y.r x.r _).mono ?_; rintro e w5 ⟨rfl, hb5⟩; rw [HLS.out]; have hb5' := hb5.drew_left; have kk : ∀ {b o : Nat} {v : Value}, wr.cell? ⟨b, o, none⟩ = some v → w5.cell? ⟨b, o, none⟩ = some v := fun h => (hb5'.cell (World.block_lt_of_cell? wr _ h)).trans h; have t0 := kk y0; have t1 := kk y1; have t2 := kk y2; have t3 := kk y3; have H0 : Hid (wr.grownBy w5 none) := ⟨hb5'.os, hb5'.tape, hb5'.output, hb5'.size, fun i hi _ => hb5'.block i hi⟩; have hown5 := hown.below hb5'; clear hb5 hb5' kk) | (at_builtin; refine wpList_app1 It.vs 4 40 _ 32 infoIt rfl (by decide) rfl _ _ _ rfl Tryz.underlying22 w2.heap.size _ L rfl (hown5.alloc _) y _ _ rfl rfl (newAt _ _ _ _ rfl) (by simp [It.vs, Value.oneCell']) (by omega) (by unfold maxLen; omega) (by have := H0.out.size; simp; omega) (fun v6 z6 hown6 hg6 _ => ?_); have HO6 := Lib.hid hown6; have HG6 := Lib.hid hg6; clear hown6 hg6))
                have st := HRL.out.take2 (o' := o2 + 4) (by have := HCM.out; omega) (grownBy_none_then H0.out (alloc_none _ _)) HG6.out HO6.out (fun _ => rfl)
                exact ⟨⟨L ++ [y], x :: r, s, o1, c1, o2 + 4, _, rfl, rfl, st⟩, by simp [lenOf]⟩
            | false =>
              have HLS := Lib.hid hls
              have hcm : ¬ rcmp y.r x.r < 0 := by simpa [lessB] using hls
              have HCM := Lib.hid hcm
              clear hls hcm
              by_cases hcap : c1 = 1
              · have HC1 : Hid (c1 = 1) := hcap
                go_wp2_with fail
                refine wp_region_still_tail 8 (by kernel_rfl) (by kernel_rfl) ?_
                simp only [List.take_succ_cons, List.take_zero, List.drop_succ_cons, List.drop_zero]
                change wpStill _ _ (World.drew _) _ _ _
                repeat still_step
                refine wpStill_nil ?_
                change wpList _ _ _ _ _ (World.drew _)
                go_wp2_with (first | (go_at_call 95; refine (Less_any y.r x.r _).mono ?_; rintro e w5 ⟨rfl, hb5⟩; rw [HLS.out]; have hb5' := hb5.drew_left; have kk : ∀ {b o : Nat} {v : Value}, wr.cell? ⟨b, o, none⟩ = some v → w5.cell? ⟨b, o, none⟩ = some v := fun h => (hb5'.cell (World.block_lt_of_cell? wr _ h)).trans h; have t0 := kk x0; have t1 := kk x1; have t2 := kk x2; have t3 := kk x3; have H0 : Hid (wr.grownBy w5 none) := ⟨hb5'.os, hb5'.tape, hb5'.output, hb5'.size, fun i hi _ => hb5'.block i hi⟩; have hown5 := hown.below hb5'; clear hb5 hb5' kk) | (at_builtin; refine wpList_app1 It.vs 4 40 _ 32 infoIt rfl (by decide) rfl _ _ _ rfl Tryz.underlying22 w2.heap.size _ L rfl (hown5.alloc _) x _ _ rfl rfl (newAt _ _ _ _ rfl) (by simp [It.vs, Value.oneCell']) (by omega) (by unfold maxLen; omega) (by have := H0.out.size; simp; omega) (fun v6 z6 hown6 hg6 _ => ?_); have HO6 := Lib.hid hown6; have HG6 := Lib.hid hg6; clear hown6 hg6))
                have st := HRL.out.take1 (o' := o1) (by have := HCM.out; omega) (grownBy_none_then H0.out (alloc_none _ _)) HG6.out HO6.out (fun h0 => by have := HC1.out; omega)
                have hc0 : c1 - 1 = 0 := by have := HC1.out; omega
                rw [hc0] at st
                exact ⟨⟨L ++ [x], r, y :: s, o1, _, o2, c2, rfl, rfl, st⟩, by simp [lenOf]⟩
              · have HC1 : Hid (c1 ≠ 1) := hcap
                go_wp2_with fail
                refine wp_region_still_tail 8 (by kernel_rfl) (by kernel_rfl) ?_
                simp only [List.take_succ_cons, List.take_zero, List.drop_succ_cons, List.drop_zero]
                change wpStill _ _ (World.drew _) _ _ _
                repeat still_step
                refine wpStill_nil ?_
                change wpList _ _ _ _ _ (World.drew _)
                go_wp2_with (first | (go_at_call 95; refine (Less_any y.r x.r _).mono ?_; rintro e w5 ⟨rfl, hb5⟩; rw [HLS.out]; have hb5' := hb5.drew_left; have kk : ∀ {b o : Nat} {v : Value}, wr.cell? ⟨b, o, none⟩ = some v → w5.cell? ⟨b, o, none⟩ = some v := fun h => (hb5'.cell (World.block_lt_of_cell? wr _ h)).trans h; have t0 := kk x0; have t1 := kk x1; have t2 := kk x2; have t3 := kk x3; have H0 : Hid (wr.grownBy w5 none) := ⟨hb5'.os, hb5'.tape, hb5'.output, hb5'.size, fun i hi _ => hb5'.block i hi⟩; have hown5 := hown.below hb5'; clear hb5 hb5' kk) | (at_builtin; refine wpList_app1 It.vs 4 40 _ 32 infoIt rfl (by decide) rfl _ _ _ rfl Tryz.underlying22 w2.heap.size _ L rfl (hown5.alloc _) x _ _ rfl rfl (newAt _ _ _ _ rfl) (by simp [It.vs, Value.oneCell']) (by omega) (by unfold maxLen; omega) (by have := H0.out.size; simp; omega) (fun v6 z6 hown6 hg6 _ => ?_); have HO6 := Lib.hid hown6; have HG6 := Lib.hid hg6; clear hown6 hg6))
                have st := HRL.out.take1 (o' := o1 + 4) (by have := HCM.out; omega) (grownBy_none_then H0.out (alloc_none _ _)) HG6.out HO6.out (fun _ => rfl)
                exact ⟨⟨L ++ [x], r, y :: s, o1 + 4, _, o2, c2, rfl, rfl, st⟩, by simp [lenOf]⟩
end Go.Proofs.Bg
end

section
/- The reference: Of. -/
namespace Go.Proofs.Bg
open Go.RowKit

/-- What the first loop has made of some sorted items. -/
structure Mrg (s O : List It) : Prop where
  sums : ∀ r, sumN O r = sumN s r
  incr : Incr (O.map (·.r))
  mem : ∀ y ∈ O, y.r ∈ s.map (·.r)
  len : O.length ≤ s.length
theorem Mrg.nil : Mrg [] [] := ⟨fun _ => rfl, by simp [Incr], (fun _ h => by cases h), Nat.le_refl _⟩
theorem Mrg.new {s O : List It} {x : It} (h : Mrg s O) (hs : SortedL (s ++ [x])) (hne : ∀ p, O.getLast? = some p → p.r ≠ x.r) : Mrg (s ++ [x]) (O ++ [x]) := by
  have hle : ∀ y ∈ O, ¬ rcmp x.r y.r < 0 := fun y hy => by
    obtain ⟨z, hz, e⟩ := List.mem_map.1 (h.mem y hy)
    unfold SortedL at hs
    rw [List.pairwise_append] at hs
    rw [← e]
    exact hs.2.2 z hz x (by simp)
  have hlt : ∀ y ∈ O, rcmp y.r x.r < 0 := fun y hy => by
    rcases rcmp_total y.r x.r with h1 | h1 | h1
    · exact h1
    · exfalso
      obtain ⟨O', p, rfl⟩ : ∃ O' p, O = O' ++ [p] := ⟨O.dropLast, O.getLast (List.ne_nil_of_mem hy), (List.dropLast_concat_getLast _).symm⟩
      have hp := hne p (by simp)
      have hin := h.incr
      unfold Incr at hin
      rw [List.map_append, List.pairwise_append] at hin
      rcases List.mem_append.1 hy with hy' | hy'
      · have h2 := hin.2.2 y.r (List.mem_map.2 ⟨y, hy', rfl⟩) p.r (by simp)
        rw [h1] at h2
        exact hle p (by simp) h2
      · rw [List.mem_singleton.1 hy'] at h1
        exact hp h1
    · exact absurd h1 (hle y hy)
  refine ⟨fun r => by rw [sumN_append, sumN_append, h.sums], ?_, fun y hy => ?_, by simp; exact h.len⟩
  · unfold Incr
    rw [List.map_append, List.pairwise_append]
    exact ⟨h.incr, by simp, fun a ha b hb => by
      obtain ⟨y, hy, rfl⟩ := List.mem_map.1 ha
      simp at hb
      rw [hb]
      exact hlt y hy⟩
  · rcases List.mem_append.1 hy with hy | hy
    · rw [List.map_append]; exact List.mem_append_left _ (h.mem y hy)
    · rw [List.mem_singleton.1 hy]; simp
theorem Mrg.same {s O : List It} {p x : It} (h : Mrg s (O ++ [p])) (he : p.r = x.r) : Mrg (s ++ [x]) (O ++ [⟨p.r, p.n + x.n⟩]) := by
  refine ⟨fun r => ?_, by have := h.incr; simpa using this, fun y hy => ?_, ?_⟩
  · have := h.sums r
    rw [sumN_append] at this ⊢
    rw [sumN_append, ← this]
    simp only [sumN, he]
    split <;> omega
  · rw [List.map_append]
    refine List.mem_append_left _ ?_
    rcases List.mem_append.1 hy with hy | hy
    · exact h.mem y (List.mem_append_left _ hy)
    · rw [List.mem_singleton.1 hy]
      exact h.mem p (by simp)
  · have := h.len
    simp at this ⊢
    omega
theorem Mrg.last {s O : List It} {p : It} (h : Mrg s (O ++ [p])) : p.n = sumN s p.r := by
  rw [← h.sums]
  exact (sumN_at h.incr (by simp)).symm

theorem Own.setLast {base g cap : Nat} {w : World} {O : List It} {p : It} (h : Own It.vs 4 40 base w (.slice (some ⟨g, 0, none⟩) (O ++ [p]).length cap) (O ++ [p])) (m : Int) :
    Own It.vs 4 40 base (w.setCell ⟨g, O.length * 4 + 3, none⟩ (.int .i64 m)) (.slice (some ⟨g, 0, none⟩) (O ++ [p]).length cap) (O ++ [⟨p.r, m⟩]) ∧ w.grownBy (w.setCell ⟨g, O.length * 4 + 3, none⟩ (.int .i64 m)) (some g) := by
  obtain ⟨hlen, hrest⟩ := h
  rcases hrest with ⟨e, _⟩ | ⟨g', cap', cur, e, hb, hblk, h1, h2, h3, h4⟩
  · cases e
  · cases e
    obtain ⟨s1, s2⟩ := setCell_at (off := O.length * 4 + 3) hblk (.int .i64 m)
    refine ⟨⟨flat_length It.vs_length _, .inr ⟨g, cap, _, by simp, hb, s1, by simpa using h1, h2, by simpa using h3, ?_⟩⟩, s2⟩
    have hlO : (O.flatMap It.vs).length = O.length * 4 := flat_length It.vs_length O
    rw [Array.toList_setIfInBounds, List.take_set]
    have e4 : List.take ((O ++ [(⟨p.r, m⟩ : It)]).length * 4) cur.toList = (O ++ [p]).flatMap It.vs := by
      rw [← h4]; simp
    rw [e4, List.flatMap_append, List.flatMap_append, List.set_append]
    rw [if_neg (by omega)]
    congr 1
    have : O.length * 4 + 3 - (O.flatMap It.vs).length = 3 := by omega
    rw [this]
    rfl
-- OF
theorem alloc_drewN_alloc (w : World) (o : Obj) (n : Nat) (o' : Obj) : w.grownBy (((w.alloc o).drewN n).alloc o') none :=
  ⟨rfl, rfl, rfl, by simp; omega, fun i hi _ => by rw [Below.heap_alloc _ _ _ (by simp; omega)]; exact Below.heap_alloc _ _ _ hi⟩
theorem below_far {w2 wr W z : World} {row : Option Nat} (hB : Below w2.heap.size w2 wr) (h0 : wr.grownBy W none) (hg : W.grownBy z row) (hr : ∀ k, row = some k → w2.heap.size ≤ k) : Below w2.heap.size w2 z :=
  (hB.grown h0 hB.size (fun k e => by cases e)).grown hg (Nat.le_trans hB.size h0.size) hr
theorem Own.drewN {α : Type} {enc : α → List Value} {sz : Nat} {T : TypeId} {base : Nat} {w : World} {v : Value} {l : List α} (h : Own enc sz T base w v l) (n : Nat) : Own enc sz T base (w.drewN n) v l := h
theorem Rc.ext3 {a b : Rc} (h0 : a.at_ = b.at_) (h1 : a.key = b.key) (h2 : a.val = b.val) : a = b := by cases a; cases b; simp_all
theorem sorted_prefix {a b : List It} (h : SortedL (a ++ b)) : SortedL a := (List.pairwise_append.1 h).1
theorem Own.lastCells {base g cap : Nat} {w : World} {O : List It} {p : It} (h : Own It.vs 4 40 base w (.slice (some ⟨g, 0, none⟩) (O ++ [p]).length cap) (O ++ [p])) : w.cell? ⟨g, O.length * 4, none⟩ = some (.int .i64 p.r.at_) ∧ w.cell? ⟨g, O.length * 4 + 1, none⟩ = some (.int .i64 p.r.key) ∧ w.cell? ⟨g, O.length * 4 + 2, none⟩ = some (.int .i64 p.r.val) ∧ w.cell? ⟨g, O.length * 4 + 3, none⟩ = some (.int .i64 p.n) ∧ w.frozen? ⟨g, O.length * 4 + 3, none⟩ = false := by
  have hx : (O ++ [p])[O.length]? = some p := by simp
  have hc : ∀ j v, (It.vs p)[j]? = some v → w.cell? ⟨g, O.length * 4 + j, none⟩ = some v := fun j v hv => by
    have hf := flat_at It.vs_length (O ++ [p]) _ _ hx j v hv
    rw [← hf]
    exact World.ownsRow.cellAt h _ (by have := (List.getElem?_eq_some_iff.1 hf).1; rw [flat_length It.vs_length] at this; exact this)
  refine ⟨hc 0 _ rfl, hc 1 _ rfl, hc 2 _ rfl, hc 3 _ rfl, World.ownsRow.frozenAt h _⟩

set_option maxRecDepth 100000 in
set_option maxHeartbeats 8000000 in
theorem Of_any (A : Option Addr) (n cap : Nat) (l : List It) (w : World) (hR : Rd It.vs 4 w 0 A n l) (hc : n ≤ cap) (hS : n * 32 ≤ 140737488355328) (hF : Fits l) :
    Calls Tryz.prog 70 #[.slice A n cap] w fun e w' => ∃ A' cap', e = .returned (.slice A' (canon l).length cap') ∧ Rd It.vs 4 w' w.heap.size A' (canon l).length (canon l) ∧ Below w.heap.size w w' := by
  have C1 := Lib.hid (sorted_any (n + 1) A n cap l w (by omega) hR hc hS)
  have HLN : Hid (l.length = n) := hR.len
  have HF := Lib.hid hF
  clear hR hF hc
  go_enter Tryz.func70, Tryz.ntmps70
  go_wp2_with (go_at_call 104; (with_reducible refine C1.out.mono ?_); rintro e w2 ⟨v1, s, rfl, hos, hps, hss, hb2⟩; obtain ⟨As, cs, rfl⟩ := hos.shape)
  obtain ⟨_, _, es, hrs⟩ := hos.rd It.vs_length
  cases es
  have hsl : s.length = n := by rw [hps.length_eq, HLN.out]
  have HRS := Lib.hid hrs
  have HPS := Lib.hid hps
  have HSS := Lib.hid hss
  have HB2 := Lib.hid hb2
  have HSL := Lib.hid hsl
  have hle := hrs.le
  clear hos hrs hps hss hb2 C1
  generalize hM : s.length = M at *
  have HM := Lib.hid hM
  clear hM
  have hMn : M * 32 ≤ 140737488355328 := by omega
  clear hsl
  go_loopw [3, 5, 6, 13] (fun v _ _ i wr => ∃ k : Nat, k ≤ M ∧ i = .int .i64 k ∧ ∃ O, Mrg (s.take k) O ∧ Own It.vs 4 40 w2.heap.size wr v O ∧ Below w2.heap.size w2 wr) (fun _ _ _ i _ => M - (intOf i).toNat)
  case atStart => exact ⟨0, by omega, rfl, [], Mrg.nil, Own.nil _ _ _ _ _, Below.refl _ _⟩
  case round =>
    obtain ⟨k, hk, rfl, O, hm, hown, hBr⟩ := hrel
    obtain ⟨A3, cap3, rfl⟩ := hown.shape
    have hRk := HRS.out.below hBr
    have HBr := Lib.hid hBr
    have HMG := Lib.hid hm
    have hOl : O.length ≤ k := by have := hm.len; rw [List.length_take] at this; omega
    have hsw := hBr.size
    clear hBr hm
    by_cases hlt : k < M
    · obtain ⟨b, off, x, rfl, _, hx, c0, c1, c2, c3⟩ := hRk.it_at hlt
      have htk : s.take (k + 1) = s.take k ++ [x] := by rw [List.take_add_one, hx]; rfl
      have hsk : SortedL (s.take k ++ [x]) := by
        rw [← htk]
        have := HSS.out
        rw [← List.take_append_drop (k + 1) s] at this
        exact sorted_prefix this
      have hx0 := new_block wr #[.int .i64 x.r.at_, .int .i64 x.r.key, .int .i64 x.r.val, .int .i64 x.n] 40
      have f0 := cell_at_block (off := 0) hx0 rfl
      have f1 := cell_at_block (off := 1) hx0 rfl
      have f2 := cell_at_block (off := 2) hx0 rfl
      have f3 := cell_at_block (off := 3) hx0 rfl
      have HTK := Lib.hid htk
      have HSK := Lib.hid hsk
      have HX := Lib.hid hx
      clear hx0 htk hsk hx hRk
      by_cases hO : O = []
      · have NM := Lib.hid (HMG.out.new HSK.out (fun p hp => by rw [hO] at hp; cases hp))
        have hgd : decide (0 < O.length) = false := by rw [hO]; rfl
        clear hO
        go_wp2_with fail
        go_quiet (fail)
        go_wp2_with (at_builtin; go_loud (refine wpList_app1 It.vs 4 40 _ 32 infoIt rfl (by decide) rfl _ _ _ rfl Tryz.underlying23 w2.heap.size _ O rfl (((hown.alloc _).drewN _).alloc _) x _ _ rfl rfl (newAt _ _ _ _ (by simp)) (by simp [It.vs, Value.oneCell']) (by omega) (by unfold maxLen; omega) (by simp; omega) (fun v6 z6 hown6 hg6 _ => ?_)))
        exact ⟨⟨k + 1, by omega, by go_num, _, by rw [HTK.out]; exact NM.out, hown6, below_far HBr.out (alloc_drewN_alloc _ _ _ _) hg6 (fun j hj => (hown.blk j hj).1)⟩, by simp [intOf]; omega⟩
      · obtain ⟨O', p, rfl⟩ : ∃ O' p, O = O' ++ [p] := ⟨O.dropLast, O.getLast hO, (List.dropLast_concat_getLast _).symm⟩
        clear hO
        obtain ⟨g, rfl⟩ : ∃ g, A3 = some ⟨g, 0, none⟩ := by
          rcases hown.2 with ⟨_, e0⟩ | ⟨g, cap, cur, e, _⟩
          · simp at e0
          · cases e; exact ⟨g, rfl⟩
        obtain ⟨d0, d1, d2, d3, dz⟩ := hown.lastCells
        have hgl := (hown.blk g rfl)
        have q0 := keep_cell (Below.refl _ (wr.alloc (.cells #[.int .i64 x.r.at_, .int .i64 x.r.key, .int .i64 x.r.val, .int .i64 x.n] 40))) d0
        have q1 := keep_cell (Below.refl _ (wr.alloc (.cells #[.int .i64 x.r.at_, .int .i64 x.r.key, .int .i64 x.r.val, .int .i64 x.n] 40))) d1
        have q2 := keep_cell (Below.refl _ (wr.alloc (.cells #[.int .i64 x.r.at_, .int .i64 x.r.key, .int .i64 x.r.val, .int .i64 x.n] 40))) d2
        have q3 := keep_cell (Below.refl _ (wr.alloc (.cells #[.int .i64 x.r.at_, .int .i64 x.r.key, .int .i64 x.r.val, .int .i64 x.n] 40))) d3
        have HOWN := Lib.hid hown
        have hol : (O' ++ [p]).length = O'.length + 1 := by simp
        generalize hON : (O' ++ [p]).length = on at *
        have HON := Lib.hid hON
        clear hON
        have hgd : decide (0 < on) = true := by simp; omega
        have hw : IntKind.i64.wrap ((on : Int) - 1) = O'.length := by rw [hol]; rw [IntWalk.i64_in _ (by omega)]; omega
        have hw0 : (0 : Int) ≤ O'.length := by omega
        have hw1 : (O'.length : Int) < on := by omega
        have hw2 : (O'.length : Int).toNat = O'.length := by omega
        clear hol
        by_cases hpx : p.r = x.r
        · have NM := Lib.hid (HMG.out.same hpx)
          cases x with
          | mk xr xn =>
          change p.r = xr at hpx
          subst hpx
          dsimp only at c0 c1 c2 c3 f0 f1 f2 f3 q0 q1 q2 q3
          have hbd : -9223372036854775808 ≤ p.n + xn ∧ p.n + xn ≤ 9223372036854775807 := by
            have hl := NM.out.last
            simp only at hl
            obtain ⟨B, hB0, hB, hBl⟩ := HF.out.ex
            have hBs : Bdd B (s.take k ++ [⟨p.r, xn⟩]) := fun z hz => hB z (HPS.out.subset (by
              rw [← HTK.out] at hz
              exact List.mem_of_mem_take hz))
            have h3 := sumN_bdd hB0 hBs p.r
            rw [← hl] at h3
            have h4 : B * ((s.take k ++ [(⟨p.r, xn⟩ : It)]).length : Int) ≤ B * (l.length : Int) := Int.mul_le_mul_of_nonneg_left (by rw [← HTK.out, List.length_take]; have := HSL.out; have := HLN.out; omega) hB0
            omega
          have hwn : IntKind.i64.wrap (p.n + xn) = p.n + xn := IntWalk.i64_in _ hbd
          go_wp2_with fail
          have dz' : (wr.alloc (.cells #[.int .i64 p.r.at_, .int .i64 p.r.key, .int .i64 p.r.val, .int .i64 xn] 40)).frozen? ⟨g, O'.length * 4 + 3, none⟩ = false := by
            have hO1 := HOWN.out
            rw [← HON.out] at hO1
            have := World.ownsRow.frozenAt (World.ownsRow.alloc hO1 (.cells #[.int .i64 p.r.at_, .int .i64 p.r.key, .int .i64 p.r.val, .int .i64 xn] 40)) (O'.length * 4 + 3)
            exact this
          go_quiet (fail)
          go_wp2_with fail
          refine wp_region_still_tail 11 (by kernel_rfl) (by kernel_rfl) ?_
          simp only [List.take_succ_cons, List.take_zero, List.drop_succ_cons, List.drop_zero]
          change wpStill _ _ (World.drew _) _ _ _
          repeat still_step
          refine wpStill_nil ?_
          change wpList _ _ _ _ _ (World.drew _)
          go_wp2_with fail
          have hO2 := HOWN.out
          rw [← HON.out] at hO2
          have SL := Own.setLast (w := ((wr.alloc (.cells #[.int .i64 p.r.at_, .int .i64 p.r.key, .int .i64 p.r.val, .int .i64 xn] 40)).drewN nq).drew) (hO2.alloc _) (p.n + xn)
          have s1 := SL.1
          rw [HON.out] at s1
          exact ⟨⟨k + 1, by omega, by go_num, _, by rw [HTK.out]; exact NM.out, s1, below_far (W := ((wr.alloc (.cells #[.int .i64 p.r.at_, .int .i64 p.r.key, .int .i64 p.r.val, .int .i64 xn] 40)).drewN nq).drew) (row := some g) HBr.out ⟨rfl, rfl, rfl, by simp, fun i hi _ => Below.heap_alloc _ _ _ hi⟩ SL.2 (fun j hj => by cases hj; exact hgl.1)⟩, by simp [intOf]; omega⟩
        · have NM := Lib.hid (HMG.out.new HSK.out (fun q hq => by simp at hq; rw [← hq]; exact hpx))
          cases e0 : (p.r.at_ == x.r.at_) with
          | false =>
            clear hpx 
            go_wp2_with fail
            go_quiet (fail)
            go_wp2_with (at_builtin; go_loud (refine wpList_app1 It.vs 4 40 _ 32 infoIt rfl (by decide) rfl _ _ _ rfl Tryz.underlying23 w2.heap.size _ (O' ++ [p]) rfl (((hown.alloc _).drewN _).alloc _) x _ _ rfl rfl (newAt _ _ _ _ (by simp)) (by simp [It.vs, Value.oneCell']) (by rw [HON.out]; omega) (by rw [HON.out]; unfold maxLen; omega) (by simp; omega) (fun v6 z6 hown6 hg6 _ => ?_)))
            exact ⟨⟨k + 1, by omega, by go_num, _, by rw [HTK.out]; exact NM.out, hown6, below_far HBr.out (alloc_drewN_alloc _ _ _ _) hg6 (fun j hj => (hown.blk j hj).1)⟩, by simp [intOf]; omega⟩
          | true =>
            have g0 := beq_iff_eq.1 e0
            rw [← g0] at f0
            cases e1 : (p.r.key == x.r.key) with
            | false =>
              clear hpx e0 g0
              go_wp2_with fail
              go_quiet (fail)
              go_wp2_with (at_builtin; go_loud (refine wpList_app1 It.vs 4 40 _ 32 infoIt rfl (by decide) rfl _ _ _ rfl Tryz.underlying23 w2.heap.size _ (O' ++ [p]) rfl (((hown.alloc _).drewN _).alloc _) x _ _ rfl rfl (newAt _ _ _ _ (by simp)) (by simp [It.vs, Value.oneCell']) (by rw [HON.out]; omega) (by rw [HON.out]; unfold maxLen; omega) (by simp; omega) (fun v6 z6 hown6 hg6 _ => ?_)))
              exact ⟨⟨k + 1, by omega, by go_num, _, by rw [HTK.out]; exact NM.out, hown6, below_far HBr.out (alloc_drewN_alloc _ _ _ _) hg6 (fun j hj => (hown.blk j hj).1)⟩, by simp [intOf]; omega⟩
            | true =>
              have g1 := beq_iff_eq.1 e1
              rw [← g1] at f1
              have e2 : (p.r.val == x.r.val) = false := by
                cases h : (p.r.val == x.r.val) with
                | false => rfl
                | true => exact absurd (Rc.ext3 g0 g1 (beq_iff_eq.1 h)) hpx
              clear hpx e0 g0 e1 g1
              go_wp2_with fail
              go_quiet (fail)
              go_wp2_with (at_builtin; go_loud (refine wpList_app1 It.vs 4 40 _ 32 infoIt rfl (by decide) rfl _ _ _ rfl Tryz.underlying23 w2.heap.size _ (O' ++ [p]) rfl (((hown.alloc _).drewN _).alloc _) x _ _ rfl rfl (newAt _ _ _ _ (by simp)) (by simp [It.vs, Value.oneCell']) (by rw [HON.out]; omega) (by rw [HON.out]; unfold maxLen; omega) (by simp; omega) (fun v6 z6 hown6 hg6 _ => ?_)))
              exact ⟨⟨k + 1, by omega, by go_num, _, by rw [HTK.out]; exact NM.out, hown6, below_far HBr.out (alloc_drewN_alloc _ _ _ _) hg6 (fun j hj => (hown.blk j hj).1)⟩, by simp [intOf]; omega⟩
    · have hk' : k = M := by omega
      subst hk'
      clear hRk hlt
      have HMG2 : Hid (Mrg s O) := by have := HMG.out; rwa [List.take_of_length_le (by rw [HM.out]; exact Nat.le_refl _)] at this
      obtain ⟨_, _, e3, hr3⟩ := hown.rd It.vs_length
      cases e3
      have hle3 := hr3.le
      have HR3 := Lib.hid hr3
      have HFIN : Hid (O.filter (fun x => x.n != 0) = canon l) := IsBag.eq ⟨incr_filter _ HMG2.out.incr, fun x hx => by simpa using (List.mem_filter.1 hx).2, fun r => by rw [filter_sum, HMG2.out.sums, sumN_perm HPS.out]⟩
      have HSZ := Lib.hid hsw
      clear hown hr3 hsw
      generalize hQ : O.length = Q at *
      have HQ := Lib.hid hQ
      clear hQ
      obtain ⟨wo, rfl⟩ : ∃ wo : World, wo = wr := ⟨_, rfl⟩
      go_wp2_with fail
      go_loopw [7, 9, 50] (fun v _ i wi => ∃ j : Nat, j ≤ Q ∧ i = .int .i64 j ∧ Own It.vs 4 40 wo.heap.size wi v ((O.take j).filter (fun x => x.n != 0)) ∧ Below wo.heap.size wo wi) (fun _ _ i _ => Q - (intOf i).toNat)
      case atStart => exact ⟨0, by omega, rfl, by simpa using Own.nil _ _ _ _ _, Below.refl _ _⟩
      case round =>
        obtain ⟨j, hj, rfl, hown, hB⟩ := hrel
        obtain ⟨A5, cap5, rfl⟩ := hown.shape
        have hRj := HR3.out.below hB
        have HBj := Lib.hid hB
        have hsj := hB.size
        clear hB
        by_cases hjl : j < Q
        · obtain ⟨b3, off3, y, rfl, _, hy, d0, d1, d2, d3⟩ := hRj.it_at hjl
          have hft : (O.take (j + 1)).filter (fun x => x.n != 0) = (O.take j).filter (fun x => x.n != 0) ++ (if y.n != 0 then [y] else []) := by
            rw [List.take_add_one, hy, List.filter_append]
            cases h : (y.n != 0) <;> simp [h]
          have hfl : ((O.take j).filter (fun x => x.n != 0)).length ≤ j := Nat.le_trans (List.length_filter_le _ _) (by rw [List.length_take]; omega)
          have HFT := Lib.hid hft
          clear hft hy hRj
          generalize (O.take j).filter (fun x => x.n != 0) = FL at *
          cases hz : (y.n != 0) with
          | false =>
            have HZ := Lib.hid hz
            go_wp2_with fail
            exact ⟨⟨j + 1, by omega, by go_num, by rw [HFT.out, HZ.out]; simpa using hown.alloc _, HBj.out.alloc hsj _⟩, by simp [intOf]; omega⟩
          | true =>
            have HZ := Lib.hid hz
            go_wp2_with (at_builtin; go_loud (refine wpList_app1 It.vs 4 40 _ 32 infoIt rfl (by decide) rfl _ _ _ rfl Tryz.underlying23 wo.heap.size _ FL rfl ((hown.alloc _).alloc _) y _ _ rfl rfl (newAt _ _ _ _ (by simp)) (by simp [It.vs, Value.oneCell']) (by omega) (by unfold maxLen; omega) (by simp; omega) (fun v4 w4 hown4 hg4 _ => ?_)))
            exact ⟨⟨j + 1, by omega, by go_num, by rw [HFT.out, HZ.out]; simpa using hown4, below_far HBj.out (alloc2_none _ _ _) hg4 (fun q hq => (hown.blk q hq).1)⟩, by simp [intOf]; omega⟩
        · have hj' : j = Q := by omega
          subst hj'
          clear hRj hjl
          go_wp2_with fail
          go_ret
          have e1 : O.take j = O := List.take_of_length_le (by rw [HQ.out]; exact Nat.le_refl _)
          rw [e1, HFIN.out] at hown ⊢
          obtain ⟨A7, cap7, e7, hr7⟩ := hown.rd It.vs_length
          cases e7
          exact ⟨_, _, rfl, hr7.low (Nat.le_trans HB2.out.size HSZ.out), HB2.out.trans ((HBr.out.trans (HBj.out.mono HSZ.out)).mono HB2.out.size)⟩
end Go.Proofs.Bg
end
