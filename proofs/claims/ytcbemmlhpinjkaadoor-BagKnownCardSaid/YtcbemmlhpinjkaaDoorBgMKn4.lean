/- Texts of our own, merged: BgLeastP BgIsEdit BgNewsR BgNewR BgSumsR BgDo BgDoR BgBetween BgCol BgCutR BgBags BgParts BgShift BgEqual BgRet BgLawKnown. -/
import Derived.Test.YtcbemmlhpinjkaaDoorBgMKn2
import Derived.Test.YtcbemmlhpinjkaaDoorBgMKn3
import Derived.RangeFuncNested
import Derived.RangeFuncBound
import Derived.RangeFuncCalls
import Derived.RangeFuncLeaves
import Derived.Shelf.Abstract
import Derived.Shelf.RegionOpen
import Derived.WalkKit
import Derived.OwnWalkIn
import Derived.TacticsInMore
import Derived.LoopNIn
import Derived.LoopIn
import Derived.Maps.AppendAt
import Derived.BigQuiet
import Derived.Test.YtcbemmlhpinjkaaDoorBgMKn1
import Derived.Deep.RegionHeld3
import Derived.Deep.DrawnRows

section
/- Plain law: edits lead from one bag to the other one, and none that do so are shorter. No program, no memory. -/
namespace Go.Proofs.Bg

/-! ### what edits add -/
def edIt (x : Ed) : List It := (if x.d = 1 then [] else [⟨x.old, -x.n⟩]) ++ (if x.d = 2 then [] else [⟨x.new, x.n⟩])
def edIts (l : List Ed) : List It := l.flatMap edIt
def edB (x : Ed) : Bool := withinB x.n 1 1000000 && (if x.d = 1 then recB x.new && decide (x.old = zRc) else if x.d = 2 then recB x.old && decide (x.new = zRc) else if x.d = 3 then recB x.old && (recB x.new && (!decide (x.old = x.new) && decide (x.old.key = x.new.key))) else false)
def doR (b : List It) (l : List Ed) : List It × Int := if bagB b && (decide (l.length ≤ 600) && l.all edB) then (bagOr (b ++ edIts l), errOr (b ++ edIts l)) else ([], 2)
def lenE (l : List Ed) : Int := (l.map (·.n)).sum
theorem lenE_append (a b : List Ed) : lenE (a ++ b) = lenE a + lenE b := by simp [lenE]
theorem edIts_append (a b : List Ed) : edIts (a ++ b) = edIts a ++ edIts b := by simp [edIts]
theorem edIts_cons (x : Ed) (r : List Ed) : edIts (x :: r) = edIt x ++ edIts r := by simp [edIts]

/-! ### what is above 0, and below, of a key -/
def posS (k : Int) : List It → Int
  | [] => 0
  | x :: r => (if x.r.key = k then max x.n 0 else 0) + posS k r
def negS (k : Int) : List It → Int
  | [] => 0
  | x :: r => (if x.r.key = k then max (-x.n) 0 else 0) + negS k r
theorem posS_append (k : Int) (a b : List It) : posS k (a ++ b) = posS k a + posS k b := by
  induction a with
  | nil => simp [posS]
  | cons x r ih => simp only [List.cons_append, posS, ih]; omega
theorem negS_append (k : Int) (a b : List It) : negS k (a ++ b) = negS k a + negS k b := by
  induction a with
  | nil => simp [negS]
  | cons x r ih => simp only [List.cons_append, negS, ih]; omega
theorem posS_neg (k : Int) (l : List It) : posS k (l.map negIt) = negS k l := by
  induction l with
  | nil => rfl
  | cons x r ih => simp only [List.map_cons, posS, negS, ih, negIt]
theorem posS_ins (k : Int) (x : It) (m : List It) : posS k (insIt x m) ≤ posS k (x :: m) := by
  induction m with
  | nil => exact Int.le_refl _
  | cons y r ih =>
    rw [insIt]
    split
    · exact Int.le_refl _
    · split
      · rename_i h
        simp only [posS, h]
        split <;> omega
      · simp only [posS] at ih ⊢
        omega
theorem negS_ins (k : Int) (x : It) (m : List It) : negS k (insIt x m) ≤ negS k (x :: m) := by
  induction m with
  | nil => exact Int.le_refl _
  | cons y r ih =>
    rw [insIt]
    split
    · exact Int.le_refl _
    · split
      · rename_i h
        simp only [negS, h]
        split <;> omega
      · simp only [negS] at ih ⊢
        omega
theorem posS_gather (k : Int) (l : List It) : posS k (gather l) ≤ posS k l := by
  induction l with
  | nil => exact Int.le_refl _
  | cons x r ih => rw [gather]; have := posS_ins k x (gather r); simp only [posS] at this ⊢; omega
theorem negS_gather (k : Int) (l : List It) : negS k (gather l) ≤ negS k l := by
  induction l with
  | nil => exact Int.le_refl _
  | cons x r ih => rw [gather]; have := negS_ins k x (gather r); simp only [negS] at this ⊢; omega
theorem posS_filter (k : Int) (l : List It) : posS k (l.filter (fun x => x.n != 0)) = posS k l := by
  induction l with
  | nil => rfl
  | cons x r ih =>
    rw [List.filter_cons]
    split
    · rw [posS, posS, ih]
    · rename_i h
      have : x.n = 0 := by simpa using h
      rw [ih, posS, this]
      split <;> omega
theorem negS_filter (k : Int) (l : List It) : negS k (l.filter (fun x => x.n != 0)) = negS k l := by
  induction l with
  | nil => rfl
  | cons x r ih =>
    rw [List.filter_cons]
    split
    · rw [negS, negS, ih]
    · rename_i h
      have : x.n = 0 := by simpa using h
      rw [ih, negS, this]
      split <;> omega
theorem posS_canon (k : Int) (l : List It) : posS k (canon l) ≤ posS k l := by rw [canon, posS_filter]; exact posS_gather k l
theorem negS_canon (k : Int) (l : List It) : negS k (canon l) ≤ negS k l := by rw [canon, negS_filter]; exact negS_gather k l

/-! ### how long edits are -/
def sumIt : List It → Int
  | [] => 0
  | x :: r => x.n + sumIt r
theorem sumIt_less (x : It) (r : List It) (k : Int) : sumIt (lessL (x :: r) k) = sumIt (x :: r) - k := by
  simp only [lessL]
  split <;> simp only [sumIt] <;> omega
theorem sumIt_pos {l : List It} (h : PosL l) : 0 ≤ sumIt l := by
  induction l with
  | nil => simp [sumIt]
  | cons x r ih =>
    have := h x List.mem_cons_self
    have := ih (fun y hy => h y (List.mem_cons_of_mem _ hy))
    simp only [sumIt]
    omega
theorem lenE_gone (l : List It) : lenE (l.map goneE) = sumIt l := by
  induction l with
  | nil => rfl
  | cons x r ih => simp only [lenE, List.map_cons, List.sum_cons, goneE, sumIt] at ih ⊢; omega
theorem lenE_say (l : List It) : lenE (l.map sayE) = sumIt l := by
  induction l with
  | nil => rfl
  | cons x r ih => simp only [lenE, List.map_cons, List.sum_cons, sayE, sumIt] at ih ⊢; omega
theorem lessL_pos {x : It} {r : List It} {k : Int} (h : PosL (x :: r)) (hk : 0 < k) (hk2 : k ≤ x.n) : PosL (lessL (x :: r) k) := h.less hk hk2
theorem turnF_len : ∀ (f : Nat) (l1 l2 : List It), PosL l1 → PosL l2 → l1.length + l2.length < f → lenE (turnF f l1 l2) = max (sumIt l1) (sumIt l2)
  | 0, _, _, _, _, h => absurd h (by omega)
  | f + 1, [], l2, _, h2, _ => by
    have := sumIt_pos h2
    rw [turnF, lenE_say]
    simp only [sumIt]
    omega
  | f + 1, x :: r, [], h1, _, _ => by
    have := sumIt_pos h1
    rw [turnF, lenE_gone]
    simp only [sumIt] at this ⊢
    omega
  | f + 1, x :: r, y :: s, h1, h2, hf => by
    have hx := h1 x List.mem_cons_self
    have hy := h2 y List.mem_cons_self
    have hm : 0 < min x.n y.n := by omega
    have e1 := lessL_length x r (min x.n y.n)
    have e2 := lessL_length y s (min x.n y.n)
    have ho : x.n = min x.n y.n ∨ y.n = min x.n y.n := by omega
    simp only [List.length_cons] at hf
    have ih := turnF_len f (lessL (x :: r) (min x.n y.n)) (lessL (y :: s) (min x.n y.n)) (lessL_pos h1 hm (by omega)) (lessL_pos h2 hm (by omega)) (by
      split at e1 <;> split at e2 <;> omega)
    rw [sumIt_less, sumIt_less] at ih
    rw [turnF]
    have : lenE (⟨3, x.r, y.r, min x.n y.n⟩ :: turnF f (lessL (x :: r) (min x.n y.n)) (lessL (y :: s) (min x.n y.n))) = min x.n y.n + lenE (turnF f (lessL (x :: r) (min x.n y.n)) (lessL (y :: s) (min x.n y.n))) := by simp [lenE]
    rw [this, ih]
    omega
theorem sumIt_miss (d : List It) (k : Int) : sumIt (missL d k) = negS k d := by
  unfold missL
  induction d with
  | nil => rfl
  | cons x r ih =>
    by_cases hk : x.r.key = k <;> by_cases hn : x.n < 0
    · simp [hk, hn, sumIt, negS, negIt, ih]; omega
    · simp [hk, hn, negS, ih]; omega
    · simp [hk, negS, ih]
    · simp [hk, negS, ih]
theorem sumIt_there (d : List It) (k : Int) : sumIt (thereL d k) = posS k d := by
  unfold thereL
  induction d with
  | nil => rfl
  | cons x r ih =>
    by_cases hk : x.r.key = k <;> by_cases hn : x.n < 0
    · simp [hk, hn, posS, ih]; omega
    · simp [hk, hn, sumIt, posS, ih]; omega
    · simp [hk, posS, ih]
    · simp [hk, posS, ih]
theorem edKey_len {d : List It} (h : DOk d) (k : Int) : lenE (edKey d k) = max (negS k d) (posS k d) := by
  have p1 : PosL (missL d k) := sideL_pos h k false
  have p2 : PosL (thereL d k) := sideL_pos h k true
  unfold edKey turnL
  rw [turnF_len _ _ _ p1 p2 (by omega), sumIt_miss, sumIt_there]
theorem editsL_len {d : List It} (h : DOk d) : lenE (editsL d) = ((keysL d).map (fun k => max (negS k d) (posS k d))).sum := by
  unfold editsL
  generalize keysL d = ks
  induction ks with
  | nil => rfl
  | cons k r ih => rw [List.flatMap_cons, lenE_append, ih, edKey_len h, List.map_cons, List.sum_cons]

/-! ### none are shorter -/
/-- The key of an edit. -/
def keyE (x : Ed) : Int := if x.d = 1 then x.new.key else x.old.key
theorem edB_spec {x : Ed} (h : edB x = true) : 1 ≤ x.n ∧ x.n ≤ 1000000 ∧ (x.d = 1 ∨ x.d = 2 ∨ (x.d = 3 ∧ x.old.key = x.new.key)) := by
  unfold edB at h
  rw [Bool.and_eq_true] at h
  obtain ⟨h1, h2⟩ := h
  simp [withinB] at h1
  refine ⟨h1.1, h1.2, ?_⟩
  split at h2
  · left; assumption
  · split at h2
    · right; left; assumption
    · split at h2
      · right; right
        simp at h2
        exact ⟨by assumption, h2.2.2.2⟩
      · cases h2
def ofKey (k : Int) (l : List Ed) : Int := (l.map (fun x => if keyE x = k then x.n else 0)).sum
theorem posS_edIt {x : Ed} (h : edB x = true) (k : Int) : posS k (edIt x) ≤ (if keyE x = k then x.n else 0) ∧ negS k (edIt x) ≤ (if keyE x = k then x.n else 0) := by
  obtain ⟨h1, h2, h3⟩ := edB_spec h
  unfold edIt keyE
  rcases h3 with h3 | h3 | ⟨h3, h4⟩
  · simp only [h3, if_pos, List.nil_append]
    constructor
    · simp [posS]; split <;> omega
    · simp [negS]; split <;> omega
  · simp only [h3]
    constructor
    · simp [posS]; split <;> omega
    · simp [negS]; split <;> omega
  · simp only [h3]
    constructor
    · simp [posS, h4]; split <;> omega
    · simp [negS, h4]; split <;> omega
theorem posS_edIts {l : List Ed} (h : ∀ x ∈ l, edB x = true) (k : Int) : posS k (edIts l) ≤ ofKey k l ∧ negS k (edIts l) ≤ ofKey k l := by
  induction l with
  | nil => exact ⟨Int.le_refl _, Int.le_refl _⟩
  | cons x r ih =>
    obtain ⟨i1, i2⟩ := ih (fun y hy => h y (List.mem_cons_of_mem _ hy))
    obtain ⟨j1, j2⟩ := posS_edIt (h x List.mem_cons_self) k
    rw [edIts_cons, posS_append, negS_append]
    simp only [ofKey, List.map_cons, List.sum_cons] at i1 i2 ⊢
    exact ⟨by omega, by omega⟩
theorem ofKey_cons (k : Int) (x : Ed) (l : List Ed) : ofKey k (x :: l) = (if keyE x = k then x.n else 0) + ofKey k l := by simp [ofKey]
theorem sum_one (ks : List Int) (hn : ks.Nodup) (k n : Int) (h : 0 ≤ n) : (ks.map (fun q => if k = q then n else 0)).sum ≤ n := by
  induction ks with
  | nil => simpa using h
  | cons q r ih =>
    obtain ⟨h1, h2⟩ := List.nodup_cons.1 hn
    rw [List.map_cons, List.sum_cons]
    by_cases e : k = q
    · subst e
      have : (r.map (fun q => if k = q then n else 0)).sum = 0 := by
        clear ih hn h2
        induction r with
        | nil => rfl
        | cons z t ih =>
          simp only [List.mem_cons, not_or] at h1
          rw [List.map_cons, List.sum_cons, if_neg h1.1, ih h1.2]
          rfl
      rw [if_pos rfl, this]
      omega
    · rw [if_neg e]
      have := ih h2
      omega
theorem ofKeys_le {l : List Ed} (h : ∀ x ∈ l, edB x = true) (ks : List Int) (hn : ks.Nodup) : (ks.map (fun k => ofKey k l)).sum ≤ lenE l := by
  induction l with
  | nil =>
    have : (ks.map (fun k => ofKey k [])).sum = 0 := by
      clear hn
      induction ks with
      | nil => rfl
      | cons k r ih => rw [List.map_cons, List.sum_cons, ih]; rfl
    rw [this]
    exact Int.le_refl _
  | cons x r ih =>
    have h1 := ih (fun y hy => h y (List.mem_cons_of_mem _ hy))
    have h2 := (edB_spec (h x List.mem_cons_self)).1
    have h3 := sum_one ks hn (keyE x) x.n (by omega)
    have e : (ks.map (fun k => ofKey k (x :: r))).sum = (ks.map (fun q => if keyE x = q then x.n else 0)).sum + (ks.map (fun k => ofKey k r)).sum := by
      clear hn h1 h3 ih
      induction ks with
      | nil => rfl
      | cons k t ih => rw [List.map_cons, List.sum_cons, ih, ofKey_cons, List.map_cons, List.sum_cons, List.map_cons, List.sum_cons]; omega
    have e2 : lenE (x :: r) = x.n + lenE r := by simp [lenE]
    omega
theorem incrI_nodup {l : List Int} (h : IncrI l) : l.Nodup := List.Pairwise.imp (fun {a b} (hab : a < b) => by omega) h
theorem sum_le_sum (ks : List Int) (f g : Int → Int) (h : ∀ k, f k ≤ g k) : (ks.map f).sum ≤ (ks.map g).sum := by
  induction ks with
  | nil => exact Int.le_refl _
  | cons k r ih => rw [List.map_cons, List.sum_cons, List.map_cons, List.sum_cons]; have := h k; omega
theorem least {a : List It} {l : List Ed} (hl : ∀ x ∈ l, edB x = true) (hd : DOk (diffL a (canon (a ++ edIts l)))) : lenE (editsL (diffL a (canon (a ++ edIts l)))) ≤ lenE l := by
  have e : diffL a (canon (a ++ edIts l)) = canon (edIts l) := canon_eq fun k => by
    rw [sumN_append, (canon_is _).sums, sumN_append, sumN_neg]
    omega
  rw [editsL_len hd, e]
  refine Int.le_trans (sum_le_sum _ _ (fun k => ofKey k l) (fun k => ?_)) (ofKeys_le hl _ (incrI_nodup (keysL_incr _)))
  have h1 := posS_canon k (edIts l)
  have h2 := negS_canon k (edIts l)
  obtain ⟨h3, h4⟩ := posS_edIts hl k
  omega

/-! ### they lead there -/
theorem sumN_less (x : It) (r : List It) (k : Int) (z : Rc) : sumN (lessL (x :: r) k) z = sumN (x :: r) z - (if x.r = z then k else 0) := by
  simp only [lessL]
  split <;> simp only [sumN] <;> split <;> omega
theorem gone_sum (l : List It) (z : Rc) : sumN (edIts (l.map goneE)) z = - sumN l z := by
  induction l with
  | nil => rfl
  | cons x r ih =>
    rw [List.map_cons, edIts_cons, sumN_append, ih]
    simp only [edIt, goneE, sumN]
    simp [sumN]
    split <;> omega
theorem say_sum (l : List It) (z : Rc) : sumN (edIts (l.map sayE)) z = sumN l z := by
  induction l with
  | nil => rfl
  | cons x r ih =>
    rw [List.map_cons, edIts_cons, sumN_append, ih]
    simp only [edIt, sayE, sumN]
    simp [sumN]
theorem turnF_sum : ∀ (f : Nat) (l1 l2 : List It) (z : Rc), PosL l1 → PosL l2 → l1.length + l2.length < f → sumN (edIts (turnF f l1 l2)) z = sumN l2 z - sumN l1 z
  | 0, _, _, _, _, _, h => absurd h (by omega)
  | f + 1, [], l2, z, _, h2, _ => by rw [turnF, say_sum]; simp [sumN]
  | f + 1, x :: r, [], z, h1, _, _ => by rw [turnF, gone_sum]; simp [sumN]
  | f + 1, x :: r, y :: s, z, h1, h2, hf => by
    have hx := h1 x List.mem_cons_self
    have hy := h2 y List.mem_cons_self
    have hm : 0 < min x.n y.n := by omega
    have e1 := lessL_length x r (min x.n y.n)
    have e2 := lessL_length y s (min x.n y.n)
    have ho : x.n = min x.n y.n ∨ y.n = min x.n y.n := by omega
    simp only [List.length_cons] at hf
    have ih := turnF_sum f (lessL (x :: r) (min x.n y.n)) (lessL (y :: s) (min x.n y.n)) z (lessL_pos h1 hm (by omega)) (lessL_pos h2 hm (by omega)) (by
      split at e1 <;> split at e2 <;> omega)
    rw [sumN_less, sumN_less] at ih
    rw [turnF, edIts_cons, sumN_append, ih]
    have : sumN (edIt ⟨3, x.r, y.r, min x.n y.n⟩) z = (if y.r = z then min x.n y.n else 0) - (if x.r = z then min x.n y.n else 0) := by
      simp [edIt, sumN]
      split <;> split <;> omega
    rw [this]
    omega
theorem miss_sum (d : List It) (k : Int) (z : Rc) : sumN (missL d k) z = if z.key = k then - sumN (d.filter (fun x => decide (x.n < 0))) z else 0 := by
  unfold missL
  induction d with
  | nil => simp [sumN]
  | cons x r ih =>
    by_cases hk : x.r.key = k <;> by_cases hn : x.n < 0
    · simp only [List.filter_cons, hk, hn, decide_true, Bool.and_self, if_true, List.map_cons, sumN, ih, negIt]
      by_cases hz : x.r = z
      · subst hz; simp [hk]; omega
      · simp [hz]
    · simp [hk, hn, ih]
    · simp only [List.filter_cons, hk, hn, decide_false, decide_true, Bool.false_and, if_true, Bool.false_eq_true, if_false, sumN, ih]
      by_cases hz : x.r = z
      · subst hz; simp [hk]
      · simp [hz]
    · simp [hk, hn, ih]
theorem there_sum (d : List It) (k : Int) (z : Rc) : sumN (thereL d k) z = if z.key = k then sumN (d.filter (fun x => !decide (x.n < 0))) z else 0 := by
  unfold thereL
  induction d with
  | nil => simp [sumN]
  | cons x r ih =>
    by_cases hk : x.r.key = k <;> by_cases hn : x.n < 0
    · simp [hk, hn, ih]
    · simp only [List.filter_cons, hk, hn, decide_true, decide_false, Bool.not_false, Bool.and_self, if_true, sumN, ih]
      by_cases hz : x.r = z
      · subst hz; simp [hk]
      · simp [hz]
    · simp [hk, hn, ih]
    · simp only [List.filter_cons, hk, hn, decide_false, Bool.not_false, Bool.false_and, Bool.false_eq_true, if_false, if_true, sumN, ih]
      by_cases hz : x.r = z
      · subst hz; simp [hk]
      · simp [hz]
theorem edKey_sum {d : List It} (h : DOk d) (k : Int) (z : Rc) : sumN (edIts (edKey d k)) z = if z.key = k then sumN d z else 0 := by
  have p1 : PosL (missL d k) := sideL_pos h k false
  have p2 : PosL (thereL d k) := sideL_pos h k true
  unfold edKey turnL
  rw [turnF_sum _ _ _ _ p1 p2 (by omega), miss_sum, there_sum]
  have := sumN_filter_add (fun x => decide (x.n < 0)) d z
  split <;> omega
theorem edits_sum0 {d : List It} (h : DOk d) (z : Rc) : ∀ ks : List Int, ks.Nodup → sumN (edIts (ks.flatMap (edKey d))) z = if z.key ∈ ks then sumN d z else 0
  | [], _ => by simp [edIts, sumN]
  | k :: r, hn => by
    obtain ⟨h1, h2⟩ := List.nodup_cons.1 hn
    rw [List.flatMap_cons, edIts_append, sumN_append, edKey_sum h, edits_sum0 h z r h2]
    by_cases hk : z.key = k
    · subst hk
      simp [h1]
    · simp [hk]
theorem edits_sum {d : List It} (h : DOk d) (z : Rc) : sumN (edIts (editsL d)) z = sumN d z := by
  unfold editsL
  rw [edits_sum0 h z _ (incrI_nodup (keysL_incr d))]
  split
  · rfl
  · rename_i hc
    rw [sumN_none]
    intro hm
    obtain ⟨x, hx, e⟩ := List.mem_map.1 hm
    exact hc ((keysL_mem d z.key).2 (List.mem_map.2 ⟨x, hx, by rw [e]⟩))
theorem edits_lead {a b : List It} (ha : bagB a = true) (hb : bagB b = true) : canon (a ++ edIts (editsL (diffL a b))) = b := by
  have h := diff_ok ha hb
  refine (canon_eq (l' := b) fun k => ?_).trans (canon_id hb)
  rw [sumN_append, edits_sum h, diffL, (canon_is _).sums, sumN_append, sumN_neg]
  omega

/-! ### each of them is one -/
/-- Records that lie in one list lie not in the other one. -/
def Apart (l1 l2 : List It) : Prop := ∀ x ∈ l1, ∀ y ∈ l2, x.r ≠ y.r
theorem less_mem {x : It} {r : List It} {k : Int} {z : It} (h : z ∈ lessL (x :: r) k) : ∃ y ∈ x :: r, y.r = z.r := by
  simp only [lessL] at h
  split at h
  · exact ⟨z, List.mem_cons_of_mem _ h, rfl⟩
  · rcases List.mem_cons.1 h with rfl | h
    · exact ⟨x, List.mem_cons_self, rfl⟩
    · exact ⟨z, List.mem_cons_of_mem _ h, rfl⟩
/-- What is asked of the items of a side. -/
def SideOk (key : Int) (l : List It) : Prop := ∀ x ∈ l, recB x.r = true ∧ x.r.key = key
theorem less_side {x : It} {r : List It} {k key : Int} (h : SideOk key (x :: r)) : SideOk key (lessL (x :: r) k) := fun z hz => by
  obtain ⟨y, hy, e⟩ := less_mem hz
  rw [← e]
  exact h y hy
theorem less_apart {x y : It} {r s : List It} {j k : Int} (h : Apart (x :: r) (y :: s)) : Apart (lessL (x :: r) j) (lessL (y :: s) k) := fun u hu v hv => by
  obtain ⟨u', hu', e1⟩ := less_mem hu
  obtain ⟨v', hv', e2⟩ := less_mem hv
  rw [← e1, ← e2]
  exact h u' hu' v' hv'
/-- An edit as it must be, but for a number that is too great. -/
def edOk (x : Ed) : Prop := 1 ≤ x.n ∧ (x.n ≤ 1000000 → edB x = true)
theorem turnF_ok (key : Int) : ∀ (f : Nat) (l1 l2 : List It), PosL l1 → PosL l2 → SideOk key l1 → SideOk key l2 → Apart l1 l2 → ∀ e ∈ turnF f l1 l2, edOk e
  | 0, _, _, _, _, _, _, _, e, he => by cases he
  | f + 1, [], l2, _, h2, _, s2, _, e, he => by
    rw [turnF] at he
    obtain ⟨x, hx, rfl⟩ := List.mem_map.1 he
    have := h2 x hx
    have := s2 x hx
    refine ⟨by simp only [sayE]; omega, fun hm => ?_⟩
    simp only [sayE] at hm
    have e4 : withinB x.n 1 1000000 = true := by simp [withinB]; omega
    simp [edB, sayE, e4, this.1]
  | f + 1, x :: r, [], h1, _, s1, _, _, e, he => by
    rw [turnF] at he
    obtain ⟨y, hy, rfl⟩ := List.mem_map.1 he
    have := h1 y hy
    have := s1 y hy
    refine ⟨by simp only [goneE]; omega, fun hm => ?_⟩
    simp only [goneE] at hm
    have e4 : withinB y.n 1 1000000 = true := by simp [withinB]; omega
    simp [edB, goneE, e4, this.1]
  | f + 1, x :: r, y :: s, h1, h2, s1, s2, ap, e, he => by
    have hx := h1 x List.mem_cons_self
    have hy := h2 y List.mem_cons_self
    have hm : 0 < min x.n y.n := by omega
    rw [turnF] at he
    rcases List.mem_cons.1 he with rfl | he
    · have a1 := s1 x List.mem_cons_self
      have a2 := s2 y List.mem_cons_self
      have a3 := ap x List.mem_cons_self y List.mem_cons_self
      refine ⟨by simp only; omega, fun hm2 => ?_⟩
      simp only at hm2
      have e2 : decide (x.r = y.r) = false := by simpa using a3
      have e3 : x.r.key = y.r.key := by rw [a1.2, a2.2]
      have e4 : withinB (min x.n y.n) 1 1000000 = true := by simp [withinB]; omega
      simp [edB, a1.1, a2.1, e2, e3, e4]
    · exact turnF_ok key f _ _ (lessL_pos h1 hm (by omega)) (lessL_pos h2 hm (by omega)) (less_side s1) (less_side s2) (less_apart ap) e he
theorem editsL_ok {a b : List It} (ha : bagB a = true) (hb : bagB b = true) : ∀ e ∈ editsL (diffL a b), edOk e := by
  intro e he
  have h := diff_ok ha hb
  have hrec : ∀ x ∈ diffL a b, recB x.r = true := fun x hx => by
    obtain ⟨y, hy, e⟩ := List.mem_map.1 (canon_mem _ _ (List.mem_map.2 ⟨x, hx, rfl⟩))
    rw [← e]
    have : itB y = true := (List.mem_append.1 hy).elim (((bagB_spec _).1 (bagB_neg ha)).1 y) (((bagB_spec b).1 hb).1 y)
    unfold itB at this
    rw [Bool.and_eq_true] at this
    exact this.1
  obtain ⟨k, hk, he⟩ := List.mem_flatMap.1 he
  refine turnF_ok k _ _ _ (sideL_pos h k false) (sideL_pos h k true) (fun x hx => ?_) (fun x hx => ?_) (fun x hx y hy e => ?_) e he
  · obtain ⟨y, hy, rfl⟩ := List.mem_map.1 hx
    obtain ⟨hy, hc⟩ := List.mem_filter.1 hy
    simp at hc
    exact ⟨hrec y hy, hc.1⟩
  · obtain ⟨hy, hc⟩ := List.mem_filter.1 hx
    simp at hc
    exact ⟨hrec x hy, hc.1⟩
  · obtain ⟨z, hz, rfl⟩ := List.mem_map.1 hx
    obtain ⟨hz, hc⟩ := List.mem_filter.1 hz
    obtain ⟨hy, hd⟩ := List.mem_filter.1 hy
    have n1 := sumN_at (canon_is _).incr hz
    have n2 := sumN_at (canon_is _).incr hy
    simp only [negIt] at e
    rw [e] at n1
    simp at hc hd
    omega
theorem bigE_false {l : List Ed} (h : bigE l = false) : ∀ x ∈ l, x.n ≤ 1000000 := by
  unfold bigE at h
  rw [List.any_eq_false] at h
  intro x hx
  have := h x hx
  simp at this
  exact this
theorem editsR_ok {a b : List It} (h : (editsR a b).2 = 0) : bagB a = true ∧ bagB b = true ∧ bigE (editsL (diffL a b)) = false ∧ (editsR a b).1 = editsL (diffL a b) := by
  unfold editsR at *
  cases ha : bagB a <;> cases hb : bagB b <;> cases hc : bigE (editsL (diffL a b)) <;> simp_all
theorem do_edits {a b : List It} (h : (editsR a b).2 = 0) (hl : (editsR a b).1.length ≤ 600) : doR a (editsR a b).1 = (b, 0) := by
  obtain ⟨ha, hb, hg, e⟩ := editsR_ok h
  rw [e] at hl ⊢
  have hall : (editsL (diffL a b)).all edB = true := List.all_eq_true.2 fun x hx => (editsL_ok ha hb x hx).2 (bigE_false hg x hx)
  simp only [doR, ha, hl, hall, decide_true, bagOr, errOr, edits_lead ha hb, hb]
  rfl

/-! ### and back they are as long -/
def flipE (x : Ed) : Ed := ⟨if x.d = 1 then 2 else if x.d = 2 then 1 else x.d, x.new, x.old, x.n⟩
theorem turnF_flip : ∀ (f : Nat) (l1 l2 : List It), turnF f l2 l1 = (turnF f l1 l2).map flipE
  | 0, _, _ => rfl
  | f + 1, [], [] => rfl
  | f + 1, [], y :: s => by
    rw [turnF, turnF, List.map_map]
    exact List.map_congr_left fun x _ => rfl
  | f + 1, x :: r, [] => by
    rw [turnF, turnF, List.map_map]
    exact List.map_congr_left fun x _ => rfl
  | f + 1, x :: r, y :: s => by
    have e : min y.n x.n = min x.n y.n := by omega
    rw [turnF, turnF, List.map_cons, e, turnF_flip f]
    rfl
theorem miss_neg {d : List It} (h : ∀ x ∈ d, x.n ≠ 0) (k : Int) : missL (d.map negIt) k = thereL d k ∧ thereL (d.map negIt) k = missL d k := by
  unfold missL thereL
  induction d with
  | nil => exact ⟨rfl, rfl⟩
  | cons x r ih =>
    obtain ⟨i1, i2⟩ := ih (fun y hy => h y (List.mem_cons_of_mem _ hy))
    have h0 := h x List.mem_cons_self
    by_cases hk : x.r.key = k
    · by_cases hn : x.n < 0
      · have : ¬ 0 < x.n := by omega
        simp [negIt, hk, hn, this] at i1 i2 ⊢
        exact ⟨i1, i2⟩
      · have : 0 < x.n := by omega
        simp [negIt, hk, hn, this] at i1 i2 ⊢
        exact ⟨i1, i2⟩
    · simp [negIt, hk] at i1 i2 ⊢
      exact ⟨i1, i2⟩
theorem diff_back (a b : List It) : diffL b a = (diffL a b).map negIt := by
  have hi := canon_is (a.map negIt ++ b)
  refine (IsBag.eq ⟨?_, fun x hx => ?_, fun k => ?_⟩).symm
  · have e : ((diffL a b).map negIt).map (·.r) = (diffL a b).map (·.r) := by rw [List.map_map]; exact List.map_congr_left fun x _ => rfl
    rw [e]
    exact hi.incr
  · obtain ⟨y, hy, rfl⟩ := List.mem_map.1 hx
    have := hi.not0 y hy
    simp only [negIt]
    omega
  · rw [sumN_neg, diffL, hi.sums, sumN_append, sumN_append, sumN_neg, sumN_neg]
    omega
theorem keysL_neg (d : List It) : keysL (d.map negIt) = keysL d := by
  induction d with
  | nil => rfl
  | cons x r ih => rw [List.map_cons, keysL, keysL, ih]; rfl
theorem edits_back {a b : List It} : editsL (diffL b a) = (editsL (diffL a b)).map flipE := by
  rw [diff_back, editsL, editsL, keysL_neg, List.map_flatMap]
  congr 1
  funext k
  obtain ⟨m1, m2⟩ := miss_neg (fun x hx => (canon_is (a.map negIt ++ b)).not0 x hx) (d := diffL a b) k
  unfold edKey turnL
  rw [m1, m2, turnF_flip, Nat.add_comm (thereL (diffL a b) k).length]
theorem lenE_flip (l : List Ed) : lenE (l.map flipE) = lenE l := by
  unfold lenE
  rw [List.map_map]
  rfl
theorem bigE_flip (l : List Ed) : bigE (l.map flipE) = bigE l := by
  unfold bigE
  rw [List.any_map]
  rfl
theorem edits_back_ok {a b : List It} (h : (editsR a b).2 = 0) : (editsR b a).2 = 0 ∧ lenE (editsR b a).1 = lenE (editsR a b).1 := by
  obtain ⟨ha, hb, hg, e⟩ := editsR_ok h
  have e2 : editsR b a = ((editsL (diffL a b)).map flipE, 0) := by
    unfold editsR
    rw [edits_back, bigE_flip, hg, ha, hb]
    rfl
  rw [e2, e, lenE_flip]
  exact ⟨rfl, rfl⟩
theorem doR_ok {a : List It} {l : List Ed} (h : (doR a l).2 = 0) : bagB a = true ∧ l.length ≤ 600 ∧ (∀ x ∈ l, edB x = true) ∧ bagB (canon (a ++ edIts l)) = true ∧ (doR a l).1 = canon (a ++ edIts l) := by
  unfold doR bagOr errOr at *
  by_cases hl : l.length ≤ 600
  · cases ha : bagB a <;> cases hb : l.all edB <;> cases hc : bagB (canon (a ++ edIts l)) <;> simp_all
  · simp [hl] at h
theorem edits_least {a : List It} {l : List Ed} (h : (doR a l).2 = 0) : (editsR a (doR a l).1).2 = 3 ∨ ((editsR a (doR a l).1).2 = 0 ∧ lenE (editsR a (doR a l).1).1 ≤ lenE l) := by
  obtain ⟨ha, hl, hall, hc, e⟩ := doR_ok h
  rw [e]
  have hL := least hall (diff_ok ha hc)
  unfold editsR
  rw [ha, hc]
  cases hg : bigE (editsL (diffL a (canon (a ++ edIts l))))
  · exact .inr ⟨rfl, hL⟩
  · exact .inl rfl
end Go.Proofs.Bg
end

section
/- The contracts of isEdit, and of the reference's Edit. -/
namespace Go.Proofs.Bg
open Go.RowKit

theorem box8 {w1 : World} {g : Nat} {v0 v1 v2 v3 v4 v5 v6 v7 : Value} {T : TypeId} (h : w1.heap[g]? = some (.cells #[v0, v1, v2, v3, v4, v5, v6, v7] T)) :
    w1.cell? ⟨g, 0, none⟩ = some v0 ∧ w1.cell? ⟨g, 1, none⟩ = some v1 ∧ w1.cell? ⟨g, 2, none⟩ = some v2 ∧ w1.cell? ⟨g, 3, none⟩ = some v3 ∧ w1.cell? ⟨g, 4, none⟩ = some v4 ∧ w1.cell? ⟨g, 5, none⟩ = some v5 ∧ w1.cell? ⟨g, 6, none⟩ = some v6 ∧ w1.cell? ⟨g, 7, none⟩ = some v7 :=
  ⟨cell_at_block h rfl, cell_at_block h rfl, cell_at_block h rfl, cell_at_block h rfl, cell_at_block h rfl, cell_at_block h rfl, cell_at_block h rfl, cell_at_block h rfl⟩
theorem block_keep {w1 w2 : World} {g : Nat} {o : Obj} (h : w1.heap[g]? = some o) (hb : Below w1.heap.size w1 w2) : w2.heap[g]? = some o := (hb.block g (Array.getElem?_eq_some_iff.1 h).1).trans h

set_option maxRecDepth 100000 in
set_option maxHeartbeats 4000000 in
theorem isEdit_any (d a k v a' k' v' n : Int) (w : World) :
    Calls Tryd.prog 47 #[.agg #[.int .i64 d, .int .i64 a, .int .i64 k, .int .i64 v, .int .i64 a', .int .i64 k', .int .i64 v', .int .i64 n]] w fun e w' => e = .returned (.bool (edB ⟨d, ⟨a, k, v⟩, ⟨a', k', v'⟩, n⟩)) ∧ Below w.heap.size w w' := by
  have HR1 : Hid (∀ w, Calls Tryd.prog 62 #[.agg #[.int .i64 a, .int .i64 k, .int .i64 v]] w fun e w' => e = .returned (.bool (recB ⟨a, k, v⟩)) ∧ Below w.heap.size w w') := fun w => isRec_any ⟨a, k, v⟩ w
  have HR2 : Hid (∀ w, Calls Tryd.prog 62 #[.agg #[.int .i64 a', .int .i64 k', .int .i64 v']] w fun e w' => e = .returned (.bool (recB ⟨a', k', v'⟩)) ∧ Below w.heap.size w w') := fun w => isRec_any ⟨a', k', v'⟩ w
  cases hn : withinB n 1 1000000 with
  | false =>
    have HN := Lib.hid hn
    have EB : Hid (edB ⟨d, ⟨a, k, v⟩, ⟨a', k', v'⟩, n⟩ = false) := by show _ = _; simp [edB, hn]
    have HB := Lib.hid (below_new w (.cells #[.int .i64 d, .int .i64 a, .int .i64 k, .int .i64 v, .int .i64 a', .int .i64 k', .int .i64 v', .int .i64 n] 72))
    have HK := Lib.hid (new_block w #[.int .i64 d, .int .i64 a, .int .i64 k, .int .i64 v, .int .i64 a', .int .i64 k', .int .i64 v', .int .i64 n] 72)
    clear hn
    go_enter Tryd.func47, Tryd.ntmps47
    go_wp2_with ((go_at_call 61; (with_reducible refine (within_any _ _ _ _).mono ?_); rintro e w' ⟨rfl, rfl⟩; rw [HN.out]))
    go_ret
    rw [EB.out]
    exact ⟨rfl, HB.out⟩
  | true =>
    have HN := Lib.hid hn
    by_cases hd : d = 1
    · subst hd
      cases hr : recB ⟨a', k', v'⟩ with
      | false =>
        have H2 := Lib.hid hr
        have EB : Hid (edB ⟨1, ⟨a, k, v⟩, ⟨a', k', v'⟩, n⟩ = false) := by show _ = _; simp [edB, hn, hr]
        have HB := Lib.hid (below_new w (.cells #[.int .i64 1, .int .i64 a, .int .i64 k, .int .i64 v, .int .i64 a', .int .i64 k', .int .i64 v', .int .i64 n] 72))
        have HK := Lib.hid (new_block w #[.int .i64 1, .int .i64 a, .int .i64 k, .int .i64 v, .int .i64 a', .int .i64 k', .int .i64 v', .int .i64 n] 72)
        clear hn hr
        go_enter Tryd.func47, Tryd.ntmps47
        go_wp2_with (first | (go_at_call 61; (with_reducible refine (within_any _ _ _ _).mono ?_); rintro e w' ⟨rfl, rfl⟩; rw [HN.out]) | (go_at_call 62; (with_reducible refine (HR2.out _).mono ?_); rintro e w' ⟨rfl, hb⟩; rw [H2.out]; have hk' := block_keep HK.out hb; obtain ⟨c0, c1, c2, c3, c4, c5, c6, c7⟩ := box8 hk'; have HBa := Lib.hid (bchain HB.out hb); clear HK HB; have HK := Lib.hid hk'; have HB := Lib.hid HBa.out; clear hk' hb HBa))
        go_ret
        rw [EB.out]
        exact ⟨rfl, HB.out⟩
      | true =>
        have H2 := Lib.hid hr
        by_cases hz : a = 0
        · subst hz
          by_cases hz : k = 0
          · subst hz
            by_cases hz : v = 0
            · subst hz
              have EB : Hid (edB ⟨1, ⟨0, 0, 0⟩, ⟨a', k', v'⟩, n⟩ = true) := by show _ = _; simp [edB, hn, hr, zRc]
              have HB := Lib.hid (below_new w (.cells #[.int .i64 1, .int .i64 0, .int .i64 0, .int .i64 0, .int .i64 a', .int .i64 k', .int .i64 v', .int .i64 n] 72))
              have HK := Lib.hid (new_block w #[.int .i64 1, .int .i64 0, .int .i64 0, .int .i64 0, .int .i64 a', .int .i64 k', .int .i64 v', .int .i64 n] 72)
              clear hn hr
              go_enter Tryd.func47, Tryd.ntmps47
              go_wp2_with (first | (go_at_call 61; (with_reducible refine (within_any _ _ _ _).mono ?_); rintro e w' ⟨rfl, rfl⟩; rw [HN.out]) | (go_at_call 62; (with_reducible refine (HR2.out _).mono ?_); rintro e w' ⟨rfl, hb⟩; rw [H2.out]; have hk' := block_keep HK.out hb; obtain ⟨c0, c1, c2, c3, c4, c5, c6, c7⟩ := box8 hk'; have HBa := Lib.hid (bchain HB.out hb); clear HK HB; have HK := Lib.hid hk'; have HB := Lib.hid HBa.out; clear hk' hb HBa))
              go_ret
              rw [EB.out]
              exact ⟨rfl, HB.out⟩
            · have q : (v == 0) = false := by simpa using hz
              have q1 : (v != 0) = true := by simpa using hz
              have EB : Hid (edB ⟨1, ⟨0, 0, v⟩, ⟨a', k', v'⟩, n⟩ = false) := by show _ = _; simp [edB, hn, hr, zRc, hz]
              have HB := Lib.hid (below_new w (.cells #[.int .i64 1, .int .i64 0, .int .i64 0, .int .i64 v, .int .i64 a', .int .i64 k', .int .i64 v', .int .i64 n] 72))
              have HK := Lib.hid (new_block w #[.int .i64 1, .int .i64 0, .int .i64 0, .int .i64 v, .int .i64 a', .int .i64 k', .int .i64 v', .int .i64 n] 72)
              clear hn hz hr
              go_enter Tryd.func47, Tryd.ntmps47
              go_wp2_with (first | (go_at_call 61; (with_reducible refine (within_any _ _ _ _).mono ?_); rintro e w' ⟨rfl, rfl⟩; rw [HN.out]) | (go_at_call 62; (with_reducible refine (HR2.out _).mono ?_); rintro e w' ⟨rfl, hb⟩; rw [H2.out]; have hk' := block_keep HK.out hb; obtain ⟨c0, c1, c2, c3, c4, c5, c6, c7⟩ := box8 hk'; have HBa := Lib.hid (bchain HB.out hb); clear HK HB; have HK := Lib.hid hk'; have HB := Lib.hid HBa.out; clear hk' hb HBa))
              go_ret
              rw [EB.out]
              exact ⟨rfl, HB.out⟩
          · have q : (k == 0) = false := by simpa using hz
            have q1 : (k != 0) = true := by simpa using hz
            have EB : Hid (edB ⟨1, ⟨0, k, v⟩, ⟨a', k', v'⟩, n⟩ = false) := by show _ = _; simp [edB, hn, hr, zRc, hz]
            have HB := Lib.hid (below_new w (.cells #[.int .i64 1, .int .i64 0, .int .i64 k, .int .i64 v, .int .i64 a', .int .i64 k', .int .i64 v', .int .i64 n] 72))
            have HK := Lib.hid (new_block w #[.int .i64 1, .int .i64 0, .int .i64 k, .int .i64 v, .int .i64 a', .int .i64 k', .int .i64 v', .int .i64 n] 72)
            clear hn hz hr
            go_enter Tryd.func47, Tryd.ntmps47
            go_wp2_with (first | (go_at_call 61; (with_reducible refine (within_any _ _ _ _).mono ?_); rintro e w' ⟨rfl, rfl⟩; rw [HN.out]) | (go_at_call 62; (with_reducible refine (HR2.out _).mono ?_); rintro e w' ⟨rfl, hb⟩; rw [H2.out]; have hk' := block_keep HK.out hb; obtain ⟨c0, c1, c2, c3, c4, c5, c6, c7⟩ := box8 hk'; have HBa := Lib.hid (bchain HB.out hb); clear HK HB; have HK := Lib.hid hk'; have HB := Lib.hid HBa.out; clear hk' hb HBa))
            go_ret
            rw [EB.out]
            exact ⟨rfl, HB.out⟩
        · have q : (a == 0) = false := by simpa using hz
          have q1 : (a != 0) = true := by simpa using hz
          have EB : Hid (edB ⟨1, ⟨a, k, v⟩, ⟨a', k', v'⟩, n⟩ = false) := by show _ = _; simp [edB, hn, hr, zRc, hz]
          have HB := Lib.hid (below_new w (.cells #[.int .i64 1, .int .i64 a, .int .i64 k, .int .i64 v, .int .i64 a', .int .i64 k', .int .i64 v', .int .i64 n] 72))
          have HK := Lib.hid (new_block w #[.int .i64 1, .int .i64 a, .int .i64 k, .int .i64 v, .int .i64 a', .int .i64 k', .int .i64 v', .int .i64 n] 72)
          clear hn hz hr
          go_enter Tryd.func47, Tryd.ntmps47
          go_wp2_with (first | (go_at_call 61; (with_reducible refine (within_any _ _ _ _).mono ?_); rintro e w' ⟨rfl, rfl⟩; rw [HN.out]) | (go_at_call 62; (with_reducible refine (HR2.out _).mono ?_); rintro e w' ⟨rfl, hb⟩; rw [H2.out]; have hk' := block_keep HK.out hb; obtain ⟨c0, c1, c2, c3, c4, c5, c6, c7⟩ := box8 hk'; have HBa := Lib.hid (bchain HB.out hb); clear HK HB; have HK := Lib.hid hk'; have HB := Lib.hid HBa.out; clear hk' hb HBa))
          go_ret
          rw [EB.out]
          exact ⟨rfl, HB.out⟩
    · have q1 : (d == 1) = false := by simpa using hd
      by_cases hd2 : d = 2
      · subst hd2
        clear q1 hd
        cases hr : recB ⟨a, k, v⟩ with
        | false =>
          have H1 := Lib.hid hr
          have EB : Hid (edB ⟨2, ⟨a, k, v⟩, ⟨a', k', v'⟩, n⟩ = false) := by show _ = _; simp [edB, hn, hr]
          have HB := Lib.hid (below_new w (.cells #[.int .i64 2, .int .i64 a, .int .i64 k, .int .i64 v, .int .i64 a', .int .i64 k', .int .i64 v', .int .i64 n] 72))
          have HK := Lib.hid (new_block w #[.int .i64 2, .int .i64 a, .int .i64 k, .int .i64 v, .int .i64 a', .int .i64 k', .int .i64 v', .int .i64 n] 72)
          clear hn hr
          go_enter Tryd.func47, Tryd.ntmps47
          go_wp2_with (first | (go_at_call 61; (with_reducible refine (within_any _ _ _ _).mono ?_); rintro e w' ⟨rfl, rfl⟩; rw [HN.out]) | (go_at_call 62; (with_reducible refine (HR1.out _).mono ?_); rintro e w' ⟨rfl, hb⟩; rw [H1.out]; have hk' := block_keep HK.out hb; obtain ⟨c0, c1, c2, c3, c4, c5, c6, c7⟩ := box8 hk'; have HBa := Lib.hid (bchain HB.out hb); clear HK HB; have HK := Lib.hid hk'; have HB := Lib.hid HBa.out; clear hk' hb HBa))
          go_ret
          rw [EB.out]
          exact ⟨rfl, HB.out⟩
        | true =>
          have H1 := Lib.hid hr
          by_cases hz : a' = 0
          · subst hz
            by_cases hz : k' = 0
            · subst hz
              by_cases hz : v' = 0
              · subst hz
                have EB : Hid (edB ⟨2, ⟨a, k, v⟩, ⟨0, 0, 0⟩, n⟩ = true) := by show _ = _; simp [edB, hn, hr, zRc]
                have HB := Lib.hid (below_new w (.cells #[.int .i64 2, .int .i64 a, .int .i64 k, .int .i64 v, .int .i64 0, .int .i64 0, .int .i64 0, .int .i64 n] 72))
                have HK := Lib.hid (new_block w #[.int .i64 2, .int .i64 a, .int .i64 k, .int .i64 v, .int .i64 0, .int .i64 0, .int .i64 0, .int .i64 n] 72)
                clear hn hr
                go_enter Tryd.func47, Tryd.ntmps47
                go_wp2_with (first | (go_at_call 61; (with_reducible refine (within_any _ _ _ _).mono ?_); rintro e w' ⟨rfl, rfl⟩; rw [HN.out]) | (go_at_call 62; (with_reducible refine (HR1.out _).mono ?_); rintro e w' ⟨rfl, hb⟩; rw [H1.out]; have hk' := block_keep HK.out hb; obtain ⟨c0, c1, c2, c3, c4, c5, c6, c7⟩ := box8 hk'; have HBa := Lib.hid (bchain HB.out hb); clear HK HB; have HK := Lib.hid hk'; have HB := Lib.hid HBa.out; clear hk' hb HBa))
                go_ret
                rw [EB.out]
                exact ⟨rfl, HB.out⟩
              · have q : (v' == 0) = false := by simpa using hz
                have q1 : (v' != 0) = true := by simpa using hz
                have EB : Hid (edB ⟨2, ⟨a, k, v⟩, ⟨0, 0, v'⟩, n⟩ = false) := by show _ = _; simp [edB, hn, hr, zRc, hz]
                have HB := Lib.hid (below_new w (.cells #[.int .i64 2, .int .i64 a, .int .i64 k, .int .i64 v, .int .i64 0, .int .i64 0, .int .i64 v', .int .i64 n] 72))
                have HK := Lib.hid (new_block w #[.int .i64 2, .int .i64 a, .int .i64 k, .int .i64 v, .int .i64 0, .int .i64 0, .int .i64 v', .int .i64 n] 72)
                clear hn hz hr
                go_enter Tryd.func47, Tryd.ntmps47
                go_wp2_with (first | (go_at_call 61; (with_reducible refine (within_any _ _ _ _).mono ?_); rintro e w' ⟨rfl, rfl⟩; rw [HN.out]) | (go_at_call 62; (with_reducible refine (HR1.out _).mono ?_); rintro e w' ⟨rfl, hb⟩; rw [H1.out]; have hk' := block_keep HK.out hb; obtain ⟨c0, c1, c2, c3, c4, c5, c6, c7⟩ := box8 hk'; have HBa := Lib.hid (bchain HB.out hb); clear HK HB; have HK := Lib.hid hk'; have HB := Lib.hid HBa.out; clear hk' hb HBa))
                go_ret
                rw [EB.out]
                exact ⟨rfl, HB.out⟩
            · have q : (k' == 0) = false := by simpa using hz
              have q1 : (k' != 0) = true := by simpa using hz
              have EB : Hid (edB ⟨2, ⟨a, k, v⟩, ⟨0, k', v'⟩, n⟩ = false) := by show _ = _; simp [edB, hn, hr, zRc, hz]
              have HB := Lib.hid (below_new w (.cells #[.int .i64 2, .int .i64 a, .int .i64 k, .int .i64 v, .int .i64 0, .int .i64 k', .int .i64 v', .int .i64 n] 72))
              have HK := Lib.hid (new_block w #[.int .i64 2, .int .i64 a, .int .i64 k, .int .i64 v, .int .i64 0, .int .i64 k', .int .i64 v', .int .i64 n] 72)
              clear hn hz hr
              go_enter Tryd.func47, Tryd.ntmps47
              go_wp2_with (first | (go_at_call 61; (with_reducible refine (within_any _ _ _ _).mono ?_); rintro e w' ⟨rfl, rfl⟩; rw [HN.out]) | (go_at_call 62; (with_reducible refine (HR1.out _).mono ?_); rintro e w' ⟨rfl, hb⟩; rw [H1.out]; have hk' := block_keep HK.out hb; obtain ⟨c0, c1, c2, c3, c4, c5, c6, c7⟩ := box8 hk'; have HBa := Lib.hid (bchain HB.out hb); clear HK HB; have HK := Lib.hid hk'; have HB := Lib.hid HBa.out; clear hk' hb HBa))
              go_ret
              rw [EB.out]
              exact ⟨rfl, HB.out⟩
          · have q : (a' == 0) = false := by simpa using hz
            have q1 : (a' != 0) = true := by simpa using hz
            have EB : Hid (edB ⟨2, ⟨a, k, v⟩, ⟨a', k', v'⟩, n⟩ = false) := by show _ = _; simp [edB, hn, hr, zRc, hz]
            have HB := Lib.hid (below_new w (.cells #[.int .i64 2, .int .i64 a, .int .i64 k, .int .i64 v, .int .i64 a', .int .i64 k', .int .i64 v', .int .i64 n] 72))
            have HK := Lib.hid (new_block w #[.int .i64 2, .int .i64 a, .int .i64 k, .int .i64 v, .int .i64 a', .int .i64 k', .int .i64 v', .int .i64 n] 72)
            clear hn hz hr
            go_enter Tryd.func47, Tryd.ntmps47
            go_wp2_with (first | (go_at_call 61; (with_reducible refine (within_any _ _ _ _).mono ?_); rintro e w' ⟨rfl, rfl⟩; rw [HN.out]) | (go_at_call 62; (with_reducible refine (HR1.out _).mono ?_); rintro e w' ⟨rfl, hb⟩; rw [H1.out]; have hk' := block_keep HK.out hb; obtain ⟨c0, c1, c2, c3, c4, c5, c6, c7⟩ := box8 hk'; have HBa := Lib.hid (bchain HB.out hb); clear HK HB; have HK := Lib.hid hk'; have HB := Lib.hid HBa.out; clear hk' hb HBa))
            go_ret
            rw [EB.out]
            exact ⟨rfl, HB.out⟩
      · have q2 : (d == 2) = false := by simpa using hd2
        by_cases hd3 : d = 3
        · subst hd3
          clear q1 q2 hd hd2
          cases hr1 : recB ⟨a, k, v⟩ with
          | false =>
            have H1 := Lib.hid hr1
            have EB : Hid (edB ⟨3, ⟨a, k, v⟩, ⟨a', k', v'⟩, n⟩ = false) := by show _ = _; simp [edB, hn, hr1]
            have HB := Lib.hid (below_new w (.cells #[.int .i64 3, .int .i64 a, .int .i64 k, .int .i64 v, .int .i64 a', .int .i64 k', .int .i64 v', .int .i64 n] 72))
            have HK := Lib.hid (new_block w #[.int .i64 3, .int .i64 a, .int .i64 k, .int .i64 v, .int .i64 a', .int .i64 k', .int .i64 v', .int .i64 n] 72)
            clear hn hr1
            go_enter Tryd.func47, Tryd.ntmps47
            go_wp2_with (first | (go_at_call 61; (with_reducible refine (within_any _ _ _ _).mono ?_); rintro e w' ⟨rfl, rfl⟩; rw [HN.out]) | (go_at_call 62; (with_reducible refine (HR1.out _).mono ?_); rintro e w' ⟨rfl, hb⟩; rw [H1.out]; have hk' := block_keep HK.out hb; obtain ⟨c0, c1, c2, c3, c4, c5, c6, c7⟩ := box8 hk'; have HBa := Lib.hid (bchain HB.out hb); clear HK HB; have HK := Lib.hid hk'; have HB := Lib.hid HBa.out; clear hk' hb HBa))
            go_ret
            rw [EB.out]
            exact ⟨rfl, HB.out⟩
          | true =>
            have H1 := Lib.hid hr1
            cases hr2 : recB ⟨a', k', v'⟩ with
            | false =>
              have H2 := Lib.hid hr2
              have EB : Hid (edB ⟨3, ⟨a, k, v⟩, ⟨a', k', v'⟩, n⟩ = false) := by show _ = _; simp [edB, hn, hr1, hr2]
              have HB := Lib.hid (below_new w (.cells #[.int .i64 3, .int .i64 a, .int .i64 k, .int .i64 v, .int .i64 a', .int .i64 k', .int .i64 v', .int .i64 n] 72))
              have HK := Lib.hid (new_block w #[.int .i64 3, .int .i64 a, .int .i64 k, .int .i64 v, .int .i64 a', .int .i64 k', .int .i64 v', .int .i64 n] 72)
              clear hn hr1 hr2
              go_enter Tryd.func47, Tryd.ntmps47
              go_wp2_with (first | (go_at_call 61; (with_reducible refine (within_any _ _ _ _).mono ?_); rintro e w' ⟨rfl, rfl⟩; rw [HN.out]) | (go_at_call 62; (with_reducible refine (HR1.out _).mono ?_); rintro e w' ⟨rfl, hb⟩; rw [H1.out]; have hk' := block_keep HK.out hb; obtain ⟨c0, c1, c2, c3, c4, c5, c6, c7⟩ := box8 hk'; have HBa := Lib.hid (bchain HB.out hb); clear HK HB; have HK := Lib.hid hk'; have HB := Lib.hid HBa.out; clear hk' hb HBa) | (go_at_call 62; (with_reducible refine (HR2.out _).mono ?_); rintro e w' ⟨rfl, hb⟩; rw [H2.out]; have hk' := block_keep HK.out hb; obtain ⟨c0, c1, c2, c3, c4, c5, c6, c7⟩ := box8 hk'; have HBa := Lib.hid (bchain HB.out hb); clear HK HB; have HK := Lib.hid hk'; have HB := Lib.hid HBa.out; clear hk' hb HBa))
              go_ret
              rw [EB.out]
              exact ⟨rfl, HB.out⟩
            | true =>
              have H2 := Lib.hid hr2
              by_cases ha : a = a'
              · subst ha
                by_cases hk : k = k'
                · subst hk
                  by_cases hv : v = v'
                  · subst hv
                    clear HR2 H2
                    have EB : Hid (edB ⟨3, ⟨a, k, v⟩, ⟨a, k, v⟩, n⟩ = false) := by show _ = _; simp [edB, hn]
                    have HB := Lib.hid (below_new w (.cells #[.int .i64 3, .int .i64 a, .int .i64 k, .int .i64 v, .int .i64 a, .int .i64 k, .int .i64 v, .int .i64 n] 72))
                    have HK := Lib.hid (new_block w #[.int .i64 3, .int .i64 a, .int .i64 k, .int .i64 v, .int .i64 a, .int .i64 k, .int .i64 v, .int .i64 n] 72)
                    clear hn hr1 hr2
                    go_enter Tryd.func47, Tryd.ntmps47
                    go_wp2_with (first | (go_at_call 61; (with_reducible refine (within_any _ _ _ _).mono ?_); rintro e w' ⟨rfl, rfl⟩; rw [HN.out]) | (go_at_call 62; (with_reducible refine (HR1.out _).mono ?_); rintro e w' ⟨rfl, hb⟩; rw [H1.out]; have hk' := block_keep HK.out hb; obtain ⟨c0, c1, c2, c3, c4, c5, c6, c7⟩ := box8 hk'; have HBa := Lib.hid (bchain HB.out hb); clear HK HB; have HK := Lib.hid hk'; have HB := Lib.hid HBa.out; clear hk' hb HBa))
                    go_ret
                    rw [EB.out]
                    exact ⟨rfl, HB.out⟩
                  · have q3 : (v == v') = false := by simpa using hv
                    have q4 : (v != v') = true := by simpa using hv
                    have EB : Hid (edB ⟨3, ⟨a, k, v⟩, ⟨a, k, v'⟩, n⟩ = true) := by show _ = _; simp [edB, hn, hr1, hr2, hv]
                    have HB := Lib.hid (below_new w (.cells #[.int .i64 3, .int .i64 a, .int .i64 k, .int .i64 v, .int .i64 a, .int .i64 k, .int .i64 v', .int .i64 n] 72))
                    have HK := Lib.hid (new_block w #[.int .i64 3, .int .i64 a, .int .i64 k, .int .i64 v, .int .i64 a, .int .i64 k, .int .i64 v', .int .i64 n] 72)
                    clear hn hr1 hr2 hv
                    go_enter Tryd.func47, Tryd.ntmps47
                    go_wp2_with (first | (go_at_call 61; (with_reducible refine (within_any _ _ _ _).mono ?_); rintro e w' ⟨rfl, rfl⟩; rw [HN.out]) | (go_at_call 62; (with_reducible refine (HR1.out _).mono ?_); rintro e w' ⟨rfl, hb⟩; rw [H1.out]; have hk' := block_keep HK.out hb; obtain ⟨c0, c1, c2, c3, c4, c5, c6, c7⟩ := box8 hk'; have HBa := Lib.hid (bchain HB.out hb); clear HK HB; have HK := Lib.hid hk'; have HB := Lib.hid HBa.out; clear hk' hb HBa) | (go_at_call 62; (with_reducible refine (HR2.out _).mono ?_); rintro e w' ⟨rfl, hb⟩; rw [H2.out]; have hk' := block_keep HK.out hb; obtain ⟨c0, c1, c2, c3, c4, c5, c6, c7⟩ := box8 hk'; have HBa := Lib.hid (bchain HB.out hb); clear HK HB; have HK := Lib.hid hk'; have HB := Lib.hid HBa.out; clear hk' hb HBa))
                    go_ret
                    rw [EB.out]
                    exact ⟨rfl, HB.out⟩
                · have q3 : (k == k') = false := by simpa using hk
                  have q4 : (k != k') = true := by simpa using hk
                  have EB : Hid (edB ⟨3, ⟨a, k, v⟩, ⟨a, k', v'⟩, n⟩ = false) := by show _ = _; simp [edB, hn, hr1, hr2, hk]
                  have HB := Lib.hid (below_new w (.cells #[.int .i64 3, .int .i64 a, .int .i64 k, .int .i64 v, .int .i64 a, .int .i64 k', .int .i64 v', .int .i64 n] 72))
                  have HK := Lib.hid (new_block w #[.int .i64 3, .int .i64 a, .int .i64 k, .int .i64 v, .int .i64 a, .int .i64 k', .int .i64 v', .int .i64 n] 72)
                  clear hn hr1 hr2 hk
                  go_enter Tryd.func47, Tryd.ntmps47
                  go_wp2_with (first | (go_at_call 61; (with_reducible refine (within_any _ _ _ _).mono ?_); rintro e w' ⟨rfl, rfl⟩; rw [HN.out]) | (go_at_call 62; (with_reducible refine (HR1.out _).mono ?_); rintro e w' ⟨rfl, hb⟩; rw [H1.out]; have hk' := block_keep HK.out hb; obtain ⟨c0, c1, c2, c3, c4, c5, c6, c7⟩ := box8 hk'; have HBa := Lib.hid (bchain HB.out hb); clear HK HB; have HK := Lib.hid hk'; have HB := Lib.hid HBa.out; clear hk' hb HBa) | (go_at_call 62; (with_reducible refine (HR2.out _).mono ?_); rintro e w' ⟨rfl, hb⟩; rw [H2.out]; have hk' := block_keep HK.out hb; obtain ⟨c0, c1, c2, c3, c4, c5, c6, c7⟩ := box8 hk'; have HBa := Lib.hid (bchain HB.out hb); clear HK HB; have HK := Lib.hid hk'; have HB := Lib.hid HBa.out; clear hk' hb HBa))
                  go_ret
                  rw [EB.out]
                  exact ⟨rfl, HB.out⟩
              · have q3 : (a == a') = false := by simpa using ha
                have q4 : (a != a') = true := by simpa using ha
                by_cases hk : k = k'
                · subst hk
                  have EB : Hid (edB ⟨3, ⟨a, k, v⟩, ⟨a', k, v'⟩, n⟩ = true) := by show _ = _; simp [edB, hn, hr1, hr2, ha]
                  have HB := Lib.hid (below_new w (.cells #[.int .i64 3, .int .i64 a, .int .i64 k, .int .i64 v, .int .i64 a', .int .i64 k, .int .i64 v', .int .i64 n] 72))
                  have HK := Lib.hid (new_block w #[.int .i64 3, .int .i64 a, .int .i64 k, .int .i64 v, .int .i64 a', .int .i64 k, .int .i64 v', .int .i64 n] 72)
                  clear hn hr1 hr2 ha
                  go_enter Tryd.func47, Tryd.ntmps47
                  go_wp2_with (first | (go_at_call 61; (with_reducible refine (within_any _ _ _ _).mono ?_); rintro e w' ⟨rfl, rfl⟩; rw [HN.out]) | (go_at_call 62; (with_reducible refine (HR1.out _).mono ?_); rintro e w' ⟨rfl, hb⟩; rw [H1.out]; have hk' := block_keep HK.out hb; obtain ⟨c0, c1, c2, c3, c4, c5, c6, c7⟩ := box8 hk'; have HBa := Lib.hid (bchain HB.out hb); clear HK HB; have HK := Lib.hid hk'; have HB := Lib.hid HBa.out; clear hk' hb HBa) | (go_at_call 62; (with_reducible refine (HR2.out _).mono ?_); rintro e w' ⟨rfl, hb⟩; rw [H2.out]; have hk' := block_keep HK.out hb; obtain ⟨c0, c1, c2, c3, c4, c5, c6, c7⟩ := box8 hk'; have HBa := Lib.hid (bchain HB.out hb); clear HK HB; have HK := Lib.hid hk'; have HB := Lib.hid HBa.out; clear hk' hb HBa))
                  go_ret
                  rw [EB.out]
                  exact ⟨rfl, HB.out⟩
                · have q5 : (k == k') = false := by simpa using hk
                  have q6 : (k != k') = true := by simpa using hk
                  have EB : Hid (edB ⟨3, ⟨a, k, v⟩, ⟨a', k', v'⟩, n⟩ = false) := by show _ = _; simp [edB, hn, hr1, hr2, hk]
                  have HB := Lib.hid (below_new w (.cells #[.int .i64 3, .int .i64 a, .int .i64 k, .int .i64 v, .int .i64 a', .int .i64 k', .int .i64 v', .int .i64 n] 72))
                  have HK := Lib.hid (new_block w #[.int .i64 3, .int .i64 a, .int .i64 k, .int .i64 v, .int .i64 a', .int .i64 k', .int .i64 v', .int .i64 n] 72)
                  clear hn hr1 hr2 ha hk
                  go_enter Tryd.func47, Tryd.ntmps47
                  go_wp2_with (first | (go_at_call 61; (with_reducible refine (within_any _ _ _ _).mono ?_); rintro e w' ⟨rfl, rfl⟩; rw [HN.out]) | (go_at_call 62; (with_reducible refine (HR1.out _).mono ?_); rintro e w' ⟨rfl, hb⟩; rw [H1.out]; have hk' := block_keep HK.out hb; obtain ⟨c0, c1, c2, c3, c4, c5, c6, c7⟩ := box8 hk'; have HBa := Lib.hid (bchain HB.out hb); clear HK HB; have HK := Lib.hid hk'; have HB := Lib.hid HBa.out; clear hk' hb HBa) | (go_at_call 62; (with_reducible refine (HR2.out _).mono ?_); rintro e w' ⟨rfl, hb⟩; rw [H2.out]; have hk' := block_keep HK.out hb; obtain ⟨c0, c1, c2, c3, c4, c5, c6, c7⟩ := box8 hk'; have HBa := Lib.hid (bchain HB.out hb); clear HK HB; have HK := Lib.hid hk'; have HB := Lib.hid HBa.out; clear hk' hb HBa))
                  go_ret
                  rw [EB.out]
                  exact ⟨rfl, HB.out⟩
        · have q3 : (d == 3) = false := by simpa using hd3
          have EB : Hid (edB ⟨d, ⟨a, k, v⟩, ⟨a', k', v'⟩, n⟩ = false) := by show _ = _; simp [edB, hd, hd2, hd3]
          have HB := Lib.hid (below_new w (.cells #[.int .i64 d, .int .i64 a, .int .i64 k, .int .i64 v, .int .i64 a', .int .i64 k', .int .i64 v', .int .i64 n] 72))
          have HK := Lib.hid (new_block w #[.int .i64 d, .int .i64 a, .int .i64 k, .int .i64 v, .int .i64 a', .int .i64 k', .int .i64 v', .int .i64 n] 72)
          clear hn hd hd2 hd3
          go_enter Tryd.func47, Tryd.ntmps47
          go_wp2_with ((go_at_call 61; (with_reducible refine (within_any _ _ _ _).mono ?_); rintro e w' ⟨rfl, rfl⟩; rw [HN.out]))
          go_ret
          rw [EB.out]
          exact ⟨rfl, HB.out⟩

end Go.Proofs.Bg
end

section
/- Copy, Check, and the reference's Check and New. -/
namespace Go.Proofs.Bg
open Go.RowKit

/-- 'append(nil, y...)', y any slice that reads as a list. -/
theorem wpList_copy {P : Program} {w : World} {ops : Array Oper} {rest : List Oper} {o : Oper} {a : Act} {Q : Exit → Act → World → Prop} (e : TypeId) (z : Value) (bytes : Nat) (hinf : (P.info? e).map (fun i => (i.zero, i.size, i.bytes)) = some (some z, 4, bytes)) (hzs : z.cells.size = 4)
    (hgd : o.guard = none) (s x : Operand) (t : TypeId) (ho : o.op = .call { callee := .builtin .append, args := #[s, x], argTypes := #[t, t] }) (ht : P.underlying t = some (.slice e)) (hs : a.eval s = .slice none 0 0)
    (hnil : ∀ c, (Builtin.append_ #[t, t] o.type #[.slice none 0 0, .slice none 0 c]).run P w = .ok (.slice none 0 0) w)
    (lo n c : Nat) (A : Option Addr) (y : List It) (hx : a.eval x = .slice A n c) (hy : Rd It.vs 4 w lo A n y) (hbytes : n * bytes ≤ 140737488355328) (h63 : n ≤ maxLen)
    (h : ∀ v' w', Own It.vs 4 e w.heap.size w' v' y → w.grownBy w' none → wpList P ops Q rest (a.put o.dst v') w') : wpList P ops Q (o :: rest) a w := by
  obtain ⟨i, hi, hz0, hz1, hz2⟩ := info_parts hinf
  have hn := hy.len
  by_cases h0 : n = 0
  · subst h0
    have hl0 : y = [] := List.length_eq_zero_iff.1 hn
    subst hl0
    cases A with
    | none => exact wpList_appNil hgd s x t ho c hs hx (hnil c) (h _ _ (Own.nil _ _ _ _ _) (World.grownBy.refl _ _))
    | some ad =>
      refine wpList_append_own_at w hgd s x t ho w.heap.size e i z 4 bytes ht hi hz0 hz1 hz2 hzs (by omega) _ 0 [] hs (World.ownsRow_nil w w.heap.size e 4) ad 0 c [] hx rfl (by simp) (by simp) (by unfold maxLen; omega) (by omega) (Nat.le_refl _) (fun v4 w4 hown4 hg4 _ _ => h v4 w4 hown4 hg4)
  · obtain ⟨b, off, rfl, _⟩ := hy.2.2 (by omega)
    exact wpList_appW e z bytes hinf hzs hgd s x t ho ht w.heap.size _ [] hs (Own.nil _ _ _ _ _) lo b off n c y hx hy (by simpa using hbytes) (by simpa using h63) (Nat.le_refl _) (fun v4 w4 hown4 hg4 _ => h v4 w4 (by simpa using hown4) hg4)
theorem nilB (w : World) (t : TypeId) (c : Nat) : (Builtin.append_ #[23, 23] t #[.slice none 0 0, .slice none 0 c]).run Tryd.prog w = .ok (.slice none 0 0) w := by kernel_rfl
theorem nilI (w : World) (t : TypeId) (c : Nat) : (Builtin.append_ #[22, 22] t #[.slice none 0 0, .slice none 0 c]).run Tryd.prog w = .ok (.slice none 0 0) w := by kernel_rfl

def chk (l : List It) : Int := if bagB l then 0 else 2
end Go.Proofs.Bg
end

section
/- The reference's New. -/
namespace Go.Proofs.Bg
open Go.RowKit

/-- What a function of the reference that hands back a bag in new memory leaves. -/
def RetNew (w : World) (p : List It × Int) (e : Ending) (w' : World) : Prop :=
  (∃ A n cap, e = .returned (.tuple #[.slice A n cap, .int .i64 p.2]) ∧ Rd It.vs 4 w' w.heap.size A n p.1) ∧ Below w.heap.size w w'

end Go.Proofs.Bg
end

section
/- The reference: Neg, Contrary, Add, Sum. -/
namespace Go.Proofs.Bg
open Go.RowKit

theorem below_row {w W W' : World} {row : Option Nat} (h : Below w.heap.size w W) (hg : W.grownBy W' row) (hr : ∀ g, row = some g → w.heap.size ≤ g) : Below w.heap.size w W' := h.grown hg h.size hr
theorem RetBag.new {w w' : World} {p : List It × Int} {e : Ending} (h : RetBag w p e w') : RetNew w p e w' := by
  obtain ⟨A, cap, he, hr, hb⟩ := h
  exact ⟨⟨A, _, cap, he, hr⟩, hb⟩

end Go.Proofs.Bg
end

section
/- The contracts of Do, and of the reference's items and Do. -/
namespace Go.Proofs.Bg
open Go.RowKit

theorem recB_spec (r : Rc) : recB r = true ↔ 0 ≤ r.at_ ∧ r.at_ ≤ 200 ∧ -1000000000 ≤ r.key ∧ r.key ≤ 1000000000 ∧ -1000000000 ≤ r.val ∧ r.val ≤ 1000000000 := by
  simp [recB, withinB]
  omega
theorem recB_ok {r : Rc} (h : recB r = true) : r.ok := by
  rw [recB_spec] at h
  unfold Rc.ok I64
  omega
theorem edB_recs {x : Ed} (h : edB x = true) : (x.d ≠ 1 → recB x.old = true) ∧ (x.d ≠ 2 → recB x.new = true) := by
  unfold edB at h
  rw [Bool.and_eq_true] at h
  obtain ⟨_, h2⟩ := h
  split at h2
  · rename_i h1
    rw [Bool.and_eq_true] at h2
    exact ⟨fun h => absurd h1 h, fun _ => h2.1⟩
  · rename_i h1
    split at h2
    · rename_i h3
      rw [Bool.and_eq_true] at h2
      exact ⟨fun _ => h2.1, fun h => absurd h3 h⟩
    · split at h2
      · rw [Bool.and_eq_true, Bool.and_eq_true] at h2
        exact ⟨fun _ => h2.1, fun _ => h2.2.1⟩
      · cases h2
theorem edIt_ok {x : Ed} (h : edB x = true) : ∀ y ∈ edIt x, y.r.ok ∧ -1000000 ≤ y.n ∧ y.n ≤ 1000000 := by
  obtain ⟨h1, h2, _⟩ := edB_spec h
  obtain ⟨h3, h4⟩ := edB_recs h
  intro y hy
  unfold edIt at hy
  rcases List.mem_append.1 hy with hy | hy
  · split at hy
    · cases hy
    · rename_i hd
      rw [List.mem_singleton.1 hy]
      exact ⟨recB_ok (h3 hd), by simp only; omega, by simp only; omega⟩
  · split at hy
    · cases hy
    · rename_i hd
      rw [List.mem_singleton.1 hy]
      exact ⟨recB_ok (h4 hd), by simp only; omega, by simp only; omega⟩
theorem edIt_length (x : Ed) : (edIt x).length ≤ 2 := by
  unfold edIt
  split <;> split <;> simp
theorem edIts_length (l : List Ed) : (edIts l).length ≤ 2 * l.length := by
  induction l with
  | nil => simp [edIts]
  | cons x r ih =>
    have := edIt_length x
    rw [edIts_cons, List.length_append, List.length_cons]
    omega
theorem fits_do {a : List It} {l : List Ed} (ha : bagB a = true) (hl : ∀ x ∈ l, edB x = true) (hlen : l.length ≤ 600) : Fits (a ++ edIts l) := by
  rw [bagB_spec] at ha
  have h : ∀ y ∈ a ++ edIts l, y.r.ok ∧ -1000000 ≤ y.n ∧ y.n ≤ 1000000 := fun y hy => by
    rcases List.mem_append.1 hy with hy | hy
    · have h1 := ha.1 y hy
      exact ⟨itB_ok h1, by have := (itB_spec y).1 h1; omega, by have := (itB_spec y).1 h1; omega⟩
    · obtain ⟨x, hx, hy⟩ := List.mem_flatMap.1 hy
      exact edIt_ok (hl x hx) y hy
  refine ⟨fun y hy => (h y hy).1, 1000000, by omega, fun y hy => (h y hy).2, ?_⟩
  have := edIts_length l
  rw [List.length_append]
  omega
theorem edIts_take {l : List Ed} {k : Nat} {x : Ed} (h : l[k]? = some x) : edIts (l.take (k + 1)) = edIts (l.take k) ++ edIt x := by
  rw [List.take_add_one, h, edIts_append]
  simp [edIts]
theorem take_all {l : List Ed} {k : Nat} {x : Ed} (h : l[k]? = some x) (h1 : ∀ y ∈ l.take k, edB y = true) (h2 : edB x = true) : ∀ y ∈ l.take (k + 1), edB y = true := fun y hy => by
  rw [List.take_add_one, h] at hy
  rcases List.mem_append.1 hy with hy | hy
  · exact h1 y hy
  · simp at hy
    rw [hy]
    exact h2
theorem doR_false {a : List It} {l : List Ed} {x : Ed} (hx : x ∈ l) (h : edB x = false) : doR a l = ([], 2) := by
  have : l.all edB = false := List.all_eq_false.2 ⟨x, hx, by simp [h]⟩
  simp [doR, this]
theorem SumIs.grown {w w' : World} {r : Nat} {L : List It} {row : Option Nat} (h : SumIs w r L) (hg : w.grownBy w' row) (hne : some r ≠ row) : SumIs w' r L := by
  obtain ⟨kv, hm, rest⟩ := h
  exact ⟨kv, hm.grown hg hne, rest⟩

/-- What the loop of Do holds. -/
def DoRel (w : World) (r : Nat) (a : List It) (l : List Ed) (k : Nat) (wr : World) : Prop :=
  (∀ x ∈ l.take k, edB x = true) ∧ SumIs wr r (a ++ edIts (l.take k)) ∧ Below w.heap.size w wr

set_option maxRecDepth 100000 in
set_option maxHeartbeats 8000000 in
theorem Do_any (A B : Option Addr) (n m capA capB : Nat) (a : List It) (l : List Ed) (w : World) (hA : Rd It.vs 4 w 0 A n a) (hB : Rd Ed.vs 8 w 0 B m l) :
    Calls Tryd.prog 17 #[.slice A n capA, .slice B m capB] w (RetBag w (doR a l)) := by
  have Q1 := Lib.hid (isBag_any A n capA a w hA)
  have HA := Lib.hid hA
  have HB := Lib.hid hB
  have hmle := hB.le
  clear hA hB
  cases ga : bagB a with
  | false =>
    have e1 : doR a l = ([], 2) := by simp [doR, ga]
    rw [e1]
    have GA := Lib.hid ga
    clear ga e1
    go_enter Tryd.func17, Tryd.ntmps17
    go_wp2_with (go_at_call 29; (with_reducible refine Q1.out.mono ?_); rintro e w1 ⟨rfl, hb1⟩; rw [GA.out]; have HB1 := Lib.hid hb1; clear hb1)
    go_ret2
    exact ⟨none, 0, rfl, Rd.nil _ _ _, HB1.out⟩
  | true =>
    have GA := Lib.hid ga
    by_cases hm : 600 < m
    · have e1 : doR a l = ([], 2) := by
        have : ¬ l.length ≤ 600 := by rw [HB.out.len]; omega
        simp [doR, this]
      rw [e1]
      have hd : decide ((600 : Int) < (m : Int)) = true := by simp; omega
      clear ga e1 hm
      go_enter Tryd.func17, Tryd.ntmps17
      go_wp2_with (go_at_call 29; (with_reducible refine Q1.out.mono ?_); rintro e w1 ⟨rfl, hb1⟩; rw [GA.out]; have HB1 := Lib.hid hb1; clear hb1)
      go_ret2
      exact ⟨none, 0, rfl, Rd.nil _ _ _, HB1.out⟩
    · have hd : decide ((600 : Int) < (m : Int)) = false := by simp; omega
      have hm6 : m ≤ 600 := by omega
      clear ga hm
      go_enter Tryd.func17, Tryd.ntmps17
      go_wp2_with fail
      (with_reducible refine Q1.out.mono ?_)
      rintro e w1 ⟨rfl, hb1⟩
      rw [GA.out]
      have HB1 := Lib.hid hb1
      clear hb1
      have hR3 := rdBs1 (capA := capA) 23 (HA.out.below HB1.out)
      have e2 : allIt [⟨A, n, capA, a⟩] = a := by simp [allIt]
      have hfa : Fits (a ++ edIts []) := fits_do GA.out (by simp) (by simp)
      have HAd := Lib.hid (added_any w1.heap.size 1 1 _ _ rfl hR3 (by rw [e2]; simpa [edIts] using hfa) (by omega))
      rw [e2] at HAd
      clear hR3 e2 hfa
      go_wp2_with (go_at_call 30; (with_reducible refine HAd.out.mono ?_); rintro e w4 ⟨rfl, hs4, hb4⟩)
      rw [World.size_alloc] at hs4
      have HB4 := Lib.hid (bchain (bchain HB1.out (below_new _ _)) hb4)
      have hr0 : w.heap.size ≤ w1.heap.size + 1 := by have := HB1.out.size; omega
      generalize w1.heap.size + 1 = r at *
      have HS4 := Lib.hid hs4
      have HR0 := Lib.hid hr0
      clear hs4 hb4 HAd hr0
      go_loopw [8, 22] (fun _ i wr => ∃ k : Nat, k ≤ m ∧ i = .int .i64 k ∧ DoRel w r a l k wr) (fun _ i _ => m - (intOf i).toNat)
      case atStart => exact ⟨0, by omega, rfl, by simp, by simpa [edIts] using HS4.out, HB4.out⟩
      case round =>
        clear HS4
        obtain ⟨k, hk, rfl, hall, hS, hBr⟩ := hrel
        have hRk := HB.out.below hBr
        have HAL := Lib.hid hall
        have HS := Lib.hid hS
        have HBR := Lib.hid hBr
        have hrl := hS.lt
        clear hall hS hBr
        by_cases hlt : k < m
        · obtain ⟨b, off, x, rfl, hx, c0, c1, c2, c3, c4, c5, c6, c7⟩ := hRk.ed_at hlt
          have HX := Lib.hid hx
          have HBX := Lib.hid (new_block wr #[.int .i64 x.d, .int .i64 x.old.at_, .int .i64 x.old.key, .int .i64 x.old.val, .int .i64 x.new.at_, .int .i64 x.new.key, .int .i64 x.new.val, .int .i64 x.n] 72)
          obtain ⟨f0, f1, f2, f3, f4, f5, f6, f7⟩ := box8 HBX.out
          have C1 := Lib.hid (isEdit_any x.d x.old.at_ x.old.key x.old.val x.new.at_ x.new.key x.new.val x.n (wr.alloc (.cells #[.int .i64 x.d, .int .i64 x.old.at_, .int .i64 x.old.key, .int .i64 x.old.val, .int .i64 x.new.at_, .int .i64 x.new.key, .int .i64 x.new.val, .int .i64 x.n] 72)))
          have HAB : Hid (Below w.heap.size w (wr.alloc (.cells #[.int .i64 x.d, .int .i64 x.old.at_, .int .i64 x.old.key, .int .i64 x.old.val, .int .i64 x.new.at_, .int .i64 x.new.key, .int .i64 x.new.val, .int .i64 x.n] 72))) := HBR.out.alloc HBR.out.size _
          have HS1 := Lib.hid (HS.out.alloc (.cells #[.int .i64 x.d, .int .i64 x.old.at_, .int .i64 x.old.key, .int .i64 x.old.val, .int .i64 x.new.at_, .int .i64 x.new.key, .int .i64 x.new.val, .int .i64 x.n] 72))
          clear hx hRk
          cases he : edB x with
          | false =>
            have E1 := Lib.hid (doR_false (a := a) (List.mem_of_getElem? HX.out) he)
            have HE := Lib.hid he
            clear he
            go_wp2_with (go_at_call 47; (with_reducible refine C1.out.mono ?_); rintro e w5 ⟨rfl, hb5⟩; rw [HE.out]; have HB5 := Lib.hid hb5; clear hb5)
            go_ret2
            rw [E1.out]
            exact ⟨none, 0, rfl, Rd.nil _ _ _, bchain HAB.out HB5.out⟩
          | true =>
            have HE := Lib.hid he
            have HALL := Lib.hid (take_all HX.out HAL.out he)
            have hft := fits_do GA.out HALL.out (by rw [List.length_take]; omega)
            rw [edIts_take HX.out] at hft
            have HFT := Lib.hid hft
            have HTK := Lib.hid (edIts_take HX.out)
            obtain ⟨n1, n2, h3⟩ := edB_spec he
            have hwn : IntKind.i64.wrap (-x.n) = -x.n := IntWalk.i64_in _ (by omega)
            have hrs : r < wr.heap.size := hrl
            clear he hft
            rcases h3 with h3 | h3 | ⟨h3, h4⟩
            · have HEI : Hid (edIt x = [⟨x.new, x.n⟩]) := by show _ = _; simp [edIt, h3]
              rw [HEI.out] at HFT HTK
              have q1 : (x.d != 1) = false := by simp [h3]
              have q2 : (x.d != 2) = true := by simp [h3]
              have hp := HFT.out.put (P := a ++ edIts (l.take k)) (x := ⟨x.new, x.n⟩) (rest := []) (by simp)
              have HP := Lib.hid hp
              clear h3 hp
              go_wp2_with (first | (go_at_call 47; (with_reducible refine C1.out.mono ?_); rintro e w5 ⟨rfl, hb5⟩; rw [HE.out]; have hk5 := block_keep HBX.out hb5; obtain ⟨g0, g1, g2, g3, g4, g5, g6, g7⟩ := box8 hk5; have HB5 := Lib.hid hb5; have hc0 := put_sum r _ ⟨x.new, x.n⟩ w5 (HS1.out.below hb5) HP.out.1 HP.out.2; dsimp only at hc0; have HC2 := Lib.hid hc0; clear hc0; clear hb5 hk5) | (go_at_call 32; (with_reducible refine HC2.out.mono ?_); rintro e w6 ⟨rfl, hs6, hg6⟩; have HS6 := Lib.hid hs6; have HG6 := Lib.hid hg6; clear hs6 hg6))
              refine ⟨⟨k + 1, by omega, by go_num, HALL.out, by rw [HTK.out, ← List.append_assoc]; exact HS6.out, below_row (bchain HAB.out HB5.out) HG6.out (fun g e => by cases e; exact HR0.out)⟩, by simp [intOf]; omega⟩
            · have HEI : Hid (edIt x = [⟨x.old, -x.n⟩]) := by show _ = _; simp [edIt, h3]
              rw [HEI.out] at HFT HTK
              have q1 : (x.d != 1) = true := by simp [h3]
              have q2 : (x.d != 2) = false := by simp [h3]
              have hp := HFT.out.put (P := a ++ edIts (l.take k)) (x := ⟨x.old, -x.n⟩) (rest := []) (by simp)
              have HP := Lib.hid hp
              clear h3 hp
              go_wp2_with (first | (go_at_call 47; (with_reducible refine C1.out.mono ?_); rintro e w5 ⟨rfl, hb5⟩; rw [HE.out]; have hk5 := block_keep HBX.out hb5; obtain ⟨g0, g1, g2, g3, g4, g5, g6, g7⟩ := box8 hk5; have HK5 := Lib.hid hk5; have HB5 := Lib.hid hb5; have hc0 := put_sum r _ ⟨x.old, -x.n⟩ w5 (HS1.out.below hb5) HP.out.1 HP.out.2; dsimp only at hc0; have HC2 := Lib.hid hc0; clear hc0; clear hb5 hk5) | (go_at_call 32; (with_reducible refine HC2.out.mono ?_); rintro e w6 ⟨rfl, hs6, hg6⟩; have hk6 := (hg6.block wr.heap.size (Array.getElem?_eq_some_iff.1 HK5.out).1 (fun e => by cases e; omega)).trans HK5.out; obtain ⟨e0, e1, e2, e3, e4, e5, e6, e7⟩ := box8 hk6; have HS6 := Lib.hid hs6; have HG6 := Lib.hid hg6; clear hs6 hg6 hk6))
              refine ⟨⟨k + 1, by omega, by go_num, HALL.out, by rw [HTK.out, ← List.append_assoc]; exact HS6.out, below_row (bchain HAB.out HB5.out) HG6.out (fun g e => by cases e; exact HR0.out)⟩, by simp [intOf]; omega⟩
            · have HEI : Hid (edIt x = [⟨x.old, -x.n⟩, ⟨x.new, x.n⟩]) := by show _ = _; simp [edIt, h3]
              rw [HEI.out] at HFT HTK
              have q1 : (x.d != 1) = true := by simp [h3]
              have q2 : (x.d != 2) = true := by simp [h3]
              have hp := HFT.out.put (P := a ++ edIts (l.take k)) (x := ⟨x.old, -x.n⟩) (rest := [⟨x.new, x.n⟩]) (by simp)
              have HP := Lib.hid hp
              have hp2 := HFT.out.put (P := (a ++ edIts (l.take k)) ++ [⟨x.old, -x.n⟩]) (x := ⟨x.new, x.n⟩) (rest := []) (by simp)
              have HP2 := Lib.hid hp2
              clear h3 h4 hp hp2
              go_wp2_with fail
              (with_reducible refine C1.out.mono ?_)
              rintro e w5 ⟨rfl, hb5⟩
              rw [HE.out]
              have hk5 := block_keep HBX.out hb5
              obtain ⟨g0, g1, g2, g3, g4, g5, g6, g7⟩ := box8 hk5
              have HK5 := Lib.hid hk5
              have HB5 := Lib.hid hb5
              have hc0 := put_sum r _ ⟨x.old, -x.n⟩ w5 (HS1.out.below hb5) HP.out.1 HP.out.2
              dsimp only at hc0
              have HC2 := Lib.hid hc0
              clear hc0 hb5 hk5
              go_wp2_with fail
              (with_reducible refine HC2.out.mono ?_)
              clear HC2
              rintro e w6 ⟨rfl, hs6, hg6⟩
              have hk6 := (hg6.block wr.heap.size (Array.getElem?_eq_some_iff.1 HK5.out).1 (fun e => by cases e; omega)).trans HK5.out
              obtain ⟨e0, e1, e2, e3, e4, e5, e6, e7⟩ := box8 hk6
              have HG6 := Lib.hid hg6
              have hc0 := put_sum r _ ⟨x.new, x.n⟩ w6 hs6 HP2.out.1 HP2.out.2
              dsimp only at hc0
              have HC3 := Lib.hid hc0
              clear hs6 hg6 hk6 hc0 g0 g1 g2 g3 g4 g5 g6 g7
              go_wp2_with fail
              (with_reducible refine HC3.out.mono ?_)
              clear HC3
              rintro e w7 ⟨rfl, hs7, hg7⟩
              have HS7 := Lib.hid hs7
              have HG7 := Lib.hid hg7
              clear hs7 hg7
              go_wp2_with fail
              refine ⟨⟨k + 1, by omega, by go_num, HALL.out, ?_, below_row (below_row (bchain HAB.out HB5.out) HG6.out (fun g e => by cases e; exact HR0.out)) HG7.out (fun g e => by cases e; exact HR0.out)⟩, by simp [intOf]; omega⟩
              have := HS7.out
              rw [HTK.out]
              simpa using this
        · have hk' : k = m := by omega
          subst hk'
          clear hRk hlt
          have et : l.take k = l := List.take_of_length_le (by rw [HB.out.len]; exact Nat.le_refl _)
          rw [et] at HS HAL
          have hll : l.length ≤ 600 := by rw [HB.out.len]; exact hm6
          have hf := fits_do GA.out HAL.out hll
          have E1 : Hid (doR a l = (bagOr (a ++ edIts l), errOr (a ++ edIts l))) := by show _ = _; simp [doR, GA.out, hll, List.all_eq_true.2 HAL.out]
          have hlen : (a ++ edIts l).length * 32 ≤ 140737488355328 := by
            have h1 := ((bagB_spec a).1 GA.out).2.2
            have h2 := edIts_length l
            rw [List.length_append]; omega
          have HC := Lib.hid (bag_sum r _ wr HS.out hf.ok hlen)
          clear et hll hf hlen
          generalize a ++ edIts l = L at *
          go_wp2_with (go_at_call 31; (with_reducible refine HC.out.mono ?_); rintro e w5 ⟨A5, cap5, rfl, hr5, hb5⟩)
          go_ret2
          rw [E1.out]
          exact ⟨A5, cap5, rfl, hr5.low HBR.out.size, bchain HBR.out hb5⟩
end Go.Proofs.Bg
end

section
/- The contracts of the reference's items and Do. -/
namespace Go.Proofs.Bg
open Go.RowKit

/-- What the loop of items holds. -/
def ItsRel (w : World) (L : List It) (v : Value) (wr : World) : Prop := Own It.vs 4 33 w.heap.size wr v L ∧ Below w.heap.size w wr

/-- What the reference's loop over edits holds. -/
def EdAll (w : World) (l : List Ed) (k : Nat) (wr : World) : Prop := (∀ x ∈ l.take k, edB x = true) ∧ Below w.heap.size w wr

end Go.Proofs.Bg
end

section
/- The contracts of between and of the iterator that it hands back. -/
namespace Go.Proofs.Bg
open Go.RowKit Go.Shelf
attribute [local go_sem] Oper.semAt_some

theorem cell_al {W : World} {a : Addr} {v : Value} (o : Obj) (h : W.cell? a = some v) : (W.alloc o).cell? a = some v := cell_kept h (World.grownBy_alloc W o none) (fun r e => by cases e)
theorem cutL_succ {l : List It} {k : Nat} {x : It} (lo hi : Int) (h : l[k]? = some x) : cutL (l.take (k + 1)) lo hi = cutL (l.take k) lo hi ++ (if lo ≤ x.r.at_ ∧ x.r.at_ < hi then [x] else []) := by
  rw [List.take_add_one, h]
  unfold cutL
  by_cases h1 : lo ≤ x.r.at_ <;> by_cases h2 : x.r.at_ < hi <;> simp [h1, h2]

/-- What a round that goes on keeps: what lies below n₀; the two boxes that the iterator reads. -/
def KeepB (n₀ b1 b2 : Nat) (lo hi : Int) (W W' : World) : Prop :=
  Below n₀ W W' ∧ (W.cell? ⟨b1, 0, none⟩ = some (.int .i64 lo) → W'.cell? ⟨b1, 0, none⟩ = some (.int .i64 lo)) ∧ (W.cell? ⟨b2, 0, none⟩ = some (.int .i64 hi) → W'.cell? ⟨b2, 0, none⟩ = some (.int .i64 hi))
theorem keepB_t {n₀ b1 b2 : Nat} {lo hi : Int} {A B C : World} (h : KeepB n₀ b1 b2 lo hi A B) (k : KeepB n₀ b1 b2 lo hi B C) : KeepB n₀ b1 b2 lo hi A C :=
  ⟨h.1.trans k.1, fun e => k.2.1 (h.2.1 e), fun e => k.2.2 (h.2.2 e)⟩
theorem keepB_b {w : World} {n₀ b1 b2 : Nat} {lo hi : Int} (hn : n₀ ≤ w.heap.size) (W : World) (l : Nat) (o o' : Obj) (hl : w.heap.size ≤ l) (ho : W.heap[l]? = some o) (hc : o.isCells = false) (hw : o.isWalk = false) : KeepB n₀ b1 b2 lo hi W (W.putObj l o') :=
  ⟨belowK_b (w := w) hn W l o o' hl ho hc hw, fun e => cell_kept e (grownBy_putObj' W l o') (fun r e' => by cases e'; exact ⟨o, ho, hc⟩), fun e => cell_kept e (grownBy_putObj' W l o') (fun r e' => by cases e'; exact ⟨o, ho, hc⟩)⟩

set_option maxRecDepth 100000 in
set_option maxHeartbeats 4000000 in
theorem between1_in (F : Fence) (n : Nat) (h1 : F.fn 74) (hro : F.round = none) (hn : 1 ≤ n) (l n₀ Bb Bf Bu : Nat) (A : Option Addr) (m cap : Nat) (lo hi : Int) (zs : List It) (J Jx : List It → World → Prop) (B0 : Nat) (hJ : AbidesFrom B0 J) (W : World)
    (hY : ∀ pre x W, J pre W → pre.length < zs.length → YieldAt F (n - 1) Tryd.prog l #[itV x] W fun e W' => (e = .returned (.bool true) ∧ J (pre ++ [x]) W' ∧ KeepB n₀ Bf Bu lo hi W W') ∨ (e = .returned (.bool false) ∧ Jx (pre ++ [x]) W'))
    (hBb : W.cell? ⟨Bb, 0, none⟩ = some (.slice A m cap)) (hBf : W.cell? ⟨Bf, 0, none⟩ = some (.int .i64 lo)) (hBu : W.cell? ⟨Bu, 0, none⟩ = some (.int .i64 hi)) (hn₀ : n₀ ≤ W.heap.size)
    (hA : ∀ W', Below n₀ W W' → Rd It.vs 4 W' 0 A m zs) (h0 : J [] W) :
    CallsIn F n Tryd.prog 74 #[.func (.yield l) #[] #[], .pointer (some ⟨Bb, 0, none⟩), .pointer (some ⟨Bf, 0, none⟩), .pointer (some ⟨Bu, 0, none⟩)] W fun e W' => (∃ v, e = .returned v) ∧ ((∃ ys, ys = cutL zs lo hi ∧ J ys W') ∨ (∃ pre, True ∧ Jx pre W')) := by
  have HY := Lib.hid hY
  have HA := Lib.hid hA
  have HJ := Lib.hid hJ
  have hmle := (hA W (Below.refl _ _)).le
  have HLN : Hid (zs.length = m) := (hA W (Below.refl _ _)).len
  clear hY hA hJ
  refine callsIn_of_wp Tryd.func74 rfl h1 ?_ hro
  simp only [Tryd.ntmps74, List.size_toArray, List.length_cons, List.length_nil, Nat.reduceAdd, Nat.reduceSub, Array.replicate_succ, Array.replicate_zero, List.push_toArray, List.append_toArray, List.nil_append, List.cons_append]
  gi_wp2
  gi_loopw [9] (fun i wr => ∃ k : Nat, k ≤ m ∧ i = .int .i64 k ∧ J (cutL (zs.take k) lo hi) wr ∧ Below n₀ W wr ∧ wr.cell? ⟨Bf, 0, none⟩ = some (.int .i64 lo) ∧ wr.cell? ⟨Bu, 0, none⟩ = some (.int .i64 hi)) (fun i _ => m - (intOf i).toNat)
  case atStart => exact ⟨0, Nat.zero_le _, rfl, by simpa [cutL] using h0, Below.refl _ _, hBf, hBu⟩
  case round =>
    obtain ⟨k, hk, rfl, hJs, hBr, hbf, hbu⟩ := hrel
    have hRk := HA.out wr hBr
    have hsz := hBr.size
    have HJs := Lib.hid hJs
    have HBR := Lib.hid hBr
    clear hJs hBr
    by_cases hlt : k < m
    · obtain ⟨b, off, x, rfl, _, hx, c0, c1, c2, c3⟩ := hRk.it_at hlt
      have HTK := Lib.hid (cutL_succ lo hi hx)
      have hlen : (cutL (zs.take k) lo hi).length < zs.length := by
        have h1 := cutL_length (zs.take k) lo hi
        have h2 := List.length_take_le k zs
        have := HLN.out
        omega
      have hbf2 := cell_al (.cells #[.int .i64 x.r.at_, .int .i64 x.r.key, .int .i64 x.r.val, .int .i64 x.n] 33) hbf
      have hbu2 := cell_al (.cells #[.int .i64 x.r.at_, .int .i64 x.r.key, .int .i64 x.r.val, .int .i64 x.n] 33) hbu
      generalize cutL (zs.take k) lo hi = L at *
      clear hx hRk
      by_cases h1 : lo ≤ x.r.at_
      · have q1 : decide (lo ≤ x.r.at_) = true := by simpa using h1
        by_cases h2 : x.r.at_ < hi
        · have q2 : decide (x.r.at_ < hi) = true := by simpa using h2
          rw [if_pos ⟨h1, h2⟩] at HTK
          clear h1 h2
          have hJ2 : J L (wr.alloc (.cells #[.int .i64 x.r.at_, .int .i64 x.r.key, .int .i64 x.r.val, .int .i64 x.n] 33)) := HJ.out L wr _ none HJs.out (World.grownBy_alloc _ _ _) (fun r e => by cases e)
          obtain ⟨fn, tmps, assign, body, hy, hR⟩ := HY.out L x _ hJ2 hlen
          simp only [itV, It.vs] at hy
          have HRR := Lib.hid hR
          clear hR hJ2
          gi_wp2
          refine HRR.out.mono ?_
          rintro e W3 (⟨rfl, hJ3, hk3⟩ | ⟨rfl, hJx3⟩)
          · have HJ3 := Lib.hid hJ3
            have HB3 := Lib.hid ((HBR.out.alloc (Nat.le_trans hn₀ hsz) _).trans hk3.1)
            have HF3 := Lib.hid (hk3.2.1 hbf2)
            have HU3 := Lib.hid (hk3.2.2 hbu2)
            clear hJ3 hk3
            gi_wp2
            go_roundw
            case rel => exact ⟨k + 1, by omega, by go_num, by rw [HTK.out]; exact HJ3.out, HB3.out, HF3.out, HU3.out⟩
            case measure => simp [intOf]; omega
          · gi_wp2
            refine bodyPost_ret (results_none rfl _ _ _) rfl ?_
            exact ⟨⟨_, rfl⟩, .inr ⟨_, trivial, hJx3⟩⟩
        · have q2 : decide (x.r.at_ < hi) = false := by simpa using h2
          rw [if_neg (fun h => h2 h.2)] at HTK
          clear h1 h2
          have HJ2 := Lib.hid (HJ.out L wr _ none HJs.out (World.grownBy_alloc wr (.cells #[.int .i64 x.r.at_, .int .i64 x.r.key, .int .i64 x.r.val, .int .i64 x.n] 33) _) (fun r e => by cases e))
          gi_wp2
          refine ⟨fun _ h => (by cases h), ?_⟩
          gi_wp2
          go_roundw
          case rel => exact ⟨k + 1, by omega, by go_num, by rw [HTK.out, List.append_nil]; exact HJ2.out, HBR.out.alloc (Nat.le_trans hn₀ hsz) _, hbf2, hbu2⟩
          case measure => simp [intOf]; omega
      · have q1 : decide (lo ≤ x.r.at_) = false := by simpa using h1
        rw [if_neg (fun h => h1 h.1)] at HTK
        clear h1
        have HJ2 := Lib.hid (HJ.out L wr _ none HJs.out (World.grownBy_alloc wr (.cells #[.int .i64 x.r.at_, .int .i64 x.r.key, .int .i64 x.r.val, .int .i64 x.n] 33) _) (fun r e => by cases e))
        gi_wp2
        refine ⟨fun _ h => (by cases h), ?_⟩
        gi_wp2
        go_roundw
        case rel => exact ⟨k + 1, by omega, by go_num, by rw [HTK.out, List.append_nil]; exact HJ2.out, HBR.out.alloc (Nat.le_trans hn₀ hsz) _, hbf2, hbu2⟩
        case measure => simp [intOf]; omega
    · obtain rfl : k = m := by omega
      have et : zs.take k = zs := List.take_of_length_le (by rw [HLN.out]; exact Nat.le_refl _)
      rw [et] at HJs
      gi_wp2
      go_end0
      exact ⟨⟨_, rfl⟩, .inl ⟨_, rfl, HJs.out⟩⟩
set_option maxHeartbeats 1000000 in
theorem between_in (F : Fence) (n : Nat) (h1 : F.fn 60) (hro : F.round = none) (A : Option Addr) (m cap : Nat) (lo hi : Int) (w : World) :
    CallsIn F n Tryd.prog 60 #[.slice A m cap, .int .i64 lo, .int .i64 hi] w fun e w' => e = .returned (.func (.func 74) #[] #[.pointer (some ⟨w.heap.size, 0, none⟩), .pointer (some ⟨w.heap.size + 1, 0, none⟩), .pointer (some ⟨w.heap.size + 2, 0, none⟩)]) ∧ w' = ((w.alloc (.cells #[.slice A m cap] 23)).alloc (.cells #[.int .i64 lo] 3)).alloc (.cells #[.int .i64 hi] 3) := by
  refine callsIn_of_wp Tryd.func60 rfl h1 ?_ hro
  simp only [Tryd.ntmps60, List.size_toArray, List.length_cons, List.length_nil, Nat.reduceAdd, Nat.reduceSub, Array.replicate_succ, Array.replicate_zero, List.push_toArray, List.append_toArray, List.nil_append, List.cons_append]
  gi_wp2
  go_ret
  exact ⟨rfl, rfl⟩

/-- The iterator's contract. -/
theorem between_stops (F : Fence) (n : Nat) (h1 : F.fn 74) (hro : F.round = none) (hn : 1 ≤ n) (n₀ Bb Bf Bu : Nat) (A : Option Addr) (m cap : Nat) (lo hi : Int) (zs : List It) (w : World)
    (hBb : w.cell? ⟨Bb, 0, none⟩ = some (.slice A m cap)) (hBf : w.cell? ⟨Bf, 0, none⟩ = some (.int .i64 lo)) (hBu : w.cell? ⟨Bu, 0, none⟩ = some (.int .i64 hi)) (hn₀ : n₀ ≤ w.heap.size)
    (hA : ∀ W', Below n₀ w W' → Rd It.vs 4 W' 0 A m zs) :
    SeqStopsK F n Tryd.prog 74 #[.pointer (some ⟨Bb, 0, none⟩), .pointer (some ⟨Bf, 0, none⟩), .pointer (some ⟨Bu, 0, none⟩)] (fun x : It => #[itV x]) (KeepB n₀ Bf Bu lo hi) (fun ys => ys = cutL zs lo hi) (fun _ => True) zs.length w := fun l J Jx W hW hJ _ hY h0 =>
  between1_in F n h1 hro hn l n₀ Bb Bf Bu A m cap lo hi zs J Jx _ hJ W hY ((hW.cell (World.block_lt_of_cell? w _ hBb)).trans hBb) ((hW.cell (World.block_lt_of_cell? w _ hBf)).trans hBf) ((hW.cell (World.block_lt_of_cell? w _ hBu)).trans hBu) (Nat.le_trans hn₀ hW.size) (fun W' h => hA W' ((hW.mono hn₀).trans h)) h0
end Go.Proofs.Bg
end

section
/- What a loop over an iterator collects; marks at a function's return. -/
namespace Go.Proofs.Bg
open Go.RowKit Go.Shelf
attribute [local go_sem] Oper.semAt_some

/-- 'append(s, x)' in a fence, x in a new block. -/
theorem wpListIn_app1 {α : Type} {F : Fence} {n : Nat} {P : Program} {w : World} {ops : Array Oper} {rest : List Oper} {o : Oper} {a : Act} {Q : Exit → Act → World → Prop} (enc : α → List Value) (sz : Nat) (e : TypeId) (z : Value) (bytes : Nat) (hinf : (P.info? e).map (fun i => (i.zero, i.size, i.bytes)) = some (some z, sz, bytes)) (hzs : z.cells.size = sz) (hsz : 0 < sz)
    (hgd : o.guard = none) (s x : Operand) (t : TypeId) (ho : o.op = .call { callee := .builtin .append, args := #[s, x], argTypes := #[t, t] }) (ht : P.underlying t = some (.slice e)) (base : Nat) (v : Value) (l : List α) (hs : a.eval s = v) (hown : Own enc sz e base w v l)
    (y : α) (ad : Addr) (c : Nat) (hx : a.eval x = .slice (some ad) 1 c) (hl : (enc y).length = sz) (hnews : ∀ j u, (enc y)[j]? = some u → w.cell? (ad.add j) = some u) (h1 : ∀ u ∈ enc y, u.oneCell' = true)
    (hbytes : (l.length + 1) * bytes ≤ 140737488355328) (h63 : l.length + 1 ≤ maxLen) (hbase : base ≤ w.heap.size)
    (h : ∀ v' w', Own enc sz e base w' v' (l ++ [y]) → w.grownBy w' v.ownBlock → wpListIn F n P ops Q rest (a.put o.dst v') w') : wpListIn F n P ops Q (o :: rest) a w := by
  obtain ⟨i, hi, hz0, hz1, hz2⟩ := info_parts hinf
  refine wpListIn_append_own w hgd s x t ho base e i z sz bytes ht hi hz0 hz1 hz2 hzs hsz v l.length (l.flatMap enc) hs hown ad 1 c (enc y) hx (by rw [hl]; omega) hnews h1 h63 hbytes hbase fun v' w' h2 h3 _ => h v' w' ?_ h3
  unfold Own
  rw [List.length_append, List.flatMap_append]
  simpa using h2

/-- Behind the marks: what was cells is as it was; below base nothing has turned. -/
structure Shut (base : Nat) (w w' : World) : Prop where
  below : Below base w w'
  same : ∀ (k : Nat) (o : Obj), w.heap[k]? = some o → o.isCells = true → w'.heap[k]? = some o
theorem Shut.refl (base : Nat) (w : World) : Shut base w w := ⟨Below.refl _ _, fun _ _ h _ => h⟩
theorem Shut.cell {base : Nat} {w w' : World} (h : Shut base w w') {a : Addr} {v : Value} (hc : w.cell? a = some v) : w'.cell? a = some v := by
  have hb : ∃ o, w.heap[a.block]? = some o ∧ o.isCells = true := by
    unfold World.cell? at hc
    split at hc
    · rename_i cs T fr hh
      exact ⟨_, hh, rfl⟩
    · cases hc
  obtain ⟨o, h1, h2⟩ := hb
  have h3 := h.same _ _ h1 h2
  unfold World.cell? at hc ⊢
  rw [h3]
  rw [h1] at hc
  exact hc
theorem Rd.shut {α : Type} {enc : α → List Value} {sz base lo n : Nat} {A : Option Addr} {w w' : World} {l : List α} (h : Rd enc sz w lo A n l) (hs : Shut base w w') : Rd enc sz w' lo A n l :=
  ⟨h.1, h.2.1, fun hn => by
    obtain ⟨b, off, e, hl, hc⟩ := h.2.2 hn
    exact ⟨b, off, e, hl, fun i x hx j v hv => hs.cell (hc i x hx j v hv)⟩⟩

def mark (D : Nat) : Deferred := { target := .collected D, args := #[] }
theorem leaves_marks {F : Fence} {n : Nat} {P : Program} {fn : Func} {tmps : Array Value} {R : Ending → World → Prop} {v : Value} (base : Nat) (hres : ∀ w, (results fn tmps).run P w = .ok v w) : ∀ (ds : List Nat) (w : World), ds.Nodup → (∀ D ∈ ds, base ≤ D ∧ w.heap[D]? = some (.deferred (some []))) → (∀ w', Shut base w w' → R (.returned v) w') → LeavesInM F n P fn tmps R (ds.map mark) .returning w
  | [], w, _, _, hR => ⟨v, hres w, hR w (Shut.refl _ _)⟩
  | D :: ds, w, hn, hd, hR => by
    obtain ⟨hb, hD⟩ := hd D List.mem_cons_self
    refine ⟨by simp, .inl ⟨D, _, rfl, run_takeDeferred hD, ?_⟩⟩
    refine leaves_marks base hres ds _ (List.nodup_cons.1 hn).2 (fun D' h' => ?_) (fun w' hw' => hR w' ⟨?_, fun k o hk ho => ?_⟩)
    · obtain ⟨h1, h2⟩ := hd D' (List.mem_cons_of_mem _ h')
      refine ⟨h1, (World.putObj_heap_other (fun e => ?_)).trans h2⟩
      subst e
      exact (List.nodup_cons.1 hn).1 h'
    · exact Below.trans (a := w) (B := base) (show Below base w (w.putObj D (.deferred none)) from ⟨rfl, rfl, rfl, by simp, fun i hi => World.putObj_heap_other (by omega)⟩) hw'.below
    · refine hw'.same k o ((World.putObj_heap_other (fun e => ?_)).trans hk) ho
      subst e
      rw [hD] at hk
      cases hk
      cases ho
theorem ret_marks {F : Fence} {n : Nat} {P : Program} {fn : Func} {tmps : Array Value} {R : Ending → World → Prop} {v : Value} {w : World} (base : Nat) (ds : List Nat) (hres : ∀ w, (results fn tmps).run P w = .ok v w) (hn : ds.Nodup) (hd : ∀ D ∈ ds, base ≤ D ∧ w.heap[D]? = some (.deferred (some []))) (hR : ∀ w', Shut base w w' → R (.returned v) w') : bodyPostM F n P fn R .ret { tmps := tmps, defers := ds.map mark } w :=
  leaves_marks base hres ds w hn hd hR
theorem ret_none {F : Fence} {n : Nat} {P : Program} {fn : Func} {tmps : Array Value} {R : Ending → World → Prop} {v : Value} {w : World} (hres : (results fn tmps).run P w = .ok v w) (hR : R (.returned v) w) : bodyPostM F n P fn R .ret { tmps := tmps, defers := [] } w := ⟨v, hres, hR⟩


/-- What the loop over between's iterator holds: the box of what has been collected, the iterator's two boxes. -/
structure ColI (base : Nat) (w : World) (Bo Bf Bu : Nat) (lo hi : Int) (L : List It) (W : World) : Prop where
  out : ∃ v, Boxed W Bo 23 v ∧ Own It.vs 4 33 base W v L
  bf : Boxed W Bf 3 (.int .i64 lo)
  bu : Boxed W Bu 3 (.int .i64 hi)
  below : Below base w W

theorem box_row {X : World} {row : Option Nat} (hr : ∀ r, row = some r → ∃ o : Obj, X.heap[r]? = some o ∧ o.isCells = false) {B : Nat} {t : TypeId} {v : Value} (h : Boxed X B t v) : some B ≠ row := fun e => by
  obtain ⟨o, ho, hc⟩ := hr B e.symm
  rw [show X.heap[B]? = _ from h] at ho
  cases ho
  cases hc
theorem own_row {α : Type} {enc : α → List Value} {sz : Nat} {T : TypeId} {base : Nat} {v : Value} {l : List α} {X : World} {row : Option Nat} (hr : ∀ r, row = some r → ∃ o : Obj, X.heap[r]? = some o ∧ o.isCells = false) (h : Own enc sz T base X v l) : v.ownBlock = none ∨ v.ownBlock ≠ row := by
  rcases h.2 with ⟨e, _⟩ | ⟨g, cap, cur, e, _, hb, _⟩
  · exact .inl (by rw [e]; rfl)
  · refine .inr fun e' => ?_
    rw [e] at e'
    obtain ⟨o, ho, hc⟩ := hr g e'.symm
    rw [hb] at ho
    cases ho
    cases hc
theorem ColI.from {base B : Nat} {w : World} {Bo Bf Bu : Nat} {lo hi : Int} {f : List It → List It} (hw : base ≤ w.heap.size) (hB : base ≤ B) : OwnFrom B (fun pre W => ColI base w Bo Bf Bu lo hi (f pre) W) := fun s X Y row h hg hr => by
  obtain ⟨v, hv, ho⟩ := h.out
  have hr' := fun r e => (hr r e).2
  exact ⟨⟨v, hv.kept hg (box_row hr' hv), ho.grown hg (own_row hr' ho)⟩, h.bf.kept hg (box_row hr' h.bf), h.bu.kept hg (box_row hr' h.bu), h.below.grown hg (Nat.le_trans hw h.below.size) (fun g e => Nat.le_trans hB (hr g e).1)⟩
theorem ColI.alloc {base : Nat} {w W : World} {Bo Bf Bu : Nat} {lo hi : Int} {L : List It} (h : ColI base w Bo Bf Bu lo hi L W) (hw : base ≤ w.heap.size) (o : Obj) : ColI base w Bo Bf Bu lo hi L (W.alloc o) := by
  obtain ⟨v, hv, ho⟩ := h.out
  exact ⟨⟨v, hv.alloc o, ho.alloc o⟩, h.bf.alloc o, h.bu.alloc o, h.below.alloc (Nat.le_trans hw h.below.size) o⟩
theorem ColI.set {base : Nat} {w W : World} {Bo Bf Bu Bx : Nat} {lo hi : Int} {L : List It} (h : ColI base w Bo Bf Bu lo hi L W) {v : Value} (hv : Boxed W Bo 23 v) (hne : v.ownBlock ≠ some Bx) (h1 : Bo ≠ Bx) (h2 : Bf ≠ Bx) (h3 : Bu ≠ Bx) (h4 : base ≤ Bx) (u : Value) :
    ColI base w Bo Bf Bu lo hi L (W.setCell ⟨Bx, 0, none⟩ u) ∧ Boxed (W.setCell ⟨Bx, 0, none⟩ u) Bo 23 v := by
  obtain ⟨v', hv', ho⟩ := h.out
  have e : v' = v := by
    have := (show W.heap[Bo]? = _ from hv').symm.trans hv
    simpa using this
  subst e
  exact ⟨⟨⟨v', hv'.other h1 u, ho.grown (grownBy_setCell' W Bx u) (.inr hne)⟩, h.bf.other h2 u, h.bu.other h3 u, h.below.setCell (p := ⟨Bx, 0, none⟩) h4 u⟩, hv'.other h1 u⟩
theorem ColI.at_ {base : Nat} {w W : World} {Bo Bf Bu : Nat} {lo hi : Int} {L : List It} (h : ColI base w Bo Bf Bu lo hi L W) {v : Value} (hv : Boxed W Bo 23 v) : Own It.vs 4 33 base W v L := by
  obtain ⟨v', hv', ho⟩ := h.out
  have e : v' = v := by
    have := (show W.heap[Bo]? = _ from hv').symm.trans hv
    simpa using this
  subst e
  exact ho
theorem ColI.app {base : Nat} {w W w2 : World} {Bo Bf Bu : Nat} {lo hi : Int} {L : List It} {y : It} {v v' : Value} {o : Obj} (h : ColI base w Bo Bf Bu lo hi L W) (hw : base ≤ w.heap.size) (hBo : base ≤ Bo) (hv : Boxed W Bo 23 v) (ho : Own It.vs 4 33 base W v L) (h1 : Bf ≠ Bo) (h2 : Bu ≠ Bo) (hown : Own It.vs 4 33 base w2 v' (L ++ [y])) (hg : (W.alloc o).grownBy w2 v.ownBlock) :
    Boxed w2 Bo 23 v ∧ KeepsOthers W (w2.setCell ⟨Bo, 0, none⟩ v') ∧ Below base W (w2.setCell ⟨Bo, 0, none⟩ v') ∧ ColI base w Bo Bf Bu lo hi (L ++ [y]) (w2.setCell ⟨Bo, 0, none⟩ v') := by
  obtain ⟨p1, p2, p3, p4, p5⟩ := hv.appended (by decide) ho (Nat.le_trans hw h.below.size) hBo hown hg
  have hoA := ho.alloc o
  exact ⟨p1, p4, p5, ⟨v', p2, p3⟩, ((h.bf.alloc o).kept hg ((h.bf.alloc o).not_row (by decide) hoA)).other h1 v', ((h.bu.alloc o).kept hg ((h.bu.alloc o).not_row (by decide) hoA)).other h2 v', h.below.trans p5⟩
theorem Boxed.past {base : Nat} {W w2 : World} {B B' : Nat} {t : TypeId} {u v x : Value} {L : List It} {o : Obj} (h : Boxed W B t u) (ht : t ≠ 33) (ho : Own It.vs 4 33 base W v L) (hg : (W.alloc o).grownBy w2 v.ownBlock) (hne : B ≠ B') : Boxed (w2.setCell ⟨B', 0, none⟩ x) B t u :=
  ((h.alloc o).kept hg ((h.alloc o).not_row ht (ho.alloc o))).other hne x
/-- The box of the loop's variable. -/
def ItBox (Bo Bx : Nat) (x : It) (W : World) : Prop :=
  W.heap[Bx]? = some (.cells #[.int .i64 x.r.at_, .int .i64 x.r.key, .int .i64 x.r.val, .int .i64 x.n] 33 (0, 0)) ∧ ∃ v, Boxed W Bo 23 v ∧ v.ownBlock ≠ some Bx
theorem ItBox.from (B Bo Bx : Nat) (x : It) : OwnFrom B (fun (_ : Unit) W => ItBox Bo Bx x W) := fun s X Y row h hg hr => by
  obtain ⟨hx, v, hv, hne⟩ := h
  have hr' := fun r e => (hr r e).2
  refine ⟨(hg.block Bx (Array.getElem?_eq_some_iff.1 hx).1 (fun e => ?_)).trans hx, v, hv.kept hg (box_row hr' hv), hne⟩
  obtain ⟨o, ho, hc⟩ := hr' Bx e.symm
  rw [hx] at ho
  cases ho
  cases hc
end Go.Proofs.Bg
end

section
/- The contracts of the reference's Times, Cut, Later. -/
namespace Go.Proofs.Bg
open Go.RowKit

end Go.Proofs.Bg
end

section
/- Lists of bags in memory; the contracts of the reference's Parts, Shift, SameBags. -/
namespace Go.Proofs.Bg
open Go.RowKit

/-- A slice's three words. -/
structure Sl where
  A : Option Addr
  n : Nat
  cap : Nat
def Sl.v (s : Sl) : Value := .slice s.A s.n s.cap
def Sl.vs (s : Sl) : List Value := [.slice s.A s.n s.cap]
theorem Sl.vs_length (s : Sl) : s.vs.length = 1 := rfl
theorem infoBag : (Tryd.prog.info? 23).map (fun i => (i.zero, i.size, i.bytes)) = some (some (.slice none 0 0), 1, 24) := by kernel_rfl

theorem own_ne {α β : Type} {enc : α → List Value} {enc' : β → List Value} {sz sz' : Nat} {T T' : TypeId} {base base' : Nat} {w : World} {v v' : Value} {l : List α} {l' : List β} (h : Own enc sz T base w v l) (h' : Own enc' sz' T' base' w v' l') (hT : T ≠ T') : v.ownBlock = none ∨ v.ownBlock ≠ v'.ownBlock := by
  rcases h.2 with ⟨e, _⟩ | ⟨g, cap, cur, e, _, hb, _⟩
  · exact .inl (by rw [e]; rfl)
  · refine .inr fun ee => ?_
    rcases h'.2 with ⟨e', _⟩ | ⟨g', cap', cur', e', _, hb', _⟩
    · rw [e, e'] at ee; cases ee
    · rw [e, e'] at ee
      have : g = g' := Option.some.inj ee
      subst this
      rw [hb] at hb'
      cases hb'
      exact hT rfl

/-- The slices ss hold the bags ls, each in a block of the call's own. -/
def Bags (base : Nat) (w : World) (ss : List Sl) (ls : List (List It)) : Prop :=
  ss.length = ls.length ∧ ∀ (i : Nat) (s : Sl) (l : List It), ss[i]? = some s → ls[i]? = some l → Own It.vs 4 33 base w s.v l
theorem Bags.nil (base : Nat) (w : World) : Bags base w [] [] := ⟨rfl, fun i s l h => by simp at h⟩
theorem Bags.below {base : Nat} {w w' : World} {ss : List Sl} {ls : List (List It)} (h : Bags base w ss ls) (hb : Below w.heap.size w w') : Bags base w' ss ls := ⟨h.1, fun i s l h1 h2 => (h.2 i s l h1 h2).below hb⟩
theorem Bags.alloc {base : Nat} {w : World} {ss : List Sl} {ls : List (List It)} (h : Bags base w ss ls) (o : Obj) : Bags base (w.alloc o) ss ls := ⟨h.1, fun i s l h1 h2 => (h.2 i s l h1 h2).alloc o⟩
theorem Bags.grown {base base' : Nat} {w w' : World} {ss : List Sl} {ls : List (List It)} {v : Value} {tt : List Sl} (h : Bags base w ss ls) (ho : Own Sl.vs 1 23 base' w v tt) (hg : w.grownBy w' v.ownBlock) : Bags base w' ss ls :=
  ⟨h.1, fun i s l h1 h2 => (h.2 i s l h1 h2).grown hg (own_ne (h.2 i s l h1 h2) ho (by decide))⟩
theorem Bags.snoc {base : Nat} {w : World} {ss : List Sl} {ls : List (List It)} (h : Bags base w ss ls) {s : Sl} {l : List It} (ho : Own It.vs 4 33 base w s.v l) : Bags base w (ss ++ [s]) (ls ++ [l]) := by
  refine ⟨by simp [h.1], fun i s' l' h1 h2 => ?_⟩
  by_cases hi : i < ss.length
  · rw [List.getElem?_append_left hi] at h1
    rw [List.getElem?_append_left (by rw [← h.1]; exact hi)] at h2
    exact h.2 i s' l' h1 h2
  · have e : i = ss.length := by
      have := (List.getElem?_eq_some_iff.1 h1).1
      simp at this
      omega
    subst e
    rw [List.getElem?_append_right (Nat.le_refl _)] at h1
    rw [h.1, List.getElem?_append_right (Nat.le_refl _)] at h2
    simp at h1 h2
    subst h1 h2
    exact ho

/-- What Parts leaves. -/
def RetBags (w : World) (p : List (List It) × Int) (e : Ending) (w' : World) : Prop :=
  (∃ A q cap ss, e = .returned (.tuple #[.slice A q cap, .int .i64 p.2]) ∧ Rd Sl.vs 1 w' w.heap.size A q ss ∧ Bags w.heap.size w' ss p.1) ∧ Below w.heap.size w w'

/-- What the loop of the reference's Parts holds. -/
def PaRel (w : World) (l : List It) (ts : List Int) (k : Nat) (v : Value) (wr : World) : Prop :=
  ∃ ss, Own Sl.vs 1 23 w.heap.size wr v ss ∧ Bags w.heap.size wr ss (partsTo l ts k) ∧ Below w.heap.size w wr

theorem own_app {w : World} {b0 : Nat} {W w' : World} {v v' : Value} {ss : List Sl} {ls : List (List It)} {s : Sl} {l : List It} (hO : Own Sl.vs 1 23 b0 W v ss) (hB : Bags b0 W ss ls) (hP : Own It.vs 4 33 b0 W s.v l) (hb : Below w.heap.size w W) (hb0 : w.heap.size ≤ b0) {o : Obj} (hO' : Own Sl.vs 1 23 b0 w' v' (ss ++ [s])) (hg : (W.alloc o).grownBy w' v.ownBlock) :
    Own Sl.vs 1 23 b0 w' v' (ss ++ [s]) ∧ Bags b0 w' (ss ++ [s]) (ls ++ [l]) ∧ Below w.heap.size w w' :=
  ⟨hO', ((hB.snoc hP).alloc o).grown (hO.alloc o) hg, below_row (hb.alloc hb.size o) hg (fun g e => Nat.le_trans hb0 (hO.blk g e).1)⟩

end Go.Proofs.Bg
end

section
/- The contract of Parts. -/
namespace Go.Proofs.Bg
open Go.RowKit Go.Shelf
attribute [local go_sem] Oper.semAt_some

theorem Own.shut {α : Type} {enc : α → List Value} {sz : Nat} {T : TypeId} {base b2 : Nat} {w w' : World} {v : Value} {l : List α} (h : Own enc sz T base w v l) (hs : Shut b2 w w') : Own enc sz T base w' v l :=
  ⟨h.1, h.2.imp_right fun ⟨g, cap, cur, e, hb, hg, rest⟩ => ⟨g, cap, cur, e, hb, hs.same g _ hg rfl, rest⟩⟩
theorem Bags.shut {base b2 : Nat} {w w' : World} {ss : List Sl} {ls : List (List It)} (h : Bags base w ss ls) (hs : Shut b2 w w') : Bags base w' ss ls := ⟨h.1, fun i s l h1 h2 => (h.2 i s l h1 h2).shut hs⟩
theorem mark_grown {α : Type} {enc : α → List Value} {sz : Nat} {T : TypeId} {base : Nat} {W w4 : World} {v : Value} {l : List α} {o : Obj} {D : Nat} {x : Option (List Deferred)} (ho : Own enc sz T base W v l) (hD : W.heap[D]? = some (.deferred x)) (hg : (W.alloc o).grownBy w4 v.ownBlock) : w4.heap[D]? = some (.deferred x) := by
  have hl := (Array.getElem?_eq_some_iff.1 hD).1
  refine (hg.block D (by simp; omega) fun e => ?_).trans ((Below.heap_alloc W _ D hl).trans hD)
  rcases ho.2 with ⟨e', _⟩ | ⟨g, cap, cur, e', _, hb, _⟩
  · rw [e'] at e; cases e
  · rw [e'] at e
    have : D = g := Option.some.inj e
    subst this
    rw [hb] at hD
    cases hD

/-- What the second loop of Parts holds: the parts so far; the marks of the loops over iterators. -/
def MarkRel (w : World) (l : List It) (ts : List Int) (ds : List Nat) (k : Nat) (v : Value) (wr : World) : Prop :=
  PaRel w l ts k v wr ∧ ds.Nodup ∧ ∀ D ∈ ds, w.heap.size ≤ D ∧ wr.heap[D]? = some (.deferred (some []))

set_option maxRecDepth 100000 in
set_option maxHeartbeats 4000000 in
theorem Parts_any (A B : Option Addr) (n m capA capB : Nat) (l : List It) (ts : List Int) (w : World) (hA : Rd It.vs 4 w 0 A n l) (hB : Rd iv 1 w 0 B m ts) :
    Calls Tryd.prog 25 #[.slice A n capA, .slice B m capB] w (RetBags w (partsR l ts)) := by
  have Q1 := Lib.hid (isBag_any A n capA l w hA)
  have HA := Lib.hid hA
  have HB := Lib.hid hB
  have HLN : Hid (ts.length = m) := hB.len
  have HLA : Hid (l.length = n) := hA.len
  have hmle := hB.le
  clear hA hB
  refine (callsIn_wide (n := 6)).1 ?_
  refine callsIn_of_wp_marks Tryd.func25 rfl trivial ?_ rfl
  simp only [Tryd.ntmps25, List.size_toArray, List.length_cons, List.length_nil, Nat.reduceAdd, Nat.reduceSub, Array.replicate_succ, Array.replicate_zero, List.push_toArray, List.append_toArray, List.nil_append, List.cons_append]
  cases ga : bagB l with
  | false =>
    have e1 : partsR l ts = ([], 2) := by simp [partsR, ga]
    rw [e1]
    have GA := Lib.hid ga
    clear ga e1
    gi_wp2_with (refine ⟨trivial, ?_⟩; gi_at_call 29; refine (callsIn_wide.2 Q1.out).mono ?_; rintro e w1 ⟨rfl, hb1⟩; rw [GA.out]; have HB1 := Lib.hid hb1; clear hb1)
    refine ret_none (results_tmp2 rfl _ _ _) ?_
    exact ⟨⟨_, _, _, _, rfl, Rd.nil _ _ _, Bags.nil _ _⟩, HB1.out⟩
  | true =>
    have hn300 : n ≤ 300 := by rw [← HLA.out]; exact bag_le ga
    by_cases h40 : m ≤ 40
    · have hd40 : decide ((40 : Int) < (m : Int)) = false := by simp; omega
      have GA := Lib.hid ga
      have HP : Hid (∀ b, incB ts m = b → partsR l ts = if b then (partsTo l ts (m + 1), 0) else ([], 2)) := by
        intro b hb
        subst hb
        unfold partsR timesB
        rw [ga, HLN.out]
        have : decide (m ≤ 40) = true := by simpa using h40
        rw [this]
        simp
      clear ga
      gi_wp2_with (refine ⟨trivial, ?_⟩; gi_at_call 29; refine (callsIn_wide.2 Q1.out).mono ?_; rintro e w1 ⟨rfl, hb1⟩; rw [GA.out]; have HB1 := Lib.hid hb1; clear hb1)
      gi_loopw [6] (fun i wr => ∃ k : Nat, (k + 1 ≤ m ∨ k = 0) ∧ i = .int .i64 (k + 1 : Nat) ∧ incB ts (k + 1) = true ∧ Below w.heap.size w wr) (fun i _ => m - (intOf i).toNat)
      case atStart => exact ⟨0, .inr rfl, rfl, incB_one _, HB1.out⟩
      case round =>
        obtain ⟨k, hk, rfl, hin, hBr⟩ := hrel
        have hRk := HB.out.below hBr
        have HIN := Lib.hid hin
        have HBR := Lib.hid hBr
        clear hin hBr
        by_cases hlt : k + 1 < m
        · obtain ⟨b, off, x, e0, _, hx, c0⟩ := hRk.int_at (k := k) (by omega)
          obtain ⟨b', off', y, e1, _, hy, c1⟩ := hRk.int_at hlt
          subst e0
          cases e1
          have HX := Lib.hid hx
          have HY := Lib.hid hy
          clear hx hy hRk
          have ei : IntKind.i64.wrap (((k + 1 : Nat) : Int) - 1) = k := by rw [IntWalk.i64_in _ (by omega)]; omega
          by_cases hc : y ≤ x
          · have hd : decide (y ≤ x) = true := by simpa using hc
            have HF : Hid (partsR l ts = ([], 2)) := by
              show _ = _
              rw [HP.out false (incB_false (k := k + 1) (by omega) hlt (by unfold tAt; rw [Nat.add_sub_cancel, HX.out, HY.out]; simpa using hc))]
              rfl
            rw [HF.out]
            clear hc HF
            gi_wp2
            gi_region
            gi_wp2
            refine ret_none (results_tmp2 rfl _ _ _) ?_
            exact ⟨⟨_, _, _, _, rfl, Rd.nil _ _ _, Bags.nil _ _⟩, HBR.out.drew⟩
          · have hd : decide (y ≤ x) = false := by simpa using hc
            have HN : Hid (incB ts (k + 1 + 1) = true) := by
              show _ = _
              rw [incB_succ, HIN.out]
              unfold tAt
              rw [Nat.add_sub_cancel, HX.out, HY.out]
              simp
              omega
            clear hc
            gi_wp2
            gi_region
            gi_wp2
            exact ⟨⟨k + 1, by omega, by go_num, HN.out, HBR.out.drew⟩, by simp [intOf]; omega⟩
        · have HI : Hid (incB ts m = true) := by
            show _ = _
            rcases hk with h | h
            · rw [show m = k + 1 by omega, HIN.out]
            · subst h
              have hn : m = 0 ∨ m = 1 := by omega
              rcases hn with h | h <;> subst h
              · rfl
              · exact incB_one ts
          have HP2 := Lib.hid (HP.out true HI.out)
          clear HP
          generalize k + 1 = k1 at *
          clear hk HIN hRk
          gi_wp2
          refine wpIn_loop (fun a w' => ∃ (k : Nat) (ds : List Nat) (v x8 x9 x10 x11 x12 x40 x41 x42 x43 x44 x45 x46 x47 x48 x49 x50 x51 x52 x53 x54 x55 x56 x57 x58 x59 x60 x61 x62 x63 x64 x65 : Value), k ≤ m + 1 ∧ a = { tmps := #[.slice A n capA, .slice B m capB, undef, undef, u4, u5, .int .i64 (k1 : Nat), v, x8, x9, x10, x11, x12, .slice A n capA, .bool true, .bool false, .bool false, .slice B m capB, .int .i64 (m : Nat), .bool false, .bool false, .int .i64 (k1 : Nat), .slice B m capB, .int .i64 (m : Nat), .bool false, u25, u26, u27, u28, u29, u30, u31, u32, u33, u34, u35, u36, .slice B m capB, .int .i64 (m : Nat), .int .i64 ((m : Int) + 1), x40, x41, x42, x43, x44, x45, x46, x47, x48, x49, x50, x51, x52, x53, x54, x55, x56, x57, x58, x59, x60, x61, x62, x63, x64, x65, undef], defers := ds.map mark } ∧ (k ≤ m → x8 = .int .i64 (fromP ts k)) ∧ x40 = .int .i64 (k : Nat) ∧ MarkRel w l ts ds k v w') (fun a _ => m + 1 - (intOf (a.tmps.getD 40 undef)).toNat) ?_ ?_
          · exact ⟨0, [], _, _, _, _, _, _, _, _, _, _, _, _, _, _, _, _, _, _, _, _, _, _, _, _, _, _, _, _, _, _, _, _, by omega, rfl, fun _ => rfl, rfl, ⟨[], Own.nil _ _ _ _ _, Bags.nil _ _, HBR.out⟩, by simp, by simp⟩
          · rintro a wp ⟨k, ds, v, x8, x9, x10, x11, x12, x40, x41, x42, x43, x44, x45, x46, x47, x48, x49, x50, x51, x52, x53, x54, x55, x56, x57, x58, x59, x60, x61, x62, x63, x64, x65, hk, rfl, hx8, rfl, ⟨ss, hown, hbags, hBr⟩, hnd, hds⟩
            obtain ⟨A3, cap3, rfl⟩ := hown.shape
            have hlen : ss.length = k := by rw [hbags.1, partsTo_length]
            rw [hlen] at hown ⊢
            have HO := Lib.hid hown
            have HBG := Lib.hid hbags
            have HB2 := Lib.hid hBr
            have HND := Lib.hid hnd
            have HDS := Lib.hid hds
            have HPS := Lib.hid (partsTo_succ l ts k)
            have HFS : Hid (fromP ts (k + 1) = tAt ts k) := by show _ = _; unfold fromP; simp
            have HFU : Hid (k < m → untilP ts k = tAt ts k) := fun h => by unfold untilP; rw [HLN.out, if_pos h]
            have HFM : Hid (k = m → untilP ts k = 9223372036854775807) := fun h => by unfold untilP; rw [HLN.out, if_neg (by omega)]; rfl
            have hRk := HB.out.below hBr
            clear hown hbags hBr hnd hds HBR
            by_cases hlt : k < m
            · obtain ⟨b, off, t, rfl, _, hx, c0⟩ := hRk.int_at hlt
              have HT : Hid (tAt ts k = t) := by show _ = _; unfold tAt; rw [hx]; rfl
              have hd1 : decide ((k : Int) < (m : Int) + 1) = true := by simp; omega
              clear hx hRk
              unfold partAt at HPS
              rw [HFU.out hlt, HT.out] at HPS
              rw [HT.out] at HFS
              clear HFU HFM HT
              have hklt : k ≤ m := by omega
              obtain rfl := hx8 hklt
              clear hx8
              generalize fromP ts k = F at *
              gi_wp2_with (refine ⟨trivial, ?_⟩; gi_at_call 60; refine (between_in Fence.wide _ trivial rfl A n capA F t _).mono ?_; rintro e w2 ⟨rfl, rfl⟩)
              have bo := (((Boxed.new wp 23 (.slice none 0 0)).alloc (.cells #[.slice A n capA] 23)).alloc (.cells #[.int .i64 F] 3)).alloc (.cells #[.int .i64 t] 3)
              have bb := ((Boxed.new (wp.alloc (.cells #[.slice none 0 0] 23)) 23 (.slice A n capA)).alloc (.cells #[.int .i64 F] 3)).alloc (.cells #[.int .i64 t] 3)
              have bf := (Boxed.new ((wp.alloc (.cells #[.slice none 0 0] 23)).alloc (.cells #[.slice A n capA] 23)) 3 (.int .i64 F)).alloc (.cells #[.int .i64 t] 3)
              have bu := Boxed.new (((wp.alloc (.cells #[.slice none 0 0] 23)).alloc (.cells #[.slice A n capA] 23)).alloc (.cells #[.int .i64 F] 3)) 3 (.int .i64 t)
              have hB0 : Below wp.heap.size wp ((((wp.alloc (.cells #[.slice none 0 0] 23)).alloc (.cells #[.slice A n capA] 23)).alloc (.cells #[.int .i64 F] 3)).alloc (.cells #[.int .i64 t] 3)) := (((((Below.refl _ wp).alloc (Nat.le_refl _) _).alloc (by simp) _).alloc (by simp; omega) _).alloc (by simp; omega) _)
              have hsz : ((((wp.alloc (.cells #[.slice none 0 0] 23)).alloc (.cells #[.slice A n capA] 23)).alloc (.cells #[.int .i64 F] 3)).alloc (.cells #[.int .i64 t] 3)).heap.size = wp.heap.size + 4 := by simp
              simp only [World.size_alloc] at bb bf bu
              obtain ⟨W0, hW0⟩ : ∃ W0, (((wp.alloc (.cells #[.slice none 0 0] 23)).alloc (.cells #[.slice A n capA] 23)).alloc (.cells #[.int .i64 F] 3)).alloc (.cells #[.int .i64 t] 3) = W0 := ⟨_, rfl⟩
              rw [hW0] at bo bb bf bu hB0 hsz ⊢
              clear hW0
              have hsw := HB2.out.size
              generalize hs1 : wp.heap.size = s1 at *
              have HS1 := Lib.hid hs1
              clear hs1
              refine wpIn_rangeFunc_ownH rfl (by decide) (gf := 74) (lb := #[.pointer (some ⟨s1 + 1, 0, none⟩), .pointer (some ⟨s1 + 1 + 1, 0, none⟩), .pointer (some ⟨s1 + 1 + 2, 0, none⟩)]) rfl trivial (enters_of Tryd.func74 (by kernel_rfl) rfl)
                (between_stops Fence.wide _ trivial rfl (by decide) s1 (s1 + 1) (s1 + 1 + 1) (s1 + 1 + 2) A n capA F t l W0 bb.cell bf.cell bu.cell (by omega) (fun W' h => HA.out.below (HB2.out.trans ((hB0.mono (by omega)).trans (h.mono (by omega)))))) keepB_t (keepB_b (by omega)) (Below.refl _ _) (fun _ => rfl)
                (fun pre W => ColI s1 wp s1 (s1 + 1 + 1) (s1 + 1 + 2) F t pre W ∧ W0.heap.size ≤ W.heap.size)
                (fun _ _ _ => False)
                (OwnFrom.and (ColI.from (f := fun pre => pre) (Nat.le_of_eq HS1.out.symm) (by omega)) (fun _ _ _ _ h hg _ => Nat.le_trans h hg.size))
                (fun _ _ _ _ _ hs _ _ => hs)
                ⟨⟨⟨_, bo, Own.nil _ _ _ _ _⟩, bf, bu, hB0⟩, Nat.le_refl _⟩
                (fun x a' W => ∃ Bx, W0.heap.size ≤ Bx ∧ ItBox s1 Bx x W ∧ a' = { tmps := #[.slice A n capA, .slice (some ⟨b, off, none⟩) m capB, undef, undef, u4, u5, .int .i64 (k1 : Nat), .slice A3 k cap3, .int .i64 F, .int .i64 (k : Nat), .int .i64 t, .pointer (some ⟨s1, 0, none⟩), .pointer (some ⟨Bx, 0, none⟩), .slice A n capA, .bool true, .bool false, .bool false, .slice (some ⟨b, off, none⟩) m capB, .int .i64 (m : Nat), .bool false, .bool false, .int .i64 (k1 : Nat), .slice (some ⟨b, off, none⟩) m capB, .int .i64 (m : Nat), .bool false, u25, u26, u27, u28, u29, u30, u31, u32, u33, u34, u35, u36, .slice (some ⟨b, off, none⟩) m capB, .int .i64 (m : Nat), .int .i64 ((m : Int) + 1), .int .i64 (k : Nat), .bool true, .int .i64 (k : Nat), .int .i64 (k : Nat), .slice (some ⟨b, off, none⟩) m capB, .int .i64 (m : Nat), .bool true, .slice (some ⟨b, off, none⟩) m capB, .int .i64 (k : Nat), .pointer (some ⟨b, off + k, none⟩), .int .i64 t, .slice A n capA, .int .i64 F, .int .i64 t, .func (.func 74) #[] #[.pointer (some ⟨s1 + 1, 0, none⟩), .pointer (some ⟨s1 + 1 + 1, 0, none⟩), .pointer (some ⟨s1 + 1 + 2, 0, none⟩)], itV x, x56, x57, x58, x59, x60, x61, x62, x63, x64, x65, undef], defers := [] })
                (fun x a' _ X Y row hs hg hr => by obtain ⟨Bx, h1, h2, h3⟩ := hs; exact ⟨Bx, h1, ItBox.from _ s1 Bx x () X Y row h2 hg hr, h3⟩)
                ?assign ?body ?done ?stop
              case assign =>
                rintro ll pre x W K ⟨hc1, hz1⟩ hK
                simp only [itV, It.vs]
                have hnew := new_block W #[.int .i64 x.r.at_, .int .i64 x.r.key, .int .i64 x.r.val, .int .i64 x.n] 33
                obtain ⟨v, hv, ho⟩ := hc1.out
                gi_wp2
                refine hK _ _ ((KeepsOthers.alloc _ _).from _) ⟨(Below.refl _ W).alloc (by omega) _, cell_al _, cell_al _⟩ ⟨hc1.alloc (Nat.le_of_eq HS1.out.symm) _, by simp; omega⟩ ⟨W.heap.size, hz1, ⟨hnew, v, hv.alloc _, fun e => by have := (ho.blk _ e).2; omega⟩, rfl⟩
              case body =>
                rintro ll pre x a' W hl ⟨r, hr⟩ ⟨hc1, hz1⟩ ⟨Bx, hBx, ⟨hbx, v, hv, hne⟩, rfl⟩ hlt
                have bvc := hv.cell
                have d0 := cell_at_block (off := 0) hbx rfl
                have d1 := cell_at_block (off := 1) hbx rfl
                have d2 := cell_at_block (off := 2) hbx rfl
                have d3 := cell_at_block (off := 3) hbx rfl
                obtain ⟨Av, cv, rfl⟩ := (hc1.at_ hv).shape
                have hoS := hc1.at_ hv
                have hlm : pre.length ≤ 300 := by
                  have := HLA.out
                  omega
                have HCS := Lib.hid hc1
                clear hc1 hlt
                gi_wp2_with (gi_at_builtin; (refine wpListIn_app1 It.vs 4 33 _ 32 infoIt rfl (by decide) rfl _ _ _ rfl Tryd.underlying23 s1 _ pre rfl (hoS.alloc _) x _ _ rfl rfl (newAt _ _ _ _ (by simp)) (by simp [It.vs, Value.oneCell']) (by omega) (by unfold maxLen; omega) (by simp; omega) ?_; intro v' w2 hown' hg'; obtain ⟨p1, p2, p3, p4⟩ := HCS.out.app (Nat.le_of_eq HS1.out.symm) (Nat.le_refl _) hv hoS (by omega) (by omega) hown' hg'; have HP2 := Lib.hid p2; have HP3 := Lib.hid p3; have HP4 := Lib.hid p4; have HZ2 := Lib.hid (Nat.le_trans hz1 p2.size); obtain ⟨Av', cv', rfl⟩ := hown'.shape; have bc1 := p1.cell; have bz1 := p1.frozen; clear p2 p3 p4 hown' hg'))
                have HLE : Hid ((pre ++ [x]).length = pre.length + 1) := by show _ = _; simp
                rw [← HLE.out]
                exact ⟨HP2.out.from _, ⟨HP3.out, fun _ => HP4.out.bf.cell, fun _ => HP4.out.bu.cell⟩, HP4.out, HZ2.out⟩
              case done =>
                rintro D ys W hD rfl ⟨hc1, hz1⟩ hK
                obtain ⟨v, hv, ho⟩ := hc1.out
                have hvc := hv.cell
                obtain ⟨Av, cv, rfl⟩ := ho.shape
                have hbW : Below wp.heap.size wp W := by rw [HS1.out]; exact hc1.below
                have hbW2 := bchain HB2.out hbW
                have hO := HO.out.below hbW
                have hG := HBG.out.below hbW
                have hP : Own It.vs 4 33 w.heap.size W (Sl.v ⟨Av, (cutL l F t).length, cv⟩) (cutL l F t) := ho.low (by omega)
                have hm1 : ∀ D' ∈ ds, w.heap.size ≤ D' ∧ W.heap[D']? = some (.deferred (some [])) := fun D' h' => by
                  obtain ⟨h1, h2⟩ := HDS.out D' h'
                  exact ⟨h1, (hbW.block D' (Array.getElem?_eq_some_iff.1 h2).1).trans h2⟩
                have hm2 : D ∉ ds := fun h' => by
                  have := (Array.getElem?_eq_some_iff.1 (HDS.out D h').2).1
                  have := HS1.out
                  omega
                have HO2 := Lib.hid hO
                have HG2 := Lib.hid hG
                have HP := Lib.hid hP
                have HBW := Lib.hid hbW2
                have HM1 := Lib.hid hm1
                have HM2 := Lib.hid hm2
                have HKD := Lib.hid hK
                have hszW := hbW2.size
                clear hO hG hP hbW hbW2 hm1 hm2 hK hc1 ho hv
                generalize (cutL l F t).length = q at *
                gi_wp2_with (gi_at_builtin; go_loud (refine wpListIn_app1 Sl.vs 1 23 _ 24 infoBag rfl (by decide) rfl _ _ _ rfl Tryd.underlying56 w.heap.size _ ss rfl (HO2.out.alloc _) ⟨Av, q, cv⟩ _ _ rfl rfl (newAt _ _ _ _ (by simp)) (by simp [Sl.vs, Value.oneCell']) (by omega) (by unfold maxLen; omega) (by simp; omega) ?_; intro v4 w4 hown4 hg4; have HO4 := Lib.hid (own_app HO2.out HG2.out (s := ⟨Av, q, cv⟩) HP.out HBW.out (Nat.le_refl _) hown4 hg4); have HMG := Lib.hid (fun (D' : Nat) (h : W.heap[D']? = some (Obj.deferred (some []))) => mark_grown HO2.out h hg4); clear hown4 hg4))
                obtain ⟨q1, q2, q3⟩ := HO4.out
                refine ⟨⟨k + 1, D :: ds, _, _, _, _, _, _, _, _, _, _, _, _, _, _, _, _, _, _, _, _, _, _, _, _, _, _, _, _, _, _, _, _, by omega, rfl, fun _ => by rw [HFS.out], by go_num, ⟨_, q1, by rw [HPS.out]; exact q2, q3⟩, List.nodup_cons.2 ⟨HM2.out, HND.out⟩, fun D' h' => ?_⟩, by simp [intOf] <;> omega⟩
                rcases List.mem_cons.1 h' with rfl | h'
                · exact ⟨by omega, HMG.out _ HKD.out⟩
                · exact ⟨(HM1.out D' h').1, HMG.out _ (HM1.out D' h').2⟩
              case stop =>
                rintro D c pre W _ _ h _
                exact h.elim
            · by_cases hkm : k = m
              · have hd1 : decide ((k : Int) < (m : Int) + 1) = true := by simp; omega
                have hd2 : decide ((k : Int) < (m : Int)) = false := by simp; omega
                have hklt : k ≤ m := by omega
                unfold partAt at HPS
                rw [HFM.out hkm] at HPS
                clear HFU HFM hRk HFS
                obtain rfl := hx8 hklt
                clear hx8 hlt
                generalize fromP ts k = F at *
                subst hkm
                gi_wp2_with (refine ⟨trivial, ?_⟩; gi_at_call 60; refine (between_in Fence.wide _ trivial rfl A n capA F 9223372036854775807 _).mono ?_; rintro e w2 ⟨rfl, rfl⟩)
                have bo := (((Boxed.new wp 23 (.slice none 0 0)).alloc (.cells #[.slice A n capA] 23)).alloc (.cells #[.int .i64 F] 3)).alloc (.cells #[.int .i64 9223372036854775807] 3)
                have bb := ((Boxed.new (wp.alloc (.cells #[.slice none 0 0] 23)) 23 (.slice A n capA)).alloc (.cells #[.int .i64 F] 3)).alloc (.cells #[.int .i64 9223372036854775807] 3)
                have bf := (Boxed.new ((wp.alloc (.cells #[.slice none 0 0] 23)).alloc (.cells #[.slice A n capA] 23)) 3 (.int .i64 F)).alloc (.cells #[.int .i64 9223372036854775807] 3)
                have bu := Boxed.new (((wp.alloc (.cells #[.slice none 0 0] 23)).alloc (.cells #[.slice A n capA] 23)).alloc (.cells #[.int .i64 F] 3)) 3 (.int .i64 9223372036854775807)
                have hB0 : Below wp.heap.size wp ((((wp.alloc (.cells #[.slice none 0 0] 23)).alloc (.cells #[.slice A n capA] 23)).alloc (.cells #[.int .i64 F] 3)).alloc (.cells #[.int .i64 9223372036854775807] 3)) := (((((Below.refl _ wp).alloc (Nat.le_refl _) _).alloc (by simp) _).alloc (by simp; omega) _).alloc (by simp; omega) _)
                have hsz : ((((wp.alloc (.cells #[.slice none 0 0] 23)).alloc (.cells #[.slice A n capA] 23)).alloc (.cells #[.int .i64 F] 3)).alloc (.cells #[.int .i64 9223372036854775807] 3)).heap.size = wp.heap.size + 4 := by simp
                simp only [World.size_alloc] at bb bf bu
                obtain ⟨W0, hW0⟩ : ∃ W0, (((wp.alloc (.cells #[.slice none 0 0] 23)).alloc (.cells #[.slice A n capA] 23)).alloc (.cells #[.int .i64 F] 3)).alloc (.cells #[.int .i64 9223372036854775807] 3) = W0 := ⟨_, rfl⟩
                rw [hW0] at bo bb bf bu hB0 hsz ⊢
                clear hW0
                have hsw := HB2.out.size
                generalize hs1 : wp.heap.size = s1 at *
                have HS1 := Lib.hid hs1
                clear hs1
                refine wpIn_rangeFunc_ownH rfl (by decide) (gf := 74) (lb := #[.pointer (some ⟨s1 + 1, 0, none⟩), .pointer (some ⟨s1 + 1 + 1, 0, none⟩), .pointer (some ⟨s1 + 1 + 2, 0, none⟩)]) rfl trivial (enters_of Tryd.func74 (by kernel_rfl) rfl)
                  (between_stops Fence.wide _ trivial rfl (by decide) s1 (s1 + 1) (s1 + 1 + 1) (s1 + 1 + 2) A n capA F 9223372036854775807 l W0 bb.cell bf.cell bu.cell (by omega) (fun W' h => HA.out.below (HB2.out.trans ((hB0.mono (by omega)).trans (h.mono (by omega)))))) keepB_t (keepB_b (by omega)) (Below.refl _ _) (fun _ => rfl)
                  (fun pre W => ColI s1 wp s1 (s1 + 1 + 1) (s1 + 1 + 2) F 9223372036854775807 pre W ∧ W0.heap.size ≤ W.heap.size)
                  (fun _ _ _ => False)
                  (OwnFrom.and (ColI.from (f := fun pre => pre) (Nat.le_of_eq HS1.out.symm) (by omega)) (fun _ _ _ _ h hg _ => Nat.le_trans h hg.size))
                  (fun _ _ _ _ _ hs _ _ => hs)
                  ⟨⟨⟨_, bo, Own.nil _ _ _ _ _⟩, bf, bu, hB0⟩, Nat.le_refl _⟩
                  (fun x a' W => ∃ Bx, W0.heap.size ≤ Bx ∧ ItBox s1 Bx x W ∧ a' = { tmps := #[.slice A n capA, .slice B k capB, undef, undef, u4, u5, .int .i64 (k1 : Nat), .slice A3 k cap3, .int .i64 F, .int .i64 (k : Nat), .int .i64 9223372036854775807, .pointer (some ⟨s1, 0, none⟩), .pointer (some ⟨Bx, 0, none⟩), .slice A n capA, .bool true, .bool false, .bool false, .slice B k capB, .int .i64 (k : Nat), .bool false, .bool false, .int .i64 (k1 : Nat), .slice B k capB, .int .i64 (k : Nat), .bool false, u25, u26, u27, u28, u29, u30, u31, u32, u33, u34, u35, u36, .slice B k capB, .int .i64 (k : Nat), .int .i64 ((k : Int) + 1), .int .i64 (k : Nat), .bool true, .int .i64 (k : Nat), .int .i64 (k : Nat), .slice B k capB, .int .i64 (k : Nat), .bool false, x47, x48, x49, x50, .slice A n capA, .int .i64 F, .int .i64 9223372036854775807, .func (.func 74) #[] #[.pointer (some ⟨s1 + 1, 0, none⟩), .pointer (some ⟨s1 + 1 + 1, 0, none⟩), .pointer (some ⟨s1 + 1 + 2, 0, none⟩)], itV x, x56, x57, x58, x59, x60, x61, x62, x63, x64, x65, undef], defers := [] })
                  (fun x a' _ X Y row hs hg hr => by obtain ⟨Bx, h1, h2, h3⟩ := hs; exact ⟨Bx, h1, ItBox.from _ s1 Bx x () X Y row h2 hg hr, h3⟩)
                  ?assign ?body ?done ?stop
                case assign =>
                  rintro ll pre x W K ⟨hc1, hz1⟩ hK
                  simp only [itV, It.vs]
                  have hnew := new_block W #[.int .i64 x.r.at_, .int .i64 x.r.key, .int .i64 x.r.val, .int .i64 x.n] 33
                  obtain ⟨v, hv, ho⟩ := hc1.out
                  gi_wp2
                  refine hK _ _ ((KeepsOthers.alloc _ _).from _) ⟨(Below.refl _ W).alloc (by omega) _, cell_al _, cell_al _⟩ ⟨hc1.alloc (Nat.le_of_eq HS1.out.symm) _, by simp; omega⟩ ⟨W.heap.size, hz1, ⟨hnew, v, hv.alloc _, fun e => by have := (ho.blk _ e).2; omega⟩, rfl⟩
                case body =>
                  rintro ll pre x a' W hl ⟨r, hr⟩ ⟨hc1, hz1⟩ ⟨Bx, hBx, ⟨hbx, v, hv, hne⟩, rfl⟩ hlt
                  have bvc := hv.cell
                  have d0 := cell_at_block (off := 0) hbx rfl
                  have d1 := cell_at_block (off := 1) hbx rfl
                  have d2 := cell_at_block (off := 2) hbx rfl
                  have d3 := cell_at_block (off := 3) hbx rfl
                  obtain ⟨Av, cv, rfl⟩ := (hc1.at_ hv).shape
                  have hoS := hc1.at_ hv
                  have hlm : pre.length ≤ 300 := by
                    have := HLA.out
                    omega
                  have HCS := Lib.hid hc1
                  clear hc1 hlt
                  gi_wp2_with (gi_at_builtin; (refine wpListIn_app1 It.vs 4 33 _ 32 infoIt rfl (by decide) rfl _ _ _ rfl Tryd.underlying23 s1 _ pre rfl (hoS.alloc _) x _ _ rfl rfl (newAt _ _ _ _ (by simp)) (by simp [It.vs, Value.oneCell']) (by omega) (by unfold maxLen; omega) (by simp; omega) ?_; intro v' w2 hown' hg'; obtain ⟨p1, p2, p3, p4⟩ := HCS.out.app (Nat.le_of_eq HS1.out.symm) (Nat.le_refl _) hv hoS (by omega) (by omega) hown' hg'; have HP2 := Lib.hid p2; have HP3 := Lib.hid p3; have HP4 := Lib.hid p4; have HZ2 := Lib.hid (Nat.le_trans hz1 p2.size); obtain ⟨Av', cv', rfl⟩ := hown'.shape; have bc1 := p1.cell; have bz1 := p1.frozen; clear p2 p3 p4 hown' hg'))
                  have HLE : Hid ((pre ++ [x]).length = pre.length + 1) := by show _ = _; simp
                  rw [← HLE.out]
                  exact ⟨HP2.out.from _, ⟨HP3.out, fun _ => HP4.out.bf.cell, fun _ => HP4.out.bu.cell⟩, HP4.out, HZ2.out⟩
                case done =>
                  rintro D ys W hD rfl ⟨hc1, hz1⟩ hK
                  obtain ⟨v, hv, ho⟩ := hc1.out
                  have hvc := hv.cell
                  obtain ⟨Av, cv, rfl⟩ := ho.shape
                  have hbW : Below wp.heap.size wp W := by rw [HS1.out]; exact hc1.below
                  have hbW2 := bchain HB2.out hbW
                  have hO := HO.out.below hbW
                  have hG := HBG.out.below hbW
                  have hP : Own It.vs 4 33 w.heap.size W (Sl.v ⟨Av, (cutL l F 9223372036854775807).length, cv⟩) (cutL l F 9223372036854775807) := ho.low (by omega)
                  have hm1 : ∀ D' ∈ ds, w.heap.size ≤ D' ∧ W.heap[D']? = some (.deferred (some [])) := fun D' h' => by
                    obtain ⟨h1, h2⟩ := HDS.out D' h'
                    exact ⟨h1, (hbW.block D' (Array.getElem?_eq_some_iff.1 h2).1).trans h2⟩
                  have hm2 : D ∉ ds := fun h' => by
                    have := (Array.getElem?_eq_some_iff.1 (HDS.out D h').2).1
                    have := HS1.out
                    omega
                  have HO2 := Lib.hid hO
                  have HG2 := Lib.hid hG
                  have HP := Lib.hid hP
                  have HBW := Lib.hid hbW2
                  have HM1 := Lib.hid hm1
                  have HM2 := Lib.hid hm2
                  have HKD := Lib.hid hK
                  have hszW := hbW2.size
                  clear hO hG hP hbW hbW2 hm1 hm2 hK hc1 ho hv
                  generalize (cutL l F 9223372036854775807).length = q at *
                  gi_wp2_with (gi_at_builtin; go_loud (refine wpListIn_app1 Sl.vs 1 23 _ 24 infoBag rfl (by decide) rfl _ _ _ rfl Tryd.underlying56 w.heap.size _ ss rfl (HO2.out.alloc _) ⟨Av, q, cv⟩ _ _ rfl rfl (newAt _ _ _ _ (by simp)) (by simp [Sl.vs, Value.oneCell']) (by omega) (by unfold maxLen; omega) (by simp; omega) ?_; intro v4 w4 hown4 hg4; have HO4 := Lib.hid (own_app HO2.out HG2.out (s := ⟨Av, q, cv⟩) HP.out HBW.out (Nat.le_refl _) hown4 hg4); have HMG := Lib.hid (fun (D' : Nat) (h : W.heap[D']? = some (Obj.deferred (some []))) => mark_grown HO2.out h hg4); clear hown4 hg4))
                  obtain ⟨q1, q2, q3⟩ := HO4.out
                  refine ⟨⟨k + 1, D :: ds, _, _, _, _, _, _, _, _, _, _, _, _, _, _, _, _, _, _, _, _, _, _, _, _, _, _, _, _, _, _, _, _, by omega, rfl, fun h => absurd h (by omega), by go_num, ⟨_, q1, by rw [HPS.out]; exact q2, q3⟩, List.nodup_cons.2 ⟨HM2.out, HND.out⟩, fun D' h' => ?_⟩, by simp [intOf] <;> omega⟩
                  rcases List.mem_cons.1 h' with rfl | h'
                  · exact ⟨by omega, HMG.out _ HKD.out⟩
                  · exact ⟨(HM1.out D' h').1, HMG.out _ (HM1.out D' h').2⟩
                case stop =>
                  rintro D c pre W _ _ h _
                  exact h.elim
              · have hd1 : decide ((k : Int) < (m : Int) + 1) = false := by simp; omega
                clear HFU HFM hRk HFS HPS hx8
                have hkk : k = m + 1 := by omega
                subst hkk
                clear hlt hkm hk
                have hr := HO.out.rdOf Sl.vs_length
                rw [hlen] at hr
                have HR := Lib.hid hr
                clear hr
                gi_wp2
                refine ret_marks w.heap.size ds (fun w => results_tmp2 rfl _ _ w) HND.out HDS.out ?_
                intro w' hw'
                rw [HP2.out]
                exact ⟨⟨_, _, _, ss, rfl, HR.out.shut hw', HBG.out.shut hw'⟩, HB2.out.trans hw'.below⟩
    · have e1 : partsR l ts = ([], 2) := by
        have : decide (m ≤ 40) = false := by simpa using h40
        unfold partsR timesB
        rw [HLN.out, this]
        simp
      rw [e1]
      have GA := Lib.hid ga
      have hd40 : decide ((40 : Int) < (m : Int)) = true := by simp; omega
      clear ga e1
      gi_wp2_with (refine ⟨trivial, ?_⟩; gi_at_call 29; refine (callsIn_wide.2 Q1.out).mono ?_; rintro e w1 ⟨rfl, hb1⟩; rw [GA.out]; have HB1 := Lib.hid hb1; clear hb1)
      refine ret_none (results_tmp2 rfl _ _ _) ?_
      exact ⟨⟨_, _, _, _, rfl, Rd.nil _ _ _, Bags.nil _ _⟩, HB1.out⟩
end Go.Proofs.Bg
end

section
/- The contract of Shift. -/
namespace Go.Proofs.Bg
open Go.RowKit Go.Shelf
attribute [local go_sem] Oper.semAt_some

def shW (c : Int) (x : It) : It := ⟨⟨wrap64 (x.r.at_ + c), x.r.key, x.r.val⟩, x.n⟩

set_option maxRecDepth 100000 in
set_option maxHeartbeats 4000000 in
theorem Shift_any (A : Option Addr) (m cap : Nat) (c : Int) (l : List It) (w : World) (hA : Rd It.vs 4 w 0 A m l) :
    Calls Tryd.prog 26 #[.slice A m cap, .int .i64 c] w (RetNew w (shiftR l c)) := by
  have HA := Lib.hid hA
  have HLA : Hid (l.length = m) := hA.len
  have hbw : Below w.heap.size w (w.alloc (.cells #[.int .i64 c] 3)) := (Below.refl _ w).alloc (Nat.le_refl _) _
  have Q1 := Lib.hid (isBag_any A m cap l _ (hA.below hbw))
  have HBW := Lib.hid hbw
  clear hA hbw
  refine (callsIn_wide (n := 6)).1 ?_
  refine callsIn_of_wp_marks Tryd.func26 rfl trivial ?_ rfl
  simp only [Tryd.ntmps26, List.size_toArray, List.length_cons, List.length_nil, Nat.reduceAdd, Nat.reduceSub, Array.replicate_succ, Array.replicate_zero, List.push_toArray, List.append_toArray, List.nil_append, List.cons_append]
  cases ga : bagB l with
  | false =>
    have e1 : shiftR l c = ([], 2) := by simp [shiftR, ga]
    rw [e1]
    have GA := Lib.hid ga
    clear ga e1
    gi_wp2_with (refine ⟨trivial, ?_⟩; gi_at_call 29; refine (callsIn_wide.2 Q1.out).mono ?_; rintro e w1 ⟨rfl, hb1⟩; rw [GA.out]; have HB1 := Lib.hid hb1; clear hb1)
    refine ret_none (results_tmp2 rfl _ _ _) ?_
    exact ⟨⟨_, _, _, rfl, Rd.nil _ _ _⟩, bchain HBW.out HB1.out⟩
  | true =>
    have hn300 : m ≤ 300 := by rw [← HLA.out]; exact bag_le ga
    have HT : Hid ((∀ b, withinB c (-200) 200 = b → shiftR l c = (if b = true then shiftL l c else [], 0))) := by
      intro b hb
      subst hb
      simp [shiftR, ga, withinB]
    have GA := Lib.hid ga
    clear ga
    cases gw : withinB c (-200) 200 with
    | false =>
      rw [HT.out _ gw]
      have GW := Lib.hid gw
      clear gw
      gi_wp2_with fail
      refine ⟨trivial, ?_⟩
      gi_at_call 29
      refine (callsIn_wide.2 Q1.out).mono ?_
      rintro e w1 ⟨rfl, hb1⟩
      rw [GA.out]
      have hcc : w1.cell? ⟨w.heap.size, 0, none⟩ = some (.int .i64 c) := (hb1.cell (p := ⟨w.heap.size, 0, none⟩) (by simp)).trans (newAt w [.int .i64 c] 3 _ rfl 0 _ rfl)
      have hcb := cell_al (.cells #[.slice none 0 0] 23) hcc
      have HB1 := Lib.hid (bchain HBW.out hb1)
      clear hb1
      gi_wp2_with (refine ⟨trivial, ?_⟩; gi_at_call 61; refine (callsIn_wide.2 (within_any c (-200) 200 _)).mono ?_; rintro e w2 ⟨rfl, rfl⟩; rw [GW.out])
      refine ret_none (results_tmp2 rfl _ _ _) ?_
      exact ⟨⟨_, _, _, rfl, Rd.nil _ _ _⟩, HB1.out.alloc HB1.out.size _⟩
    | true =>
      rw [HT.out _ gw]
      have GW := Lib.hid gw
      have hc200 : -200 ≤ c ∧ c ≤ 200 := by simpa [withinB] using gw
      clear gw
      gi_wp2_with fail
      refine ⟨trivial, ?_⟩
      gi_at_call 29
      refine (callsIn_wide.2 Q1.out).mono ?_
      rintro e w1 ⟨rfl, hb1⟩
      rw [GA.out]
      have hcc : w1.cell? ⟨w.heap.size, 0, none⟩ = some (.int .i64 c) := (hb1.cell (p := ⟨w.heap.size, 0, none⟩) (by simp)).trans (newAt w [.int .i64 c] 3 _ rfl 0 _ rfl)
      have hcb := cell_al (.cells #[.slice none 0 0] 23) hcc
      have HBX := Lib.hid hb1
      have HB1 := Lib.hid (bchain HBW.out hb1)
      clear hb1
      have w1n : IntKind.i64.wrap (-c) = -c := IntWalk.i64_in _ (by omega)
      have w2n : IntKind.i64.wrap (201 - c) = 201 - c := IntWalk.i64_in _ (by omega)
      gi_wp2_with (first | (refine ⟨trivial, ?_⟩; gi_at_call 61; refine (callsIn_wide.2 (within_any c (-200) 200 _)).mono ?_; rintro e w2 ⟨rfl, rfl⟩; rw [GW.out]) | (refine ⟨trivial, ?_⟩; gi_at_call 60; refine (between_in Fence.wide _ trivial rfl A m cap (-c) (201 - c) _).mono ?_; rintro e w2 ⟨rfl, rfl⟩))
      have bo := ((Boxed.new w1 23 (.slice none 0 0)).alloc (.cells #[.slice A m cap] 23)).alloc (.cells #[.int .i64 (-c)] 3) |>.alloc (.cells #[.int .i64 (201 - c)] 3)
      have bb := ((Boxed.new (w1.alloc (.cells #[.slice none 0 0] 23)) 23 (.slice A m cap)).alloc (.cells #[.int .i64 (-c)] 3)).alloc (.cells #[.int .i64 (201 - c)] 3)
      have bf := (Boxed.new ((w1.alloc (.cells #[.slice none 0 0] 23)).alloc (.cells #[.slice A m cap] 23)) 3 (.int .i64 (-c))).alloc (.cells #[.int .i64 (201 - c)] 3)
      have bu := Boxed.new (((w1.alloc (.cells #[.slice none 0 0] 23)).alloc (.cells #[.slice A m cap] 23)).alloc (.cells #[.int .i64 (-c)] 3)) 3 (.int .i64 (201 - c))
      have bn : Boxed w1 w.heap.size 3 (.int .i64 c) := (HBX.out.block _ (by simp)).trans (Boxed.new w 3 (.int .i64 c))
      replace bn := (((bn.alloc (.cells #[.slice none 0 0] 23)).alloc (.cells #[.slice A m cap] 23)).alloc (.cells #[.int .i64 (-c)] 3)).alloc (.cells #[.int .i64 (201 - c)] 3)
      have hs1 := HBX.out.size
      have hB0 : Below w.heap.size w ((((w1.alloc (.cells #[.slice none 0 0] 23)).alloc (.cells #[.slice A m cap] 23)).alloc (.cells #[.int .i64 (-c)] 3)).alloc (.cells #[.int .i64 (201 - c)] 3)) := (((HB1.out.alloc HB1.out.size _).alloc (by simp at hs1 ⊢; omega) _).alloc (by simp at hs1 ⊢; omega) _).alloc (by simp at hs1 ⊢; omega) _
      have hsz : ((((w1.alloc (.cells #[.slice none 0 0] 23)).alloc (.cells #[.slice A m cap] 23)).alloc (.cells #[.int .i64 (-c)] 3)).alloc (.cells #[.int .i64 (201 - c)] 3)).heap.size = w1.heap.size + 4 := by simp
      simp only [World.size_alloc] at bb bf bu hs1
      obtain ⟨W0, hW0⟩ : ∃ W0, (((w1.alloc (.cells #[.slice none 0 0] 23)).alloc (.cells #[.slice A m cap] 23)).alloc (.cells #[.int .i64 (-c)] 3)).alloc (.cells #[.int .i64 (201 - c)] 3) = W0 := ⟨_, rfl⟩
      rw [hW0] at bo bb bf bu bn hB0 hsz ⊢
      clear hW0 hcb hcc
      generalize w1.heap.size = s1 at *
      refine wpIn_rangeFunc_ownH rfl (by decide) (gf := 74) (lb := #[.pointer (some ⟨s1 + 1, 0, none⟩), .pointer (some ⟨s1 + 1 + 1, 0, none⟩), .pointer (some ⟨s1 + 1 + 2, 0, none⟩)]) rfl trivial (enters_of Tryd.func74 (by kernel_rfl) rfl)
        (between_stops Fence.wide _ trivial rfl (by decide) w.heap.size (s1 + 1) (s1 + 1 + 1) (s1 + 1 + 2) A m cap (-c) (201 - c) l W0 bb.cell bf.cell bu.cell hB0.size (fun W' h => HA.out.below (hB0.trans h))) keepB_t (keepB_b hB0.size) (Below.refl _ _) (fun _ => rfl)
        (fun pre W => ColI w.heap.size w s1 (s1 + 1 + 1) (s1 + 1 + 2) (-c) (201 - c) (pre.map (shW c)) W ∧ (Boxed W w.heap.size 3 (.int .i64 c) ∧ W0.heap.size ≤ W.heap.size))
        (fun _ _ _ => False)
        (OwnFrom.and (ColI.from (Nat.le_refl _) hB0.size) (OwnFrom.and (Go.Own.from (boxed_own _ _ _) _) (fun _ _ _ _ h hg _ => Nat.le_trans h hg.size)))
        (fun _ _ _ _ _ hs _ _ => hs)
        ⟨⟨⟨_, bo, Own.nil _ _ _ _ _⟩, bf, bu, hB0⟩, bn, Nat.le_refl _⟩
        (fun x a' W => ∃ Bx, W0.heap.size ≤ Bx ∧ ItBox s1 Bx x W ∧ a' = { tmps := #[.slice A m cap, .int .i64 c, undef, .pointer (some ⟨w.heap.size, 0, none⟩), .slice none 0 0, .int .i64 0, .pointer (some ⟨s1, 0, none⟩), .pointer (some ⟨Bx, 0, none⟩), .slice A m cap, .bool true, .bool false, .int .i64 c, .bool true, .bool false, undef, .slice A m cap, .int .i64 c, .int .i64 (-c), .int .i64 c, .int .i64 (201 - c), .func (.func 74) #[] #[.pointer (some ⟨s1 + 1, 0, none⟩), .pointer (some ⟨s1 + 1 + 1, 0, none⟩), .pointer (some ⟨s1 + 1 + 2, 0, none⟩)], itV x, undef, undef, undef, undef, undef, undef, undef, undef, undef, undef, undef, undef], defers := [] })
        (fun x a' _ X Y row hs hg hr => by obtain ⟨Bx, h1, h2, h3⟩ := hs; exact ⟨Bx, h1, ItBox.from _ s1 Bx x () X Y row h2 hg hr, h3⟩)
        ?assign ?body ?done ?stop
      case assign =>
        rintro ll pre x W K ⟨hc1, hn1, hz1⟩ hK
        simp only [itV, It.vs]
        have hnew := new_block W #[.int .i64 x.r.at_, .int .i64 x.r.key, .int .i64 x.r.val, .int .i64 x.n] 33
        gi_wp2
        obtain ⟨v, hv, ho⟩ := hc1.out
        have hsW := hc1.below.size
        have hs0 := hB0.size
        refine hK _ _ ((KeepsOthers.alloc _ _).from _) ⟨(Below.refl _ W).alloc hc1.below.size _, cell_al _, cell_al _⟩ ⟨hc1.alloc (Nat.le_refl _) _, hn1.alloc _, by simp; omega⟩ ⟨W.heap.size, hz1, ⟨hnew, v, hv.alloc _, fun e => by have := (ho.blk _ e).2; omega⟩, rfl⟩
      case body =>
        rintro ll pre x a' W hl ⟨r, hr⟩ ⟨hc1, hn1, hz1⟩ ⟨Bx, hBx, ⟨hbx, v, hv, hne⟩, rfl⟩ hlt
        have bc := hn1.cell
        have bvc := hv.cell
        have d0 := cell_at_block (off := 0) hbx rfl
        have d1 := cell_at_block (off := 1) hbx rfl
        have d2 := cell_at_block (off := 2) hbx rfl
        have d3 := cell_at_block (off := 3) hbx rfl
        have z0 := free_at_block (off := 0) hbx
        have hbase : w.heap.size ≤ Bx := Nat.le_trans hB0.size hBx
        have hs1x : s1 + 4 ≤ Bx := by omega
        obtain ⟨Av, cv, rfl⟩ := (hc1.at_ hv).shape
        obtain ⟨hcS, hvS⟩ := hc1.set hv hne (by omega) (by omega) (by omega) hbase (.int .i64 (wrap64 (x.r.at_ + c)))
        have hoS := hcS.at_ hvS
        have hsW := hcS.below.size
        have hnS := hn1.other (B' := Bx) (by omega) (.int .i64 (wrap64 (x.r.at_ + c)))
        have hlm : (pre.map (shW c)).length ≤ 300 := by
          have := HLA.out
          rw [List.length_map]
          omega
        have hme : (pre ++ [x]).map (shW c) = pre.map (shW c) ++ [shW c x] := by simp
        have HME := Lib.hid hme
        have HKF := Lib.hid (KeepsOthers.setCell W ⟨Bx, 0, none⟩ (.int .i64 (wrap64 (x.r.at_ + c))))
        have HKB := Lib.hid ((Below.refl w.heap.size W).setCell (p := ⟨Bx, 0, none⟩) hbase (.int .i64 (wrap64 (x.r.at_ + c))))
        have HNS := Lib.hid hnS
        have HCS := Lib.hid hcS
        clear hme hnS hcS hlt
        generalize pre.map (shW c) = L at *
        gi_wp2_with (gi_at_builtin; (refine wpListIn_app1 It.vs 4 33 _ 32 infoIt rfl (by decide) rfl _ _ _ rfl Tryd.underlying23 w.heap.size _ L rfl (hoS.alloc _) (shW c x) _ _ rfl rfl (newAt _ _ _ _ (by simp)) (by simp [It.vs, Value.oneCell']) (by omega) (by unfold maxLen; omega) (by simp; omega) ?_; intro v' w2 hown' hg'; obtain ⟨p1, p2, p3, p4⟩ := HCS.out.app (Nat.le_refl _) (by omega) hvS hoS (by omega) (by omega) hown' hg'; have HP2 := Lib.hid p2; have HP3 := Lib.hid p3; have HP4 := Lib.hid p4; have HZ2 := Lib.hid (Nat.le_trans hz1 (Nat.le_trans HKF.out.size p2.size)); have HN2 := Lib.hid (Boxed.past (B' := s1) (x := v') HNS.out (by decide) hoS hg' (by omega)); obtain ⟨Av', cv', rfl⟩ := hown'.shape; have bc1 := p1.cell; have bz1 := p1.frozen; clear p2 p3 p4 hown' hg'))
        have HLE : Hid ((L ++ [shW c x]).length = L.length + 1) := by show _ = _; simp
        rw [← HLE.out]
        exact ⟨(HKF.out.trans HP2.out).from _, ⟨HKB.out.trans HP3.out, fun _ => HP4.out.bf.cell, fun _ => HP4.out.bu.cell⟩, by rw [HME.out]; exact HP4.out, HN2.out, HZ2.out⟩
      case done =>
        rintro D ys W hD rfl ⟨hc1, hn1, hz1⟩ hK
        obtain ⟨v, hv, ho⟩ := hc1.out
        have hvc := hv.cell
        obtain ⟨Av, cv, rfl⟩ := ho.shape
        have hr := ho.rdOf It.vs_length
        have HB := Lib.hid hc1.below
        have HS : Hid ((cutL l (-c) (201 - c)).map (shW c) = shiftL l c) := by
          show _ = _
          unfold shiftL
          refine List.map_congr_left fun x hx => ?_
          have := bag_at GA.out x (List.mem_filter.1 hx).1
          unfold shW shI
          rw [show wrap64 (x.r.at_ + c) = x.r.at_ + c from IntWalk.wrap64_in _ (by omega)]
        generalize ((cutL l (-c) (201 - c)).map (shW c)).length = q at hr hvc ⊢
        rw [HS.out] at hr
        have HR := Lib.hid hr
        clear hr ho hc1 hn1 hv
        gi_wp2
        refine ret_marks w.heap.size [D] (fun w => results_tmp2 rfl _ _ w) (by simp) (by simpa using ⟨by omega, hK⟩) ?_
        intro w' hw'
        exact ⟨⟨_, _, _, rfl, HR.out.shut hw'⟩, HB.out.trans hw'.below⟩
      case stop =>
        rintro D c pre W _ _ h _
        exact h.elim
end Go.Proofs.Bg
end

section
/- The contract of slices.Equal at bags. (Turned by program out of the reference's Same: the two have the same shape.) -/
namespace Go.Proofs.Bg
open Go.RowKit

set_option maxRecDepth 100000 in
set_option maxHeartbeats 8000000 in
theorem Equal_any (A B : Option Addr) (n m capA capB : Nat) (a b : List It) (w : World) (hA : Rd It.vs 4 w 0 A n a) (hB : Rd It.vs 4 w 0 B m b) :
    Calls Tryd.prog 11 #[.slice A n capA, .slice B m capB] w fun e w' => e = .returned (.bool (decide (a = b))) ∧ Below w.heap.size w w' := by
  have HA := Lib.hid hA
  have HB := Lib.hid hB
  have hle := hA.le
  have hle2 := hB.le
  clear hA hB
  cases hnm : ((n : Int) != (m : Int)) with
  | true =>
    have hne : decide (a = b) = false := by
      rw [decide_eq_false_iff_not]
      rintro rfl
      have h1 := HA.out.len
      have h2 := HB.out.len
      simp at hnm
      omega
    rw [hne]
    clear hne
    go_enter Tryd.func11, Tryd.ntmps11
    go_wp2
    go_ret
    exact ⟨rfl, Below.refl _ _⟩
  | false =>
    have hE : n = m := by simp at hnm; omega
    subst hE
    go_enter Tryd.func11, Tryd.ntmps11
    go_wp2_with fail
    go_loopw [5, 13] (fun _ i wr => ∃ k : Nat, k ≤ n ∧ i = .int .i64 k ∧ a.take k = b.take k ∧ Below w.heap.size w wr) (fun _ i _ => n - (intOf i).toNat)
    case atStart => exact ⟨0, by omega, rfl, by simp, Below.refl _ _⟩
    case round =>
      obtain ⟨k, hk, rfl, ht, hW⟩ := hrel
      have hRa := HA.out.below hW
      have hRb := HB.out.below hW
      have HW := Lib.hid hW
      have HT := Lib.hid ht
      clear hW ht
      by_cases hlt : k < n
      · obtain ⟨b1, o1, x, rfl, _, hx, c0, c1, c2, c3⟩ := hRa.it_at hlt
        obtain ⟨b2, o2, y, rfl, _, hy, d0, d1, d2, d3⟩ := hRb.it_at hlt
        have HX := Lib.hid hx
        have HY := Lib.hid hy
        have hi0 : (0 : Int) ≤ k := by omega
        have hi1 : (k : Int) < n := by omega
        clear hx hy hRa hRb
        by_cases hxy : x = y
        · subst hxy
          go_wp2_with fail
          go_quiet (fail)
          go_wp2_with fail
          exact ⟨⟨k + 1, by omega, by go_num, by rw [List.take_add_one, List.take_add_one, HX.out, HY.out, HT.out], below_drewN HW.out _⟩, by simp [intOf]; omega⟩
        · have hne : decide (a = b) = false := by
            rw [decide_eq_false_iff_not]
            rintro rfl
            rw [HX.out] at HY
            exact hxy (Option.some.inj HY.out)
          have HNE := Lib.hid hne
          have hq := fun h => hxy ((It.beq_vs x y).2 h)
          clear hne hxy
          cases e0 : (x.r.at_ == y.r.at_) with
          | false =>
            have e0' : (x.r.at_ != y.r.at_) = true := by rw [bne, e0]; rfl
            clear hq
            go_wp2_with fail
            go_quiet (fail)
            go_wp2_with fail
            go_ret
            refine ⟨ret_bool ?_, below_drewN HW.out _⟩
            rw [HNE.out]
          | true =>
            have g0 := beq_iff_eq.1 e0
            rw [← g0] at d0
            cases e1 : (x.r.key == y.r.key) with
            | false =>
              have e1' : (x.r.key != y.r.key) = true := by rw [bne, e1]; rfl
              clear hq e0 g0
              go_wp2_with fail
              go_quiet (fail)
              go_wp2_with fail
              go_ret
              refine ⟨ret_bool ?_, below_drewN HW.out _⟩
              rw [HNE.out]
            | true =>
              have g1 := beq_iff_eq.1 e1
              rw [← g1] at d1
              cases e2 : (x.r.val == y.r.val) with
              | false =>
                have e2' : (x.r.val != y.r.val) = true := by rw [bne, e2]; rfl
                clear hq e0 g0 e1 g1
                go_wp2_with fail
                go_quiet (fail)
                go_wp2_with fail
                go_ret
                refine ⟨ret_bool ?_, below_drewN HW.out _⟩
                rw [HNE.out]
              | true =>
                have g2 := beq_iff_eq.1 e2
                rw [← g2] at d2
                have e3 : (x.n == y.n) = false := by
                  cases h : (x.n == y.n) with
                  | false => rfl
                  | true => exact absurd ⟨g0, g1, g2, beq_iff_eq.1 h⟩ hq
                have e3' : (x.n != y.n) = true := by rw [bne, e3]; rfl
                clear hq e0 g0 e1 g1 e2 g2
                go_wp2_with fail
                go_quiet (fail)
                go_wp2_with fail
                go_ret
                refine ⟨ret_bool ?_, below_drewN HW.out _⟩
                rw [HNE.out]
      · have hk' : k = n := by omega
        subst hk'
        clear hRa hRb hlt
        go_wp2_with fail
        go_ret
        refine ⟨ret_bool ?_, HW.out⟩
        have h := HT.out
        rw [List.take_of_length_le (by rw [HA.out.len]; exact Nat.le_refl _), List.take_of_length_le (by rw [HB.out.len]; exact Nat.le_refl _)] at h
        simp [h]
end Go.Proofs.Bg
end

section
/- What a call that returns a bag and an error leaves, the length named. -/
namespace Go.Proofs.Bg
open Go.RowKit
def RetL (w : World) (p : List It × Int) (e : Ending) (w' : World) : Prop :=
  (∃ A n cap, e = .returned (.tuple #[.slice A n cap, .int .i64 p.2]) ∧ Rd It.vs 4 w' w.heap.size A n p.1) ∧ Below w.heap.size w w'
theorem RetBag.lst {w w' : World} {p : List It × Int} {e : Ending} (h : RetBag w p e w') : RetL w p e w' := by
  obtain ⟨A, cap, he, hr, hb⟩ := h
  exact ⟨⟨A, _, cap, he, hr⟩, hb⟩
end Go.Proofs.Bg
end

section
/- BagKnown: the walk of the law. -/
namespace Go.Proofs.Bg
open Go.RowKit

def nIs : List It := [⟨⟨1, 2, 3⟩, 1⟩, ⟨⟨4, 0, 0⟩, 1⟩]
def nNot : List It := [⟨⟨1, 2, 5⟩, 2⟩]
def nB2 : List It := [⟨⟨1, 2, 3⟩, 1⟩, ⟨⟨1, 2, 5⟩, -2⟩]
def nB1 : List It := [⟨⟨4, 0, 0⟩, 1⟩]
def nSh : List It := [⟨⟨2, 0, 0⟩, 1⟩]
def nPa : List It := [⟨⟨1, 2, 6⟩, -1⟩, ⟨⟨1, 2, 8⟩, 2⟩]
theorem vSplit : splitR bL = ((nIs, nNot), 0) := by decide +kernel
theorem vParts : partsR bL [2, 4] = ([nB2, [], nB1], 0) := by decide +kernel
theorem vShift : shiftR bL (-2) = (nSh, 0) := by decide +kernel
theorem vPair0 : pairR bL cL 0 = (nPa, 0) := by decide +kernel
theorem vP1 : parseR [48, 49, 32, 50, 32, 51, 32, 49] = ([], 4) := by decide +kernel
theorem vP2 : parseR [52, 32, 48, 32, 48, 32, 49, 59, 32, 49, 32, 50, 32, 51, 32, 49] = ([], 4) := by decide +kernel
theorem vP3 : parseR [] = ([], 0) := by decide +kernel
theorem nSplit_any (A : Option Addr) (c : Nat) (w : World) (hA : Rd It.vs 4 w 0 A 3 bL) : Calls Tryd.prog 14 #[.slice A 3 c] w fun e w' => ∃ A1 c1 A2 c2, e = .returned (.tuple #[.slice A1 2 c1, .slice A2 1 c2, .int .i64 0]) ∧ Rd It.vs 4 w' 0 A1 2 nIs ∧ Rd It.vs 4 w' 0 A2 1 nNot ∧ Below w.heap.size w w' := by
  have h := Split_any A 3 c bL w hA
  rw [vSplit] at h
  refine h.mono ?_
  rintro e w' ⟨⟨A1, n1, c1, A2, n2, c2, rfl, h1, h2⟩, hb⟩
  obtain rfl : n1 = 2 := h1.len.symm
  obtain rfl : n2 = 1 := h2.len.symm
  exact ⟨A1, c1, A2, c2, rfl, h1.low (Nat.zero_le _), h2.low (Nat.zero_le _), hb⟩
theorem nParts_any (A B : Option Addr) (c d : Nat) (w : World) (hA : Rd It.vs 4 w 0 A 3 bL) (hB : Rd iv 1 w 0 B 2 [2, 4]) : Calls Tryd.prog 25 #[.slice A 3 c, .slice B 2 d] w fun e w' => ∃ g off cap, ∃ s0 s1 s2 : Option Addr, ∃ c0 c1 c2, e = .returned (.tuple #[.slice (some ⟨g, off, none⟩) 3 cap, .int .i64 0]) ∧ (w'.cell? ⟨g, off, none⟩ = some (.slice s0 2 c0) ∧ w'.cell? ⟨g, off + 1, none⟩ = some (.slice s1 0 c1) ∧ w'.cell? ⟨g, off + 2, none⟩ = some (.slice s2 1 c2)) ∧ Rd It.vs 4 w' 0 s0 2 nB2 ∧ Rd It.vs 4 w' 0 s2 1 nB1 ∧ Below w.heap.size w w' := by
  have h := Parts_any A B 3 2 c d bL [2, 4] w hA hB
  rw [vParts] at h
  refine h.mono ?_
  rintro e w' ⟨⟨A1, q, cap, ss, rfl, h1, h2⟩, hb⟩
  have hq : q = 3 := by rw [← h1.len, h2.1]; rfl
  subst hq
  obtain ⟨g, off, s0, rfl, _, e0, x0⟩ := h1.at_ (show 0 < 3 by omega)
  obtain ⟨g1, off1, s1, e, _, e1, x1⟩ := h1.at_ (show 1 < 3 by omega)
  cases e
  obtain ⟨g2, off2, s2, e, _, e2, x2⟩ := h1.at_ (show 2 < 3 by omega)
  cases e
  have r0 := (h2.2 0 s0 nB2 e0 rfl)
  have r1 := (h2.2 1 s1 [] e1 rfl)
  have r2 := (h2.2 2 s2 nB1 e2 rfl)
  obtain ⟨a0, k0, v0, r0'⟩ := r0.rd It.vs_length
  obtain ⟨a1, k1, v1, r1'⟩ := r1.rd It.vs_length
  obtain ⟨a2, k2, v2, r2'⟩ := r2.rd It.vs_length
  have y0 := x0 0 _ rfl
  have y1 := x1 0 _ rfl
  have y2 := x2 0 _ rfl
  have z0 : s0.v = .slice s0.A s0.n s0.cap := rfl
  have z1 : s1.v = .slice s1.A s1.n s1.cap := rfl
  have z2 : s2.v = .slice s2.A s2.n s2.cap := rfl
  rw [← z0, v0] at y0
  rw [← z1, v1] at y1
  rw [← z2, v2] at y2
  exact ⟨g, off, cap, a0, a1, a2, k0, k1, k2, rfl, ⟨y0, y1, y2⟩, r0'.low (Nat.zero_le _), r2'.low (Nat.zero_le _), hb⟩
theorem nShift_any (A : Option Addr) (c : Nat) (w : World) (hA : Rd It.vs 4 w 0 A 3 bL) : Calls Tryd.prog 26 #[.slice A 3 c, .int .i64 (-2)] w (KBag w 1 nSh) := by
  have h := Shift_any A 3 c (-2) bL w hA
  rw [vShift] at h
  refine h.mono ?_
  rintro e w' ⟨⟨A1, n1, c1, rfl, h1⟩, hb⟩
  obtain rfl : n1 = 1 := h1.len.symm
  exact ⟨A1, c1, rfl, h1.low (Nat.zero_le _), hb⟩
theorem nPair_any (A B : Option Addr) (ca cb : Nat) (w : World) (hA : Rd It.vs 4 w 0 A 3 bL) (hB : Rd It.vs 4 w 0 B 2 cL) : Calls Tryd.prog 9 #[.slice A 3 ca, .slice B 2 cb, .int .i64 0] w (KBag w 2 nPa) := by
  have h := Pair_any A B 3 2 ca cb bL cL 0 w hA hB
  rw [vPair0] at h
  exact h.mono fun _ _ h => kbag rfl h
theorem nP1_any (w : World) : Calls Tryd.prog 21 #[.string { data := #[48, 49, 32, 50, 32, 51, 32, 49] }] w fun e w' => ∃ A k, e = .returned (.tuple #[.slice A 0 k, .int .i64 4]) ∧ Below w.heap.size w w' := by
  have h := Parse_any [48, 49, 32, 50, 32, 51, 32, 49] w (by decide)
  rw [vP1] at h
  exact h.mono fun _ _ ⟨A, k, he, _, hb⟩ => ⟨A, k, he, hb⟩
theorem nP2_any (w : World) : Calls Tryd.prog 21 #[.string { data := #[52, 32, 48, 32, 48, 32, 49, 59, 32, 49, 32, 50, 32, 51, 32, 49] }] w fun e w' => ∃ A k, e = .returned (.tuple #[.slice A 0 k, .int .i64 4]) ∧ Below w.heap.size w w' := by
  have h := Parse_any [52, 32, 48, 32, 48, 32, 49, 59, 32, 49, 32, 50, 32, 51, 32, 49] w (by decide)
  rw [vP2] at h
  exact h.mono fun _ _ ⟨A, k, he, _, hb⟩ => ⟨A, k, he, hb⟩
theorem nP3_any (w : World) : Calls Tryd.prog 21 #[.string { data := #[] }] w fun e w' => ∃ A k, e = .returned (.tuple #[.slice A 0 k, .int .i64 0]) ∧ Below w.heap.size w w' := by
  have h := Parse_any [] w (by decide)
  rw [vP3] at h
  exact h.mono fun _ _ ⟨A, k, he, _, hb⟩ => ⟨A, k, he, hb⟩
theorem nEqual_any (A B : Option Addr) (n ca cb : Nat) (l : List It) (w : World) (hA : Rd It.vs 4 w 0 A n l) (hB : Rd It.vs 4 w 0 B n l) : Calls Tryd.prog 11 #[.slice A n ca, .slice B n cb] w fun e w' => e = .returned (.bool true) ∧ Below w.heap.size w w' :=
  (Equal_any A B n n ca cb l l w hA hB).mono fun _ _ ⟨he, hb⟩ => ⟨by rw [he]; simp, hb⟩

def RetB3 (w : World) (e : Ending) (w' : World) : Prop := ∃ b, e = .returned (.slice (some ⟨b, 0, none⟩) 3 3) ∧ Rd It.vs 4 w' 0 (some ⟨b, 0, none⟩) 3 bL ∧ Below w.heap.size w w'
theorem B3_any (w : World) : Calls Tryd.prog 24 #[] w (RetB3 w) := by
  go_enter Tryd.func24, Tryd.ntmps24
  go_wp2_with fail
  (with_reducible refine (lit_any _ _ _ _ _).mono ?_)
  rintro e w1 ⟨rfl, hb1⟩
  have H1 := Lib.hid hb1
  clear hb1
  go_wp2_with fail
  (with_reducible refine (lit_any _ _ _ _ _).mono ?_)
  rintro e w2 ⟨rfl, hb2⟩
  have H2 := Lib.hid (bchain H1.out hb2)
  clear hb2
  go_wp2_with fail
  (with_reducible refine (lit_any _ _ _ _ _).mono ?_)
  rintro e w3 ⟨rfl, hb3⟩
  have H3 := Lib.hid (bchain H2.out hb3)
  clear hb3
  go_wp2_with fail
  go_ret
  exact ⟨_, rfl, rd_cells It.vs_length bL (new_block w3 _ _) rfl (by decide), bchain H3.out (below_new _ _)⟩
theorem rd_first {w : World} {b : Nat} (h : Rd It.vs 4 w 0 (some ⟨b, 0, none⟩) 3 bL) : Rd It.vs 4 w 0 (some ⟨b, 0, none⟩) 2 nB2 := by
  refine ⟨rfl, by omega, fun _ => ?_⟩
  obtain ⟨b2, o2, e, hl, hc⟩ := h.2.2 (by omega)
  refine ⟨b2, o2, e, hl, fun i x hx j v hv => hc i x ?_ j v hv⟩
  have : i < 2 := (List.getElem?_eq_some_iff.1 hx).1
  have hi : i = 0 ∨ i = 1 := by omega
  rcases hi with rfl | rfl <;> exact hx
theorem rd_last {w : World} {b : Nat} (h : Rd It.vs 4 w 0 (some ⟨b, 0, none⟩) 3 bL) : Rd It.vs 4 w 0 (some ⟨b, 8, none⟩) 1 nB1 := by
  refine ⟨rfl, by omega, fun _ => ?_⟩
  obtain ⟨b2, o2, e, hl, hc⟩ := h.2.2 (by omega)
  cases e
  refine ⟨b, 8, rfl, hl, fun i x hx j v hv => ?_⟩
  have : i < 1 := (List.getElem?_eq_some_iff.1 hx).1
  obtain rfl : i = 0 := by omega
  have := hc 2 x hx j v hv
  have e : 8 + 0 * 4 + j = 0 + 2 * 4 + j := by omega
  rw [e]
  exact this
/-- What region 4 keeps. -/
structure KS (W : World) (AI AN s0 s1 s2 AX : Option Addr) (c0 c1 c2 g off : Nat) (w : World) : Prop where
  ri : Rd It.vs 4 w 0 AI 2 nIs
  rn : Rd It.vs 4 w 0 AN 1 nNot
  r0 : Rd It.vs 4 w 0 s0 2 nB2
  r2 : Rd It.vs 4 w 0 s2 1 nB1
  rx : Rd It.vs 4 w 0 AX 1 nSh
  y0 : w.cell? ⟨g, off, none⟩ = some (.slice s0 2 c0)
  y1 : w.cell? ⟨g, off + 1, none⟩ = some (.slice s1 0 c1)
  y2 : w.cell? ⟨g, off + 2, none⟩ = some (.slice s2 1 c2)
  b : Below W.heap.size W w
theorem KS.turn {W : World} {AI AN s0 s1 s2 AX : Option Addr} {c0 c1 c2 g off : Nat} {w w' : World} (h : KS W AI AN s0 s1 s2 AX c0 c1 c2 g off w) (hb : Below w.heap.size w w') : KS W AI AN s0 s1 s2 AX c0 c1 c2 g off w' :=
  have hg : g < w.heap.size := World.block_lt_of_cell? w _ h.y0
  ⟨h.ri.below hb, h.rn.below hb, h.r0.below hb, h.r2.below hb, h.rx.below hb, (hb.cell hg).trans h.y0, (hb.cell hg).trans h.y1, (hb.cell hg).trans h.y2, bchain h.b hb⟩
theorem KS.turnD {W : World} {AI AN s0 s1 s2 AX : Option Addr} {c0 c1 c2 g off : Nat} {w w' : World} (h : KS W AI AN s0 s1 s2 AX c0 c1 c2 g off w) (hb : Below w.drew.heap.size w.drew w') : KS W AI AN s0 s1 s2 AX c0 c1 c2 g off w' := h.turn ⟨hb.os, hb.tape, hb.output, hb.size, hb.block⟩

set_option maxRecDepth 100000 in
set_option maxHeartbeats 16000000 in
theorem BagKnown_any (w : World) (ht : Tab w) : Calls Tryd.prog 7 #[] w fun e w' => e = .returned (.bool true) ∧ Below w.heap.size w w' := by
  have HT := Lib.hid ht
  clear ht
  go_enter Tryd.func7, Tryd.ntmps7
  go_wp2_with fail
  (with_reducible refine (B_any _).mono ?_)
  rintro e w1 ⟨B1, k1, rfl, hr, hb⟩
  have HW1 := Lib.hid hb
  have C := Lib.hid (nSplit_any B1 k1 w1 hr)
  clear hr hb
  go_wp2_with fail
  (with_reducible refine C.out.mono ?_)
  rintro e w2 ⟨AI, cI, AN, cN, rfl, hri, hrn, hb⟩
  have RI := Lib.hid hri
  have RN := Lib.hid hrn
  have HW2 := Lib.hid (bchain HW1.out hb)
  clear hri hrn hb C HW1
  go_wp2_with fail
  (with_reducible refine (B_any _).mono ?_)
  rintro e w3 ⟨B3, k3, rfl, hr, hb⟩
  replace RI := Lib.hid (RI.out.below hb)
  replace RN := Lib.hid (RN.out.below hb)
  have HW3 := Lib.hid (bchain HW2.out hb)
  have RB := Lib.hid hr
  clear hr hb HW2
  have C := Lib.hid (nParts_any B3 (some ⟨w3.heap.size, 0, none⟩) k3 2 (w3.alloc (.cells #[.int .i64 2, .int .i64 4] 3)) (RB.out.below (below_new _ _)) (rd_cells (sz := 1) (fun _ => rfl) [2, 4] (new_block w3 #[.int .i64 2, .int .i64 4] 3) rfl (by decide)))
  go_wp2_with fail
  (with_reducible refine C.out.mono ?_)
  rintro e w4 ⟨g, off, cap, s0, s1, s2, c0, c1, c2, rfl, ⟨y0, y1, y2⟩, hr0, hr2, hb⟩
  have hbb := bchain (below_new _ _) hb
  replace RI := Lib.hid (RI.out.below hbb)
  replace RN := Lib.hid (RN.out.below hbb)
  have HW4 := Lib.hid (bchain HW3.out hbb)
  have R0 := Lib.hid hr0
  have R2 := Lib.hid hr2
  have HY := Lib.hid (And.intro y0 (And.intro y1 y2))
  clear hr0 hr2 hb hbb C HW3 RB y0 y1 y2
  go_wp2_with fail
  (with_reducible refine (B_any _).mono ?_)
  rintro e w5 ⟨B5, k5, rfl, hr, hb⟩
  have C := Lib.hid (nShift_any B5 k5 w5 hr)
  have HB5 := Lib.hid hb
  clear hr hb
  go_wp2_with fail
  (with_reducible refine C.out.mono ?_)
  rintro e w6 ⟨AX, cX, rfl, hrx, hb⟩
  have hbb := bchain HB5.out hb
  have RX := Lib.hid hrx
  replace RI := Lib.hid (RI.out.below hbb)
  replace RN := Lib.hid (RN.out.below hbb)
  replace R0 := Lib.hid (R0.out.below hbb)
  replace R2 := Lib.hid (R2.out.below hbb)
  have hgl : g < w4.heap.size := World.block_lt_of_cell? w4 _ HY.out.1
  have y0 : w6.cell? ⟨g, off, none⟩ = _ := (hbb.cell hgl).trans HY.out.1
  have y1 : w6.cell? ⟨g, off + 1, none⟩ = _ := (hbb.cell hgl).trans HY.out.2.1
  have y2 : w6.cell? ⟨g, off + 2, none⟩ = _ := (hbb.cell hgl).trans HY.out.2.2
  have HW6 := Lib.hid (bchain HW4.out hbb)
  have HK := Lib.hid (KS.mk (W := w) RI.out RN.out R0.out R2.out RX.out y0 y1 y2 HW6.out)
  clear hrx hb hbb C HB5 HW4 HY hgl
  go_wp2_with fail
  go_region_held3 (fun w' => w'.cell? ⟨g, off, none⟩ = some (.slice s0 2 c0) ∧ w'.cell? ⟨g, off + 1, none⟩ = some (.slice s1 0 c1) ∧ w'.cell? ⟨g, off + 2, none⟩ = some (.slice s2 1 c2)) (go_keep)
    (first
      | (go_at_call 27; (with_reducible refine (lit_any _ _ _ _ _).mono ?_); rintro e wk ⟨rfl, hb⟩; (first | (with_reducible have st := HK.out.turnD hb) | (with_reducible have st := KS.turn (Hid.out (by assumption)) hb)); have y0 := st.y0; have y1 := st.y1; have y2 := st.y2; have KK := Lib.hid st; clear hb st)
      | (go_at_call 24; (with_reducible refine (B3_any _).mono ?_); rintro e wk ⟨BB, rfl, hr, hb⟩; (first | (with_reducible have st := HK.out.turnD hb) | (with_reducible have st := KS.turn (Hid.out (by assumption)) hb)); have RBB := Lib.hid hr; clear hr; have y0 := st.y0; have y1 := st.y1; have y2 := st.y2; have KK := Lib.hid st; clear hb st)
      | (go_at_call_of 11 (Value.slice AI 2 cI); (with_reducible refine (nEqual_any _ _ _ _ _ nIs _ (KS.ri (KS.turn (Hid.out (by assumption)) (below_new _ _))) (rd_cells It.vs_length nIs (new_block _ _ _) rfl (by decide))).mono ?_); rintro e wk ⟨rfl, hb⟩; (with_reducible have st := KS.turn (KS.turn (Hid.out (by assumption)) (below_new _ _)) hb); have y0 := st.y0; have y1 := st.y1; have y2 := st.y2; have KK := Lib.hid st; clear hb st)
      | (go_at_call_of 11 (Value.slice AN 1 cN); (with_reducible refine (nEqual_any _ _ _ _ _ nNot _ (KS.rn (KS.turn (Hid.out (by assumption)) (below_new _ _))) (rd_cells It.vs_length nNot (new_block _ _ _) rfl (by decide))).mono ?_); rintro e wk ⟨rfl, hb⟩; (with_reducible have st := KS.turn (KS.turn (Hid.out (by assumption)) (below_new _ _)) hb); have y0 := st.y0; have y1 := st.y1; have y2 := st.y2; have KK := Lib.hid st; clear hb st)
      | (go_at_call_of 11 (Value.slice AX 1 cX); (with_reducible refine (nEqual_any _ _ _ _ _ nSh _ (KS.rx (KS.turn (Hid.out (by assumption)) (below_new _ _))) (rd_cells It.vs_length nSh (new_block _ _ _) rfl (by decide))).mono ?_); rintro e wk ⟨rfl, hb⟩; (with_reducible have st := KS.turn (KS.turn (Hid.out (by assumption)) (below_new _ _)) hb); have y0 := st.y0; have y1 := st.y1; have y2 := st.y2; have KK := Lib.hid st; clear hb st)
      | (go_at_call_of 11 (Value.slice s0 2 c0); (with_reducible refine (nEqual_any _ _ _ _ _ nB2 _ (KS.r0 (Hid.out (by assumption))) (rd_first (Hid.out (by assumption)))).mono ?_); rintro e wk ⟨rfl, hb⟩; (with_reducible have st := KS.turn (Hid.out (by assumption)) hb); clear RBB; have y0 := st.y0; have y1 := st.y1; have y2 := st.y2; have KK := Lib.hid st; clear hb st)
      | (go_at_call_of 11 (Value.slice s2 1 c2); (with_reducible refine (nEqual_any _ _ _ _ _ nB1 _ (KS.r2 (Hid.out (by assumption))) (rd_last (Hid.out (by assumption)))).mono ?_); rintro e wk ⟨rfl, hb⟩; (with_reducible have st := KS.turn (Hid.out (by assumption)) hb); clear RBB; have y0 := st.y0; have y1 := st.y1; have y2 := st.y2; have KK := Lib.hid st; clear hb st)
      | fail)
  all_goals
    have HW7 := Lib.hid (KS.b (Hid.out KK))
    clear y0 y1 y2 KK HK
    go_wp2_with fail
    (with_reducible refine (B_any _).mono ?_)
    rintro e x1 ⟨B7, k7, rfl, hr, hb⟩
    have RB := Lib.hid hr
    have HX1 := Lib.hid (bchain HW7.out hb)
    clear hr hb
    go_wp2_with fail
    (with_reducible refine (C_any _).mono ?_)
    rintro e x2 ⟨C7, k8, rfl, hr, hb⟩
    have C := Lib.hid (nPair_any B7 C7 k7 k8 x2 (RB.out.below hb) hr)
    have HX2 := Lib.hid (bchain HX1.out hb)
    clear hr hb
    go_wp2_with fail
    (with_reducible refine C.out.mono ?_)
    rintro e x3 ⟨AP, cP, rfl, hr, hb⟩
    have RP := Lib.hid hr
    have HX3 := Lib.hid (bchain HX2.out hb)
    clear hr hb C
    go_wp2_with fail
    (with_reducible refine (nP1_any _).mono ?_)
    rintro e x4 ⟨A9, k9, rfl, hb⟩
    replace RP := Lib.hid (RP.out.below hb)
    have HX4 := Lib.hid (bchain HX3.out hb)
    clear hb
    go_wp2_with fail
    (with_reducible refine (nP2_any _).mono ?_)
    rintro e x5 ⟨A10, k10, rfl, hb⟩
    replace RP := Lib.hid (RP.out.below hb)
    have HX5 := Lib.hid (bchain HX4.out hb)
    clear hb
    go_wp2_with fail
    (with_reducible refine (nP3_any _).mono ?_)
    rintro e x6 ⟨A11, k11, rfl, hb⟩
    replace RP := Lib.hid (RP.out.below hb)
    have HX6 := Lib.hid (bchain HX5.out hb)
    clear hb
    go_wp2_with fail
    (with_reducible refine (lit_any _ _ _ _ _).mono ?_)
    rintro e x7 ⟨rfl, hb⟩
    replace RP := Lib.hid (RP.out.below hb)
    have HX7 := Lib.hid (bchain HX6.out hb)
    clear hb
    go_wp2_with fail
    (with_reducible refine (lit_any _ _ _ _ _).mono ?_)
    rintro e x8 ⟨rfl, hb⟩
    replace RP := Lib.hid (RP.out.below hb)
    have HX8 := Lib.hid (bchain HX7.out hb)
    clear hb
    go_wp2_with fail
    (with_reducible refine (nEqual_any _ _ _ _ _ nPa _ (RP.out.below (below_new _ _)) (rd_cells It.vs_length nPa (new_block _ _ _) rfl (by decide))).mono ?_)
    rintro e x9 ⟨rfl, hb⟩
    have HX9 := Lib.hid (bchain HX8.out (bchain (below_new _ _) hb))
    clear hb
    have CK := Lib.hid (known_any x9 (HT.out.below HX9.out))
    go_wp2_with fail
    (with_reducible refine CK.out.mono ?_)
    rintro e x10 ⟨rfl, hb⟩
    have HX10 := Lib.hid (bchain HX9.out hb)
    clear hb CK
    go_wp2_with fail
    go_ret
    exact ⟨rfl, HX10.out⟩
end Go.Proofs.Bg
end
