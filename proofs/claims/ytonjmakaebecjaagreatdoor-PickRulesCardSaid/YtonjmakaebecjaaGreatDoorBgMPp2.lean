/- Texts of our own, merged: PkChaseP PkChaseQ PkTurn PkRefCh PkRefC PkRefS PkRefP PkRefA PkChaseC PkChaseD PkChaseE PkStep PkRun PkRules PkLossP PkLoss PkRefCo PkRefU PkRefUn PkRefSt PkKeys PkRefPt. -/
import Derived.Test.YtonjmakaebecjaaGreatDoorBgMPp1
import Derived.Deep.LoopGhost
import Derived.Deep.QuietTactic
import Derived.BigQuiet
import Derived.Laws.OwnMore
import Derived.Laws.ResultCell
import Derived.Laws.Rows
import Derived.RegionTactic
import Derived.Maps.OwnSet
import Derived.WalkMore

section
/- Plain words: the chase of parts. No program in sight. -/
namespace Go.Proofs.Bg
open Go.RowKit

def rowI (R : List (List Int)) (i : Nat) : List Int := R.getD i []
def colI (r : List Int) (c : Int) : Int := r.getD c.toNat 0
/-- A value of a column turned into another one. -/
def turnRow (c old now : Int) (r : List Int) : List Int := if colI r c = old then r.set c.toNat now else r
def turnRows (c old now : Int) (R : List (List Int)) : List (List Int) := R.map (turnRow c old now)
def agreeB (fr : List Int) (a b : List Int) : Bool := fr.all fun c => decide (colI a c = colI b c)
/-- A rule used for two rows: whether it changes anything, and what. -/
def stepB (r : PF) (a b : List Int) : Bool := agreeB r.from_ a b && decide (colI a r.to_ ≠ colI b r.to_)
def maxI (x y : Int) : Int := if x < y then y else x
def minI (x y : Int) : Int := if y < x then y else x
def stepR (r : PF) (i j : Nat) (R : List (List Int)) : List (List Int) :=
  if stepB r (rowI R i) (rowI R j) then turnRows r.to_ (maxI (colI (rowI R i) r.to_) (colI (rowI R j) r.to_)) (minI (colI (rowI R i) r.to_) (colI (rowI R j) r.to_)) R else R
/-- Row i with all earlier ones, from j on; all rows from i on; all rules. -/
def pairsTo (r : PF) (i : Nat) : Nat → List (List Int) → List (List Int)
  | 0, R => R
  | k + 1, R => stepR r i k (pairsTo r i k R)
def ruleTo (r : PF) : Nat → List (List Int) → List (List Int)
  | 0, R => R
  | i + 1, R => pairsTo r i i (ruleTo r i R)
def chaseRound : List PF → List (List Int) → List (List Int)
  | [], R => R
  | r :: l, R => chaseRound l (ruleTo r R.length R)
def sumR (R : List (List Int)) : Nat := (R.map fun r => (r.map Int.toNat).sum).sum
def chaseIt : Nat → List PF → List (List Int) → List (List Int)
  | 0, _, R => R
  | f + 1, l, R => if chaseRound l R = R then R else chaseIt f l (chaseRound l R)
def chaseN (l : List PF) (R : List (List Int)) : List (List Int) := chaseIt (sumR R) l R
/-- The rows of parts. -/
def partRow (n : Nat) (i : Nat) (p : List Int) : List Int := (List.range n).map fun (c : Nat) => if (c : Int) ∈ p then 0 else 1 + (i : Int)
def partRows (n : Nat) (i : Nat) : List (List Int) → List (List Int)
  | [] => []
  | p :: r => partRow n i p :: partRows n (i + 1) r
/-- Parts that are sets below n and not empty; all their columns. -/
def partsB (n : Int) (l : List (List Int)) : Bool := decide (0 < l.length) && decide (l.length ≤ 5) && l.all fun p => decide (0 < p.length) && setB p n
def orAll : Nat → List (List Int) → Nat
  | o, [] => o
  | o, p :: r => orAll (o ||| bitsN p) r
def wholeB (R : List (List Int)) : Bool := R.any fun r => !(r.any fun v => decide (v ≠ 0))
/-- Whether parts lose nothing; the table; the error. -/
def losslessR (n : Int) (rules : List PF) (parts : List (List Int)) : Bool × PT × Int :=
  if !(rulesB n rules && partsB n parts) then (false, ⟨[], []⟩, 2)
  else if orAll 0 parts ≠ pw n.toNat - 1 then (false, ⟨[], []⟩, 7)
  else if wholeB (chaseN rules (partRows n.toNat 0 parts)) then (true, ⟨[], []⟩, 0)
  else (false, ⟨colsN (orAll 0 parts), sortR (chaseN rules (partRows n.toNat 0 parts))⟩, 0)
example : losslessR 3 [⟨[0], 1⟩, ⟨[1], 2⟩] [[0, 1], [1, 2]] = (true, ⟨[], []⟩, 0) ∧ losslessR 3 [⟨[0], 1⟩, ⟨[1], 2⟩] [[0, 2], [1, 2]] = (false, ⟨[0, 1, 2], [[0, 1, 0], [2, 0, 0]]⟩, 0) := by decide +kernel
end Go.Proofs.Bg
end

section
/- Plain words: the chase comes to an end. No program in sight. -/
namespace Go.Proofs.Bg
open Go.RowKit

/-- A chase: rows of n entries, none negative. -/
def ChOk (n : Nat) (R : List (List Int)) : Prop := ∀ r ∈ R, r.length = n ∧ ∀ v ∈ r, 0 ≤ v
theorem sum_set : ∀ (r : List Int) (c : Nat) (x y : Int), r[c]? = some x → 0 ≤ y → y < x → ((r.set c y).map Int.toNat).sum < (r.map Int.toNat).sum
  | [], c, x, y, h, _, _ => by simp at h
  | a :: r, 0, x, y, h, h0, h1 => by
    simp only [List.getElem?_cons_zero, Option.some.injEq] at h
    subst h
    simp
    omega
  | a :: r, c + 1, x, y, h, h0, h1 => by
    have := sum_set r c x y (by simpa using h) h0 h1
    simp only [List.set_cons_succ, List.map_cons, List.sum_cons]
    omega
theorem turnRow_ok {n : Nat} {r : List Int} {c old now : Int} (h : r.length = n ∧ ∀ v ∈ r, 0 ≤ v) (h0 : 0 ≤ now) : (turnRow c old now r).length = n ∧ ∀ v ∈ turnRow c old now r, 0 ≤ v := by
  unfold turnRow
  split
  · refine ⟨by simp [h.1], fun v hv => ?_⟩
    rcases List.mem_or_eq_of_mem_set hv with h1 | h1
    · exact h.2 v h1
    · omega
  · exact h
theorem turnRow_le {n : Nat} {r : List Int} {c old now : Int} (h : r.length = n) (hc : 0 ≤ c) (hc2 : c < n) (h0 : 0 ≤ now) (h1 : now < old) : ((turnRow c old now r).map Int.toNat).sum ≤ (r.map Int.toNat).sum ∧ (colI r c = old → ((turnRow c old now r).map Int.toNat).sum < (r.map Int.toNat).sum) := by
  unfold turnRow
  have hx : r[c.toNat]? = some (colI r c) := by
    have : c.toNat < r.length := by omega
    simp [colI, this]
  split
  · rename_i he
    have := sum_set r c.toNat (colI r c) now hx h0 (by omega)
    exact ⟨Nat.le_of_lt this, fun _ => this⟩
  · rename_i he
    exact ⟨Nat.le_refl _, fun h => absurd h he⟩
theorem turnRows_le {n : Nat} {c old now : Int} (hc : 0 ≤ c) (hc2 : c < n) (h0 : 0 ≤ now) (h1 : now < old) : ∀ {R : List (List Int)}, ChOk n R → sumR (turnRows c old now R) ≤ sumR R ∧ (∀ i, i < R.length → colI (rowI R i) c = old → sumR (turnRows c old now R) < sumR R)
  | [], _ => ⟨Nat.le_refl _, fun i hi => by simp at hi⟩
  | r :: R, h => by
    have hr := turnRow_le (h r (by simp)).1 hc hc2 h0 h1
    have ih := turnRows_le (R := R) hc hc2 h0 h1 (fun x hx => h x (by simp [hx]))
    unfold turnRows sumR at *
    refine ⟨by simp only [List.map_cons, List.sum_cons]; omega, fun i hi he => ?_⟩
    cases i with
    | zero =>
      have := hr.2 (by simpa [rowI] using he)
      simp only [List.map_cons, List.sum_cons]
      omega
    | succ i =>
      have := ih.2 i (by simpa using hi) (by simpa [rowI] using he)
      simp only [List.map_cons, List.sum_cons]
      omega
theorem turnRows_ok {n : Nat} {c old now : Int} {R : List (List Int)} (h : ChOk n R) (h0 : 0 ≤ now) : ChOk n (turnRows c old now R) := by
  intro r hr
  obtain ⟨x, hx, rfl⟩ := List.mem_map.1 hr
  exact turnRow_ok (h x hx) h0
theorem turnRows_len (c old now : Int) (R : List (List Int)) : (turnRows c old now R).length = R.length := by simp [turnRows]
theorem rowI_mem {R : List (List Int)} {i : Nat} (h : i < R.length) : rowI R i ∈ R := by
  have : rowI R i = R[i] := by simp [rowI, h]
  rw [this]
  exact List.getElem_mem h
theorem colI_nonneg {n : Nat} {r : List Int} (h : r.length = n ∧ ∀ v ∈ r, 0 ≤ v) (c : Int) : 0 ≤ colI r c := by
  unfold colI
  by_cases hc : c.toNat < r.length
  · have : r.getD c.toNat 0 = r[c.toNat] := by simp [hc]
    rw [this]
    exact h.2 _ (List.getElem_mem hc)
  · simp [Nat.not_lt.1 hc]
theorem stepR_ok {n : Nat} {r : PF} {i j : Nat} {R : List (List Int)} (h : ChOk n R) (hr : ruleB n r = true) (hi : i < R.length) (hj : j < R.length) :
    ChOk n (stepR r i j R) ∧ (stepR r i j R).length = R.length ∧ (stepB r (rowI R i) (rowI R j) = true → sumR (stepR r i j R) < sumR R) ∧ (stepB r (rowI R i) (rowI R j) = false → stepR r i j R = R) := by
  simp only [ruleB, Bool.and_eq_true, decide_eq_true_eq] at hr
  have h1 := colI_nonneg (h _ (rowI_mem hi)) r.to_
  have h2 := colI_nonneg (h _ (rowI_mem hj)) r.to_
  unfold stepR
  by_cases hs : stepB r (rowI R i) (rowI R j) = true
  · rw [if_pos hs]
    have hne : colI (rowI R i) r.to_ ≠ colI (rowI R j) r.to_ := by
      simp only [stepB, Bool.and_eq_true, decide_eq_true_eq] at hs
      exact hs.2
    have hmin : 0 ≤ minI (colI (rowI R i) r.to_) (colI (rowI R j) r.to_) := by unfold minI; split <;> omega
    have hlt : minI (colI (rowI R i) r.to_) (colI (rowI R j) r.to_) < maxI (colI (rowI R i) r.to_) (colI (rowI R j) r.to_) := by unfold minI maxI; split <;> split <;> omega
    refine ⟨turnRows_ok h hmin, turnRows_len _ _ _ _, fun _ => ?_, fun hf => by rw [hs] at hf; cases hf⟩
    have ht := (turnRows_le (n := n) hr.1.2 hr.2 hmin hlt h).2
    by_cases hm : colI (rowI R i) r.to_ < colI (rowI R j) r.to_
    · exact ht j hj (by unfold maxI; rw [if_pos hm])
    · exact ht i hi (by unfold maxI; rw [if_neg hm])
  · rw [if_neg hs]
    exact ⟨h, rfl, fun hh => absurd hh hs, fun _ => rfl⟩
theorem pairsTo_ok {n : Nat} {r : PF} {i : Nat} (hr : ruleB n r = true) : ∀ (k : Nat) {R : List (List Int)}, ChOk n R → i < R.length → k ≤ i → ChOk n (pairsTo r i k R) ∧ (pairsTo r i k R).length = R.length ∧ sumR (pairsTo r i k R) ≤ sumR R ∧ (sumR (pairsTo r i k R) = sumR R → pairsTo r i k R = R)
  | 0, R, h, _, _ => ⟨h, rfl, Nat.le_refl _, fun _ => rfl⟩
  | k + 1, R, h, hi, hk => by
    obtain ⟨h1, h2, h3, h4⟩ := pairsTo_ok hr k h hi (by omega)
    obtain ⟨q1, q2, q3, q4⟩ := stepR_ok (i := i) (j := k) h1 hr (by omega) (by omega)
    rw [pairsTo]
    cases hs : stepB r (rowI (pairsTo r i k R) i) (rowI (pairsTo r i k R) k) with
    | true =>
      have := q3 hs
      exact ⟨q1, by omega, by omega, fun e => by omega⟩
    | false =>
      have := q4 hs
      rw [this]
      exact ⟨h1, h2, h3, h4⟩
theorem ruleTo_ok {n : Nat} {r : PF} (hr : ruleB n r = true) : ∀ (i : Nat) {R : List (List Int)}, ChOk n R → i ≤ R.length → ChOk n (ruleTo r i R) ∧ (ruleTo r i R).length = R.length ∧ sumR (ruleTo r i R) ≤ sumR R ∧ (sumR (ruleTo r i R) = sumR R → ruleTo r i R = R)
  | 0, R, h, _ => ⟨h, rfl, Nat.le_refl _, fun _ => rfl⟩
  | i + 1, R, h, hi => by
    obtain ⟨h1, h2, h3, h4⟩ := ruleTo_ok hr i h (by omega)
    obtain ⟨q1, q2, q3, q4⟩ := pairsTo_ok (i := i) hr i h1 (by omega) (Nat.le_refl _)
    rw [ruleTo]
    refine ⟨q1, by omega, by omega, fun e => ?_⟩
    rw [q4 (by omega), h4 (by omega)]
theorem chaseRound_ok {n : Nat} : ∀ {l : List PF}, (∀ r ∈ l, ruleB n r = true) → ∀ {R : List (List Int)}, ChOk n R → ChOk n (chaseRound l R) ∧ (chaseRound l R).length = R.length ∧ sumR (chaseRound l R) ≤ sumR R ∧ (sumR (chaseRound l R) = sumR R → chaseRound l R = R)
  | [], _, R, h => ⟨h, rfl, Nat.le_refl _, fun _ => rfl⟩
  | r :: l, hl, R, h => by
    obtain ⟨h1, h2, h3, h4⟩ := ruleTo_ok (hl r (by simp)) R.length h (Nat.le_refl _)
    obtain ⟨q1, q2, q3, q4⟩ := chaseRound_ok (l := l) (fun x hx => hl x (by simp [hx])) h1
    rw [chaseRound]
    refine ⟨q1, by omega, by omega, fun e => ?_⟩
    rw [q4 (by omega), h4 (by omega)]
theorem chaseIt_enough {n : Nat} {l : List PF} (hl : ∀ r ∈ l, ruleB n r = true) : ∀ (f g : Nat) {R : List (List Int)}, ChOk n R → sumR R ≤ f → sumR R ≤ g → chaseIt f l R = chaseIt g l R
  | 0, 0, _, _, _, _ => rfl
  | 0, g + 1, R, h, h1, _ => by
    obtain ⟨_, _, q3, q4⟩ := chaseRound_ok hl h
    rw [chaseIt, chaseIt, if_pos (q4 (by omega))]
  | f + 1, 0, R, h, _, h1 => by
    obtain ⟨_, _, q3, q4⟩ := chaseRound_ok hl h
    rw [chaseIt, chaseIt, if_pos (q4 (by omega))]
  | f + 1, g + 1, R, h, h1, h2 => by
    obtain ⟨q1, _, q3, q4⟩ := chaseRound_ok hl h
    rw [chaseIt, chaseIt]
    split
    · rfl
    · rename_i hne
      have : sumR (chaseRound l R) < sumR R := by
        rcases Nat.lt_or_ge (sumR (chaseRound l R)) (sumR R) with h5 | h5
        · exact h5
        · exact absurd (q4 (by omega)) hne
      exact chaseIt_enough hl f g q1 (by omega) (by omega)
theorem chaseN_step {n : Nat} {l : List PF} (hl : ∀ r ∈ l, ruleB n r = true) {R : List (List Int)} (h : ChOk n R) : chaseN l R = if chaseRound l R = R then R else chaseN l (chaseRound l R) := by
  obtain ⟨q1, _, q3, q4⟩ := chaseRound_ok hl h
  unfold chaseN
  cases hs : sumR R with
  | zero => rw [chaseIt, if_pos (q4 (by omega))]
  | succ m =>
    rw [chaseIt]
    split
    · rfl
    · rename_i hne
      have : sumR (chaseRound l R) < sumR R := by
        rcases Nat.lt_or_ge (sumR (chaseRound l R)) (sumR R) with h5 | h5
        · exact h5
        · exact absurd (q4 (by omega)) hne
      exact chaseIt_enough hl _ _ q1 (by omega) (Nat.le_refl _)
end Go.Proofs.Bg
end

section
/- Contracts: (*chase).turn, step, run. -/
namespace Go.Proofs.Bg
open Go.RowKit

/-- Blocks of other things than integers stay. -/
def KeepT (w w' : World) : Prop := ∀ (g : Nat) (c : Array Value) (T : TypeId), T ≠ 3 → w.heap[g]? = some (.cells c T) → w'.heap[g]? = some (.cells c T)
theorem KeepT.refl (w : World) : KeepT w w := fun _ _ _ _ h => h
theorem KeepT.trans {w w1 w2 : World} (h : KeepT w w1) (k : KeepT w1 w2) : KeepT w w2 := fun g c T hT hc => k g c T hT (h g c T hT hc)
theorem KeepT.below {w w' : World} (h : Below w.heap.size w w') : KeepT w w' := fun g _ _ _ hc => (h.block g (Array.getElem?_eq_some_iff.1 hc).1).trans hc
theorem Own.capLe {α : Type} {enc : α → List Value} {sz : Nat} {T : TypeId} {base n cap : Nat} {A : Option Addr} {w : World} {l : List α} (h : Own enc sz T base w (.slice A n cap) l) : n ≤ cap := by
  rcases h.2 with ⟨e, _⟩ | ⟨g, cap', cur, e, _, _, h1, _⟩
  · cases e; exact Nat.le_refl _
  · cases e; exact h1
/-- A chase in memory. -/
structure ChAtB (bt : TypeId) (w : World) (base c : Nat) (cv rv : Sl) (ss : List Sl) (n : Nat) (R : List (List Int)) : Prop where
  box : w.heap[c]? = some (.cells #[.slice cv.A cv.n cv.cap, .slice rv.A rv.n rv.cap] bt)
  hc : base ≤ c
  own : Own Sl.vs 1 32 base w rv.v ss
  rows : All2 (fun s r => Own iv 1 3 base w s.v r) ss R
  dis : ∀ (i j : Nat) (s t : Sl), i ≠ j → ss[i]? = some s → ss[j]? = some t → s.v.ownBlock ≠ t.v.ownBlock
  ok : ChOk n R
  small : R.length ≤ 1000
abbrev ChAt := ChAtB 130
section
variable {bt : TypeId} {w w' : World} {base c n : Nat} {cv rv : Sl} {ss : List Sl} {R : List (List Int)}
theorem ChAtB.lt (h : ChAtB bt w base c cv rv ss n R) : c < w.heap.size := (Array.getElem?_eq_some_iff.1 h.box).1
theorem ChAtB.below (h : ChAtB bt w base c cv rv ss n R) (hb : Below w.heap.size w w') : ChAtB bt w' base c cv rv ss n R :=
  ⟨(hb.block c h.lt).trans h.box, h.hc, h.own.below hb, h.rows.mono fun _ _ h => h.below hb, h.dis, h.ok, h.small⟩
theorem ChAtB.len (h : ChAtB bt w base c cv rv ss n R) : rv.n = R.length := by rw [← h.rows.1]; exact h.own.len
/-- The header of a row, and a cell of it. -/
theorem ChAtB.at_ (h : ChAtB bt w base c cv rv ss n R) {i k : Nat} (hi : i < R.length) (hk : k < n) : ∃ g g2 s r x, rv.A = some ⟨g, 0, none⟩ ∧ R[i]? = some r ∧ ss[i]? = some s ∧ s.A = some ⟨g2, 0, none⟩ ∧ s.n = n ∧ w.cell? ⟨g, i, none⟩ = some (.slice s.A s.n s.cap) ∧ r[k]? = some x ∧ w.cell? ⟨g2, k, none⟩ = some (.int .i64 x) ∧ w.frozen? ⟨g2, k, none⟩ = false := by
  obtain ⟨g, s, e, _, _, _, hs, hc, _⟩ := h.own.at_ Sl.vs_length (i := i) (by rw [h.rows.1]; exact hi)
  have hr : R[i]? = some R[i] := List.getElem?_eq_getElem hi
  have ho := h.rows.2 i s _ hs hr
  have hl := (h.ok _ (List.mem_of_getElem? hr)).1
  obtain ⟨g2, x, e2, _, _, e3, hx, hc2, hf⟩ := Own.at_ iv_length ho (i := k) (by omega)
  have c1 := hc 0 _ rfl
  have c2 := hc2 0 _ rfl
  simp only [Nat.mul_one, Nat.add_zero] at c1 c2
  exact ⟨g, g2, s, _, x, e, hr, hs, e2, by omega, c1, hx, c2, hf k⟩
theorem ChAtB.set (h : ChAtB bt w base c cv rv ss n R) {i k g2 : Nat} {s : Sl} {r : List Int} {y : Int} (hr : R[i]? = some r) (hs : ss[i]? = some s) (he : s.A = some ⟨g2, 0, none⟩) (hk : k < n) (hy : 0 ≤ y) (hbt : bt ≠ 3 := by decide) :
    ChAtB bt (w.setCell ⟨g2, k, none⟩ (.int .i64 y)) base c cv rv ss n (R.set i (r.set k y)) ∧ Below base w (w.setCell ⟨g2, k, none⟩ (.int .i64 y)) ∧ KeepT w (w.setCell ⟨g2, k, none⟩ (.int .i64 y)) := by
  have ho := h.rows.2 i s r hs hr
  have hl := (h.ok _ (List.mem_of_getElem? hr)).1
  obtain ⟨A, m, cap⟩ := s
  simp only [] at he
  subst he
  obtain ⟨q1, q2⟩ := Own.set1 iv_length ho (i := k) (by omega) (y := y) (u := .int .i64 y) rfl
  obtain ⟨cc, hcc⟩ := Own.heap ho
  have hgb : base ≤ g2 := (Own.blk ho g2 rfl).1
  have hib : i < R.length := (List.getElem?_eq_some_iff.1 hr).1
  refine ⟨⟨(q2.block c h.lt (fun e => ?_)).trans h.box, h.hc, h.own.grownT q2 hcc (by decide), ?_, h.dis, ?_, by rw [List.length_set]; exact h.small⟩, (Below.refl _ _).grown q2 (Nat.le_of_lt (Nat.lt_of_le_of_lt hgb (Own.blk ho g2 rfl).2)) (fun j e => by cases e; exact hgb), fun gg c2 T2 hT hh => (q2.block gg (Array.getElem?_eq_some_iff.1 hh).1 (fun e => by cases e; rw [hcc] at hh; cases hh; exact hT rfl)).trans hh⟩
  · cases e
    have := hcc.symm.trans h.box
    cases this
    exact hbt rfl
  · refine ⟨by rw [List.length_set]; exact h.rows.1, fun j t x h1 h2 => ?_⟩
    rw [List.getElem?_set] at h2
    by_cases hij : i = j
    · subst hij
      rw [hs] at h1
      cases h1
      simp [hib] at h2
      subst h2
      exact q1
    · rw [if_neg hij] at h2
      have hh := h.rows.2 j t x h1 h2
      refine hh.grown q2 (.inr fun e => ?_)
      exact h.dis i j _ t hij hs h1 e.symm
  · intro x hx
    rcases List.mem_or_eq_of_mem_set hx with h1 | h1
    · exact h.ok x h1
    · subst h1
      refine ⟨by simp [hl], fun v hv => ?_⟩
      rcases List.mem_or_eq_of_mem_set hv with h2 | h2
      · exact (h.ok r (List.mem_of_getElem? hr)).2 v h2
      · omega
end
/-- The first k rows turned. -/
def turnTo (c old now : Int) (R : List (List Int)) (k : Nat) : List (List Int) := (turnRows c old now R).take k ++ R.drop k
theorem turnTo_len (c old now : Int) (R : List (List Int)) (k : Nat) (h : k ≤ R.length) : (turnTo c old now R k).length = R.length := by
  simp [turnTo, turnRows]; omega
theorem turnTo_at {c old now : Int} {R : List (List Int)} {k : Nat} {r : List Int} (h : R[k]? = some r) : (turnTo c old now R k)[k]? = some r := by
  have hk := (List.getElem?_eq_some_iff.1 h).1
  have hl : ((turnRows c old now R).take k).length = k := by simp [turnRows]; omega
  unfold turnTo
  rw [List.getElem?_append_right (by omega), hl, Nat.sub_self, List.getElem?_drop, Nat.add_zero]
  exact h
theorem turnTo_succ {c old now : Int} {R : List (List Int)} {k : Nat} {r : List Int} (h : R[k]? = some r) : turnTo c old now R (k + 1) = (turnTo c old now R k).set k (turnRow c old now r) := by
  have hk := (List.getElem?_eq_some_iff.1 h).1
  have hl : ((turnRows c old now R).take k).length = k := by simp [turnRows]; omega
  unfold turnTo
  rw [List.set_append_right _ _ (by omega), hl, Nat.sub_self, drop_at h, List.set_cons_zero, List.take_add_one]
  have : (turnRows c old now R)[k]? = some (turnRow c old now r) := by simp [turnRows, h]
  rw [this, List.append_assoc]
  rfl

set_option maxRecDepth 100000 in
set_option maxHeartbeats 4000000 in
theorem turn_any (base c n : Nat) (cv rv : Sl) (ss : List Sl) (R : List (List Int)) (col : Nat) (old now : Int) (w : World) (h : ChAt w base c cv rv ss n R) (hcol : col < n) (hnow : 0 ≤ now) :
    Calls Tryz.prog 152 #[.pointer (some ⟨c, 0, none⟩), .int .i64 col, .int .i64 old, .int .i64 now] w fun e w' => e = .returned (.tuple #[]) ∧ ChAt w' base c cv rv ss n (turnRows col old now R) ∧ Below base w w' ∧ KeepT w w' := by
  have c1 := cell_at_block (off := 1) h.box rfl
  have hrn := h.len
  have H := Lib.hid h
  obtain ⟨rA, rN, rK⟩ := rv
  simp only [] at hrn
  subst hrn
  have hsm := h.small
  have hi0 : (0 : Int) ≤ col := by omega
  have hi1 : (col : Int) < n := by omega
  have hbase : base ≤ w.heap.size := Nat.le_of_lt (Nat.lt_of_le_of_lt h.hc h.lt)
  clear h
  go_enter Tryz.func152, Tryz.ntmps152
  go_wp2_with fail
  clear c1
  go_loopw [16] (fun i wr => ∃ k : Nat, k ≤ R.length ∧ i = .int .i64 k ∧ ChAt wr base c cv ⟨rA, R.length, rK⟩ ss n (turnTo col old now R k) ∧ Below base w wr ∧ KeepT w wr) (fun i _ => R.length - (intOf i).toNat)
  case atStart => exact ⟨0, by omega, rfl, by simpa [turnTo] using H.out, Below.refl _ _, KeepT.refl _⟩
  case round =>
    obtain ⟨k, hk, rfl, hC, hB, hKT⟩ := hrel
    have HC := Lib.hid hC
    have HKT := Lib.hid hKT
    have HB := Lib.hid hB
    by_cases hlt : k < R.length
    · obtain ⟨g, g2, s, r, x, e1, hr, hs, e2, e3, d0, hx, d1, f1⟩ := hC.at_ (i := k) (k := col) (by rw [turnTo_len _ _ _ _ _ (by omega)]; exact hlt) hcol
      simp only [] at e1
      subst e1
      obtain ⟨sA, sN, sK⟩ := s
      simp only [] at e2 e3
      subst e2 e3
      have hRk : R[k]? = some R[k] := List.getElem?_eq_getElem hlt
      rw [turnTo_at hRk] at hr
      cases hr
      have HSC := Lib.hid (turnTo_succ (c := (col : Int)) (old := old) (now := now) hRk)
      have hci : colI R[k] col = x := by simp [colI, hx]
      obtain ⟨q1, q2, q3⟩ := hC.set (y := now) (turnTo_at hRk) hs rfl hcol hnow
      have Q1 := Lib.hid q1
      have Q2 := Lib.hid (hB.trans q2)
      have Q3 := Lib.hid (hKT.trans q3)
      have hk1 : (k : Int) < R.length := by omega
      have HTR : Hid (turnRow col old now R[k] = if x = old then R[k].set col now else R[k]) := by
        show _ = _
        rw [turnRow, hci, Int.toNat_natCast]
      clear hC hB q1 q2 q3 hKT hs hx hci hRk
      by_cases hxo : x = old
      · have e1 : (x == old) = true := by simpa using hxo
        rw [if_pos hxo] at HTR
        clear hxo
        go_wp2_with fail
        exact ⟨⟨k + 1, by omega, by go_num, by rw [HSC.out, HTR.out]; exact Q1.out, Q2.out, Q3.out⟩, by simp [intOf]; omega⟩
      · have e1 : (x == old) = false := by simpa using hxo
        rw [if_neg hxo] at HTR
        have HNX : Hid (turnTo col old now R (k + 1) = turnTo col old now R k) := by
          show _ = _
          rw [HSC.out, HTR.out]
          have : (turnTo col old now R k)[k]? = some R[k] := turnTo_at (List.getElem?_eq_getElem hlt)
          obtain ⟨h1, h2⟩ := List.getElem?_eq_some_iff.1 this
          rw [← h2, List.set_getElem_self]
        clear hxo
        go_wp2_with fail
        exact ⟨⟨k + 1, by omega, by go_num, by rw [HNX.out]; exact HC.out, HB.out, HKT.out⟩, by simp [intOf]; omega⟩
    · have hk' : k = R.length := by omega
      have HE : Hid (turnTo col old now R k = turnRows col old now R) := by
        show _ = _
        rw [hk', turnTo, List.take_of_length_le (by simp [turnRows]), List.drop_length, List.append_nil]
      have d1 : decide ((k : Int) < ((R.length : Nat) : Int)) = false := by rw [decide_eq_false_iff_not]; omega
      have d2 : decide (k < R.length) = false := by rw [decide_eq_false_iff_not]; omega
      clear hC hB hKT hlt hk'
      go_wp2_with fail
      go_end0
      exact ⟨rfl, by rw [← HE.out]; exact HC.out, HB.out, HKT.out⟩
end Go.Proofs.Bg
end

section
/- Contract: ref chased. -/
namespace Go.Proofs.Bg
open Go.RowKit

set_option maxRecDepth 100000 in
set_option maxHeartbeats 4000000 in
theorem chased_any {bt : TypeId} (base c n : Nat) (cv rv : Sl) (ss : List Sl) (R : List (List Int)) (col : Nat) (old now : Int) (w : World) (h : ChAtB bt w base c cv rv ss n R) (hcol : col < n) (hnow : 0 ≤ now) (hbt : bt ≠ 3 := by decide) :
    Calls Tryz.prog 144 #[.slice rv.A rv.n rv.cap, .int .i64 col, .int .i64 old, .int .i64 now] w fun e w' => e = .returned (.tuple #[]) ∧ ChAtB bt w' base c cv rv ss n (turnRows col old now R) ∧ Below base w w' ∧ KeepT w w' := by
  have hrn := h.len
  have H := Lib.hid h
  obtain ⟨rA, rN, rK⟩ := rv
  simp only [] at hrn
  subst hrn
  have hsm := h.small
  have hi0 : (0 : Int) ≤ col := by omega
  have hi1 : (col : Int) < n := by omega
  have hbase : base ≤ w.heap.size := Nat.le_of_lt (Nat.lt_of_le_of_lt h.hc h.lt)
  clear h
  go_enter Tryz.func144, Tryz.ntmps144
  go_wp2_with fail
  go_loopw [8] (fun i wr => ∃ k : Nat, k ≤ R.length ∧ i = .int .i64 k ∧ ChAtB bt wr base c cv ⟨rA, R.length, rK⟩ ss n (turnTo col old now R k) ∧ Below base w wr ∧ KeepT w wr) (fun i _ => R.length - (intOf i).toNat)
  case atStart => exact ⟨0, by omega, rfl, by simpa [turnTo] using H.out, Below.refl _ _, KeepT.refl _⟩
  case round =>
    obtain ⟨k, hk, rfl, hC, hB, hKT⟩ := hrel
    have HC := Lib.hid hC
    have HKT := Lib.hid hKT
    have HB := Lib.hid hB
    by_cases hlt : k < R.length
    · obtain ⟨g, g2, s, r, x, e1, hr, hs, e2, e3, d0, hx, d1, f1⟩ := hC.at_ (i := k) (k := col) (by rw [turnTo_len _ _ _ _ _ (by omega)]; exact hlt) hcol
      simp only [] at e1
      subst e1
      obtain ⟨sA, sN, sK⟩ := s
      simp only [] at e2 e3
      subst e2 e3
      have hRk : R[k]? = some R[k] := List.getElem?_eq_getElem hlt
      rw [turnTo_at hRk] at hr
      cases hr
      have HSC := Lib.hid (turnTo_succ (c := (col : Int)) (old := old) (now := now) hRk)
      have hci : colI R[k] col = x := by simp [colI, hx]
      obtain ⟨q1, q2, q3⟩ := hC.set (y := now) (turnTo_at hRk) hs rfl hcol hnow hbt
      have Q1 := Lib.hid q1
      have Q2 := Lib.hid (hB.trans q2)
      have Q3 := Lib.hid (hKT.trans q3)
      have hk1 : (k : Int) < R.length := by omega
      have HTR : Hid (turnRow col old now R[k] = if x = old then R[k].set col now else R[k]) := by
        show _ = _
        rw [turnRow, hci, Int.toNat_natCast]
      clear hC hB q1 q2 q3 hKT hs hx hci hRk
      by_cases hxo : x = old
      · have e1 : (x == old) = true := by simpa using hxo
        rw [if_pos hxo] at HTR
        clear hxo
        go_wp2_with fail
        exact ⟨⟨k + 1, by omega, by go_num, by rw [HSC.out, HTR.out]; exact Q1.out, Q2.out, Q3.out⟩, by simp [intOf]; omega⟩
      · have e1 : (x == old) = false := by simpa using hxo
        rw [if_neg hxo] at HTR
        have HNX : Hid (turnTo col old now R (k + 1) = turnTo col old now R k) := by
          show _ = _
          rw [HSC.out, HTR.out]
          have : (turnTo col old now R k)[k]? = some R[k] := turnTo_at (List.getElem?_eq_getElem hlt)
          obtain ⟨h1, h2⟩ := List.getElem?_eq_some_iff.1 this
          rw [← h2, List.set_getElem_self]
        clear hxo
        go_wp2_with fail
        exact ⟨⟨k + 1, by omega, by go_num, by rw [HNX.out]; exact HC.out, HB.out, HKT.out⟩, by simp [intOf]; omega⟩
    · have hk' : k = R.length := by omega
      have HE : Hid (turnTo col old now R k = turnRows col old now R) := by
        show _ = _
        rw [hk', turnTo, List.take_of_length_le (by simp [turnRows]), List.drop_length, List.append_nil]
      have d1 : decide ((k : Int) < ((R.length : Nat) : Int)) = false := by rw [decide_eq_false_iff_not]; omega
      have d2 : decide (k < R.length) = false := by rw [decide_eq_false_iff_not]; omega
      clear hC hB hKT hlt hk'
      go_wp2_with fail
      go_end0
      exact ⟨rfl, by rw [← HE.out]; exact HC.out, HB.out, HKT.out⟩
end Go.Proofs.Bg
end

section
/- Contract: ref columns. -/
namespace Go.Proofs.Bg
open Go.RowKit

theorem colsFrom_shr {x : Nat} : ∀ (m k : Nat), x >>> k = 0 → colsFrom x k m = []
  | 0, k, _ => rfl
  | m + 1, k, h => by
    have ht : x.testBit k = false := by simp [Nat.testBit, h]
    have h2 : x >>> (k + 1) = 0 := by rw [Nat.shiftRight_succ, h]
    rw [colsFrom, ht]
    exact colsFrom_shr m (k + 1) h2
set_option maxRecDepth 100000 in
theorem columnsR_any (x : Nat) (w : World) (hx : x < 256) :
    Calls Tryz.prog 120 #[.int .i64 x] w fun e w' => ∃ v, e = .returned v ∧ Own iv 1 3 w.heap.size w' v (colsN x) ∧ Below w.heap.size w w' := by
  have HXL := Lib.hid hx
  have H8 : Hid (x >>> 8 = 0) := by show _ = _; rw [Nat.shiftRight_eq_div_pow]; omega
  clear hx
  go_enter Tryz.func120, Tryz.ntmps120
  go_wp2_with fail
  go_loopw [3, 4] (fun v i wr => ∃ k : Nat, ∃ l : List Int, k ≤ 8 ∧ i = .int .i64 k ∧ l.length ≤ k ∧ Own iv 1 3 w.heap.size wr v l ∧ colsN x = l ++ colsFrom x k (8 - k) ∧ Below w.heap.size w wr) (fun _ i _ => 8 - (intOf i).toNat)
  case atStart => exact ⟨0, [], by omega, rfl, by simp, Own.nil _ _ _ _ _, rfl, Below.refl _ _⟩
  case round =>
    obtain ⟨k, l, hk, rfl, hlen, hown, he, hB⟩ := hrel
    obtain ⟨A, cap, rfl⟩ := hown.shape
    have HO := Lib.hid hown
    have HB := Lib.hid hB
    have HE := Lib.hid he
    clear hown hB he
    have hs := shr_nat x k
    have h0 : (0 : Int) ≤ k := by omega
    have h64 : (k : Int) ≤ 64 := by omega
    by_cases hz : x >>> k = 0
    · have HR : Hid (colsN x = l) := by show _ = _; rw [HE.out, colsFrom_shr _ _ hz, List.append_nil]
      rw [hz] at hs
      clear hz
      go_wp2_with fail
      go_ret
      exact ⟨_, rfl, by rw [HR.out]; exact HO.out, HB.out⟩
    · have hlt : k < 8 := by
        rcases Nat.lt_or_ge k 8 with h | h
        · exact h
        · have : k = 8 := by omega
          subst this
          exact absurd H8.out hz
      have e8 : 8 - k = (8 - (k + 1)) + 1 := by omega
      rw [e8, colsFrom] at HE
      clear e8
      have hb := band_one (x := x) (c := k) (Nat.lt_trans HXL.out (by decide))
      generalize x >>> k = y at *
      have hpos : decide ((0 : Int) < (y : Int)) = true := by rw [decide_eq_true_eq]; omega
      have hpos' : decide (0 < y) = true := by rw [decide_eq_true_eq]; omega
      cases ht : x.testBit k with
      | true =>
        rw [ht] at hb HE
        clear ht
        simp only [if_true] at hb HE
        go_wp2_with (at_builtin; go_loud (refine wpList_app1 iv 1 3 _ 8 infoInt rfl (by decide) rfl _ _ _ rfl Tryz.underlying32 w.heap.size _ l rfl (HO.out.alloc _) (k : Int) _ _ rfl rfl (newAt _ _ _ _ (by simp)) (by simp [iv, Value.oneCell']) (by omega) (by unfold maxLen; omega) (by have := HB.out.size; simp; omega) (fun v4 w4 hown4 hg4 _ => ?_)))
        exact ⟨⟨k + 1, l ++ [(k : Int)], by omega, by go_num, by simp; omega, hown4, by rw [HE.out]; simp, below_row (HB.out.alloc HB.out.size _) hg4 (fun g e => (HO.out.blk g e).1)⟩, by simp [intOf]; omega⟩
      | false =>
        rw [ht] at hb HE
        clear ht
        simp only [Bool.false_eq_true, if_false] at hb HE
        go_wp2_with fail
        exact ⟨⟨k + 1, l, by omega, by go_num, by omega, HO.out, HE.out, HB.out⟩, by simp [intOf]; omega⟩
end Go.Proofs.Bg
end

section
/- Contracts: ref in, Set. -/
namespace Go.Proofs.Bg
open Go.RowKit

def inB (x lo hi : Int) : Bool := decide (lo ≤ x) && decide (x ≤ hi)
set_option maxRecDepth 100000 in
theorem inR_any (x lo hi : Int) (w : World) :
    Calls Tryz.prog 113 #[.int .i64 x, .int .i64 lo, .int .i64 hi] w fun e w' => e = .returned (.bool (inB x lo hi)) ∧ DrN w w' := by
  by_cases h1 : lo ≤ x
  · have e1 : decide (lo ≤ x) = true := by simpa using h1
    have HR : Hid (inB x lo hi = decide (x ≤ hi)) := by show _ = _; unfold inB; rw [e1, Bool.true_and]
    clear h1
    go_enter Tryz.func113, Tryz.ntmps113
    go_wp2_with fail
    go_ret
    rw [HR.out]
    exact ⟨rfl, DrN.refl _⟩
  · have e1 : decide (lo ≤ x) = false := by simpa using h1
    have HR : Hid (inB x lo hi = false) := by show _ = _; unfold inB; rw [e1, Bool.false_and]
    clear h1
    go_enter Tryz.func113, Tryz.ntmps113
    go_wp2_with fail
    go_ret
    rw [HR.out]
    exact ⟨rfl, DrN.refl _⟩

set_option maxRecDepth 100000 in
set_option maxHeartbeats 4000000 in
theorem SetR_any (A : Option Addr) (n cap : Nat) (N : Int) (l : List Int) (w : World) (hA : Rd iv 1 w 0 A n l) (hN : -9223372036854775808 < N ∧ N ≤ 9223372036854775807) :
    Calls Tryz.prog 110 #[.slice A n cap, .int .i64 N] w fun e w' => e = .returned (.bool (setB l N)) ∧ DrN w w' := by
  have HA := Lib.hid hA
  have hle := hA.le
  have hwN : IntKind.i64.wrap (N - 1) = N - 1 := IntWalk.i64_in _ (by omega)
  clear hA
  go_enter Tryz.func110, Tryz.ntmps110
  go_wp2_with fail
  go_loopw [5] (fun i wr => ∃ k : Nat, k ≤ n ∧ i = .int .i64 k ∧ setB l N = setFrom (prevI l k) N (l.drop k) ∧ (-1 ≤ prevI l k) ∧ DrN w wr) (fun i _ => n - (intOf i).toNat)
  case atStart => exact ⟨0, by omega, rfl, rfl, by simp [prevI], DrN.refl _⟩
  case round =>
    obtain ⟨k, hk, rfl, he, hp, hD⟩ := hrel
    have HE := Lib.hid he
    have HD := Lib.hid hD
    clear he
    by_cases hlt : k < n
    · obtain ⟨b1, o1, x, hb, _, hx, c0⟩ := (HA.out.below hD.below).int_at hlt
      have HX := Lib.hid (drop_at hx)
      have HPS := Lib.hid (prevI_succ hx)
      clear hx
      rw [HX.out, setFrom] at HE
      subst hb
      have hi1 : (k : Int) < n := by omega
      have Q := Lib.hid (fun W => inR_any x 0 (N - 1) W)
      clear hD
      by_cases h0 : 0 ≤ x ∧ x < N
      · have HI : Hid (inB x 0 (N - 1) = true) := by
          show _ = _
          unfold inB
          rw [Bool.and_eq_true, decide_eq_true_eq, decide_eq_true_eq]
          omega
        rw [HI.out] at Q
        by_cases hk0 : k = 0
        · have HK := Lib.hid hk0
          have hg : decide ((0 : Int) < (k : Int)) = false := by rw [decide_eq_false_iff_not]; omega
          have hg' : decide (0 < k) = false := by rw [decide_eq_false_iff_not]; omega
          have HR : Hid (setB l N = setFrom (prevI l (k + 1)) N (l.drop (k + 1))) := by
            show _ = _
            have e1 : decide (prevI l k < x) = true := by rw [decide_eq_true_eq, HK.out]; simp [prevI]; omega
            have e2 : decide (0 ≤ x) = true := by rw [decide_eq_true_eq]; omega
            have e3 : decide (x < N) = true := by rw [decide_eq_true_eq]; omega
            rw [HE.out, e1, e2, e3, HPS.out]
            rfl
          have HP1 : Hid (-1 ≤ prevI l (k + 1)) := by show _ ≤ _; rw [HPS.out]; omega
          clear h0 HE hk0 HI
          go_wp2_with fail
          go_quiet (first | (go_at_call 113; with_reducible exact Calls.quiet_of (Q.out _)))
          go_wp2_with fail
          exact ⟨⟨k + 1, by omega, by go_num, HR.out, HP1.out, HD.out.drewN _⟩, by simp [intOf]; omega⟩
        · obtain ⟨j, rfl⟩ : ∃ j, k = j + 1 := ⟨k - 1, by omega⟩
          obtain ⟨b2, o2, y, hb2, _, hy, d0⟩ := (HA.out.below HD.out.below).int_at (k := j) (by omega)
          cases hb2
          have HY := Lib.hid (prevI_succ hy)
          clear hy
          have hw : IntKind.i64.wrap ((j : Int) + 1 - 1) = (j : Int) := by rw [Int.add_sub_cancel]; exact IntWalk.i64_in _ (by omega)
          have hg : decide ((0 : Int) < (j : Int) + 1) = true := by rw [decide_eq_true_eq]; omega
          by_cases h2 : y < x
          · have HR : Hid (setB l N = setFrom (prevI l (j + 1 + 1)) N (l.drop (j + 1 + 1))) := by
              show _ = _
              have e1 : decide (prevI l (j + 1) < x) = true := by rw [decide_eq_true_eq, HY.out]; omega
              have e2 : decide (0 ≤ x) = true := by rw [decide_eq_true_eq]; omega
              have e3 : decide (x < N) = true := by rw [decide_eq_true_eq]; omega
              rw [HE.out, e1, e2, e3, HPS.out]
              rfl
            have HP1 : Hid (-1 ≤ prevI l (j + 1 + 1)) := by show _ ≤ _; rw [HPS.out]; omega
            have hd2 : decide (x ≤ y) = false := by rw [decide_eq_false_iff_not]; omega
            clear h0 h2 HE hp HI
            go_wp2_with fail
            go_quiet (first | (go_at_call 113; with_reducible exact Calls.quiet_of (Q.out _)))
            go_wp2_with fail
            exact ⟨⟨j + 1 + 1, by omega, by go_num, HR.out, HP1.out, HD.out.drewN _⟩, by simp [intOf]; omega⟩
          · have HR : Hid (setB l N = false) := by
              show _ = _
              have e1 : decide (prevI l (j + 1) < x) = false := by rw [decide_eq_false_iff_not, HY.out]; omega
              rw [HE.out, e1, Bool.false_and, Bool.false_and, Bool.false_and]
            have hd2 : decide (x ≤ y) = true := by rw [decide_eq_true_eq]; omega
            clear h0 h2 HE hp HI
            go_wp2_with fail
            go_quiet (first | (go_at_call 113; with_reducible exact Calls.quiet_of (Q.out _)))
            go_wp2_with fail
            go_ret
            exact ⟨ret_bool HR.out.symm, HD.out.drewN _⟩
      · have HI : Hid (inB x 0 (N - 1) = false) := by
          show _ = _
          unfold inB
          rw [Bool.and_eq_false_iff, decide_eq_false_iff_not, decide_eq_false_iff_not]
          omega
        rw [HI.out] at Q
        have HR : Hid (setB l N = false) := by
          show _ = _
          have hd : (decide (0 ≤ x) && decide (x < N)) = false := by
            rw [Bool.and_eq_false_iff, decide_eq_false_iff_not, decide_eq_false_iff_not]
            omega
          rw [HE.out, Bool.and_assoc, Bool.and_assoc, ← Bool.and_assoc (decide (0 ≤ x)), hd, Bool.false_and, Bool.and_false]
        clear h0 HE hp HI
        go_wp2_with fail
        go_quiet (first | (go_at_call 113; with_reducible exact Calls.quiet_of (Q.out _)))
        go_wp2_with fail
        go_ret
        exact ⟨ret_bool HR.out.symm, HD.out.drewN _⟩
    · have hk' : k = n := by omega
      subst hk'
      have HR : Hid (setB l N = true) := by
        show _ = _
        rw [HE.out, (List.drop_eq_nil_of_le (by rw [HA.out.len]; exact Nat.le_refl _) : l.drop k = []), setFrom]
      clear hlt
      go_wp2_with fail
      go_ret
      exact ⟨ret_bool HR.out.symm, HD.out⟩
end Go.Proofs.Bg
end

section
/- Contracts: ref Place, Within. -/
namespace Go.Proofs.Bg
open Go.RowKit

/-- The place of a number, or -1. -/
def placeFrom (n : Int) : Nat → List Int → Int
  | _, [] => -1
  | k, x :: r => if x = n then (k : Int) else placeFrom n (k + 1) r
def placeI (l : List Int) (n : Int) : Int := placeFrom n 0 l
theorem placeFrom_spec (n : Int) : ∀ (l : List Int) (k : Nat), (placeFrom n k l = -1 ∧ n ∉ l) ∨ (∃ i, placeFrom n k l = ((k + i : Nat) : Int) ∧ l[i]? = some n)
  | [], k => .inl ⟨rfl, by simp⟩
  | x :: r, k => by
    rw [placeFrom]
    by_cases h : x = n
    · rw [if_pos h]
      exact .inr ⟨0, by simp, by simp [h]⟩
    · rw [if_neg h]
      rcases placeFrom_spec n r (k + 1) with ⟨h1, h2⟩ | ⟨i, h1, h2⟩
      · exact .inl ⟨h1, fun hm => by
          rcases List.mem_cons.1 hm with e | e
          · exact h e.symm
          · exact h2 e⟩
      · exact .inr ⟨i + 1, by rw [h1]; omega, by simpa using h2⟩
theorem placeI_spec (l : List Int) (n : Int) : (placeI l n = -1 ∧ n ∉ l) ∨ (∃ i : Nat, placeI l n = (i : Int) ∧ l[i]? = some n) := by
  rcases placeFrom_spec n l 0 with h | ⟨i, h1, h2⟩
  · exact .inl h
  · exact .inr ⟨i, by rw [placeI, h1]; omega, h2⟩
theorem placeI_neg (l : List Int) (n : Int) : decide (placeI l n < 0) = !decide (n ∈ l) := by
  rcases placeI_spec l n with ⟨h1, h2⟩ | ⟨i, h1, h2⟩
  · rw [h1]; simp [h2]
  · have : n ∈ l := List.mem_of_getElem? h2
    rw [h1]
    simp [this]

set_option maxRecDepth 100000 in
theorem Place_any (A : Option Addr) (n cap : Nat) (x : Int) (l : List Int) (w : World) (hA : Rd iv 1 w 0 A n l) :
    Calls Tryz.prog 68 #[.slice A n cap, .int .i64 x] w fun e w' => e = .returned (.int .i64 (placeI l x)) ∧ w' = w := by
  have HA := Lib.hid hA
  have hle := hA.le
  clear hA
  go_enter Tryz.func68, Tryz.ntmps68
  go_wp2_with fail
  go_loopw [5] (fun i wr => ∃ k : Nat, k ≤ n ∧ i = .int .i64 k ∧ placeI l x = placeFrom x k (l.drop k) ∧ wr = w) (fun i _ => n - (intOf i).toNat)
  case atStart => exact ⟨0, by omega, rfl, rfl, rfl⟩
  case round =>
    obtain ⟨k, hk, rfl, he, rfl⟩ := hrel
    have HE := Lib.hid he
    clear he
    by_cases hlt : k < n
    · obtain ⟨b1, o1, y, hb, _, hx, c0⟩ := HA.out.int_at hlt
      have HX := Lib.hid (drop_at hx)
      clear hx
      rw [HX.out, placeFrom] at HE
      subst hb
      have hi1 : (k : Int) < n := by omega
      by_cases h0 : y = x
      · have HR : Hid (placeI l x = (k : Int)) := by show _ = _; rw [HE.out, if_pos h0]
        have e0 : (y == x) = true := by simpa using h0
        clear h0 HE
        go_wp2_with fail
        go_ret
        rw [HR.out]
        exact ⟨rfl, rfl⟩
      · have HR : Hid (placeI l x = placeFrom x (k + 1) (l.drop (k + 1))) := by show _ = _; rw [HE.out, if_neg h0]
        have e0 : (y == x) = false := by simpa using h0
        clear h0 HE
        go_wp2_with fail
        exact ⟨⟨k + 1, by omega, by go_num, HR.out, by first | rfl | trivial⟩, by simp [intOf]; omega⟩
    · have hk' : k = n := by omega
      subst hk'
      have HR : Hid (placeI l x = -1) := by
        show _ = _
        rw [HE.out, (List.drop_eq_nil_of_le (by rw [HA.out.len]; exact Nat.le_refl _) : l.drop k = []), placeFrom]
      clear hlt
      go_wp2_with fail
      go_ret
      rw [HR.out]
      exact ⟨rfl, rfl⟩

def withinB (l m : List Int) : Bool := l.all fun x => decide (x ∈ m)
set_option maxRecDepth 100000 in
theorem Within_any (A B : Option Addr) (n m capA capB : Nat) (l o : List Int) (w : World) (hA : Rd iv 1 w 0 A n l) (hB : Rd iv 1 w 0 B m o) :
    Calls Tryz.prog 111 #[.slice A n capA, .slice B m capB] w fun e w' => e = .returned (.bool (withinB l o)) ∧ w' = w := by
  have HA := Lib.hid hA
  have hle := hA.le
  have Q := Lib.hid (fun x => Place_any B m capB x o w hB)
  clear hA hB
  go_enter Tryz.func111, Tryz.ntmps111
  go_wp2_with fail
  go_loopw [5] (fun i wr => ∃ k : Nat, k ≤ n ∧ i = .int .i64 k ∧ withinB l o = withinB (l.drop k) o ∧ wr = w) (fun i _ => n - (intOf i).toNat)
  case atStart => exact ⟨0, by omega, rfl, rfl, rfl⟩
  case round =>
    obtain ⟨k, hk, rfl, he, rfl⟩ := hrel
    have HE := Lib.hid he
    clear he
    by_cases hlt : k < n
    · obtain ⟨b1, o1, y, hb, _, hx, c0⟩ := HA.out.int_at hlt
      have HX := Lib.hid (drop_at hx)
      clear hx
      rw [HX.out] at HE
      subst hb
      have hi1 : (k : Int) < n := by omega
      have HP := Lib.hid (placeI_neg o y)
      have Q1 := Lib.hid (Q.out y)
      by_cases h0 : y ∈ o
      · have HR : Hid (withinB l o = withinB (l.drop (k + 1)) o) := by show _ = _; rw [HE.out]; simp [withinB, h0]
        have e0 : decide (placeI o y < 0) = false := by rw [HP.out]; simp [h0]
        generalize placeI o y = pl at *
        clear h0 HE HP Q
        go_wp2_with fail
        (with_reducible refine Q1.out.mono ?_)
        rintro e w2 ⟨rfl, rfl⟩
        go_wp2_with fail
        exact ⟨⟨k + 1, by omega, by go_num, HR.out, by first | rfl | trivial⟩, by simp [intOf]; omega⟩
      · have HR : Hid (withinB l o = false) := by show _ = _; rw [HE.out]; simp [withinB, h0]
        have e0 : decide (placeI o y < 0) = true := by rw [HP.out]; simp [h0]
        generalize placeI o y = pl at *
        clear h0 HE HP Q
        go_wp2_with fail
        (with_reducible refine Q1.out.mono ?_)
        rintro e w2 ⟨rfl, rfl⟩
        go_wp2_with fail
        go_ret
        exact ⟨ret_bool HR.out.symm, rfl⟩
    · have hk' : k = n := by omega
      subst hk'
      have HR : Hid (withinB l o = true) := by
        show _ = _
        rw [HE.out, (List.drop_eq_nil_of_le (by rw [HA.out.len]; exact Nat.le_refl _) : l.drop k = [])]
        rfl
      clear hlt
      go_wp2_with fail
      go_ret
      exact ⟨ret_bool HR.out.symm, rfl⟩
end Go.Proofs.Bg
end

section
/- Contract: ref agree. -/
namespace Go.Proofs.Bg
open Go.RowKit

def agreeG (cols ra rb cs : List Int) : Bool := cs.all fun c => decide (ra.getD (placeI cols c).toNat 0 = rb.getD (placeI cols c).toNat 0)
set_option maxRecDepth 100000 in
set_option maxHeartbeats 4000000 in
theorem agree_any (t : Tb) (T : PT) (i j : Nat) (s : Sl) (cs ra rb : List Int) (w : World) (ht : TabAt w 0 t T) (hs : IntsAt w 0 s cs) (hi : T.rows[i]? = some ra) (hj : T.rows[j]? = some rb) (hla : ra.length = T.cols.length) (hlb : rb.length = T.cols.length) (hc : ∀ c ∈ cs, c ∈ T.cols) :
    Calls Tryz.prog 143 #[.agg #[.slice t.cols.A t.cols.n t.cols.cap, .slice t.rows.A t.rows.n t.rows.cap], .int .i64 (i : Nat), .int .i64 (j : Nat), .slice s.A s.n s.cap] w fun e w' => e = .returned (.bool (agreeG T.cols ra rb cs)) ∧ Below w.heap.size w w' := by
  obtain ⟨⟨cA, cn, ck⟩, ⟨rA, rn, rk⟩⟩ := t
  obtain ⟨A, n, cap⟩ := s
  have HT := Lib.hid ht
  have HS := Lib.hid hs
  have hle : n ≤ 9223372036854775807 := hs.le
  have HN : Hid (cs.length = n) := hs.len
  have hrn : T.rows.length = rn := ht.2.len
  have hcn : T.cols.length = cn := ht.1.len
  have hin : i < rn := by rw [← hrn]; exact (List.getElem?_eq_some_iff.1 hi).1
  have hjn : j < rn := by rw [← hrn]; exact (List.getElem?_eq_some_iff.1 hj).1
  have hb0 := below_new w (.cells #[.slice cA cn ck, .slice rA rn rk] 40)
  have hn0 := new_block w #[.slice cA cn ck, .slice rA rn rk] 40
  obtain ⟨W0, hW0⟩ : ∃ W0, w.alloc (.cells #[.slice cA cn ck, .slice rA rn rk] 40) = W0 := ⟨_, rfl⟩
  rw [hW0] at hb0 hn0
  have HB0 := Lib.hid hb0
  have HN0 := Lib.hid hn0
  have HW0 := Lib.hid hW0
  have HI := Lib.hid hi
  have HJ := Lib.hid hj
  have HC := Lib.hid hc
  clear ht hs hb0 hn0 hW0 hi hj hc
  go_enter Tryz.func143, Tryz.ntmps143
  go_wp2_with fail
  rw [HW0.out]
  go_loopw [9] (fun i wr => ∃ k : Nat, k ≤ n ∧ i = .int .i64 k ∧ agreeG T.cols ra rb cs = agreeG T.cols ra rb (cs.drop k) ∧ DrN W0 wr) (fun i _ => n - (intOf i).toNat)
  case atStart => exact ⟨0, by omega, rfl, rfl, DrN.refl _⟩
  case round =>
    obtain ⟨k, hk, rfl, he, hD⟩ := hrel
    have HE := Lib.hid he
    have HDR := Lib.hid hD
    have hbD := bchain HB0.out hD.below
    have hbx := (hD.below.block _ (Array.getElem?_eq_some_iff.1 HN0.out).1).trans HN0.out
    have c0 := cell_at_block (off := 0) hbx rfl
    have c1 := cell_at_block (off := 1) hbx rfl
    have HBD := Lib.hid hbD
    clear he
    by_cases hlt : k < n
    · obtain ⟨b1, o1, y, hb, _, hx, d0⟩ := (HS.out.below hbD).int_at hlt
      have HX := Lib.hid (drop_at hx)
      simp only [] at hb
      subst hb
      rw [HX.out] at HE
      have hk1 : (k : Int) < n := by omega
      have hk0 : (0 : Int) ≤ k := by omega
      have hmem : y ∈ T.cols := HC.out y (List.mem_of_getElem? hx)
      obtain ⟨p, hp1, hp2⟩ : ∃ p : Nat, placeI T.cols y = (p : Int) ∧ T.cols[p]? = some y := by
        rcases placeI_spec T.cols y with ⟨_, h2⟩ | h
        · exact absurd hmem h2
        · exact h
      have hpl : p < T.cols.length := (List.getElem?_eq_some_iff.1 hp2).1
      have htw := HT.out.below hbD
      obtain ⟨b2, o2, sa, xa, e2, -, hxa, r0, hsa⟩ := htw.2.at_ (k := i) hin
      obtain ⟨b3, o3, sb, xb, e3, -, hxb, r1, hsb⟩ := htw.2.at_ (k := j) hjn
      (try simp only [] at e2 e3)
      subst e2
      cases e3

      rw [HI.out] at hxa
      rw [HJ.out] at hxb
      cases hxa
      cases hxb
      have hna : ra.length = sa.n := hsa.len
      have hnb : rb.length = sb.n := hsb.len
      have hpa : p < sa.n := by omega
      have hpb : p < sb.n := by omega
      obtain ⟨b4, o4, va, e4, -, hva, v0⟩ := hsa.int_at hpa
      obtain ⟨b5, o5, vb, e5, -, hvb, v1⟩ := hsb.int_at hpb
      have hga : ra.getD p 0 = va := by simp [hva]
      have hgb : rb.getD p 0 = vb := by simp [hvb]
      have hi1 : (i : Int) < rn := by omega
      have hj1 : (j : Int) < rn := by omega
      have hp1' : (p : Int) < sa.n := by omega
      have hp2' : (p : Int) < sb.n := by omega
      have Q := Lib.hid (fun q => (Place_any cA cn ck y T.cols (wr.drewN q) (htw.1.below (below_drewN (Below.refl _ _) q))).mono (R' := fun e w' => e = .returned (.int .i64 (p : Nat)) ∧ DrN (wr.drewN q) w') (fun e w' h => by obtain ⟨h1, h2⟩ := h; subst h2; rw [h1, hp1]; exact ⟨rfl, DrN.refl _⟩))
      have HR0 : Hid (agreeG T.cols ra rb cs = (decide (va = vb) && agreeG T.cols ra rb (cs.drop (k + 1)))) := by
        show _ = _
        rw [HE.out]
        unfold agreeG
        rw [List.all_cons, hp1, Int.toNat_natCast, hga, hgb]
      obtain ⟨saA, san, sac⟩ := sa
      obtain ⟨sbA, sbn, sbc⟩ := sb
      (try simp only [] at e4); (try simp only [] at e5); (try simp only [] at r0); (try simp only [] at r1); (try simp only [] at hp1'); (try simp only [] at hp2'); (try simp only [] at hpa); (try simp only [] at hpb)
      subst e4 e5
      clear hD hbD hbx hx hmem hp1 hp2 htw hsa hsb hva hvb hga hgb HE hna hnb
      by_cases hv : va = vb
      · have HR : Hid (agreeG T.cols ra rb cs = agreeG T.cols ra rb (cs.drop (k + 1))) := by show _ = _; rw [HR0.out, decide_eq_true hv, Bool.true_and]
        have e6 : (va != vb) = false := by simp [hv]
        clear hv HR0
        go_wp2_with fail
        go_quiet (first | (go_at_call 68; with_reducible exact Calls.quiet_of (Q.out _)))
        go_wp2_with fail
        go_quiet (fail)
        go_wp2_with fail
        exact ⟨⟨k + 1, by omega, by go_num, HR.out, HDR.out.drewN _⟩, by simp [intOf]; omega⟩
      · have HR : Hid (agreeG T.cols ra rb cs = false) := by show _ = _; rw [HR0.out, decide_eq_false hv, Bool.false_and]
        have e6 : (va != vb) = true := by simp [hv]
        clear hv HR0
        go_wp2_with fail
        go_quiet (first | (go_at_call 68; with_reducible exact Calls.quiet_of (Q.out _)))
        go_wp2_with fail
        go_quiet (fail)
        go_wp2_with fail
        go_ret
        exact ⟨ret_bool HR.out.symm, bchain HB0.out ((HDR.out.drewN _).drewN _).below⟩
    · have hk' : k = n := by omega
      have HR : Hid (agreeG T.cols ra rb cs = true) := by
        show _ = _
        rw [HE.out, (List.drop_eq_nil_of_le (by rw [HN.out]; omega) : cs.drop k = [])]
        rfl
      clear hlt hD hbD hbx
      subst hk'
      go_wp2_with fail
      go_ret
      exact ⟨ret_bool HR.out.symm, HBD.out⟩
end Go.Proofs.Bg
end

section
/- Plain words: every chase of the same rows ends in the same rows. No program in sight. -/
namespace Go.Proofs.Bg
open Go.RowKit

abbrev Mx := Nat → Int → Int
def turnM (t : Int) (y x : Int) (M : Mx) : Mx := fun i c => if c = t ∧ M i c = y then x else M i c
inductive ChSteps (m : Nat) (rules : List PF) (M0 : Mx) : Mx → Prop
  | refl : ChSteps m rules M0 M0
  | step {M : Mx} (r : PF) (a b : Nat) (h : ChSteps m rules M0 M) (hr : r ∈ rules) (ha : a < m) (hb : b < m) (hf : ∀ c ∈ r.from_, M a c = M b c) (hl : M a r.to_ < M b r.to_) : ChSteps m rules M0 (turnM r.to_ (M b r.to_) (M a r.to_) M)
def ChStuck (m : Nat) (rules : List PF) (M : Mx) : Prop := ∀ r ∈ rules, ∀ a b, a < m → b < m → (∀ c ∈ r.from_, M a c = M b c) → M a r.to_ = M b r.to_
structure ChInv (m : Nat) (rules : List PF) (M0 M : Mx) : Prop where
  le : ∀ i c, i < m → M i c ≤ M0 i c
  rep : ∀ i c, i < m → ∃ k, k < m ∧ M k c = M i c ∧ M0 k c = M i c
  keep : ∀ i j c, M0 i c = M0 j c → M i c = M j c
  least : ∀ N : Mx, ChStuck m rules N → (∀ i j c, i < m → j < m → M0 i c = M0 j c → N i c = N j c) → ∀ i j c, i < m → j < m → M i c = M j c → N i c = N j c
theorem chInv {m : Nat} {rules : List PF} {M0 M : Mx} (h : ChSteps m rules M0 M) : ChInv m rules M0 M := by
  induction h with
  | refl => exact ⟨fun i c _ => Int.le_refl _, fun i c hi => ⟨i, hi, rfl, rfl⟩, fun i j c h => h, fun N _ h i j c hi hj e => h i j c hi hj e⟩
  | @step M r a b _ hr ha hb hf hl ih =>
    refine ⟨fun i c hi => ?_, fun i c hi => ?_, fun i j c e => ?_, fun N hN hk i j c hi hj e => ?_⟩
    · have := ih.le i c hi
      unfold turnM
      split
      · rename_i h
        obtain ⟨rfl, h2⟩ := h
        omega
      · exact this
    · by_cases h : c = r.to_ ∧ M i c = M b r.to_
      · obtain ⟨rfl, h2⟩ := h
        obtain ⟨k, hk, k1, k2⟩ := ih.rep a r.to_ ha
        refine ⟨k, hk, ?_, ?_⟩
        · unfold turnM
          rw [if_neg (by rintro ⟨_, h3⟩; omega), if_pos ⟨rfl, h2⟩, k1]
        · unfold turnM
          rw [if_pos ⟨rfl, h2⟩, k2]
      · obtain ⟨k, hk, k1, k2⟩ := ih.rep i c hi
        refine ⟨k, hk, ?_, ?_⟩
        · unfold turnM
          rw [if_neg h, if_neg (by rw [k1]; exact h), k1]
        · unfold turnM
          rw [if_neg h, k2]
    · have := ih.keep i j c e
      unfold turnM
      rw [this]
    · have hab : N a r.to_ = N b r.to_ := hN r hr a b ha hb fun d hd => ih.least N hN hk a b d ha hb (hf d hd)
      unfold turnM at e
      by_cases h1 : c = r.to_ ∧ M i c = M b r.to_
      · rw [if_pos h1] at e
        obtain ⟨rfl, h2⟩ := h1
        have n1 := ih.least N hN hk i b _ hi hb h2
        by_cases h3 : r.to_ = r.to_ ∧ M j r.to_ = M b r.to_
        · have n2 := ih.least N hN hk j b _ hj hb h3.2
          rw [n1, n2]
        · rw [if_neg h3] at e
          have n2 := ih.least N hN hk a j _ ha hj e
          rw [n1, ← hab, n2]
      · rw [if_neg h1] at e
        by_cases h3 : c = r.to_ ∧ M j c = M b r.to_
        · rw [if_pos h3] at e
          obtain ⟨rfl, h4⟩ := h3
          have n1 := ih.least N hN hk i a _ hi ha e
          have n2 := ih.least N hN hk j b _ hj hb h4
          rw [n1, hab, n2]
        · rw [if_neg h3] at e
          exact ih.least N hN hk i j c hi hj e
/-- The end of a chase is one. -/
theorem ch_unique {m : Nat} {rules : List PF} {M0 M M' : Mx} (h : ChSteps m rules M0 M) (h' : ChSteps m rules M0 M') (hs : ChStuck m rules M) (hs' : ChStuck m rules M') : ∀ i c, i < m → M i c = M' i c := by
  have i1 := chInv h
  have i2 := chInv h'
  intro i c hi
  have key : ∀ {A B : Mx}, ChInv m rules M0 A → ChInv m rules M0 B → ChStuck m rules B → B i c ≤ A i c := fun {A B} ia ib hsB => by
    obtain ⟨k, hk, k1, k2⟩ := ia.rep i c hi
    have e := ia.least B hsB (fun i j c _ _ e => ib.keep i j c e) k i c hk hi k1
    have := ib.le k c hk
    omega
  have a1 := key i1 i2 hs'
  have a2 := key i2 i1 hs
  omega
end Go.Proofs.Bg
end

section
/- Plain words: the program's chase is a chase of the matrix. No program in sight. -/
namespace Go.Proofs.Bg
open Go.RowKit

def mx (R : List (List Int)) : Mx := fun i c => if 0 ≤ c then colI (rowI R i) c else 0
theorem rowI_turn {t y x : Int} {R : List (List Int)} {i : Nat} (hi : i < R.length) : rowI (turnRows t y x R) i = turnRow t y x (rowI R i) := by
  simp [rowI, turnRows, hi]
theorem rowI_out {R : List (List Int)} {i : Nat} (hi : ¬ i < R.length) : rowI R i = [] := by
  simp [rowI, Nat.not_lt.1 hi]
theorem colI_turn {n : Nat} {t y x c : Int} {r : List Int} (hr : r.length = n) (ht : 0 ≤ t) (ht2 : t < n) (hc : 0 ≤ c) : colI (turnRow t y x r) c = if c = t ∧ colI r c = y then x else colI r c := by
  unfold turnRow
  by_cases h : colI r t = y
  · rw [if_pos h]
    by_cases hct : c = t
    · subst hct
      rw [if_pos ⟨rfl, h⟩]
      have : c.toNat < r.length := by omega
      simp [colI, this]
    · rw [if_neg (fun hh => hct hh.1)]
      have : t.toNat ≠ c.toNat := by omega
      simp [colI, List.getElem?_set_ne this]
  · rw [if_neg h]
    by_cases hct : c = t
    · subst hct
      rw [if_neg (fun hh => h hh.2)]
    · rw [if_neg (fun hh => hct hh.1)]
theorem mx_turn {n : Nat} {R : List (List Int)} {t y x : Int} (h : ChOk n R) (ht : 0 ≤ t) (ht2 : t < n) (hy : y ≠ 0) : mx (turnRows t y x R) = turnM t y x (mx R) := by
  funext i c
  show (if 0 ≤ c then colI (rowI (turnRows t y x R) i) c else 0) = if c = t ∧ (if 0 ≤ c then colI (rowI R i) c else 0) = y then x else (if 0 ≤ c then colI (rowI R i) c else 0)
  by_cases hc : 0 ≤ c
  · simp only [if_pos hc]
    by_cases hi : i < R.length
    · rw [rowI_turn hi, colI_turn (h _ (rowI_mem hi)).1 ht ht2 hc]
    · rw [rowI_out hi, rowI_out (by rw [turnRows_len]; exact hi)]
      rw [if_neg]
      rintro ⟨_, h2⟩
      simp [colI] at h2
      exact hy h2.symm
  · simp only [if_neg hc]
    rw [if_neg]
    rintro ⟨h2, _⟩
    omega
theorem mx_at {R : List (List Int)} {i : Nat} {c : Int} (hc : 0 ≤ c) : mx R i c = colI (rowI R i) c := if_pos hc
theorem stepR_steps {n : Nat} {rules : List PF} {M0 : Mx} {r : PF} {i j : Nat} {R : List (List Int)} (h : ChOk n R) (hr : ruleB n r = true) (hm : r ∈ rules) (hi : i < R.length) (hj : j < R.length) (hs : ChSteps R.length rules M0 (mx R)) : ChSteps R.length rules M0 (mx (stepR r i j R)) := by
  have hr' := hr
  simp only [ruleB, Bool.and_eq_true, decide_eq_true_eq] at hr'
  obtain ⟨⟨hset, h0⟩, hlt⟩ := hr'
  have n1 := colI_nonneg (h _ (rowI_mem hi)) r.to_
  have n2 := colI_nonneg (h _ (rowI_mem hj)) r.to_
  unfold stepR
  by_cases hb : stepB r (rowI R i) (rowI R j) = true
  · rw [if_pos hb]
    simp only [stepB, agreeB, Bool.and_eq_true, decide_eq_true_eq, List.all_eq_true] at hb
    obtain ⟨hf, hne⟩ := hb
    have hfc : ∀ c ∈ r.from_, mx R i c = mx R j c := fun c hc => by
      rw [mx_at (setB_mem hset c hc).1, mx_at (setB_mem hset c hc).1]
      exact hf c hc
    by_cases hl : colI (rowI R i) r.to_ < colI (rowI R j) r.to_
    · have := ChSteps.step r i j hs hm hi hj hfc (by rw [mx_at h0, mx_at h0]; exact hl)
      rw [mx_at h0, mx_at h0, ← mx_turn h h0 hlt (by omega)] at this
      unfold maxI minI
      rw [if_pos hl, if_neg (by omega)]
      exact this
    · have hl2 : colI (rowI R j) r.to_ < colI (rowI R i) r.to_ := by omega
      have := ChSteps.step r j i hs hm hj hi (fun c hc => (hfc c hc).symm) (by rw [mx_at h0, mx_at h0]; exact hl2)
      rw [mx_at h0, mx_at h0, ← mx_turn h h0 hlt (by omega)] at this
      unfold maxI minI
      rw [if_neg hl, if_pos hl2]
      exact this
  · rw [if_neg hb]
    exact hs
theorem pairsTo_steps {n m : Nat} {rules : List PF} {M0 : Mx} {r : PF} {i : Nat} (hr : ruleB n r = true) (hm : r ∈ rules) : ∀ (k : Nat) {R : List (List Int)}, R.length = m → ChOk n R → i < m → k ≤ i → ChSteps m rules M0 (mx R) → ChSteps m rules M0 (mx (pairsTo r i k R))
  | 0, _, _, _, _, _, hs => hs
  | k + 1, R, hR, h, hi, hk, hs => by
    obtain ⟨h1, h2, _, _⟩ := pairsTo_ok hr k h (i := i) (by omega) (by omega)
    have h3 := pairsTo_steps hr hm k hR h hi (by omega) hs
    have hl : (pairsTo r i k R).length = m := by omega
    rw [pairsTo]
    have := stepR_steps (M0 := M0) (i := i) (j := k) h1 hr hm (by omega) (by omega) (by rw [hl]; exact h3)
    rw [hl] at this
    exact this
theorem ruleTo_steps {n m : Nat} {rules : List PF} {M0 : Mx} {r : PF} (hr : ruleB n r = true) (hm : r ∈ rules) : ∀ (i : Nat) {R : List (List Int)}, R.length = m → ChOk n R → i ≤ m → ChSteps m rules M0 (mx R) → ChSteps m rules M0 (mx (ruleTo r i R))
  | 0, _, _, _, _, hs => hs
  | i + 1, R, hR, h, hi, hs => by
    obtain ⟨h1, h2, _, _⟩ := ruleTo_ok hr i h (by omega)
    have h3 := ruleTo_steps hr hm i hR h (by omega) hs
    rw [ruleTo]
    exact pairsTo_steps hr hm i (by omega) h1 (by omega) (Nat.le_refl _) h3
theorem chaseRound_steps {n m : Nat} {rules : List PF} {M0 : Mx} : ∀ {l : List PF}, (∀ r ∈ l, ruleB n r = true) → (∀ r ∈ l, r ∈ rules) → ∀ {R : List (List Int)}, R.length = m → ChOk n R → ChSteps m rules M0 (mx R) → ChSteps m rules M0 (mx (chaseRound l R))
  | [], _, _, _, _, _, hs => hs
  | r :: l, hl, hm, R, hR, h, hs => by
    obtain ⟨h1, h2, _, _⟩ := ruleTo_ok (hl r (by simp)) R.length h (Nat.le_refl _)
    rw [chaseRound]
    exact chaseRound_steps (fun x hx => hl x (by simp [hx])) (fun x hx => hm x (by simp [hx])) (by omega) h1 (ruleTo_steps (hl r (by simp)) (hm r (by simp)) R.length hR h (by omega) hs)
theorem chaseIt_steps {n m : Nat} {l : List PF} {M0 : Mx} (hl : ∀ r ∈ l, ruleB n r = true) : ∀ (f : Nat) {R : List (List Int)}, R.length = m → ChOk n R → ChSteps m l M0 (mx R) → ChSteps m l M0 (mx (chaseIt f l R))
  | 0, _, _, _, hs => hs
  | f + 1, R, hR, h, hs => by
    obtain ⟨q1, q2, _, _⟩ := chaseRound_ok hl h
    rw [chaseIt]
    split
    · exact hs
    · exact chaseIt_steps hl f (by omega) q1 (chaseRound_steps hl (fun _ hx => hx) hR h hs)
/-- The program's chase is one. -/
theorem chaseN_steps {n : Nat} {l : List PF} (hl : ∀ r ∈ l, ruleB n r = true) {R : List (List Int)} (h : ChOk n R) : ChSteps R.length l (mx R) (mx (chaseN l R)) := chaseIt_steps hl _ rfl h .refl
theorem pairsTo_still {n : Nat} {r : PF} {i : Nat} (hr : ruleB n r = true) : ∀ (k : Nat) {R : List (List Int)}, ChOk n R → i < R.length → k ≤ i → sumR (pairsTo r i k R) = sumR R → ∀ j, j < k → stepB r (rowI R i) (rowI R j) = false
  | 0, _, _, _, _, _, j, hj => by omega
  | k + 1, R, h, hi, hk, he, j, hj => by
    obtain ⟨h1, h2, h3, h4⟩ := pairsTo_ok hr k h hi (by omega)
    obtain ⟨q1, q2, q3, q4⟩ := stepR_ok (i := i) (j := k) h1 hr (by omega) (by omega)
    rw [pairsTo] at he
    cases hs : stepB r (rowI (pairsTo r i k R) i) (rowI (pairsTo r i k R) k) with
    | true =>
      have := q3 hs
      omega
    | false =>
      rw [q4 hs] at he
      have e := h4 he
      rw [e] at hs
      by_cases hjk : j = k
      · subst hjk; exact hs
      · exact pairsTo_still hr k h hi (by omega) he j (by omega)
theorem ruleTo_still {n : Nat} {r : PF} (hr : ruleB n r = true) : ∀ (i : Nat) {R : List (List Int)}, ChOk n R → i ≤ R.length → sumR (ruleTo r i R) = sumR R → ∀ a b, a < i → b < a → stepB r (rowI R a) (rowI R b) = false
  | 0, _, _, _, _, a, b, ha, _ => by omega
  | i + 1, R, h, hi, he, a, b, ha, hb => by
    obtain ⟨h1, h2, h3, h4⟩ := ruleTo_ok hr i h (by omega)
    obtain ⟨q1, q2, q3, q4⟩ := pairsTo_ok (i := i) hr i h1 (by omega) (Nat.le_refl _)
    rw [ruleTo] at he
    have e1 : sumR (ruleTo r i R) = sumR R := by omega
    have e2 := h4 e1
    by_cases hai : a = i
    · subst hai
      rw [e2] at he
      exact pairsTo_still hr a h (by omega) (Nat.le_refl _) he b hb
    · exact ruleTo_still hr i h (by omega) e1 a b (by omega) hb
theorem chaseRound_still {n : Nat} : ∀ {l : List PF}, (∀ r ∈ l, ruleB n r = true) → ∀ {R : List (List Int)}, ChOk n R → sumR (chaseRound l R) = sumR R → ∀ r ∈ l, ∀ a b, a < R.length → b < a → stepB r (rowI R a) (rowI R b) = false
  | [], _, _, _, _, r, hr => by simp at hr
  | q :: l, hl, R, h, he, r, hr => by
    obtain ⟨h1, h2, h3, h4⟩ := ruleTo_ok (hl q (by simp)) R.length h (Nat.le_refl _)
    obtain ⟨q1, q2, q3, q4⟩ := chaseRound_ok (l := l) (fun x hx => hl x (by simp [hx])) h1
    rw [chaseRound] at he
    have e1 : sumR (ruleTo q R.length R) = sumR R := by omega
    have e2 := h4 e1
    rcases List.mem_cons.1 hr with rfl | hr
    · intro a b ha hb
      exact ruleTo_still (hl r (by simp)) R.length h (Nat.le_refl _) e1 a b ha hb
    · rw [e2] at he
      exact chaseRound_still (fun x hx => hl x (by simp [hx])) h he r hr
theorem chaseN_fix {n : Nat} {l : List PF} (hl : ∀ r ∈ l, ruleB n r = true) : ∀ (f : Nat) {R : List (List Int)}, sumR R ≤ f → ChOk n R → chaseRound l (chaseN l R) = chaseN l R ∧ ChOk n (chaseN l R) ∧ (chaseN l R).length = R.length := by
  intro f
  induction f with
  | zero =>
    intro R hf h
    obtain ⟨q1, q2, q3, q4⟩ := chaseRound_ok hl h
    have e := q4 (by omega)
    rw [chaseN_step hl h, if_pos e]
    exact ⟨e, h, rfl⟩
  | succ f ih =>
    intro R hf h
    obtain ⟨q1, q2, q3, q4⟩ := chaseRound_ok hl h
    rw [chaseN_step hl h]
    by_cases e : chaseRound l R = R
    · rw [if_pos e]
      exact ⟨e, h, rfl⟩
    · rw [if_neg e]
      have hlt : sumR (chaseRound l R) < sumR R := by
        rcases Nat.lt_or_ge (sumR (chaseRound l R)) (sumR R) with h5 | h5
        · exact h5
        · exact absurd (q4 (by omega)) e
      obtain ⟨a1, a2, a3⟩ := ih (R := chaseRound l R) (by omega) q1
      exact ⟨a1, a2, by omega⟩
/-- The end of the program's chase is stuck. -/
theorem chaseN_stuck {n : Nat} {l : List PF} (hl : ∀ r ∈ l, ruleB n r = true) {R : List (List Int)} (h : ChOk n R) : ChStuck R.length l (mx (chaseN l R)) := by
  obtain ⟨a1, a2, a3⟩ := chaseN_fix hl (sumR R) (Nat.le_refl _) h
  have hs := chaseRound_still hl a2 (by rw [a1])
  rw [a3] at hs
  intro r hr a b ha hb hf
  have hr' := hl r hr
  simp only [ruleB, Bool.and_eq_true, decide_eq_true_eq] at hr'
  obtain ⟨⟨hset, h0⟩, _⟩ := hr'
  have key : ∀ x y, y < x → x < R.length → (∀ c ∈ r.from_, mx (chaseN l R) x c = mx (chaseN l R) y c) → mx (chaseN l R) x r.to_ = mx (chaseN l R) y r.to_ := fun x y hxy hx hfx => by
    have := hs r hr x y hx hxy
    rw [mx_at h0, mx_at h0]
    have hag : agreeB r.from_ (rowI (chaseN l R) x) (rowI (chaseN l R) y) = true := by
      unfold agreeB
      rw [List.all_eq_true]
      intro c hc
      rw [decide_eq_true_eq]
      have := hfx c hc
      rwa [mx_at (setB_mem hset c hc).1, mx_at (setB_mem hset c hc).1] at this
    unfold stepB at this
    rw [hag, Bool.true_and, decide_eq_false_iff_not] at this
    exact Classical.not_not.1 this
  rcases Nat.lt_trichotomy a b with h1 | h1 | h1
  · exact (key b a h1 hb fun c hc => (hf c hc).symm).symm
  · rw [h1]
  · exact key a b h1 ha hf
end Go.Proofs.Bg
end

section
/- Plain words: a chase in the reference's order ends where the program's does. No program in sight. -/
namespace Go.Proofs.Bg
open Go.RowKit

/-- A rule is used for two rows, the first of which has the lesser value. -/
def fireC (r : PF) (R : List (List Int)) (i j : Nat) : Bool := decide (colI (rowI R i) r.to_ < colI (rowI R j) r.to_) && agreeB r.from_ (rowI R i) (rowI R j)
def fired (r : PF) (R : List (List Int)) (i j : Nat) : List (List Int) := turnRows r.to_ (colI (rowI R j) r.to_) (colI (rowI R i) r.to_) R
theorem fire_steps {n m : Nat} {rules : List PF} {M0 : Mx} {r : PF} {i j : Nat} {R : List (List Int)} (h : ChOk n R) (hr : ruleB n r = true) (hm : r ∈ rules) (hR : R.length = m) (hi : i < m) (hj : j < m) (hs : ChSteps m rules M0 (mx R)) (hf : fireC r R i j = true) :
    ChSteps m rules M0 (mx (fired r R i j)) ∧ sumR (fired r R i j) < sumR R ∧ ChOk n (fired r R i j) ∧ (fired r R i j).length = m := by
  subst hR
  have hr' := hr
  simp only [ruleB, Bool.and_eq_true, decide_eq_true_eq] at hr'
  obtain ⟨⟨hset, h0⟩, hlt⟩ := hr'
  have n1 := colI_nonneg (h _ (rowI_mem hi)) r.to_
  have n2 := colI_nonneg (h _ (rowI_mem hj)) r.to_
  simp only [fireC, agreeB, Bool.and_eq_true, decide_eq_true_eq, List.all_eq_true] at hf
  obtain ⟨hl, hf⟩ := hf
  have hfc : ∀ c ∈ r.from_, mx R i c = mx R j c := fun c hc => by
    rw [mx_at (setB_mem hset c hc).1, mx_at (setB_mem hset c hc).1]
    exact hf c hc
  have h1 := ChSteps.step r i j hs hm hi hj hfc (by rw [mx_at h0, mx_at h0]; exact hl)
  rw [mx_at h0, mx_at h0, ← mx_turn h h0 hlt (by omega)] at h1
  exact ⟨h1, (turnRows_le h0 hlt n1 hl h).2 j hj rfl, turnRows_ok h n1, by unfold fired; rw [turnRows_len]⟩
theorem nofire_stuck {n m : Nat} {l : List PF} {R : List (List Int)} (hl : ∀ r ∈ l, ruleB n r = true) (hf : ∀ r ∈ l, ∀ i j, i < m → j < m → fireC r R i j = false) : ChStuck m l (mx R) := by
  intro r hr a b ha hb hfr
  have hr' := hl r hr
  simp only [ruleB, Bool.and_eq_true, decide_eq_true_eq] at hr'
  obtain ⟨⟨hset, h0⟩, _⟩ := hr'
  have key : ∀ x y, x < m → y < m → (∀ c ∈ r.from_, mx R x c = mx R y c) → ¬ colI (rowI R x) r.to_ < colI (rowI R y) r.to_ := fun x y hx hy hfx hlt => by
    have := hf r hr x y hx hy
    have hag : agreeB r.from_ (rowI R x) (rowI R y) = true := by
      unfold agreeB
      rw [List.all_eq_true]
      intro c hc
      rw [decide_eq_true_eq]
      have := hfx c hc
      rwa [mx_at (setB_mem hset c hc).1, mx_at (setB_mem hset c hc).1] at this
    unfold fireC at this
    rw [hag, decide_eq_true hlt] at this
    cases this
  have k1 := key a b ha hb hfr
  have k2 := key b a hb ha fun c hc => (hfr c hc).symm
  rw [mx_at h0, mx_at h0]
  omega
theorem chase_end {n : Nat} {l : List PF} {R0 R : List (List Int)} (hl : ∀ r ∈ l, ruleB n r = true) (h0 : ChOk n R0) (hR : ChOk n R) (hlen : R.length = R0.length) (hs : ChSteps R0.length l (mx R0) (mx R)) (hst : ChStuck R0.length l (mx R)) : R = chaseN l R0 := by
  obtain ⟨_, a2, a3⟩ := chaseN_fix hl (sumR R0) (Nat.le_refl _) h0
  have hu := ch_unique hs (chaseN_steps hl h0) hst (chaseN_stuck hl h0)
  refine List.ext_getElem (by omega) fun i hi1 hi2 => ?_
  have r1 : rowI R i = R[i] := by simp [rowI, hi1]
  have r2 : rowI (chaseN l R0) i = (chaseN l R0)[i] := by simp [rowI, hi2]
  have l1 := (hR _ (List.getElem_mem hi1)).1
  have l2 := (a2 _ (List.getElem_mem hi2)).1
  refine List.ext_getElem (by omega) fun c hc1 hc2 => ?_
  have := hu i (c : Int) (by omega)
  rw [mx_at (by omega), mx_at (by omega), r1, r2] at this
  simpa [colI, hc1, hc2] using this

theorem place_cols_all : ∀ n, n ≤ 8 → ∀ c, c < n → placeI (colsN (pw n - 1)) (c : Nat) = (c : Nat) := by decide +kernel
theorem mem_cols_all : ∀ n, n ≤ 8 → ∀ c, c < n → ((c : Nat) : Int) ∈ colsN (pw n - 1) := by decide +kernel
theorem len_cols_all : ∀ n, n ≤ 8 → (colsN (pw n - 1)).length = n := by decide +kernel

/-- No row comes before that of all zeros. -/
theorem zeros_first : ∀ (r : List Int), (∀ v ∈ r, 0 ≤ v) → ¬ lexC r (List.replicate r.length 0) < 0
  | [], _ => by simp [lexC]
  | a :: r, h => by
    have ha := h a (by simp)
    have ih := zeros_first r fun v hv => h v (by simp [hv])
    rw [List.length_cons, List.replicate_succ, lexC]
    rw [if_neg (by omega)]
    split
    · omega
    · exact ih
/-- The first row of those sorted is all zeros just if there is such a row. -/
def zrowB (n : Nat) (r : List Int) : Bool := (List.range n).all fun c => decide (colI r (c : Int) = 0)
theorem zrowB_iff {n : Nat} {r : List Int} (h : r.length = n) : zrowB n r = true ↔ r = List.replicate n 0 := by
  unfold zrowB
  rw [List.all_eq_true]
  constructor
  · intro hz
    refine List.ext_getElem (by simp [h]) fun c h1 h2 => ?_
    have := hz c (List.mem_range.2 (by omega))
    rw [decide_eq_true_eq] at this
    simpa [colI, h1] using this
  · rintro rfl c hc
    have := List.mem_range.1 hc
    simp [colI, this]
theorem whole_first {n : Nat} {R : List (List Int)} (h : ChOk n R) (h0 : 0 < R.length) : zrowB n (rowI (sortR R) 0) = wholeB R := by
  have hne : sortR R ≠ [] := fun e => by
    cases R with
    | nil => simp at h0
    | cons a r =>
      have := (mem_sortR (z := a) (l := a :: r)).2 (by simp)
      rw [e] at this
      cases this
  obtain ⟨a, r, e⟩ := List.exists_cons_of_ne_nil hne
  have hu := sortR_up R
  rw [e] at hu ⊢
  obtain ⟨h1, _⟩ := List.pairwise_cons.1 hu
  have ha : a ∈ R := mem_sortR.1 (by rw [e]; simp)
  have hal := (h a ha).1
  have hr0 : rowI (a :: r) 0 = a := rfl
  have hw : wholeB R = true ↔ List.replicate n 0 ∈ R := by
    unfold wholeB
    rw [List.any_eq_true]
    constructor
    · rintro ⟨x, hx, hz⟩
      have : x = List.replicate n 0 := by
        refine List.eq_replicate_iff.2 ⟨(h x hx).1, fun v hv => ?_⟩
        simp at hz
        exact hz v hv
      rw [← this]; exact hx
    · intro hx
      exact ⟨_, hx, by simp⟩
  rw [hr0, Bool.eq_iff_iff, zrowB_iff hal, hw]
  constructor
  · intro e; rw [← e]; exact ha
  · intro hz
    have hz2 : List.replicate n 0 ∈ a :: r := by rw [← e]; exact mem_sortR.2 hz
    rcases List.mem_cons.1 hz2 with e2 | e2
    · exact e2.symm
    · have h2 := h1 _ e2
      have h3 := zeros_first a (h a ha).2
      rw [hal] at h3
      exact absurd h2 h3
/-- No rule fires, as far as one has looked. -/
def noF (l : List PF) (R : List (List Int)) (m k a b : Nat) : Prop :=
  (∀ k' r, k' < k → l[k']? = some r → ∀ i j, i < m → j < m → fireC r R i j = false) ∧ ∀ r, l[k]? = some r → (∀ i j, i < a → j < m → fireC r R i j = false) ∧ ∀ j, j < b → fireC r R a j = false
section
variable {l : List PF} {R : List (List Int)} {m k a b : Nat}
theorem noF_0 : noF l R m 0 0 0 := ⟨fun _ _ h => by omega, fun _ _ => ⟨fun _ _ h => by omega, fun _ h => by omega⟩⟩
theorem noF_b {r : PF} (h : noF l R m k a b) (hr : l[k]? = some r) (hf : fireC r R a b = false) : noF l R m k a (b + 1) := by
  refine ⟨h.1, fun q hq => ⟨(h.2 q hq).1, fun j hj => ?_⟩⟩
  by_cases e : j = b
  · subst e
    rw [hr] at hq
    cases hq
    exact hf
  · exact (h.2 q hq).2 j (by omega)
theorem noF_a (h : noF l R m k a m) : noF l R m k (a + 1) 0 := by
  refine ⟨h.1, fun q hq => ⟨fun i j hi hj => ?_, fun _ h => by omega⟩⟩
  by_cases e : i = a
  · subst e
    exact (h.2 q hq).2 j hj
  · exact (h.2 q hq).1 i j (by omega) hj
theorem noF_k (h : noF l R m k m 0) : noF l R m (k + 1) 0 0 := by
  refine ⟨fun k' r hk hr i j hi hj => ?_, fun _ _ => ⟨fun _ _ h => by omega, fun _ h => by omega⟩⟩
  by_cases e : k' = k
  · subst e
    exact (h.2 r hr).1 i j hi hj
  · exact h.1 k' r (by omega) hr i j hi hj
theorem noF_all {n : Nat} (hl : ∀ r ∈ l, ruleB n r = true) (h : noF l R m l.length 0 0) : ChStuck m l (mx R) := nofire_stuck hl fun r hr i j hi hj => by
  obtain ⟨k, hk, rfl⟩ := List.getElem_of_mem hr
  exact h.1 k _ hk (List.getElem?_eq_getElem hk) i j hi hj
end
/-- What a round of the chase has come to: the rows, and whether anything changed. -/
structure ChRound (n m : Nat) (l : List PF) (M0 : Mx) (R1 R2 : List (List Int)) (g : Bool) (k a b : Nat) : Prop where
  len : R2.length = m
  steps : ChSteps m l M0 (mx R2)
  le : sumR R2 ≤ sumR R1
  yes : g = true → sumR R2 < sumR R1
  no : g = false → R2 = R1 ∧ noF l R1 m k a b
section
variable {n m : Nat} {l : List PF} {M0 : Mx} {R1 R2 : List (List Int)} {g : Bool} {k a b : Nat}
theorem ChRound.fire {r : PF} (h : ChRound n m l M0 R1 R2 g k a b) (hok : ChOk n R2) (hr : ruleB n r = true) (hm : r ∈ l) (ha : a < m) (hb : b < m) (hf : fireC r R2 a b = true) : ChRound n m l M0 R1 (fired r R2 a b) true k a (b + 1) := by
  obtain ⟨s1, s2, s3, s4⟩ := fire_steps hok hr hm h.len ha hb h.steps hf
  have := h.le
  exact ⟨s4, s1, by omega, fun _ => by omega, fun h => by cases h⟩
theorem ChRound.still {r : PF} (h : ChRound n m l M0 R1 R2 g k a b) (hr : l[k]? = some r) (hf : fireC r R2 a b = false) : ChRound n m l M0 R1 R2 g k a (b + 1) :=
  ⟨h.len, h.steps, h.le, h.yes, fun hg => ⟨(h.no hg).1, noF_b (h.no hg).2 hr (by rw [← (h.no hg).1]; exact hf)⟩⟩
theorem ChRound.nextA (h : ChRound n m l M0 R1 R2 g k a m) : ChRound n m l M0 R1 R2 g k (a + 1) 0 := ⟨h.len, h.steps, h.le, h.yes, fun hg => ⟨(h.no hg).1, noF_a (h.no hg).2⟩⟩
theorem ChRound.nextK (h : ChRound n m l M0 R1 R2 g k m 0) : ChRound n m l M0 R1 R2 g (k + 1) 0 0 := ⟨h.len, h.steps, h.le, h.yes, fun hg => ⟨(h.no hg).1, noF_k (h.no hg).2⟩⟩
theorem ChRound.start (hlen : R1.length = m) (hs : ChSteps m l M0 (mx R1)) : ChRound n m l M0 R1 R1 false 0 0 0 := ⟨hlen, hs, Nat.le_refl _, (fun h => by cases h), fun _ => ⟨rfl, noF_0⟩⟩
end
end Go.Proofs.Bg
end

section
/- Contract: (*chase).step. -/
namespace Go.Proofs.Bg
open Go.RowKit

theorem rowI_at {R : List (List Int)} {i : Nat} {r : List Int} (h : R[i]? = some r) : rowI R i = r := by simp [rowI, h]
theorem colI_at {r : List Int} {k : Nat} {x : Int} (h : r[k]? = some x) : colI r (k : Int) = x := by simp [colI, h]
theorem max_maxI (x y : Int) : max x y = maxI x y := by unfold maxI; split <;> omega
theorem min_minI (x y : Int) : min x y = minI x y := by unfold minI; split <;> omega

set_option maxRecDepth 100000 in
set_option maxHeartbeats 8000000 in
theorem step_any (base c n : Nat) (cv rv : Sl) (ss : List Sl) (R : List (List Int)) (i j : Nat) (si sj : Sl) (F : Sl) (r : PF) (w : World) (h : ChAt w base c cv rv ss n R) (hi : i < R.length) (hj : j < R.length) (hsi : ss[i]? = some si) (hsj : ss[j]? = some sj) (hF : IntsAt w 0 F r.from_) (hr : ruleB n r = true) :
    Calls Tryz.prog 138 #[.pointer (some ⟨c, 0, none⟩), .agg #[.slice F.A F.n F.cap, .int .i64 r.to_], .slice si.A si.n si.cap, .slice sj.A sj.n sj.cap] w fun e w' => e = .returned (.bool (stepB r (rowI R i) (rowI R j))) ∧ ChAt w' base c cv rv ss n (stepR r i j R) ∧ Below base w w' ∧ KeepT w w' := by
  obtain ⟨fA, fn, fk⟩ := F
  have hbase : base ≤ w.heap.size := Nat.le_of_lt (Nat.lt_of_le_of_lt h.hc h.lt)
  have hb1 := below_new w (.cells #[.slice fA fn fk, .int .i64 r.to_] 149)
  have hru := hr
  simp only [ruleB, Bool.and_eq_true, decide_eq_true_eq] at hru
  obtain ⟨⟨hset, hto⟩, hton⟩ := hru
  have hfm := setB_mem hset
  obtain ⟨tc, htc⟩ : ∃ tc : Nat, r.to_ = (tc : Int) := ⟨r.to_.toNat, by omega⟩
  have htcn : tc < n := by omega
  have h1 := h.below hb1
  obtain ⟨_, ga, s1, Ri, x, -, hRi, hs1, ea1, ea2, -, hx, cx, -⟩ := h1.at_ hi htcn
  rw [hsi] at hs1
  cases hs1
  obtain ⟨_, gb, s2, Rj, y, -, hRj, hs2, eb1, eb2, -, hy, cy, -⟩ := h1.at_ hj htcn
  rw [hsj] at hs2
  cases hs2
  have hAT : ∀ k : Nat, k < n → ∃ u v, Ri[k]? = some u ∧ Rj[k]? = some v ∧ (w.alloc (.cells #[.slice fA fn fk, .int .i64 r.to_] 149)).cell? ⟨ga, k, none⟩ = some (.int .i64 u) ∧ (w.alloc (.cells #[.slice fA fn fk, .int .i64 r.to_] 149)).cell? ⟨gb, k, none⟩ = some (.int .i64 v) := fun k hk => by
    obtain ⟨_, g1, t1, R1, u, -, hR1, ht1, e1, -, -, hu, cu, -⟩ := h1.at_ hi hk
    rw [hsi] at ht1
    cases ht1
    rw [ea1] at e1
    cases e1
    rw [hRi] at hR1
    cases hR1
    obtain ⟨_, g2, t2, R2, v, -, hR2, ht2, e2, -, -, hv, cv', -⟩ := h1.at_ hj hk
    rw [hsj] at ht2
    cases ht2
    rw [eb1] at e2
    cases e2
    rw [hRj] at hR2
    cases hR2
    exact ⟨u, v, hu, hv, cu, cv'⟩
  obtain ⟨aA, aN, aK⟩ := si
  obtain ⟨bA, bN, bK⟩ := sj
  simp only [] at ea1 ea2 eb1 eb2
  subst ea1 eb1
  obtain rfl := ea2.symm
  obtain rfl := eb2.symm
  have HRI := Lib.hid (rowI_at hRi)
  have HRJ := Lib.hid (rowI_at hRj)
  have HX := Lib.hid (colI_at hx)
  have HY := Lib.hid (colI_at hy)
  have HSB : Hid (stepB r (rowI R i) (rowI R j) = (agreeB r.from_ Ri Rj && decide (x ≠ y))) := by
    show _ = _
    rw [HRI.out, HRJ.out, stepB, htc, HX.out, HY.out]
  have HSR : Hid (stepR r i j R = if (agreeB r.from_ Ri Rj && decide (x ≠ y)) = true then turnRows (tc : Int) (maxI x y) (minI x y) R else R) := by
    show _ = _
    rw [stepR, HSB.out, HRI.out, HRJ.out, htc, HX.out, HY.out]
  have h0x := colI_nonneg (h.ok _ (List.mem_of_getElem? hRi)) r.to_
  have h0y := colI_nonneg (h.ok _ (List.mem_of_getElem? hRj)) r.to_
  rw [htc, HX.out] at h0x
  rw [htc, HY.out] at h0y
  have HF := Lib.hid (hF.below hb1)
  have HFL : Hid (r.from_.length = fn) := hF.len
  have hfle : fn ≤ 9223372036854775807 := Rd.le hF
  have H1 := Lib.hid h1
  have HB1 := Lib.hid hb1
  have HAT := Lib.hid hAT
  have HFM := Lib.hid hfm
  have HNB := Lib.hid (new_block w #[.slice fA fn fk, .int .i64 r.to_] 149)
  rw [htc] at HB1 H1 HF HAT HNB
  rw [htc]
  have cx := cx
  rw [htc] at cx cy
  have HCX := Lib.hid cx
  have HCY := Lib.hid cy
  have hnle : (n : Int) ≤ 9223372036854775807 := by
    have := (h.ok _ (List.mem_of_getElem? hRi)).1
    have h2 := h.rows.2 i _ _ hsi hRi
    have h3 : n ≤ 9223372036854775807 := Rd.le (Own.rdN iv_length h2)
    omega
  clear h hb1 hset hto hton hfm h1 hRi hRj hx hy hAT hF hr cx cy htc hsi hsj
  go_enter Tryz.func138, Tryz.ntmps138
  go_wp2_with fail
  go_loopw [16] (fun q wr => ∃ k : Nat, k ≤ fn ∧ q = .int .i64 k ∧ agreeB r.from_ Ri Rj = agreeB (r.from_.drop k) Ri Rj ∧ DrN (w.alloc (.cells #[.slice fA fn fk, .int .i64 tc] 149)) wr) (fun q _ => fn - (intOf q).toNat)
  case atStart => exact ⟨0, by omega, rfl, rfl, DrN.refl _⟩
  case round =>
    obtain ⟨k, hk, rfl, he, hD⟩ := hrel
    have HE := Lib.hid he
    have HD := Lib.hid hD
    have hDB := hD.below
    by_cases hlt : k < fn
    · obtain ⟨b3, o3, col, hb3, -, hcol, d0⟩ := (HF.out.below hDB).at_ hlt
      simp only [] at hb3
      subst hb3
      have hcm := HFM.out col (List.mem_of_getElem? hcol)
      have HDR := Lib.hid (drop_at hcol)
      obtain ⟨cc, rfl⟩ : ∃ cc : Nat, col = (cc : Int) := ⟨col.toNat, by omega⟩
      obtain ⟨u, v, hu, hv, cu, cw⟩ := HAT.out cc (by omega)
      have cu' := (hDB.cell (World.block_lt_of_cell? _ _ cu)).trans cu
      have cw' := (hDB.cell (World.block_lt_of_cell? _ _ cw)).trans cw
      have HU := Lib.hid (colI_at hu)
      have HV := Lib.hid (colI_at hv)
      have hc0 : (0 : Int) ≤ cc := by omega
      have hcn : (cc : Int) < n := by omega
      have hk1 : (k : Int) < fn := by omega
      have HAG : Hid (agreeB r.from_ Ri Rj = (decide (u = v) && agreeB (r.from_.drop (k + 1)) Ri Rj)) := by
        show _ = _
        rw [HE.out, HDR.out, agreeB, List.all_cons, HU.out, HV.out]
        rfl
      clear he hD hcol hcm hu hv cu cw hDB
      by_cases huv : u = v
      · have e1 : (u != v) = false := by simp [huv]
        have HNX : Hid (agreeB r.from_ Ri Rj = agreeB (r.from_.drop (k + 1)) Ri Rj) := by
          show _ = _
          rw [HAG.out, decide_eq_true huv, Bool.true_and]
        clear huv
        go_wp2_with fail
        go_quiet (fail)
        go_wp2_with fail
        exact ⟨⟨k + 1, by omega, by go_num, HNX.out, HD.out.drewN _⟩, by simp [intOf]; omega⟩
      · have e1 : (u != v) = true := by simpa using huv
        have HNO : Hid (agreeB r.from_ Ri Rj = false) := by
          show _ = _
          rw [HAG.out, decide_eq_false huv, Bool.false_and]
        clear huv
        go_wp2_with fail
        go_quiet (fail)
        go_wp2_with fail
        go_ret
        rw [HSB.out, HSR.out, HNO.out]
        refine ⟨rfl, ?_, ?_, (KeepT.below HB1.out).trans (KeepT.below (HD.out.drewN _).below)⟩
        · simp only [Bool.false_and, Bool.false_eq_true, if_false]
          exact H1.out.below (HD.out.drewN _).below
        · exact HB1.out.mono hbase |>.trans ((HD.out.drewN _).below.mono (by simp; omega))
    · have hk' : k = fn := by omega
      have HAG : Hid (agreeB r.from_ Ri Rj = true) := by
        show _ = _
        rw [HE.out, (List.drop_eq_nil_of_le (by rw [HFL.out]; omega) : r.from_.drop k = [])]
        rfl
      have d1 : decide ((k : Int) < (fn : Int)) = false := by rw [decide_eq_false_iff_not]; omega
      have d2 : decide (k < fn) = false := by rw [decide_eq_false_iff_not]; omega
      have cx := (hDB.cell (World.block_lt_of_cell? _ _ HCX.out)).trans HCX.out
      have cy := (hDB.cell (World.block_lt_of_cell? _ _ HCY.out)).trans HCY.out
      have ct := cell_at_block (off := 1) ((hDB.block _ (Array.getElem?_eq_some_iff.1 HNB.out).1).trans HNB.out) rfl
      have hc0 : (0 : Int) ≤ tc := by omega
      have hcn : (tc : Int) < n := by omega
      clear he hD hlt hk'
      by_cases hxy : x = y
      · have e1 : (x == y) = true := by simpa using hxy
        have HNE : Hid (decide (x ≠ y) = false) := by show _ = _; simpa using hxy
        clear hxy hDB
        go_wp2_with fail
        go_quiet (fail)
        go_wp2_with fail
        go_ret
        rw [HSB.out, HSR.out, HAG.out, HNE.out]
        refine ⟨rfl, ?_, ?_, (KeepT.below HB1.out).trans (KeepT.below (HD.out.drewN _).below)⟩
        · simp only [Bool.and_false, Bool.false_eq_true, if_false]
          exact H1.out.below (HD.out.drewN _).below
        · exact HB1.out.mono hbase |>.trans ((HD.out.drewN _).below.mono (by simp; omega))
      · have e1 : (x == y) = false := by simpa using hxy
        have HNE : Hid (decide (x ≠ y) = true) := by show _ = _; simpa using hxy
        have hmm := max_maxI x y
        have hmn := min_minI x y
        have h0m : 0 ≤ minI x y := by unfold minI; split <;> omega
        have Q := Lib.hid (fun q => turn_any base c n cv rv ss R tc (maxI x y) (minI x y) (wr.drewN q) (H1.out.below (HD.out.drewN q).below) htcn h0m)
        generalize maxI x y = mx at *
        generalize minI x y = mn at *
        clear hxy hDB
        go_wp2_with fail
        go_quiet (fail)
        have ct2 : (wr.drewN nq).cell? ⟨w.heap.size, 1, none⟩ = some (.int .i64 tc) := ct
        go_wp2_with fail
        (with_reducible refine (Q.out _).mono ?_)
        rintro e w3 ⟨rfl, hC3, hB3, hK3⟩
        have HK3 := Lib.hid hK3
        have HC3 := Lib.hid hC3
        have HB3 := Lib.hid hB3
        clear hC3 hB3 hK3 Q
        go_wp2_with fail
        go_ret
        rw [HSB.out, HSR.out, HAG.out, HNE.out]
        refine ⟨rfl, HC3.out, ?_, ((KeepT.below HB1.out).trans (KeepT.below (HD.out.drewN _).below)).trans HK3.out⟩
        exact (HB1.out.mono hbase |>.trans ((HD.out.drewN _).below.mono (by simp; omega))).trans HB3.out
end Go.Proofs.Bg
end

section
/- Contract: (*chase).run. -/
namespace Go.Proofs.Bg
open Go.RowKit

theorem chaseRound_drop {l : List PF} {k : Nat} {r : PF} (h : l[k]? = some r) (R : List (List Int)) : chaseRound (l.drop k) R = chaseRound (l.drop (k + 1)) (ruleTo r R.length R) := by rw [drop_at h, chaseRound]

set_option maxRecDepth 100000 in
set_option maxHeartbeats 8000000 in
theorem run_any (base c n : Nat) (cv rv : Sl) (ss : List Sl) (R : List (List Int)) (A : Option Addr) (m cap : Nat) (l : List PF) (w0 w : World) (h : ChAt w base c cv rv ss n R) (h0 : FdsAt w0 0 A m l) (hb0 : Below w0.heap.size w0 w) (hbase : w0.heap.size ≤ base) (hl : ∀ r ∈ l, ruleB n r = true) :
    Calls Tryz.prog 99 #[.pointer (some ⟨c, 0, none⟩), .slice A m cap] w fun e w' => e = .returned (.tuple #[]) ∧ ChAt w' base c cv rv ss n (chaseN l R) ∧ Below base w w' ∧ KeepT w w' := by
  have hrn := h.len
  obtain ⟨rA, rN, rK⟩ := rv
  simp only [] at hrn
  subst hrn
  have HBW := Lib.hid (fun W (hW : Below base w W) => hb0.trans (hW.mono hbase))
  have HF0 := Lib.hid h0
  have HFL : Hid (l.length = m) := h0.len
  have hmle : m ≤ 9223372036854775807 := h0.le
  have HL := Lib.hid hl
  have H := Lib.hid h
  have hRs := h.small
  have HSSL : Hid (ss.length = R.length) := h.rows.1
  have hsz : base ≤ w.heap.size := Nat.le_of_lt (Nat.lt_of_le_of_lt h.hc h.lt)
  clear h h0 hb0 hl
  go_enter Tryz.func99, Tryz.ntmps99
  go_wp2_with fail
  go_loopg [4] (2 * sumR R + 1) (fun gg b wr => ∃ R1 : List (List Int), ∃ t : Bool, b = .bool t ∧ ChAt wr base c cv ⟨rA, R.length, rK⟩ ss n R1 ∧ R1.length = R.length ∧ (t = true → chaseN l R = chaseN l R1) ∧ (t = false → chaseN l R = R1) ∧ Below base w wr ∧ KeepT w wr ∧ 2 * sumR R1 + t.toNat ≤ gg)
  case atStart => exact ⟨R, true, rfl, H.out, rfl, (fun _ => rfl), (fun h => by cases h), Below.refl _ _, KeepT.refl _, by simp⟩
  case round =>
    clear H
    obtain ⟨R1, t, rfl, hC, hR1, ht, hf, hB, hKT, hgg⟩ := hrel
    have HC := Lib.hid hC
    have HB := Lib.hid hB
    have HKT := Lib.hid hKT
    have HR1 := Lib.hid hR1
    cases t with
    | false =>
      have HF := Lib.hid (hf rfl)
      clear ht hf hC hB hKT hR1 hgg
      go_wp2_with fail
      go_end0
      exact ⟨rfl, by rw [HF.out]; exact HC.out, HB.out, HKT.out⟩
    | true =>
      have HT := Lib.hid (ht rfl)
      have HST := Lib.hid (chaseN_step HL.out hC.ok)
      have HCR := Lib.hid (chaseRound_ok HL.out hC.ok)
      have HGG := Lib.hid hgg
      clear ht hf hC hB hKT hR1 hgg
      go_wp2_with fail
      go_loopw [4, 14] (fun b i wr => ∃ k : Nat, ∃ R2 : List (List Int), k ≤ m ∧ i = .int .i64 k ∧ ChAt wr base c cv ⟨rA, R.length, rK⟩ ss n R2 ∧ R2.length = R.length ∧ chaseRound l R1 = chaseRound (l.drop k) R2 ∧ b = .bool (decide (sumR R2 < sumR R1)) ∧ sumR R2 ≤ sumR R1 ∧ Below base w wr ∧ KeepT w wr) (fun _ i _ => m - (intOf i).toNat)
      case atStart => exact ⟨0, R1, by omega, rfl, HC.out, HR1.out, rfl, by simp, Nat.le_refl _, HB.out, HKT.out⟩
      case round =>
        clear HC HB HKT
        obtain ⟨k, R2, hk, rfl, hC, hR2, hround, rfl, hsum, hB, hKT⟩ := hrel
        have HC := Lib.hid hC
        have HB := Lib.hid hB
        have HKT := Lib.hid hKT
        have HR2 := Lib.hid hR2
        have HRO := Lib.hid hround
        obtain ⟨wo, rfl⟩ : ∃ x, x = wr := ⟨_, rfl⟩
        by_cases hlt : k < m
        · obtain ⟨b1, o1, t, T, rfl, -, hT, d0', d1', hTT⟩ := HF0.out.at_ hlt
          have d0 := ((HBW.out wo hB).cell (World.block_lt_of_cell? _ _ d0')).trans d0'
          have d1 := ((HBW.out wo hB).cell (World.block_lt_of_cell? _ _ d1')).trans d1'
          have HTF := Lib.hid (fun W hW => Rd.below hTT (HBW.out W hW))
          clear d0' d1'
          have hrule := HL.out T (List.mem_of_getElem? hT)
          have HRU := Lib.hid hrule
          have HRD := Lib.hid (chaseRound_drop hT R2)
          have hk1 : (k : Int) < m := by omega
          obtain ⟨W1, hW1⟩ : ∃ W1, wo.alloc (.cells #[.slice t.A t.n t.cap, .int .i64 T.to_] 149) = W1 := ⟨_, rfl⟩
          have hb1 : Below wo.heap.size wo W1 := by rw [← hW1]; exact below_new wo _
          have hn1 : W1.heap[wo.heap.size]? = some (.cells #[.slice t.A t.n t.cap, .int .i64 T.to_] 149) := by rw [← hW1]; exact new_block _ _ _
          have hszo : base ≤ wo.heap.size := Nat.le_of_lt (Nat.lt_of_le_of_lt hC.hc hC.lt)
          have HC1 := Lib.hid (hC.below hb1)
          have HB1 := Lib.hid (hB.trans (hb1.mono hszo))
          have HK1 := Lib.hid (hKT.trans (KeepT.below hb1))
          have HN1 := Lib.hid hn1
          have HCOK := Lib.hid hC.ok
          have HBT := Lib.hid hb1
          have c1 : (wo.alloc (.cells #[.slice t.A t.n t.cap, .int .i64 T.to_] 149)).cell? ⟨c, 1, none⟩ = some (.slice rA R.length rK) := by rw [hW1]; exact cell_at_block (off := 1) (hC.below hb1).box rfl
          clear hC hB hKT hround hR2 hT hTT hrule hb1 hn1
          have HW1 := Lib.hid hW1
          clear hW1
          go_wp2_with fail
          rw [HW1.out]
          clear c1 d0 d1
          go_loopw [4, 24] (fun b i wr => ∃ i' : Nat, i' ≤ R.length ∧ i = .int .i64 i' ∧ ChAt wr base c cv ⟨rA, R.length, rK⟩ ss n (ruleTo T i' R2) ∧ b = .bool (decide (sumR (ruleTo T i' R2) < sumR R1)) ∧ Below base W1 wr ∧ KeepT W1 wr) (fun _ i _ => R.length - (intOf i).toNat)
          case atStart => exact ⟨0, by omega, rfl, HC1.out, rfl, Below.refl _ _, KeepT.refl _⟩
          case round =>
            obtain ⟨i', hi', rfl, hC, rfl, hB, hKT⟩ := hrel
            obtain ⟨wp, rfl⟩ : ∃ x, x = wr := ⟨_, rfl⟩
            have HC := Lib.hid hC
            have HB := Lib.hid hB
            have HKT := Lib.hid hKT
            by_cases hlt2 : i' < R.length
            · have hRl : (ruleTo T i' R2).length = R.length := by
                have := (ruleTo_ok HRU.out i' (R := R2) HCOK.out (by rw [HR2.out]; omega)).2.1
                rw [this, HR2.out]
              obtain ⟨g, si, e1, -, -, -, hsi, hcs, -⟩ := hC.own.at_ Sl.vs_length (i := i') (by rw [HSSL.out]; exact hlt2)
              cases e1
              have ch := hcs 0 _ rfl
              simp only [Nat.mul_one, Nat.add_zero] at ch
              have cr := cell_at_block (off := 1) hC.box rfl
              have hi1 : (i' : Int) < R.length := by omega
              have hi2 : (i' : Int) ≤ R.length := by omega
              have hcap : R.length ≤ rK := hC.own.capLe
              have hcap2 : (R.length : Int) ≤ rK := by omega
              have hcap3 : (i' : Int) ≤ rK := by omega
              have HSI := Lib.hid hsi
              have HRL := Lib.hid hRl
              clear hC hB hKT hcs hsi hRl
              go_wp2_with fail
              clear ch cr
              go_loopw [4, 37] (fun b j wr => ∃ j' : Nat, j' ≤ i' ∧ j = .int .i64 j' ∧ ChAt wr base c cv ⟨some ⟨g, 0, none⟩, R.length, rK⟩ ss n (pairsTo T i' j' (ruleTo T i' R2)) ∧ b = .bool (decide (sumR (pairsTo T i' j' (ruleTo T i' R2)) < sumR R1)) ∧ Below base W1 wr ∧ KeepT W1 wr) (fun _ j _ => i' - (intOf j).toNat)
              case atStart => exact ⟨0, by omega, rfl, HC.out, rfl, HB.out, HKT.out⟩
              case round =>
                obtain ⟨j', hj', rfl, hC, rfl, hB, hKT⟩ := hrel
                have HC4 := Lib.hid hC
                have HB4 := Lib.hid hB
                have HK4 := Lib.hid hKT
                have hRl4 : (pairsTo T i' j' (ruleTo T i' R2)).length = R.length := by
                  have h1 := ruleTo_ok HRU.out i' (R := R2) HCOK.out (by rw [HR2.out]; omega)
                  have h2 := (pairsTo_ok (i := i') HRU.out j' (R := ruleTo T i' R2) h1.1 (by rw [HRL.out]; exact hlt2) hj').2.1
                  rw [h2, HRL.out]
                by_cases hlt3 : j' < i'
                · obtain ⟨g', sj, e1, -, -, -, hsj, hcs, -⟩ := hC.own.at_ Sl.vs_length (i := j') (by rw [HSSL.out]; omega)
                  cases e1
                  have ch := hcs 0 _ rfl
                  simp only [Nat.mul_one, Nat.add_zero] at ch
                  have hbx := hKT _ _ _ (by decide) HN1.out
                  have x0 := cell_at_block (off := 0) hbx rfl
                  have x1 := cell_at_block (off := 1) hbx rfl
                  have hst := stepR_ok (r := T) (i := i') (j := j') hC.ok HRU.out (by rw [hRl4]; exact hlt2) (by rw [hRl4]; omega)
                  have Q := Lib.hid (step_any base c n cv ⟨some ⟨g, 0, none⟩, R.length, rK⟩ ss _ i' j' si sj t T wr hC (by rw [hRl4]; exact hlt2) (by rw [hRl4]; omega) HSI.out hsj (HTF.out wr (HB1.out.trans hB)) HRU.out)
                  have hj1 : (j' : Int) < i' := by omega
                  have HPS : Hid (pairsTo T i' (j' + 1) (ruleTo T i' R2) = stepR T i' j' (pairsTo T i' j' (ruleTo T i' R2))) := rfl
                  have hle4 : sumR (pairsTo T i' j' (ruleTo T i' R2)) ≤ sumR R1 := by
                    have h1 := ruleTo_ok HRU.out i' (R := R2) HCOK.out (by rw [HR2.out]; omega)
                    have h2 := pairsTo_ok (i := i') HRU.out j' (R := ruleTo T i' R2) h1.1 (by rw [HRL.out]; exact hlt2) hj'
                    omega
                  generalize pairsTo T i' j' (ruleTo T i' R2) = R4 at *
                  cases hs : stepB T (rowI R4 i') (rowI R4 j') with
                  | true =>
                    have HD : Hid (decide (sumR (stepR T i' j' R4) < sumR R1) = true) := by
                      show _ = _
                      have := hst.2.2.1 hs
                      rw [decide_eq_true_eq]
                      omega
                    rw [hs] at Q
                    clear hC hB hKT hcs hsj hbx hst hs hle4
                    generalize decide (sumR R4 < sumR R1) = bb at *
                    go_wp2_with fail
                    (with_reducible refine Q.out.mono ?_)
                    rintro e w5 ⟨rfl, hC5, hB5, hK5⟩
                    have HC5 := Lib.hid hC5
                    have HB5 := Lib.hid (HB4.out.trans hB5)
                    have HK5 := Lib.hid (HK4.out.trans hK5)
                    clear hC5 hB5 hK5 Q
                    go_wp2_with fail
                    exact ⟨⟨j' + 1, by omega, by go_num, by rw [HPS.out]; exact HC5.out, by rw [HPS.out, HD.out], HB5.out, HK5.out⟩, by simp [intOf]; omega⟩
                  | false =>
                    have HSM := Lib.hid (hst.2.2.2 hs)
                    rw [hs, HSM.out] at Q
                    clear hC hB hKT hcs hsj hbx hst hs hle4
                    generalize hbb : decide (sumR R4 < sumR R1) = bb at *
                    have HBB := Lib.hid hbb
                    clear hbb
                    go_wp2_with fail
                    (with_reducible refine Q.out.mono ?_)
                    rintro e w5 ⟨rfl, hC5, hB5, hK5⟩
                    have HC5 := Lib.hid hC5
                    have HB5 := Lib.hid (HB4.out.trans hB5)
                    have HK5 := Lib.hid (HK4.out.trans hK5)
                    clear hC5 hB5 hK5 Q
                    go_wp2_with fail
                    exact ⟨⟨j' + 1, by omega, by go_num, by rw [HPS.out, HSM.out]; exact HC5.out, by rw [HPS.out, HSM.out, HBB.out], HB5.out, HK5.out⟩, by simp [intOf]; omega⟩
                · have hji : j' = i' := by omega
                  have HRT : Hid (pairsTo T i' j' (ruleTo T i' R2) = ruleTo T (i' + 1) R2) := by show _ = _; rw [hji]; rfl
                  have d1 : decide ((j' : Int) < (i' : Int)) = false := by rw [decide_eq_false_iff_not]; omega
                  have d2 : decide (j' < i') = false := by rw [decide_eq_false_iff_not]; omega
                  clear hC hB hKT hlt3 hji
                  go_wp2_with fail
                  exact ⟨⟨i' + 1, by omega, by go_num, by rw [← HRT.out]; exact HC4.out, by rw [HRT.out], HB4.out, HK4.out⟩, by simp [intOf]; omega⟩
            · have hii : i' = R.length := by omega
              have HRT : Hid (chaseRound (l.drop k) R2 = chaseRound (l.drop (k + 1)) (ruleTo T i' R2)) := by show _ = _; rw [HRD.out, hii, HR2.out]
              have hok := ruleTo_ok HRU.out i' (R := R2) HCOK.out (by rw [HR2.out]; omega)
              have HLE : Hid (sumR (ruleTo T i' R2) ≤ sumR R1) := by show _ ≤ _; have := hok.2.2.1; omega
              have HLN : Hid ((ruleTo T i' R2).length = R.length) := by show _ = _; rw [hok.2.1, HR2.out]
              have d1 : decide ((i' : Int) < ((R.length : Nat) : Int)) = false := by rw [decide_eq_false_iff_not]; omega
              have d2 : decide (i' < R.length) = false := by rw [decide_eq_false_iff_not]; omega
              clear hC hB hKT hlt2 hii hok
              go_wp2_with fail
              exact ⟨⟨k + 1, ruleTo T i' R2, by omega, by go_num, HC.out, HLN.out, by rw [HRO.out, HRT.out], rfl, HLE.out, HB1.out.trans HB.out, HK1.out.trans HKT.out⟩, by simp [intOf]; omega⟩
        · have hkm : k = m := by omega
          have hend : chaseRound l R1 = R2 := by
            rw [HRO.out, (List.drop_eq_nil_of_le (by rw [HFL.out]; omega) : l.drop k = []), chaseRound]
          have hst := HST.out
          have hcr := HCR.out
          rw [hend] at hst hcr
          have HTT : Hid (chaseN l R = if R2 = R1 then R1 else chaseN l R2) := by show _ = _; rw [HT.out, hst]
          have d1 : decide ((k : Int) < (m : Int)) = false := by rw [decide_eq_false_iff_not]; omega
          have d2 : decide (k < m) = false := by rw [decide_eq_false_iff_not]; omega
          by_cases hlts : sumR R2 < sumR R1
          · have hd : decide (sumR R2 < sumR R1) = true := by simpa using hlts
            have HE2 : Hid (chaseN l R = chaseN l R2) := by
              show _ = _
              rw [HTT.out, if_neg]
              rintro rfl
              omega
            have HLTS := Lib.hid hlts
            rw [hd]
            clear hC hB hKT hlt hkm hend hst hcr hd hlts
            go_wp2_with fail
            go_roundg (2 * sumR R2 + 1)
            case measure => have h1 := HGG.out; have h2 := HLTS.out; simp at h1; omega
            case rel => exact ⟨R2, true, rfl, HC.out, HR2.out, (fun _ => HE2.out), (fun h => by cases h), HB.out, HKT.out, by simp⟩
          · have hd : decide (sumR R2 < sumR R1) = false := by simpa using hlts
            have he : R2 = R1 := hcr.2.2.2 (by omega)
            have HE2 : Hid (chaseN l R = R2) := by show _ = _; rw [HTT.out, if_pos he, he]
            have HS2 : Hid (sumR R2 = sumR R1) := by show _ = _; rw [he]
            rw [hd]
            clear hC hB hKT hlt hkm hend hst hcr hd hlts he
            go_wp2_with fail
            go_roundg (2 * sumR R1)
            case measure => have h1 := HGG.out; simp at h1; omega
            case rel => exact ⟨R2, false, rfl, HC.out, HR2.out, (fun h => by cases h), (fun _ => HE2.out), HB.out, HKT.out, by rw [HS2.out]; simp⟩
end Go.Proofs.Bg
end

section
/- Contracts: rulesIn, closed. -/
namespace Go.Proofs.Bg
open Go.RowKit

set_option maxRecDepth 100000 in
set_option maxHeartbeats 4000000 in
theorem rulesIn_any (N : Int) (A : Option Addr) (n cap : Nat) (l : List PF) (w : World) (h : FdsAt w 0 A n l) :
    Calls Tryz.prog 97 #[.int .i64 N, .slice A n cap] w fun e w' => e = .returned (.bool (rulesB N l)) ∧ Below w.heap.size w w' := by
  have HA := Lib.hid h
  have HL := Lib.hid h.len
  have hle := h.le
  clear h
  by_cases h1 : N < 1
  · have HR : Hid (rulesB N l = false) := by show _ = _; have : decide (1 ≤ N) = false := by rw [decide_eq_false_iff_not]; omega
                                             simp [rulesB, this]
    have d1 : decide (N < 1) = true := by simpa using h1
    clear h1
    go_enter Tryz.func97, Tryz.ntmps97
    go_wp2_with fail
    go_ret
    rw [HR.out]
    exact ⟨rfl, Below.refl _ _⟩
  · have d1 : decide (N < 1) = false := by simpa using h1
    by_cases h2 : 8 < N
    · have HR : Hid (rulesB N l = false) := by show _ = _; have : decide (N ≤ 8) = false := by rw [decide_eq_false_iff_not]; omega
                                               simp [rulesB, this]
      have d2 : decide (8 < N) = true := by simpa using h2
      clear h1 h2
      go_enter Tryz.func97, Tryz.ntmps97
      go_wp2_with fail
      go_ret
      rw [HR.out]
      exact ⟨rfl, Below.refl _ _⟩
    · have d2 : decide (8 < N) = false := by simpa using h2
      by_cases h3 : n ≤ 10
      · have d3 : decide ((10 : Int) < (n : Int)) = false := by rw [decide_eq_false_iff_not]; omega
        have d3' : decide (10 < n) = false := by rw [decide_eq_false_iff_not]; omega
        have HG : Hid (rulesB N l = (l.drop 0).all (ruleB N)) := by
          show _ = _
          have e1 : decide (1 ≤ N) = true := by rw [decide_eq_true_eq]; omega
          have e2 : decide (N ≤ 8) = true := by rw [decide_eq_true_eq]; omega
          have e3 : decide (l.length ≤ 10) = true := by rw [decide_eq_true_eq, HL.out]; omega
          rw [rulesB, e1, e2, e3]
          rfl
        clear h1 h2
        go_enter Tryz.func97, Tryz.ntmps97
        go_wp2_with fail
        clear d1 d2 d3 d3'
        go_loopw [20] (fun i wr => ∃ k : Nat, k ≤ n ∧ i = .int .i64 k ∧ rulesB N l = (l.drop k).all (ruleB N) ∧ Below w.heap.size w wr) (fun i _ => n - (intOf i).toNat)
        case atStart => exact ⟨0, by omega, rfl, HG.out, Below.refl _ _⟩
        case round =>
          obtain ⟨k, hk, rfl, he, hB⟩ := hrel
          have HE := Lib.hid he
          have HB := Lib.hid hB
          clear he hB HG
          by_cases hlt : k < n
          · have hft := (HA.out.below HB.out)
            obtain ⟨b1, o1, t, T, rfl, -, hT, c0, c1, hTT⟩ := hft.at_ hlt
            have HX := Lib.hid (drop_at hT)
            have hi1 : (k : Int) < n := by omega
            rw [HX.out, List.all_cons] at HE
            have hb2 := below_new wr (.cells #[.slice t.A t.n t.cap, .int .i64 T.to_] 149)
            have HB2 := Lib.hid (bchain HB.out hb2)
            have Q := Lib.hid (setIn_any t.A t.n t.cap N T.from_ _ (hTT.below hb2))
            clear hT hTT hb2 hft
            cases hf : setB T.from_ N with
            | false =>
              have HR : Hid (rulesB N l = false) := by show _ = _; rw [HE.out, ruleB, hf, Bool.false_and, Bool.false_and, Bool.false_and]
              rw [hf] at Q
              clear hf HE
              go_wp2_with (go_at_call 91; (with_reducible refine Q.out.mono ?_); rintro e w' ⟨rfl, rfl⟩)
              go_ret
              rw [HR.out]
              exact ⟨rfl, HB2.out⟩
            | true =>
              rw [hf] at Q
              by_cases g1 : T.to_ < 0
              · have HR : Hid (rulesB N l = false) := by
                  show _ = _
                  have : decide (0 ≤ T.to_) = false := by rw [decide_eq_false_iff_not]; omega
                  rw [HE.out, ruleB, this, Bool.and_false, Bool.false_and, Bool.false_and]
                have e1 : decide (T.to_ < 0) = true := by simpa using g1
                clear hf HE g1
                go_wp2_with (go_at_call 91; (with_reducible refine Q.out.mono ?_); rintro e w' ⟨rfl, rfl⟩)
                go_ret
                rw [HR.out]
                exact ⟨rfl, HB2.out⟩
              · have e1 : decide (T.to_ < 0) = false := by simpa using g1
                by_cases g2 : N ≤ T.to_
                · have HR : Hid (rulesB N l = false) := by
                    show _ = _
                    have : decide (T.to_ < N) = false := by rw [decide_eq_false_iff_not]; omega
                    rw [HE.out, ruleB, this, Bool.and_false, Bool.false_and]
                  have e2 : decide (N ≤ T.to_) = true := by simpa using g2
                  clear hf HE g1 g2
                  go_wp2_with (go_at_call 91; (with_reducible refine Q.out.mono ?_); rintro e w' ⟨rfl, rfl⟩)
                  go_ret
                  rw [HR.out]
                  exact ⟨rfl, HB2.out⟩
                · have e2 : decide (N ≤ T.to_) = false := by simpa using g2
                  have HR : Hid (rulesB N l = (l.drop (k + 1)).all (ruleB N)) := by
                    show _ = _
                    have q1 : decide (0 ≤ T.to_) = true := by rw [decide_eq_true_eq]; omega
                    have q2 : decide (T.to_ < N) = true := by rw [decide_eq_true_eq]; omega
                    rw [HE.out, ruleB, hf, q1, q2]
                    rfl
                  clear hf HE g1 g2
                  go_wp2_with (go_at_call 91; (with_reducible refine Q.out.mono ?_); rintro e w' ⟨rfl, rfl⟩)
                  exact ⟨⟨k + 1, by omega, by go_num, HR.out, HB2.out⟩, by simp [intOf]; omega⟩
          · have hk' : k = n := by omega
            have HR : Hid (rulesB N l = true) := by
              show _ = _
              rw [HE.out, (List.drop_eq_nil_of_le (by rw [HL.out]; omega) : l.drop k = [])]
              rfl
            have d1 : decide ((k : Int) < (n : Int)) = false := by rw [decide_eq_false_iff_not]; omega
            have d2 : decide (k < n) = false := by rw [decide_eq_false_iff_not]; omega
            clear hlt hk'
            go_wp2_with fail
            go_ret
            rw [HR.out]
            exact ⟨rfl, HB.out⟩
      · have HR : Hid (rulesB N l = false) := by show _ = _; have : decide (l.length ≤ 10) = false := by rw [decide_eq_false_iff_not, HL.out]; exact h3
                                                 simp [rulesB, this]
        have d3 : decide ((10 : Int) < (n : Int)) = true := by rw [decide_eq_true_eq]; omega
        have d3' : decide (10 < n) = true := by rw [decide_eq_true_eq]; omega
        clear h1 h2 h3
        go_enter Tryz.func97, Tryz.ntmps97
        go_wp2_with fail
        go_ret
        rw [HR.out]
        exact ⟨rfl, Below.refl _ _⟩

def boolN : Value → Nat | .bool true => 1 | _ => 0
/-- A round of closed, with so many rules behind it. -/
theorem roundR_drop {l : List PF} {k : Nat} {r : PF} (h : l[k]? = some r) (s : Nat) : roundR (l.drop k) s = roundR (l.drop (k + 1)) (useR r s) := by rw [drop_at h, roundR]

set_option maxRecDepth 100000 in
set_option maxHeartbeats 8000000 in
theorem closed_any (A : Option Addr) (n cap : Nat) (l : List PF) (s : Nat) (w : World) (h : FdsAt w 0 A n l) (hl : ∀ r ∈ l, ruleB 8 r = true) (hs : s < 256) :
    Calls Tryz.prog 118 #[.slice A n cap, .int .i64 s] w fun e w' => e = .returned (.int .i64 (closedN l s : Nat)) ∧ Below w.heap.size w w' := by
  have HA := Lib.hid h
  have HL := Lib.hid h.len
  have HR := Lib.hid hl
  have hle := h.le
  clear h hl
  go_enter Tryz.func118, Tryz.ntmps118
  go_wp2_with fail
  go_loopw [1, 5] (fun v g wr => ∃ x : Nat, ∃ b : Bool, v = .int .i64 x ∧ g = .bool b ∧ x < 256 ∧ (b = true → closedN l s = closedN l x) ∧ (b = false → closedN l s = x) ∧ Below w.heap.size w wr) (fun v g _ => 2 * (256 - (intOf v).toNat) + boolN g)
  case atStart => exact ⟨s, true, rfl, rfl, hs, fun _ => rfl, (fun h => by cases h), Below.refl _ _⟩
  case round =>
    obtain ⟨x, b, rfl, rfl, hx, ht, hf, hB⟩ := hrel
    have HB := Lib.hid hB
    clear hB
    cases b with
    | false =>
      have HF := Lib.hid (hf rfl)
      clear ht hf
      go_wp2_with fail
      go_ret
      rw [HF.out]
      exact ⟨rfl, HB.out⟩
    | true =>
      have HT := Lib.hid (ht rfl)
      have HST := Lib.hid (closedN_step HR.out hx)
      clear ht hf
      obtain ⟨wo, rfl⟩ : ∃ x, x = wr := ⟨_, rfl⟩
      go_wp2_with fail
      go_loopw [1, 5, 11] (fun v g i wr => ∃ k y : Nat, k ≤ n ∧ i = .int .i64 k ∧ v = .int .i64 y ∧ g = .bool (decide (x < y)) ∧ x ≤ y ∧ y < 256 ∧ roundR l x = roundR (l.drop k) y ∧ Below w.heap.size w wr) (fun _ _ i _ => n - (intOf i).toNat)
      case atStart => exact ⟨0, x, by omega, rfl, rfl, by simp, Nat.le_refl _, hx, rfl, HB.out⟩
      case round =>
        obtain ⟨k, y, hk, rfl, rfl, rfl, hxy, hy, hr, hB2⟩ := hrel
        have HB2 := Lib.hid hB2
        have HRD := Lib.hid hr
        clear hB2 hr
        by_cases hlt : k < n
        · obtain ⟨b1, o1, t, T, rfl, -, hT, c0, c1, hTT⟩ := (HA.out.below HB2.out).at_ hlt
          have hrule := HR.out T (List.mem_of_getElem? hT)
          have HNX := Lib.hid (roundR_drop hT y)
          have hyu := useR_le T y
          have hyl := useR_lt hrule hy
          simp only [ruleB, Bool.and_eq_true, decide_eq_true_eq] at hrule
          obtain ⟨⟨hset, hto⟩, hto8⟩ := hrule
          have hi1 : (k : Int) < n := by omega
          have hb2 := below_new wr (.cells #[.slice t.A t.n t.cap, .int .i64 T.to_] 149)
          have HB3 := Lib.hid (bchain HB2.out hb2)
          have hbt : bitsN T.from_ < 256 := bitsN_lt (n := 8) (setB_mem hset)
          have Q := Lib.hid (bitsOf_any t.A t.n t.cap T.from_ _ (hTT.below hb2) (setB_mem hset))
          obtain ⟨c, hc⟩ : ∃ c : Nat, T.to_ = (c : Int) := ⟨T.to_.toNat, by omega⟩
          have hfire : firesB T y = (decide (bdiff (bitsN T.from_) y = 0) && !y.testBit c) := by rw [firesB, hc, Int.toNat_natCast]
          have huse : useR T y = if firesB T y then y ||| pw c else y := by rw [useR, hc, Int.toNat_natCast]
          have hne := fun hh => useR_ne (r := T) (s := y) hh
          rw [hc] at c1 Q HB3
          have hc8 : c < 8 := by omega
          have hb1 := bandnot_nat (a := bitsN T.from_) (b := y) (by omega) (by omega)
          have hsr := shr_nat y c
          have hbo := band_one (x := y) (c := c) (by omega)
          have hsl := shl_nat (c := c) (by omega)
          have hpw := pw_lt hc8
          have hor := bor_nat (a := y) (b := pw c) (by omega) (by omega)
          have h0 : (0 : Int) ≤ c := by omega
          have h64 : (c : Int) ≤ 64 := by omega
          generalize bitsN T.from_ = m at *
          generalize hD : bdiff m y = D at *
          generalize y >>> c = S at *
          cases hd : decide (D = 0) with
          | false =>
            have hu : useR T y = y := by rw [huse, hfire, hd]; rfl
            rw [hu] at HNX
            have e0 : ((D : Int) == 0) = false := by
              have : D ≠ 0 := by simpa using hd
              simp; omega
            have e0' : (D == 0) = false := by simpa using hd
            clear hu huse hfire hne hyu hyl hset hto hto8 hc hTT hT hd hor hsl hbo hsr
            go_wp2_with (go_at_call 92; (with_reducible refine Q.out.mono ?_); rintro e w' ⟨rfl, rfl⟩)
            exact ⟨⟨k + 1, y, by omega, by go_num, rfl, rfl, hxy, hy, by rw [HRD.out, HNX.out], HB3.out⟩, by simp [intOf]; omega⟩
          | true =>
            have e0 : ((D : Int) == 0) = true := by
              have : D = 0 := by simpa using hd
              simp [this]
            have e0' : (D == 0) = true := by simpa using hd
            cases hb : y.testBit c with
            | true =>
              have hu : useR T y = y := by rw [huse, hfire, hd, hb]; rfl
              rw [hu] at HNX
              rw [hb] at hbo
              simp only [if_true] at hbo
              clear hu huse hfire hne hyu hyl hset hto hto8 hc hTT hT hd hor hsl hb
              go_wp2_with (go_at_call 92; (with_reducible refine Q.out.mono ?_); rintro e w' ⟨rfl, rfl⟩)
              exact ⟨⟨k + 1, y, by omega, by go_num, rfl, rfl, hxy, hy, by rw [HRD.out, HNX.out], HB3.out⟩, by simp [intOf]; omega⟩
            | false =>
              have hfi : firesB T y = true := by rw [hfire, hd, hb]; rfl
              have hu : useR T y = y ||| pw c := by rw [huse, hfi]; rfl
              have hnee := hne hfi
              rw [hu] at HNX hyu hyl hnee
              rw [hb] at hbo
              simp only [Bool.false_eq_true, if_false] at hbo
              generalize hY : y ||| pw c = Y at *
              generalize pw c = PW at *
              have hlt' : x < Y := by omega
              have hdY : decide (x < Y) = true := by rw [decide_eq_true_eq]; exact hlt'
              have HDY := Lib.hid hdY
              clear hu huse hfire hne hset hto hto8 hc hTT hT hd hb hfi hnee hY hdY
              go_wp2_with (go_at_call 92; (with_reducible refine Q.out.mono ?_); rintro e w' ⟨rfl, rfl⟩)
              exact ⟨⟨k + 1, Y, by omega, by go_num, rfl, by rw [HDY.out], by omega, hyl, by rw [HRD.out, HNX.out], HB3.out⟩, by simp [intOf]; omega⟩
        · have hk' : k = n := by omega
          have hr : roundR l x = y := by
            rw [HRD.out, (List.drop_eq_nil_of_le (by rw [HL.out]; omega) : l.drop k = []), roundR]
          have hst := HST.out
          rw [hr] at hst
          have HTT : Hid (closedN l s = if y = x then x else closedN l y) := by show _ = _; rw [HT.out, hst]
          have d1 : decide ((k : Int) < (n : Int)) = false := by rw [decide_eq_false_iff_not]; omega
          have d2 : decide (k < n) = false := by rw [decide_eq_false_iff_not]; omega
          clear hlt hk' hr hst
          go_wp2_with fail
          refine ⟨⟨y, decide (x < y), rfl, rfl, hy, fun h => ?_, fun h => ?_, HB2.out⟩, ?_⟩
          · rw [decide_eq_true_eq] at h
            rw [HTT.out, if_neg (by omega)]
          · rw [decide_eq_false_iff_not] at h
            have : y = x := by omega
            rw [HTT.out, if_pos this, this]
          · by_cases hh : x < y
            · simp [intOf, boolN, hh]; omega
            · have : y = x := by omega
              simp [intOf, boolN, this]
end Go.Proofs.Bg
end

section
/- Plain words for Lossless. -/
namespace Go.Proofs.Bg
open Go.RowKit

/-- What is handed back: a bool, a table, an error. -/
def RetBT (w : World) (p : Bool × PT × Int) (e : Ending) (w' : World) : Prop :=
  (∃ t : Tb, e = .returned (.tuple #[.bool p.1, .agg #[.slice t.cols.A t.cols.n t.cols.cap, .slice t.rows.A t.rows.n t.rows.cap], .int .i64 p.2.2]) ∧ TabAt w' 0 t p.2.1) ∧ Below w.heap.size w w'
theorem TabAt.empty (w : World) : TabAt w 0 ⟨⟨none, 0, 0⟩, ⟨none, 0, 0⟩⟩ ⟨[], []⟩ := ⟨Rd.nil _ _ _, ⟨[], Rd.nil _ _ _, All2.nil _⟩⟩
theorem results_tct {fn : Func} {p q u : Tmp} (h : fn.results = #[.tmp p, .cell q 40, .tmp u]) (tmps : Array Value) (w : World) (g : Nat) (a b : Value) (hp : tmps.getD q undef = .pointer (some ⟨g, 0, none⟩)) (hg : w.heap[g]? = some (.cells #[a, b] 40)) :
    (results fn tmps).run Tryz.prog w = .ok (.tuple #[tmps.getD p undef, .agg #[a, b], tmps.getD u undef]) w := by
  have hp' : tmps[q]?.getD undef = .pointer (some ⟨g, 0, none⟩) := by simpa using hp
  have hl := run_loadVar_row (P := Tryz.prog) w g 40 40 #[a, b] (0, 0) _ hg Tryz.underlying40 rfl (by kernel_rfl)
  simp [results, h, hp', asAddr, hl, Result.andThen]

theorem orAll_from : ∀ (l : List (List Int)) (o : Nat), orAll o l = l.foldl (fun o p => o ||| bitsN p) o
  | [], _ => rfl
  | p :: r, o => by rw [orAll, orAll_from r]; rfl
theorem orAll_drop {l : List (List Int)} {k : Nat} {p : List Int} (h : l[k]? = some p) (o : Nat) : orAll o (l.drop k) = orAll (o ||| bitsN p) (l.drop (k + 1)) := by rw [drop_at h, orAll]
theorem partRows_succ (n : Nat) : ∀ (l : List (List Int)) (i k : Nat) (p : List Int), l[k]? = some p → partRows n i (l.take (k + 1)) = partRows n i (l.take k) ++ [partRow n (i + k) p]
  | [], _, _, _, h => by simp at h
  | a :: r, i, 0, p, h => by
    simp only [List.getElem?_cons_zero, Option.some.injEq] at h
    subst h
    simp [partRows]
  | a :: r, i, k + 1, p, h => by
    have := partRows_succ n r (i + 1) k p (by simpa using h)
    rw [List.take_succ_cons, partRows, this, List.take_succ_cons, partRows]
    have e : i + 1 + k = i + (k + 1) := by omega
    rw [e]
    rfl
theorem partRows_len (n : Nat) : ∀ (l : List (List Int)) (i : Nat), (partRows n i l).length = l.length
  | [], _ => rfl
  | a :: r, i => by rw [partRows]; simp [partRows_len n r]
theorem partRow_ok (n i : Nat) (p : List Int) : (partRow n i p).length = n ∧ ∀ v ∈ partRow n i p, 0 ≤ v := by
  refine ⟨by simp [partRow], fun v hv => ?_⟩
  obtain ⟨c, _, rfl⟩ := List.mem_map.1 hv
  split <;> omega
theorem partRows_ok (n : Nat) : ∀ (l : List (List Int)) (i : Nat), ChOk n (partRows n i l)
  | [], _ => fun r h => by cases h
  | p :: r, i => fun x hx => by
    rw [partRows] at hx
    rcases List.mem_cons.1 hx with rfl | hx
    · exact partRow_ok n i p
    · exact partRows_ok n r (i + 1) x hx
/-- A row of the chase, its first entries made. -/
def rowTo (n i : Nat) (p : List Int) (k : Nat) : List Int := (partRow n i p).take k ++ List.replicate (n - k) 0
theorem rowTo_len (n i : Nat) (p : List Int) (k : Nat) (h : k ≤ n) : (rowTo n i p k).length = n := by simp [rowTo, partRow]; omega
theorem partRow_at {n i c : Nat} {p : List Int} (h : c < n) : (partRow n i p)[c]? = some (if (c : Int) ∈ p then 0 else 1 + (i : Int)) := by simp [partRow, h]
theorem rowTo_succ {n i c : Nat} {p : List Int} (h : c < n) : rowTo n i p (c + 1) = (rowTo n i p c).set c (if (c : Int) ∈ p then 0 else 1 + (i : Int)) := by
  have hl : ((partRow n i p).take c).length = c := by simp [partRow]; omega
  unfold rowTo
  rw [List.set_append_right _ _ (by omega), hl, Nat.sub_self, List.take_add_one, partRow_at h, List.append_assoc]
  have e : n - c = (n - (c + 1)) + 1 := by omega
  rw [e, List.replicate_succ, List.set_cons_zero]
  rfl
theorem rowTo_at {n i c : Nat} {p : List Int} (h : c < n) : (rowTo n i p c)[c]? = some 0 := by
  have hl : ((partRow n i p).take c).length = c := by simp [partRow]; omega
  unfold rowTo
  rw [List.getElem?_append_right (by omega), hl, Nat.sub_self]
  have e : n - c = (n - (c + 1)) + 1 := by omega
  rw [e, List.replicate_succ]
  rfl

/-- The closure that tells a value from 0. -/
theorem nz_any (v : Int) (w : World) : Calls Tryz.prog 100 #[.int .i64 v] w fun e w' => e = .returned (.bool (decide (v ≠ 0))) ∧ w' = w := by
  have h : (v != 0) = decide (v ≠ 0) := by
    by_cases h : v = 0 <;> simp [h]
  generalize decide (v ≠ 0) = q at *
  go_enter Tryz.func100, Tryz.ntmps100
  go_wp2
  go_ret
  exact ⟨rfl, rfl⟩
theorem ContainsNZ_any (A : Option Addr) (n cap : Nat) (r : List Int) (w : World) (h : Rd iv 1 w 0 A n r) :
    Calls Tryz.prog 57 #[.slice A n cap, .func (.func 100) #[] #[]] w fun e w' => e = .returned (.bool (r.any fun v => decide (v ≠ 0))) ∧ DrN w w' := by
  have hlen := h.len
  by_cases h0 : n = 0
  · subst h0
    obtain rfl := List.eq_nil_of_length_eq_zero hlen
    exact (Tryz.slices_ContainsFunc_empty_f57 (α := Int) A cap (.func (.func 100) #[] #[]) w).mono fun e w' ⟨he, hw⟩ => ⟨he, by rw [hw]; exact DrN.refl _⟩
  · obtain ⟨b, off, e, _, hc⟩ := h.2.2 (by omega)
    subst e
    have eg : ∀ args w, (callFunc 100 args).run Tryz.prog w = .ok (.enter 100 args) w := enters_of Tryz.func100 (by kernel_rfl) rfl
    have hc' := Tryz.slices_ContainsFunc_f57 (α := Int) (Value.int .i64) (fun v => decide (v ≠ 0)) 100 #[] eg b off n cap r w (fun W x _ => (nz_any x W).mono fun e w' ⟨he, hw⟩ => ⟨he, 0, by rw [hw]; rfl⟩) (by omega) h.le (fun j hj => by
      have := hc j r[j] (List.getElem?_eq_getElem hj) 0 _ rfl
      simp only [Nat.mul_one, Nat.add_zero] at this
      rw [this]
      simp [hj])
    rw [List.take_of_length_le (by omega)] at hc'
    exact hc'
theorem ContainsI_any (A : Option Addr) (n cap : Nat) (p : List Int) (x : Int) (w : World) (h : Rd iv 1 w 0 A n p) :
    Calls Tryz.prog 64 #[.slice A n cap, .int .i64 x] w fun e w' => e = .returned (.bool (decide (x ∈ p))) ∧ w' = w := by
  have hlen := h.len
  by_cases h0 : n = 0
  · subst h0
    obtain rfl := List.eq_nil_of_length_eq_zero hlen
    exact (Tryz.slices_Contains_int_empty A cap x w).mono fun e w' ⟨he, hw⟩ => ⟨by rw [he]; simp, hw⟩
  · obtain ⟨b, off, e, _, hc⟩ := h.2.2 (by omega)
    subst e
    have hc' := Tryz.slices_Contains_int b off n cap p x w (by omega) h.le (fun j hj => by
      have := hc j p[j] (List.getElem?_eq_getElem hj) 0 _ rfl
      simp only [Nat.mul_one, Nat.add_zero] at this
      rw [this]
      simp [hj])
    rw [List.take_of_length_le (by omega)] at hc'
    exact hc'.mono fun e w' ⟨he, hw⟩ => ⟨by rw [he]; simp, hw⟩
end Go.Proofs.Bg
end

section
/- Contract: Lossless. -/
namespace Go.Proofs.Bg
open Go.RowKit

theorem Own.shapeL {α : Type} {enc : α → List Value} {sz : Nat} {e : TypeId} {base : Nat} {w : World} {v : Value} {l : List α} (h : Own enc sz e base w v l) : ∃ A n cap, v = .slice A n cap := by
  obtain ⟨A, cap, rfl⟩ := h.shape
  exact ⟨A, _, cap, rfl⟩
/-- One row more in a chase. -/
theorem ChAtB.push {bt : TypeId} {wr w4 : World} {base c n : Nat} {cv rv rv4 : Sl} {ss : List Sl} {R : List (List Int)} {s : Sl} {r : List Int} {o : Obj} (h : ChAtB bt wr base c cv rv ss n R) (hr : Own iv 1 3 base wr s.v r) (hok : r.length = n ∧ ∀ v ∈ r, 0 ≤ v) (hnew : ∀ (i : Nat) (t : Sl), ss[i]? = some t → s.v.ownBlock ≠ t.v.ownBlock) (hsm : R.length + 1 ≤ 1000)
    (ho4 : Own Sl.vs 1 32 base w4 rv4.v (ss ++ [s])) (hg4 : (wr.alloc o).grownBy w4 rv.v.ownBlock) (hbt : bt ≠ 3 := by decide) (hbt2 : bt ≠ 32 := by decide) :
    ChAtB bt (w4.setCell ⟨c, 1, none⟩ (.slice rv4.A rv4.n rv4.cap)) base c cv rv4 (ss ++ [s]) n (R ++ [r]) ∧ w4.grownBy (w4.setCell ⟨c, 1, none⟩ (.slice rv4.A rv4.n rv4.cap)) (some c) := by
  have h2 := h.below (below_new wr o)
  have hne : some c ≠ rv.v.ownBlock := fun e => by
    rcases h2.own.2 with ⟨e', _⟩ | ⟨g', cap, cur, e', _, hb2, _⟩
    · rw [e'] at e; cases e
    · rw [e'] at e
      have : c = g' := Option.some.inj e
      subst this
      have := hb2.symm.trans h2.box
      cases this
      exact hbt2 rfl
  have hbox4 := (hg4.block c h2.lt hne).trans h2.box
  obtain ⟨b1, b2⟩ := setCell_at (off := 1) hbox4 (.slice rv4.A rv4.n rv4.cap)
  have hown : ∀ {s : Sl} {r : List Int}, Own iv 1 3 base wr s.v r → Own iv 1 3 base (w4.setCell ⟨c, 1, none⟩ (.slice rv4.A rv4.n rv4.cap)) s.v r := fun hh => ((hh.alloc o).grown hg4 (own_ne (hh.alloc o) h2.own (by decide))).grownT b2 hbox4 (Ne.symm hbt)
  refine ⟨⟨b1, h.hc, ho4.grownT b2 hbox4 (Ne.symm hbt2), All2.snoc (h.rows.mono fun x y hh => hown hh) (hown hr), fun i j t u hij h1 h3 => ?_, fun x hx => ?_, by simp; omega⟩, b2⟩
  · have hl := h.rows.1
    by_cases hi : i < ss.length
    · rw [List.getElem?_append_left hi] at h1
      by_cases hj : j < ss.length
      · rw [List.getElem?_append_left hj] at h3
        exact h.dis i j t u hij h1 h3
      · have hj2 : j = ss.length := by
          have := (List.getElem?_eq_some_iff.1 h3).1
          simp at this
          omega
        rw [hj2, List.getElem?_append_right (Nat.le_refl _)] at h3
        simp at h3
        subst h3
        exact fun e => hnew i t h1 e.symm
    · have hi2 : i = ss.length := by
        have := (List.getElem?_eq_some_iff.1 h1).1
        simp at this
        omega
      have hj : j < ss.length := by
        have := (List.getElem?_eq_some_iff.1 h3).1
        simp at this
        omega
      rw [hi2, List.getElem?_append_right (Nat.le_refl _)] at h1
      simp at h1
      subst h1
      rw [List.getElem?_append_left hj] at h3
      exact hnew j u h3
  · rcases List.mem_append.1 hx with hx | hx
    · exact h.ok x hx
    · simp at hx; subst hx; exact hok
theorem ChAtB.ne {bt : TypeId} {w : World} {base c n : Nat} {cv rv : Sl} {ss : List Sl} {R : List (List Int)} (h : ChAtB bt w base c cv rv ss n R) (hbt2 : bt ≠ 32 := by decide) : some c ≠ rv.v.ownBlock := fun e => by
  rcases h.own.2 with ⟨e', _⟩ | ⟨g', cap, cur, e', _, hb2, _⟩
  · rw [e'] at e; cases e
  · rw [e'] at e
    have : c = g' := Option.some.inj e
    subst this
    have := hb2.symm.trans h.box
    cases this
    exact hbt2 rfl
theorem zeros_flat : ∀ n : Nat, (List.replicate n (0 : Int)).flatMap iv = List.replicate n (Value.int .i64 0)
  | 0 => rfl
  | n + 1 => by rw [List.replicate_succ, List.flatMap_cons, zeros_flat n, List.replicate_succ]; rfl
theorem rowTo_zero (n i : Nat) (p : List Int) : rowTo n i p 0 = List.replicate n 0 := by simp [rowTo]
theorem rowTo_all (n i : Nat) (p : List Int) : rowTo n i p n = partRow n i p := by
  unfold rowTo
  rw [List.take_of_length_le (by simp [partRow]), Nat.sub_self]
  simp
/-- The zero table stored once more. -/
theorem zero_again {w W : World} {g : Nat} (h : W.heap[g]? = some (.cells #[.slice none 0 0, .slice none 0 0] 40)) (hb : Below w.heap.size w W) (hg : w.heap.size ≤ g) :
    ((W.setCell ⟨g, 0, none⟩ (.slice none 0 0)).setCell ⟨g, 1, none⟩ (.slice none 0 0)).heap[g]? = some (.cells #[.slice none 0 0, .slice none 0 0] 40) ∧ Below w.heap.size w ((W.setCell ⟨g, 0, none⟩ (.slice none 0 0)).setCell ⟨g, 1, none⟩ (.slice none 0 0)) := by
  obtain ⟨q1, q2⟩ := setCell_at (off := 0) h (.slice none 0 0)
  obtain ⟨q3, q4⟩ := setCell_at (off := 1) q1 (.slice none 0 0)
  exact ⟨q3, below_row (below_row hb q2 (fun j e => by cases e; exact hg)) q4 (fun j e => by cases e; exact hg)⟩

set_option maxRecDepth 100000 in
set_option maxHeartbeats 8000000 in
theorem Lossless_any (N : Int) (A : Option Addr) (m cap : Nat) (l : List PF) (s : Sl) (L : List (List Int)) (w : World) (h : FdsAt w 0 A m l) (hs : RowsAt w 0 s L) :
    Calls Tryz.prog 30 #[.int .i64 N, .slice A m cap, .slice s.A s.n s.cap] w (RetBT w (losslessR N l L)) := by
  obtain ⟨sA, sn, sk⟩ := s
  have hb0 := below_new w (.cells #[.slice none 0 0, .slice none 0 0] 40)
  have hz0 := new_block w #[.slice none 0 0, .slice none 0 0] 40
  generalize hW0 : w.alloc (.cells #[.slice none 0 0, .slice none 0 0] 40) = W0 at *
  have HW0 := Lib.hid hW0
  have HB0 := Lib.hid hb0
  have HZ0 := Lib.hid hz0
  have Q1 := Lib.hid (rulesIn_any N A m cap l W0 (h.below hb0))
  have HA := Lib.hid h
  have HS := Lib.hid hs
  have HL : Hid (L.length = sn) := hs.len
  have hle : sn ≤ 9223372036854775807 := hs.le
  clear h hs hW0 hb0 hz0
  cases hr : rulesB N l with
  | false =>
    have HR : Hid (losslessR N l L = (false, ⟨[], []⟩, 2)) := by show _ = _; simp [losslessR, hr]
    rw [hr] at Q1
    clear hr
    go_enter Tryz.func30, Tryz.ntmps30
    go_wp2_with fail
    rw [HW0.out]
    (with_reducible refine Q1.out.mono ?_)
    rintro e w1 ⟨rfl, hb1⟩
    have hz1 := (hb1.block _ (Array.getElem?_eq_some_iff.1 HZ0.out).1).trans HZ0.out
    have c0 := cell_at_block (off := 0) hz1 rfl
    have c1 := cell_at_block (off := 1) hz1 rfl
    have f0 := free_at_block (off := 0) hz1
    have f1 := free_at_block (off := 1) hz1
    have HZ1 := Lib.hid hz1
    have HB1 := Lib.hid (bchain HB0.out hb1)
    clear hb1 hz1 Q1
    go_wp2_with fail
    obtain ⟨q1, q2⟩ := setCell_at (off := 0) HZ1.out (.slice none 0 0)
    obtain ⟨q3, q4⟩ := setCell_at (off := 1) q1 (.slice none 0 0)
    refine bodyPost_ret (results_tct rfl _ _ w.heap.size (.slice none 0 0) (.slice none 0 0) rfl q3) rfl ?_
    rw [HR.out]
    exact ⟨⟨⟨⟨none, 0, 0⟩, ⟨none, 0, 0⟩⟩, rfl, TabAt.empty _⟩, below_row (below_row HB1.out q2 (fun g e => by cases e; exact Nat.le_refl _)) q4 (fun g e => by cases e; exact Nat.le_refl _)⟩
  | true =>
    have HRULE := Lib.hid hr
    have hN : 1 ≤ N ∧ N ≤ 8 := by
      simp only [rulesB, Bool.and_eq_true, decide_eq_true_eq] at hr
      exact ⟨hr.1.1.1, hr.1.1.2⟩
    obtain ⟨n, rfl⟩ : ∃ n : Nat, N = (n : Int) := ⟨N.toNat, by omega⟩
    have hn1 : 1 ≤ n := by omega
    have hn8 : n ≤ 8 := by omega
    by_cases h05 : 0 < sn ∧ sn ≤ 5
    · have d0 : ((sn : Int) == 0) = false := by simp; omega
      have d0' : (sn == 0) = false := by simp; omega
      have d5 : decide ((5 : Int) < (sn : Int)) = false := by rw [decide_eq_false_iff_not]; omega
      have d5' : decide (5 < sn) = false := by rw [decide_eq_false_iff_not]; omega
      have HG : Hid (partsB n L = (L.drop 0).all fun p => decide (0 < p.length) && setB p n) := by
        show _ = _
        have e1 : decide (0 < L.length) = true := by rw [decide_eq_true_eq, HL.out]; omega
        have e2 : decide (L.length ≤ 5) = true := by rw [decide_eq_true_eq, HL.out]; omega
        rw [partsB, e1, e2]
        rfl
      rw [hr] at Q1
      have hsn5 : sn ≤ 5 := h05.2
      clear hr hN
      go_enter Tryz.func30, Tryz.ntmps30
      go_wp2_with fail
      rw [HW0.out]
      (with_reducible refine Q1.out.mono ?_)
      rintro e w1 ⟨rfl, hb1⟩
      have HZ1 := Lib.hid ((hb1.block _ (Array.getElem?_eq_some_iff.1 HZ0.out).1).trans HZ0.out)
      have HB1 := Lib.hid (bchain HB0.out hb1)
      clear hb1 Q1
      go_wp2_with fail
      clear d0 d0' d5 d5'
      go_loopw [9, 36] (fun a i wr => ∃ k o : Nat, k ≤ sn ∧ i = .int .i64 k ∧ a = .int .i64 o ∧ o < 256 ∧ partsB n L = (L.drop k).all (fun p => decide (0 < p.length) && setB p n) ∧ (∀ p ∈ L.take k, 0 < p.length ∧ setB p n = true) ∧ orAll 0 L = orAll o (L.drop k) ∧ wr.heap[w.heap.size]? = some (.cells #[.slice none 0 0, .slice none 0 0] 40) ∧ Below w.heap.size w wr) (fun _ i _ => sn - (intOf i).toNat)
      case atStart => exact ⟨0, 0, by omega, rfl, rfl, by omega, HG.out, (fun p hp => by simp at hp), rfl, HZ1.out, HB1.out⟩
      case round =>
        clear HZ1 HB1 HG
        obtain ⟨k, o, hk, rfl, rfl, ho, he, hall, hor, hz, hB⟩ := hrel
        have HE := Lib.hid he
        have HALL := Lib.hid hall
        have HOR := Lib.hid hor
        have HZ := Lib.hid hz
        have HB := Lib.hid hB
        clear he hall hor
        by_cases hlt : k < sn
        · obtain ⟨b1, o1, t, p, hbb, -, hp, e0, hP⟩ := (HS.out.below hB).at_ hlt
          simp only [] at hbb
          subst hbb
          have HTK : Hid (L.take (k + 1) = L.take k ++ [p]) := by show _ = _; rw [List.take_add_one, hp]; rfl
          have HDR := Lib.hid (drop_at hp)
          have HOD := Lib.hid (orAll_drop hp o)
          have hpl : p.length = t.n := hP.len
          have hi1 : (k : Int) < sn := by omega
          rw [HDR.out, List.all_cons] at HE
          have Q2 := Lib.hid (setIn_any t.A t.n t.cap n p wr hP)
          have c0 := cell_at_block (off := 0) hz rfl
          have c1 := cell_at_block (off := 1) hz rfl
          have f0 := free_at_block (off := 0) hz
          have f1 := free_at_block (off := 1) hz
          clear hp hz hB
          by_cases ht0 : t.n = 0
          · have e1 : ((t.n : Int) == 0) = true := by simp [ht0]
            have e1' : (t.n == 0) = true := by simp [ht0]
            have HR : Hid (losslessR n l L = (false, ⟨[], []⟩, 2)) := by
              show _ = _
              have : decide (0 < p.length) = false := by rw [decide_eq_false_iff_not, hpl]; omega
              rw [losslessR, HE.out, this, Bool.false_and, Bool.false_and, Bool.and_false]
              rfl
            clear ht0 hP hpl
            go_wp2_with fail
            obtain ⟨q1, q2⟩ := zero_again HZ.out HB.out (Nat.le_refl _)
            refine bodyPost_ret (results_tct rfl _ _ w.heap.size (.slice none 0 0) (.slice none 0 0) rfl q1) rfl ?_
            rw [HR.out]
            exact ⟨⟨⟨⟨none, 0, 0⟩, ⟨none, 0, 0⟩⟩, rfl, TabAt.empty _⟩, q2⟩
          · have e1 : ((t.n : Int) == 0) = false := by simp; omega
            have e1' : (t.n == 0) = false := by simpa using ht0
            cases hst : setB p n with
            | false =>
              have HR : Hid (losslessR n l L = (false, ⟨[], []⟩, 2)) := by
                show _ = _
                rw [losslessR, HE.out, hst, Bool.and_false, Bool.false_and, Bool.and_false]
                rfl
              rw [hst] at Q2
              clear ht0 hP hpl hst
              go_wp2_with fail
              (with_reducible refine Q2.out.mono ?_)
              rintro e w2 ⟨rfl, hw2⟩
              obtain rfl := hw2.symm
              go_wp2_with fail
              obtain ⟨q1, q2⟩ := zero_again HZ.out HB.out (Nat.le_refl _)
              refine bodyPost_ret (results_tct rfl _ _ w.heap.size (.slice none 0 0) (.slice none 0 0) rfl q1) rfl ?_
              rw [HR.out]
              exact ⟨⟨⟨⟨none, 0, 0⟩, ⟨none, 0, 0⟩⟩, rfl, TabAt.empty _⟩, q2⟩
            | true =>
              have hmem : ∀ c ∈ p, 0 ≤ c ∧ c < 8 := fun c hc => by have := setB_mem hst c hc; omega
              have Q3 := Lib.hid (bitsOf_any t.A t.n t.cap p wr hP hmem)
              have hbl : bitsN p < 256 := bitsN_lt (n := 8) hmem
              have hbo := bor_nat (a := o) (b := bitsN p) (by omega) (by omega)
              have hol : o ||| bitsN p < 256 := Nat.or_lt_two_pow (n := 8) ho hbl
              have h0p : decide (0 < p.length) = true := by rw [decide_eq_true_eq, hpl]; omega
              rw [h0p, hst, Bool.true_and, Bool.true_and] at HE
              have HAL : Hid (∀ q ∈ L.take (k + 1), 0 < q.length ∧ setB q n = true) := by
                show ∀ q ∈ L.take (k + 1), 0 < q.length ∧ setB q n = true
                rw [HTK.out]
                intro q hq
                rcases List.mem_append.1 hq with hq | hq
                · exact HALL.out q hq
                · simp at hq; subst hq; exact ⟨by simpa using h0p, hst⟩
              rw [hst] at Q2
              generalize o ||| bitsN p = o2 at *
              generalize bitsN p = bp at *
              clear ht0 hP hpl hst hmem h0p
              go_wp2_with fail
              (with_reducible refine Q2.out.mono ?_)
              rintro e w2 ⟨rfl, hw2⟩
              obtain rfl := hw2.symm
              go_wp2_with fail
              (with_reducible refine Q3.out.mono ?_)
              rintro e w2 ⟨rfl, hw2⟩
              obtain rfl := hw2.symm
              go_wp2_with fail
              exact ⟨⟨k + 1, o2, by omega, by go_num, rfl, hol, HE.out, HAL.out, by rw [HOR.out, HOD.out], HZ.out, HB.out⟩, by simp [intOf]; omega⟩
        · have hk' : k = sn := by omega
          have hdn : L.drop k = [] := List.drop_eq_nil_of_le (by rw [HL.out]; omega)
          have hpb : partsB n L = true := by rw [HE.out, hdn]; rfl
          have hoo : orAll 0 L = o := by rw [HOR.out, hdn, orAll]
          have htk : L.take k = L := List.take_of_length_le (by rw [HL.out]; omega)
          rw [htk] at HALL
          obtain ⟨al, hal⟩ : ∃ al, pw n = al + 1 := ⟨pw n - 1, by have := pw_pos n; omega⟩
          have hal8 : al < 256 := by
            have h2 : pw n ≤ pw 8 := Nat.pow_le_pow_right (by decide) hn8
            have h3 : pw 8 = 256 := rfl
            omega
          have hsl : IntKind.i64.wrap (2 ^ n) = (al : Int) + 1 := by
            rw [shl_nat (by omega), hal]
            rfl
          have hn0 : (0 : Int) ≤ n := by omega
          have hn64 : (n : Int) ≤ 64 := by omega
          have d1 : decide ((k : Int) < (sn : Int)) = false := by rw [decide_eq_false_iff_not]; omega
          have d2 : decide (k < sn) = false := by rw [decide_eq_false_iff_not]; omega
          have c0 := cell_at_block (off := 0) hz rfl
          have c1 := cell_at_block (off := 1) hz rfl
          have f0 := free_at_block (off := 0) hz
          have f1 := free_at_block (off := 1) hz
          by_cases hoa : o = al
          · subst hoa
            have e1 : ((o : Int) != (o : Int)) = false := by simp
            have HR : Hid (losslessR n l L = if wholeB (chaseN l (partRows n 0 L)) then (true, ⟨[], []⟩, 0) else (false, ⟨colsN o, sortR (chaseN l (partRows n 0 L))⟩, 0)) := by
              show _ = _
              rw [losslessR, HRULE.out, hpb, Int.toNat_natCast, hoo, hal]
              simp
            have Q4 := Lib.hid (columnsOf_any o wr ho)
            obtain ⟨cols, hcols⟩ : ∃ cols, colsN o = cols := ⟨_, rfl⟩
            rw [hcols] at Q4 HR
            have hcl : cols.length ≤ 8 := by rw [← hcols]; exact colsFrom_length _ _ _
            clear hk' hdn hpb hoo htk hal hlt hz hB c0 c1 f0 f1 hcols HE HOR
            go_wp2_with fail
            (with_reducible refine Q4.out.mono ?_)
            rintro e w2 ⟨v2, rfl, hown2, hb2⟩
            obtain ⟨cA, cn, ck, rfl⟩ := hown2.shapeL
            have hcn : cn = cols.length := hown2.len
            subst hcn
            have HC2 := Lib.hid (((hown2.rdN iv_length).low (Nat.zero_le _)))
            have HB2 := Lib.hid (bchain HB.out hb2)
            have HZ2 := Lib.hid ((hb2.block _ (Array.getElem?_eq_some_iff.1 HZ.out).1).trans HZ.out)
            have hch0 : ChAt (w2.alloc (.cells #[.slice cA cols.length ck, .slice none 0 0] 130)) w2.heap.size w2.heap.size ⟨cA, cols.length, ck⟩ ⟨none, 0, 0⟩ [] n [] :=
              ⟨new_block _ _ _, Nat.le_refl _, Own.nil _ _ _ _ _, All2.nil _, (fun i j s t _ h => by simp at h), (fun r h => by cases h), by simp⟩
            have HCH0 := Lib.hid hch0
            clear hown2 hb2 hch0 Q4
            go_wp2_with fail
            clear d1 d2 e1 hsl
            go_loopw [67] (fun i wr => ∃ k2 : Nat, k2 ≤ sn ∧ i = .int .i64 k2 ∧ ∃ rv ss, ChAt wr w2.heap.size w2.heap.size ⟨cA, cols.length, ck⟩ rv ss n (partRows n 0 (L.take k2)) ∧ Below w2.heap.size w2 wr) (fun i _ => sn - (intOf i).toNat)
            case atStart => exact ⟨0, by omega, rfl, ⟨none, 0, 0⟩, [], HCH0.out, below_new _ _⟩
            case round =>
              clear HCH0
              obtain ⟨k2, hk2, rfl, rv, ss, hC, hB2⟩ := hrel
              have HC := Lib.hid hC
              have HBW := Lib.hid hB2
              obtain ⟨wo, rfl⟩ : ∃ x, x = wr := ⟨_, rfl⟩
              by_cases hlt : k2 < sn
              · obtain ⟨b1, o1, t, p, hbb, -, hp, e0', hP⟩ := (HS.out.below HB2.out).at_ hlt
                simp only [] at hbb
                subst hbb
                have e0 := (hB2.cell (World.block_lt_of_cell? _ _ e0')).trans e0'
                clear e0'
                have HPS := Lib.hid (partRows_succ n L 0 k2 p hp)
                have HPT := Lib.hid hP
                have hi1 : (k2 : Int) < sn := by omega
                obtain ⟨i0, hi, hzz0, hzz1, hzz2⟩ := info_parts infoInt
                clear hp hP hC hB2
                go_wp2_with (at_make; refine wpList_make_full _ rfl _ _ _ rfl w2.heap.size 3 i0 _ 1 Tryz.underlying32 hi hzz0 hzz1 .i64 .i64 _ _ n rfl rfl rfl rfl (by rw [hzz2]; omega) (by unfold maxLen; omega) (HBW.out.size) ?_; intro w3 hown3 hg3)
                have hown3' : Own iv 1 3 w2.heap.size w3 (.slice (some ⟨wo.heap.size, 0, none⟩) n n) (rowTo n k2 p 0) := by
                  rw [rowTo_zero]
                  unfold Own
                  rw [List.length_replicate]
                  have e : (List.replicate n (0 : Int)).flatMap iv = (madeCells (Value.int .i64 0).cells (n * 1)).toList := by
                    have h1 : (Value.int .i64 0).cells = #[.int .i64 0] := rfl
                    rw [h1, Nat.mul_one, toList_madeCells_one]
                    exact zeros_flat n
                  rw [e]
                  exact hown3
                have HO3 := Lib.hid hown3'
                have HG3 := Lib.hid hg3
                have hb3 : Below wo.heap.size wo w3 := ⟨hg3.os, hg3.tape, hg3.output, hg3.size, fun i hi => hg3.block i hi (by simp)⟩
                have HB3 := Lib.hid hb3
                have hsz3 : wo.heap.size < w3.heap.size := (hown3'.blk _ rfl).2
                clear hown3 hown3' hg3 hb3
                go_loopw [76] (fun i wr => ∃ c : Nat, c ≤ n ∧ i = .int .i64 c ∧ Own iv 1 3 w2.heap.size wr (.slice (some ⟨wo.heap.size, 0, none⟩) n n) (rowTo n k2 p c) ∧ Below wo.heap.size wo wr) (fun i _ => n - (intOf i).toNat)
                case atStart => exact ⟨0, by omega, rfl, HO3.out, HB3.out⟩
                case round =>
                  obtain ⟨c, hc, rfl, ho, hB4⟩ := hrel
                  have HO4 := Lib.hid ho
                  have HB4 := Lib.hid hB4
                  by_cases hlt2 : c < n
                  · have Q5 := Lib.hid (ContainsI_any t.A t.n t.cap p (c : Int) wr (Rd.below HPT.out (bchain HBW.out hB4)))
                    obtain ⟨g', x, e, -, -, -, hx, hcc, hf⟩ := ho.at_ iv_length (i := c) (by rw [rowTo_len _ _ _ _ (by omega)]; exact hlt2)
                    cases e
                    have y0 := hcc 0 _ rfl
                    simp only [Nat.mul_one, Nat.add_zero] at y0
                    have fy := hf c
                    have hi2 : (c : Int) < n := by omega
                    have HRS := Lib.hid (rowTo_succ (i := k2) (p := p) hlt2)
                    obtain ⟨q1, q2⟩ := Own.set1 iv_length HO4.out (i := c) (by rw [rowTo_len _ _ _ _ (by omega)]; exact hlt2) (y := 1 + (k2 : Int)) (u := .int .i64 (1 + (k2 : Int))) rfl
                    have HQ1 := Lib.hid q1
                    have HQ2 := Lib.hid (hB4.grown q2 hB4.size (fun j e => by cases e; exact Nat.le_refl _))
                    have hw1 : IntKind.i64.wrap (1 + (k2 : Int)) = 1 + (k2 : Int) := IntWalk.i64_in _ (by omega)
                    have HX0 : Hid (x = 0) := by show _ = _; rw [rowTo_at hlt2] at hx; cases hx; rfl
                    clear ho hB4 hx hcc hf q1 q2
                    by_cases hm : (c : Int) ∈ p
                    · have HD : Hid (decide ((c : Int) ∈ p) = true) := by show _ = _; simpa using hm
                      rw [if_pos hm] at HRS
                      rw [HD.out] at Q5
                      have HNX : Hid (rowTo n k2 p (c + 1) = rowTo n k2 p c) := by
                        show _ = _
                        rw [HRS.out]
                        obtain ⟨h1, h2⟩ := List.getElem?_eq_some_iff.1 (rowTo_at (i := k2) (p := p) hlt2)
                        conv => lhs; rw [← h2]
                        exact List.set_getElem_self _
                      clear hm
                      go_wp2_with (go_at_call 64; (with_reducible refine Q5.out.mono ?_); rintro e w' ⟨rfl, hw'⟩; obtain rfl := hw'.symm)
                      exact ⟨⟨c + 1, by omega, by go_num, by rw [HNX.out]; exact HO4.out, HB4.out⟩, by simp [intOf]; omega⟩
                    · have HD : Hid (decide ((c : Int) ∈ p) = false) := by show _ = _; simpa using hm
                      rw [if_neg hm] at HRS
                      rw [HD.out] at Q5
                      clear hm
                      go_wp2_with (go_at_call 64; (with_reducible refine Q5.out.mono ?_); rintro e w' ⟨rfl, hw'⟩; obtain rfl := hw'.symm)
                      exact ⟨⟨c + 1, by omega, by go_num, by rw [HRS.out]; exact HQ1.out, HQ2.out⟩, by simp [intOf]; omega⟩
                  · have hcn : c = n := by omega
                    subst hcn
                    rw [rowTo_all] at HO4
                    have hC4 := HC.out.below hB4
                    have c1 := cell_at_block (off := 1) hC4.box rfl
                    have hlen4 := hC4.len
                    have HC4 := Lib.hid hC4
                    have hssl : ss.length = (partRows c 0 (L.take k2)).length := hC4.rows.1
                    rw [partRows_len, List.length_take] at hssl
                    obtain ⟨rA, rN, rK⟩ := rv
                    have hrvn : rN = ss.length := hC4.own.len
                    subst hrvn
                    have hs5 : ss.length ≤ 5 := by omega
                    have d1 : decide ((c : Int) < (c : Int)) = false := by rw [decide_eq_false_iff_not]; omega
                    have hszB := HBW.out.size
                    have HNEW : Hid (∀ (i : Nat) (t : Sl), ss[i]? = some t → (Sl.v ⟨some ⟨wo.heap.size, 0, none⟩, c, c⟩).ownBlock ≠ t.v.ownBlock) := by
                      show ∀ (i : Nat) (t : Sl), _
                      intro i t ht e
                      have hr := List.getElem?_eq_getElem (l := partRows c 0 (L.take k2)) (i := i) (by rw [← HC.out.rows.1]; exact (List.getElem?_eq_some_iff.1 ht).1)
                      exact Nat.lt_irrefl _ ((HC.out.rows.2 i t _ ht hr).blk _ e.symm).2
                    have HNE := Lib.hid hC4.ne
                    have HLT := Lib.hid hC4.lt
                    have hsz4 := hB4.size
                    have hbB : w2.heap.size ≤ wr.heap.size := by omega
                    clear ho hB4 hC4 hlt2 hlen4 hssl
                    go_wp2_with (at_builtin; go_loud (refine wpList_app1 Sl.vs 1 32 _ 24 infoSl rfl (by decide) rfl _ _ _ rfl Tryz.underlying38 w2.heap.size _ ss rfl (HC4.out.own.alloc _) ⟨some ⟨wo.heap.size, 0, none⟩, c, c⟩ _ _ rfl rfl (newAt _ _ _ _ (by simp)) (by simp [Sl.vs, Value.oneCell']) (by omega) (by unfold maxLen; omega) (by simp; omega) (fun v4 w4 hown4 hg4 _ => ?_)); obtain ⟨A4, n4, c4, rfl⟩ := hown4.shapeL; have f1 := free_at_block (off := 1) ((hg4.block w2.heap.size (by simp; have := HLT.out; omega) HNE.out).trans (HC4.out.below (below_new _ _)).box); have c14 := cell_at_block (off := 1) ((hg4.block w2.heap.size (by simp; have := HLT.out; omega) HNE.out).trans (HC4.out.below (below_new _ _)).box) rfl; have HW4 := Lib.hid hown4; have HG4 := Lib.hid hg4; clear hown4 hg4)
                    obtain ⟨p1, p2⟩ := ChAtB.push (s := ⟨some ⟨wo.heap.size, 0, none⟩, c, c⟩) (rv4 := ⟨A4, n4, c4⟩) HC4.out HO4.out (partRow_ok c k2 p) HNEW.out (by rw [partRows_len, List.length_take]; omega) HW4.out HG4.out
                    refine ⟨⟨k2 + 1, by omega, by go_num, ⟨A4, n4, c4⟩, _, by rw [HPS.out, Nat.zero_add]; exact p1, ?_⟩, by simp [intOf]; omega⟩
                    have b1 := HBW.out.trans (HB4.out.mono hszB)
                    exact below_row (below_row (bchain b1 (below_new _ _)) HG4.out (fun j e => (HC4.out.own.blk j e).1)) p2 (fun j e => by cases e; exact Nat.le_refl _)
              · have hk2' : k2 = sn := by omega
                have htk2 : L.take k2 = L := List.take_of_length_le (by rw [HL.out]; omega)
                rw [htk2] at hC
                have hszw := HB2.out.size
                have HBW0 := Lib.hid (HB2.out.trans (HBW.out.mono hszw))
                have HRS : Hid (∀ r ∈ l, ruleB n r = true) := by
                  have := HRULE.out
                  simp only [rulesB, Bool.and_eq_true, List.all_eq_true] at this
                  exact this.2
                have Q5 := Lib.hid (run_any w2.heap.size w2.heap.size n ⟨cA, cols.length, ck⟩ rv ss (partRows n 0 L) A m cap l w wo hC HA.out HBW0.out hszw HRS.out)
                have d1 : decide ((k2 : Int) < (sn : Int)) = false := by rw [decide_eq_false_iff_not]; omega
                have d2 : decide (k2 < sn) = false := by rw [decide_eq_false_iff_not]; omega
                have HC0L : Hid (ss.length = sn) := by
                  have h1 := hC.rows.1
                  rw [partRows_len, HL.out] at h1
                  exact h1
                clear hlt hk2' htk2 hC hB2 HC
                go_wp2_with fail
                (with_reducible refine Q5.out.mono ?_)
                rintro e w5 ⟨rfl, hC5, hB5, -⟩
                obtain ⟨RC, hRC⟩ : ∃ RC, chaseN l (partRows n 0 L) = RC := ⟨_, rfl⟩
                rw [hRC] at hC5 HR
                obtain ⟨rA, rN, rK⟩ := rv
                have hssl := hC5.rows.1
                have hsn : sn = rN := by
                  have h1 := hC5.len
                  have h2 := HC0L.out
                  simp only [] at h1
                  omega
                subst hsn
                have HC5 := Lib.hid hC5
                have HB5 := Lib.hid (HBW.out.trans hB5)
                have HB6 := Lib.hid (bchain HB2.out HB5.out)
                have HZ5 := Lib.hid ((HB5.out.block _ (Array.getElem?_eq_some_iff.1 HZ2.out).1).trans HZ2.out)
                have HRL : Hid (RC.length = sn) := by
                  show _ = _
                  have := HC0L.out
                  omega
                have c1 := cell_at_block (off := 1) hC5.box rfl
                clear hC5 hB5 hRC Q5 hssl HC0L
                go_wp2_with fail
                clear c1
                go_loopw [104] (fun i wr => ∃ k3 : Nat, k3 ≤ sn ∧ i = .int .i64 k3 ∧ (∀ r ∈ RC.take k3, (r.any fun v => decide (v ≠ 0)) = true) ∧ DrN w5 wr) (fun i _ => sn - (intOf i).toNat)
                case atStart => exact ⟨0, by omega, rfl, (fun r hr => by simp at hr), DrN.refl _⟩
                case round =>
                  obtain ⟨k3, hk3, rfl, hall3, hD⟩ := hrel
                  obtain ⟨wp, rfl⟩ : ∃ x, x = wr := ⟨_, rfl⟩
                  have HALL3 := Lib.hid hall3
                  have HD := Lib.hid hD
                  have hbD := hD.below
                  have hzD := (hbD.block _ (Array.getElem?_eq_some_iff.1 HZ5.out).1).trans HZ5.out
                  have HBD := Lib.hid (bchain HB6.out hbD)
                  have HZD := Lib.hid hzD
                  by_cases hlt3 : k3 < sn
                  · obtain ⟨g, x, e, -, -, -, hx, hcc, -⟩ := HC5.out.own.at_ Sl.vs_length (i := k3) (by rw [HC5.out.rows.1, HRL.out]; exact hlt3)
                    cases e
                    have ch' := hcc 0 _ rfl
                    simp only [Nat.mul_one, Nat.add_zero] at ch'
                    have ch := (hbD.cell (World.block_lt_of_cell? _ _ ch')).trans ch'
                    have hr : RC[k3]? = some (RC[k3]'(by rw [HRL.out]; exact hlt3)) := List.getElem?_eq_getElem _
                    generalize RC[k3]'(by rw [HRL.out]; exact hlt3) = row at hr
                    have ho := ((HC5.out.rows.2 k3 x row hx hr).below hbD)
                    have HTK3 : Hid (RC.take (k3 + 1) = RC.take k3 ++ [row]) := by show _ = _; rw [List.take_add_one, hr]; rfl
                    have HMEM := Lib.hid (List.mem_of_getElem? hr)
                    have Q6 := Lib.hid (ContainsNZ_any x.A x.n x.cap row wp ((Own.rdN iv_length ho).low (Nat.zero_le _)))
                    have hi1 : (k3 : Int) < sn := by omega
                    have z0 := cell_at_block (off := 0) hzD rfl
                    have z1 := cell_at_block (off := 1) hzD rfl
                    have y0 := free_at_block (off := 0) hzD
                    have y1 := free_at_block (off := 1) hzD
                    clear ch' hcc hx hr ho hall3 hD hbD hzD
                    cases hany : row.any fun v => decide (v ≠ 0) with
                    | true =>
                      have HANY := Lib.hid hany
                      rw [hany] at Q6
                      clear hany z0 z1 y0 y1
                      go_wp2_with fail
                      (with_reducible refine Q6.out.mono ?_)
                      rintro e w' ⟨rfl, q, hw'⟩
                      obtain rfl := hw'.symm
                      go_wp2_with fail
                      refine ⟨⟨k3 + 1, by omega, by go_num, fun r hr => ?_, by first | exact HD.out.drewN q | exact (HD.out.drewN q).drew⟩, by simp [intOf]; omega⟩
                      rw [HTK3.out] at hr
                      rcases List.mem_append.1 hr with hr | hr
                      · exact HALL3.out r hr
                      · simp at hr; subst hr; exact HANY.out
                    | false =>
                      have HWH : Hid (wholeB RC = true) := by
                        show _ = _
                        unfold wholeB
                        rw [List.any_eq_true]
                        exact ⟨row, HMEM.out, by rw [hany]; rfl⟩
                      rw [HWH.out, if_pos rfl] at HR
                      rw [hany] at Q6
                      clear hany
                      go_wp2_with fail
                      (with_reducible refine Q6.out.mono ?_)
                      rintro e w' ⟨rfl, q, hw'⟩
                      obtain rfl := hw'.symm
                      have b2 := bchain HBD.out (below_drewN (Below.refl _ _) q)
                      have hzq := ((below_drewN (Below.refl wp.heap.size wp) q).block _ (Array.getElem?_eq_some_iff.1 HZD.out).1).trans HZD.out
                      have HZQ := Lib.hid hzq
                      have HB2' := Lib.hid b2
                      have z0 := cell_at_block (off := 0) hzq rfl
                      have z1 := cell_at_block (off := 1) hzq rfl
                      have y0 := free_at_block (off := 0) hzq
                      have y1 := free_at_block (off := 1) hzq
                      clear b2 hzq
                      go_wp2_with fail
                      obtain ⟨q1, q2⟩ := zero_again HZQ.out HB2'.out (Nat.le_refl _)
                      refine bodyPost_ret (results_tct rfl _ _ w.heap.size (.slice none 0 0) (.slice none 0 0) rfl q1) rfl ?_
                      rw [HR.out]
                      exact ⟨⟨⟨⟨none, 0, 0⟩, ⟨none, 0, 0⟩⟩, rfl, TabAt.empty _⟩, q2⟩
                  · have hk3' : k3 = sn := by omega
                    have HWH : Hid (wholeB RC = false) := by
                      show _ = _
                      unfold wholeB
                      rw [List.any_eq_false]
                      intro r hr
                      have := HALL3.out r (by rw [hk3', List.take_of_length_le (by rw [HRL.out]; exact Nat.le_refl _)]; exact hr)
                      rw [this]
                      decide
                    rw [HWH.out, if_neg (by decide)] at HR
                    have hC6 := HC5.out.below hbD
                    have HC6 := Lib.hid hC6
                    have hrows : RowsAt wp 0 ⟨rA, sn, rK⟩ RC := ⟨ss, by have := (hC6.own.rdN Sl.vs_length).low (Nat.zero_le _); exact this, hC6.rows.mono fun x y h => h.ints.low (Nat.zero_le _)⟩
                    have Q7 := Lib.hid (sorted_any ⟨rA, sn, rK⟩ RC wp hrows (by show sn ≤ _; omega))
                    have c1 := cell_at_block (off := 1) hC6.box rfl
                    have d1 : decide ((k3 : Int) < (sn : Int)) = false := by rw [decide_eq_false_iff_not]; omega
                    have d2 : decide (k3 < sn) = false := by rw [decide_eq_false_iff_not]; omega
                    clear hlt3 hk3' hC6 hrows hall3 hD hzD
                    have hbD := hbD
                    go_wp2_with fail
                    (with_reducible refine Q7.out.mono ?_)
                    rintro e w7 ⟨v7, rfl, hr7, hb7⟩
                    obtain ⟨A7, c7, rfl⟩ := hr7.shape
                    have hbox := (HC6.out.below hb7).box
                    obtain ⟨q1, q2⟩ := setCell_at (off := 1) hbox (.slice A7 (sortR RC).length c7)
                    have y1 := cell_at_block (off := 1) hbox rfl
                    have f1 := free_at_block (off := 1) hbox
                    have x0 := cell_at_block (off := 0) q1 rfl
                    have x1 := cell_at_block (off := 1) q1 rfl
                    have hlt0 : w.heap.size < w5.heap.size := (Array.getElem?_eq_some_iff.1 HZ5.out).1
                    have hz7 := (hb7.block w.heap.size (Array.getElem?_eq_some_iff.1 HZD.out).1).trans HZD.out
                    have hne0 : w.heap.size ≠ w2.heap.size := by have := (Array.getElem?_eq_some_iff.1 HZ2.out).1; omega
                    have hz8 := (q2.block w.heap.size (Array.getElem?_eq_some_iff.1 hz7).1 (fun e => hne0 (Option.some.inj e))).trans hz7
                    have f20 := free_at_block (off := 0) hz8
                    have f21 := free_at_block (off := 1) hz8
                    have c20 := cell_at_block (off := 0) hz8 rfl
                    have c21 := cell_at_block (off := 1) hz8 rfl
                    obtain ⟨q3, q4⟩ := setCell_at (off := 0) hz8 (.slice cA cols.length ck)
                    obtain ⟨q5, q6⟩ := setCell_at (off := 1) q3 (.slice A7 (sortR RC).length c7)
                    have HTAB : Hid (TabAt (((w7.setCell ⟨w2.heap.size, 1, none⟩ (.slice A7 (sortR RC).length c7)).setCell ⟨w.heap.size, 0, none⟩ (.slice cA cols.length ck)).setCell ⟨w.heap.size, 1, none⟩ (.slice A7 (sortR RC).length c7)) 0 ⟨⟨cA, cols.length, ck⟩, ⟨A7, (sortR RC).length, c7⟩⟩ ⟨cols, sortR RC⟩) := by
                      have a0 := HC2.out.below (((HB5.out.trans (hbD.mono HB5.out.size)).trans (hb7.mono (by have := HB5.out.size; have := hbD.size; omega))))
                      have a1 := Rd.grownS a0 q2 hbox (pair_noInt ⟨cA, cols.length, ck⟩ ⟨rA, sn, rK⟩)
                      have a2 := Rd.grownS a1 q4 hz8 (pair_noInt ⟨none, 0, 0⟩ ⟨none, 0, 0⟩)
                      have a3 := Rd.grownS a2 q6 q3 (pair_noInt ⟨cA, cols.length, ck⟩ ⟨none, 0, 0⟩)
                      have b1 := hr7.grownS q2 hbox (by decide) (pair_noInt ⟨cA, cols.length, ck⟩ ⟨rA, sn, rK⟩)
                      have b2 := b1.grownS q4 hz8 (by decide) (pair_noInt ⟨none, 0, 0⟩ ⟨none, 0, 0⟩)
                      have b3 := b2.grownS q6 q3 (by decide) (pair_noInt ⟨cA, cols.length, ck⟩ ⟨none, 0, 0⟩)
                      exact ⟨a3, RowsOwn.rows b3⟩
                    have HBF : Hid (Below w.heap.size w (((w7.setCell ⟨w2.heap.size, 1, none⟩ (.slice A7 (sortR RC).length c7)).setCell ⟨w.heap.size, 0, none⟩ (.slice cA cols.length ck)).setCell ⟨w.heap.size, 1, none⟩ (.slice A7 (sortR RC).length c7))) := by
                      have b0 := bchain HBD.out hb7
                      exact below_row (below_row (below_row b0 q2 (fun j e => by cases e; exact HB2.out.size)) q4 (fun j e => by cases e; exact Nat.le_refl _)) q6 (fun j e => by cases e; exact Nat.le_refl _)
                    have HQ5 := Lib.hid q5
                    clear hr7 hb7 hbox q1 q2 hz7 hz8 q3 q4 q5 q6 hbD
                    go_upto_region 34 with fail
                    go_region
                    all_goals
                      go_wp2_with fail
                      refine bodyPost_ret (results_tct rfl _ _ w.heap.size (.slice cA cols.length ck) (.slice A7 (sortR RC).length c7) rfl HQ5.out) rfl ?_
                      rw [HR.out]
                      exact ⟨⟨⟨⟨cA, cols.length, ck⟩, ⟨A7, (sortR RC).length, c7⟩⟩, rfl, HTAB.out.below ((Below.refl _ _).drew)⟩, HBF.out.drew⟩
          · have e1 : ((o : Int) != (al : Int)) = true := by simp; omega
            have HR : Hid (losslessR n l L = (false, ⟨[], []⟩, 7)) := by
              show _ = _
              rw [losslessR, HRULE.out, hpb, Int.toNat_natCast, hoo, hal]
              simp
              intro h
              exact absurd h hoa
            clear hk' hdn hpb hoo htk hal hlt hz hB hoa
            go_wp2_with fail
            obtain ⟨q1, q2⟩ := zero_again HZ.out HB.out (Nat.le_refl _)
            refine bodyPost_ret (results_tct rfl _ _ w.heap.size (.slice none 0 0) (.slice none 0 0) rfl q1) rfl ?_
            rw [HR.out]
            exact ⟨⟨⟨⟨none, 0, 0⟩, ⟨none, 0, 0⟩⟩, rfl, TabAt.empty _⟩, q2⟩
    · have HR : Hid (losslessR n l L = (false, ⟨[], []⟩, 2)) := by
        show _ = _
        have : partsB n L = false := by
          rcases Classical.not_and_iff_not_or_not.1 h05 with h | h
          · have : decide (0 < L.length) = false := by rw [decide_eq_false_iff_not, HL.out]; exact h
            rw [partsB, this, Bool.false_and, Bool.false_and]
          · have : decide (L.length ≤ 5) = false := by rw [decide_eq_false_iff_not, HL.out]; exact h
            rw [partsB, this, Bool.and_false, Bool.false_and]
        rw [losslessR, this, Bool.and_false]
        rfl
      rw [hr] at Q1
      have hcase : ((sn : Int) == 0) = true ∨ (((sn : Int) == 0) = false ∧ decide ((5 : Int) < (sn : Int)) = true) := by
        by_cases h0 : sn = 0
        · exact .inl (by simp [h0])
        · refine .inr ⟨by simp; omega, ?_⟩
          rw [decide_eq_true_eq]
          omega
      clear hr hN h05
      rcases hcase with d0 | ⟨d0, d5⟩
      · have d0' : (sn == 0) = true := by simp at d0; simp; omega
        go_enter Tryz.func30, Tryz.ntmps30
        go_wp2_with fail
        rw [HW0.out]
        (with_reducible refine Q1.out.mono ?_)
        rintro e w1 ⟨rfl, hb1⟩
        have hz1 := (hb1.block _ (Array.getElem?_eq_some_iff.1 HZ0.out).1).trans HZ0.out
        have c0 := cell_at_block (off := 0) hz1 rfl
        have c1 := cell_at_block (off := 1) hz1 rfl
        have f0 := free_at_block (off := 0) hz1
        have f1 := free_at_block (off := 1) hz1
        have HZ1 := Lib.hid hz1
        have HB1 := Lib.hid (bchain HB0.out hb1)
        clear hb1 hz1 Q1
        go_wp2_with fail
        obtain ⟨q1, q2⟩ := zero_again HZ1.out HB1.out (Nat.le_refl _)
        refine bodyPost_ret (results_tct rfl _ _ w.heap.size (.slice none 0 0) (.slice none 0 0) rfl q1) rfl ?_
        rw [HR.out]
        exact ⟨⟨⟨⟨none, 0, 0⟩, ⟨none, 0, 0⟩⟩, rfl, TabAt.empty _⟩, q2⟩
      · have d0' : (sn == 0) = false := by simp at d0; simp; omega
        have d5' : decide (5 < sn) = true := by rw [decide_eq_true_eq] at d5 ⊢; omega
        go_enter Tryz.func30, Tryz.ntmps30
        go_wp2_with fail
        rw [HW0.out]
        (with_reducible refine Q1.out.mono ?_)
        rintro e w1 ⟨rfl, hb1⟩
        have hz1 := (hb1.block _ (Array.getElem?_eq_some_iff.1 HZ0.out).1).trans HZ0.out
        have c0 := cell_at_block (off := 0) hz1 rfl
        have c1 := cell_at_block (off := 1) hz1 rfl
        have f0 := free_at_block (off := 0) hz1
        have f1 := free_at_block (off := 1) hz1
        have HZ1 := Lib.hid hz1
        have HB1 := Lib.hid (bchain HB0.out hb1)
        clear hb1 hz1 Q1
        go_wp2_with fail
        obtain ⟨q1, q2⟩ := zero_again HZ1.out HB1.out (Nat.le_refl _)
        refine bodyPost_ret (results_tct rfl _ _ w.heap.size (.slice none 0 0) (.slice none 0 0) rfl q1) rfl ?_
        rw [HR.out]
        exact ⟨⟨⟨⟨none, 0, 0⟩, ⟨none, 0, 0⟩⟩, rfl, TabAt.empty _⟩, q2⟩
end Go.Proofs.Bg
end

section
/- Contract: ref ChaseOf. -/
namespace Go.Proofs.Bg
open Go.RowKit

theorem agreeG_cols {n : Nat} (hn : n ≤ 8) {ra rb cs : List Int} (hc : setB cs (n : Int) = true) : agreeG (colsN (pw n - 1)) ra rb cs = agreeB cs ra rb := by
  rw [Bool.eq_iff_iff, agreeG, agreeB, List.all_eq_true, List.all_eq_true]
  have key : ∀ c ∈ cs, (placeI (colsN (pw n - 1)) c).toNat = c.toNat := fun c hm => by
    obtain ⟨h0, h1⟩ := setB_mem hc c hm
    have := place_cols_all n hn c.toNat (by omega)
    rw [Int.toNat_of_nonneg h0] at this
    rw [this]
  constructor
  · intro h c hm
    have := h c hm
    rw [key c hm] at this
    exact this
  · intro h c hm
    rw [key c hm]
    exact h c hm
/-- A table that is returned. -/
def RetT (w : World) (T : PT) (e : Ending) (w' : World) : Prop :=
  (∃ t : Tb, e = .returned (.agg #[.slice t.cols.A t.cols.n t.cols.cap, .slice t.rows.A t.rows.n t.rows.cap]) ∧ OwnTab w.heap.size w' t T) ∧ Below w.heap.size w w'
theorem results_c {fn : Func} {q : Tmp} (h : fn.results = #[.cell q 40]) (tmps : Array Value) (w : World) (g : Nat) (a b : Value) (hp : tmps.getD q undef = .pointer (some ⟨g, 0, none⟩)) (hg : w.heap[g]? = some (.cells #[a, b] 40)) :
    (results fn tmps).run Tryz.prog w = .ok (.agg #[a, b]) w := by
  have hp' : tmps[q]?.getD undef = .pointer (some ⟨g, 0, none⟩) := by simpa using hp
  have hl := run_loadVar_row (P := Tryz.prog) w g 40 40 #[a, b] (0, 0) _ hg Tryz.underlying40 rfl (by kernel_rfl)
  simp [results, h, hp', asAddr, hl]

set_option maxRecDepth 100000 in
set_option maxHeartbeats 8000000 in
theorem ChaseOfR_any (n : Nat) (A : Option Addr) (m cap : Nat) (l : List PF) (s : Sl) (L : List (List Int)) (w : World) (h : FdsAt w 0 A m l) (hs : RowsAt w 0 s L) (hn1 : 1 ≤ n) (hn8 : n ≤ 8) (hl : ∀ r ∈ l, ruleB n r = true) (h5 : s.n ≤ 5) :
    Calls Tryz.prog 102 #[.int .i64 (n : Nat), .slice A m cap, .slice s.A s.n s.cap] w (RetT w ⟨colsN (pw n - 1), sortR (chaseN l (partRows n 0 L))⟩) := by
  obtain ⟨sA, sn, sk⟩ := s
  simp only [] at h5
  have hb0 := below_new w (.cells #[.slice none 0 0, .slice none 0 0] 40)
  have hz0 := new_block w #[.slice none 0 0, .slice none 0 0] 40
  generalize hW0 : w.alloc (.cells #[.slice none 0 0, .slice none 0 0] 40) = W0 at *
  have HW0 := Lib.hid hW0
  have HB0 := Lib.hid hb0
  have HZ0 := Lib.hid hz0
  have HA := Lib.hid h
  have HS := Lib.hid hs
  have HL : Hid (L.length = sn) := hs.len
  have HLM : Hid (l.length = m) := h.len
  have hmle : m ≤ 9223372036854775807 := h.le
  have HRU := Lib.hid hl
  clear h hs hW0 hb0 hz0 hl
  obtain ⟨al, hal⟩ : ∃ al, pw n = al + 1 := ⟨pw n - 1, by have := pw_pos n; omega⟩
  have hal8 : al < 256 := by
    have h2 : pw n ≤ pw 8 := Nat.pow_le_pow_right (by decide) hn8
    have h3 : pw 8 = 256 := rfl
    omega
  have hsl : IntKind.i64.wrap (2 ^ n) = (al : Int) + 1 := by
    rw [shl_nat (by omega), hal]
    rfl
  have hn0 : (0 : Int) ≤ n := by omega
  have hn64 : (n : Int) ≤ 64 := by omega
  have Q4 := Lib.hid (columnsR_any al W0 hal8)
  have HPW : Hid (pw n - 1 = al) := by show _ = _; omega
  have HCL : Hid ((colsN al).length = n) := by show _ = _; rw [← HPW.out]; exact len_cols_all n hn8
  have HAG : Hid (∀ {ra rb cs : List Int}, setB cs (n : Int) = true → agreeG (colsN al) ra rb cs = agreeB cs ra rb) := by
    show ∀ {ra rb cs : List Int}, _
    intro ra rb cs hc
    rw [← HPW.out]
    exact agreeG_cols hn8 hc
  have HCM : Hid (∀ c : Int, 0 ≤ c → c < n → c ∈ colsN al) := by
    show ∀ c : Int, _
    intro c h0 h1
    have := mem_cols_all n hn8 c.toNat (by omega)
    rw [Int.toNat_of_nonneg h0, HPW.out] at this
    exact this
  rw [HPW.out]
  generalize hcols : colsN al = cols at *
  clear hcols hal
  go_enter Tryz.func102, Tryz.ntmps102
  go_wp2_with fail
  rw [HW0.out]
  (with_reducible refine Q4.out.mono ?_)
  rintro e w2 ⟨v2, rfl, hown2, hb2⟩
  obtain ⟨cA, cn, ck, rfl⟩ := hown2.shapeL
  have hcn : cn = cols.length := hown2.len
  subst hcn
  have HC2 := Lib.hid (((hown2.rdN iv_length).low (Nat.zero_le _)))
  have HCO := Lib.hid (hown2.low HB0.out.size)
  have HB2 := Lib.hid (bchain HB0.out hb2)
  have HZ2 := Lib.hid ((hb2.block _ (Array.getElem?_eq_some_iff.1 HZ0.out).1).trans HZ0.out)
  have hch0 : ChAtB 40 (w2.alloc (.cells #[.slice cA cols.length ck, .slice none 0 0] 40)) w2.heap.size w2.heap.size ⟨cA, cols.length, ck⟩ ⟨none, 0, 0⟩ [] n [] :=
    ⟨new_block _ _ _, Nat.le_refl _, Own.nil _ _ _ _ _, All2.nil _, (fun i j s t _ h => by simp at h), (fun r h => by cases h), by simp⟩
  have HCH0 := Lib.hid hch0
  clear hown2 hb2 hch0 Q4
  go_wp2_with fail
  clear hsl
  go_loopw [8] (fun i wr => ∃ k2 : Nat, k2 ≤ sn ∧ i = .int .i64 k2 ∧ ∃ rv ss, ChAtB 40 wr w2.heap.size w2.heap.size ⟨cA, cols.length, ck⟩ rv ss n (partRows n 0 (L.take k2)) ∧ Below w2.heap.size w2 wr) (fun i _ => sn - (intOf i).toNat)
  case atStart => exact ⟨0, by omega, rfl, ⟨none, 0, 0⟩, [], HCH0.out, below_new _ _⟩
  case round =>
    clear HCH0
    obtain ⟨k2, hk2, rfl, rv, ss, hC, hB2⟩ := hrel
    have HC := Lib.hid hC
    have HBW := Lib.hid hB2
    obtain ⟨wo, rfl⟩ : ∃ x, x = wr := ⟨_, rfl⟩
    by_cases hlt : k2 < sn
    · obtain ⟨b1, o1, t, p, hbb, -, hp, e0', hP⟩ := (HS.out.below HB2.out).at_ hlt
      simp only [] at hbb
      subst hbb
      have HPS := Lib.hid (partRows_succ n L 0 k2 p hp)
      have HPT := Lib.hid hP
      have HE0 := Lib.hid (fun W (hB : Below w2.heap.size w2 W) => (hB.cell (World.block_lt_of_cell? _ _ e0')).trans e0')
      have hi1 : (k2 : Int) < sn := by omega
      have hi0 : (0 : Int) ≤ k2 := by omega
      obtain ⟨i0, hi, hzz0, hzz1, hzz2⟩ := info_parts infoInt
      clear hp hP hC hB2 e0'
      go_wp2_with (at_make; refine wpList_make_full _ rfl _ _ _ rfl w2.heap.size 3 i0 _ 1 Tryz.underlying32 hi hzz0 hzz1 .i64 .i64 _ _ n rfl rfl rfl rfl (by rw [hzz2]; omega) (by unfold maxLen; omega) (HBW.out.size) ?_; intro w3 hown3 hg3)
      have hown3' : Own iv 1 3 w2.heap.size w3 (.slice (some ⟨wo.heap.size, 0, none⟩) n n) (rowTo n k2 p 0) := by
        rw [rowTo_zero]
        unfold Own
        rw [List.length_replicate]
        have e : (List.replicate n (0 : Int)).flatMap iv = (madeCells (Value.int .i64 0).cells (n * 1)).toList := by
          have h1 : (Value.int .i64 0).cells = #[.int .i64 0] := rfl
          rw [h1, Nat.mul_one, toList_madeCells_one]
          exact zeros_flat n
        rw [e]
        exact hown3
      have HO3 := Lib.hid hown3'
      have HG3 := Lib.hid hg3
      have hb3 : Below wo.heap.size wo w3 := ⟨hg3.os, hg3.tape, hg3.output, hg3.size, fun i hi => hg3.block i hi (by simp)⟩
      have HB3 := Lib.hid hb3
      have hsz3 : wo.heap.size < w3.heap.size := (hown3'.blk _ rfl).2
      clear hown3 hown3' hg3 hb3
      go_loopw [10] (fun i wr => ∃ c : Nat, c ≤ n ∧ i = .int .i64 c ∧ Own iv 1 3 w2.heap.size wr (.slice (some ⟨wo.heap.size, 0, none⟩) n n) (rowTo n k2 p c) ∧ Below wo.heap.size wo wr) (fun i _ => n - (intOf i).toNat)
      case atStart => exact ⟨0, by omega, rfl, HO3.out, HB3.out⟩
      case round =>
        obtain ⟨c, hc, rfl, ho, hB4⟩ := hrel
        have HO4 := Lib.hid ho
        have HB4 := Lib.hid hB4
        by_cases hlt2 : c < n
        · have hb2r := bchain HBW.out hB4
          have e0 := HE0.out wr hb2r
          have Q5 := Lib.hid (Place_any t.A t.n t.cap (c : Int) p wr (Rd.below HPT.out hb2r))
          obtain ⟨g', x, e, -, -, -, hx, hcc, hf⟩ := ho.at_ iv_length (i := c) (by rw [rowTo_len _ _ _ _ (by omega)]; exact hlt2)
          cases e
          have y0 := hcc 0 _ rfl
          simp only [Nat.mul_one, Nat.add_zero] at y0
          have fy := hf c
          have hi2 : (c : Int) < n := by omega
          have hc0 : (0 : Int) ≤ c := by omega
          have HRS := Lib.hid (rowTo_succ (i := k2) (p := p) hlt2)
          obtain ⟨q1, q2⟩ := Own.set1 iv_length HO4.out (i := c) (by rw [rowTo_len _ _ _ _ (by omega)]; exact hlt2) (y := 1 + (k2 : Int)) (u := .int .i64 (1 + (k2 : Int))) rfl
          have HQ1 := Lib.hid q1
          have HQ2 := Lib.hid (hB4.grown q2 hB4.size (fun j e => by cases e; exact Nat.le_refl _))
          have hw1 : IntKind.i64.wrap (1 + (k2 : Int)) = 1 + (k2 : Int) := IntWalk.i64_in _ (by omega)
          have HX0 : Hid (x = 0) := by show _ = _; rw [rowTo_at hlt2] at hx; cases hx; rfl
          have HNEG := Lib.hid (placeI_neg p (c : Int))
          clear ho hB4 hx hcc hf q1 q2 hb2r
          by_cases hm : (c : Int) ∈ p
          · have HD : Hid (decide ((c : Int) ∈ p) = true) := by show _ = _; simpa using hm
            rw [if_pos hm] at HRS
            have dn : decide (placeI p (c : Int) < 0) = false := by rw [HNEG.out, HD.out]; rfl
            have HNX : Hid (rowTo n k2 p (c + 1) = rowTo n k2 p c) := by
              show _ = _
              rw [HRS.out]
              obtain ⟨h1, h2⟩ := List.getElem?_eq_some_iff.1 (rowTo_at (i := k2) (p := p) hlt2)
              conv => lhs; rw [← h2]
              exact List.set_getElem_self _
            clear hm
            go_wp2_with fail
            (with_reducible refine Q5.out.mono ?_)
            rintro e w' ⟨rfl, hw'⟩
            obtain rfl := hw'.symm
            go_wp2_with fail
            exact ⟨⟨c + 1, by omega, by go_num, by rw [HNX.out]; exact HO4.out, HB4.out⟩, by simp [intOf]; omega⟩
          · have HD : Hid (decide ((c : Int) ∈ p) = false) := by show _ = _; simpa using hm
            rw [if_neg hm] at HRS
            have dn : decide (placeI p (c : Int) < 0) = true := by rw [HNEG.out, HD.out]; rfl
            clear hm
            go_wp2_with fail
            (with_reducible refine Q5.out.mono ?_)
            rintro e w' ⟨rfl, hw'⟩
            obtain rfl := hw'.symm
            go_wp2_with fail
            exact ⟨⟨c + 1, by omega, by go_num, by rw [HRS.out]; exact HQ1.out, HQ2.out⟩, by simp [intOf]; omega⟩
        · have hcn : c = n := by omega
          subst hcn
          rw [rowTo_all] at HO4
          have hC4 := HC.out.below hB4
          have c1 := cell_at_block (off := 1) hC4.box rfl
          have f1 := free_at_block (off := 1) hC4.box
          have hlen4 := hC4.len
          have HC4 := Lib.hid hC4
          have hssl : ss.length = (partRows c 0 (L.take k2)).length := hC4.rows.1
          rw [partRows_len, List.length_take] at hssl
          obtain ⟨rA, rN, rK⟩ := rv
          have hrvn : rN = ss.length := hC4.own.len
          subst hrvn
          have hs5 : ss.length ≤ 5 := by omega
          have d1 : decide ((c : Int) < (c : Int)) = false := by rw [decide_eq_false_iff_not]; omega
          have hszB := HBW.out.size
          have HNEW : Hid (∀ (i : Nat) (t : Sl), ss[i]? = some t → (Sl.v ⟨some ⟨wo.heap.size, 0, none⟩, c, c⟩).ownBlock ≠ t.v.ownBlock) := by
            show ∀ (i : Nat) (t : Sl), _
            intro i t ht e
            have hr := List.getElem?_eq_getElem (l := partRows c 0 (L.take k2)) (i := i) (by rw [← HC.out.rows.1]; exact (List.getElem?_eq_some_iff.1 ht).1)
            exact Nat.lt_irrefl _ ((HC.out.rows.2 i t _ ht hr).blk _ e.symm).2
          have HNE : Hid (some w2.heap.size ≠ (Sl.v ⟨rA, ss.length, rK⟩).ownBlock) := hC4.ne
          have HLT := Lib.hid hC4.lt
          have hsz4 := hB4.size
          have hbB : w2.heap.size ≤ wr.heap.size := by omega
          clear ho hB4 hC4 hlt2 hlen4 hssl
          go_wp2_with (at_builtin; go_loud (refine wpList_app1 Sl.vs 1 32 _ 24 infoSl rfl (by decide) rfl _ _ _ rfl Tryz.underlying38 w2.heap.size _ ss rfl (HC4.out.own.alloc _) ⟨some ⟨wo.heap.size, 0, none⟩, c, c⟩ _ _ rfl rfl (newAt _ _ _ _ (by simp)) (by simp [Sl.vs, Value.oneCell']) (by omega) (by unfold maxLen; omega) (by simp; omega) (fun v4 w4 hown4 hg4 _ => ?_)); obtain ⟨A4, n4, c4, rfl⟩ := hown4.shapeL; have f1 := free_at_block (off := 1) ((hg4.block w2.heap.size (by simp; have := HLT.out; omega) HNE.out).trans (HC4.out.below (below_new _ _)).box); have c14 := cell_at_block (off := 1) ((hg4.block w2.heap.size (by simp; have := HLT.out; omega) HNE.out).trans (HC4.out.below (below_new _ _)).box) rfl; have HW4 := Lib.hid hown4; have HG4 := Lib.hid hg4; clear hown4 hg4)
          obtain ⟨p1, p2⟩ := ChAtB.push (s := ⟨some ⟨wo.heap.size, 0, none⟩, c, c⟩) (rv4 := ⟨A4, n4, c4⟩) HC4.out HO4.out (partRow_ok c k2 p) HNEW.out (by rw [partRows_len, List.length_take]; omega) HW4.out HG4.out
          refine ⟨⟨k2 + 1, by omega, by go_num, ⟨A4, n4, c4⟩, _, by rw [HPS.out, Nat.zero_add]; exact p1, ?_⟩, by simp [intOf]; omega⟩
          have b1 := HBW.out.trans (HB4.out.mono hszB)
          exact below_row (below_row (bchain b1 (below_new _ _)) HG4.out (fun j e => (HC4.out.own.blk j e).1)) p2 (fun j e => by cases e; exact Nat.le_refl _)
    · have hk2' : k2 = sn := by omega
      have htk2 : L.take k2 = L := List.take_of_length_le (by rw [HL.out]; omega)
      rw [htk2] at hC
      have hok0 : ChOk n (partRows n 0 L) := partRows_ok n L 0
      have hpl : (partRows n 0 L).length = sn := by rw [partRows_len, HL.out]
      have HEND : Hid (∀ R, ChOk n R → R.length = sn → ChSteps sn l (mx (partRows n 0 L)) (mx R) → ChStuck sn l (mx R) → R = chaseN l (partRows n 0 L)) := by
        show ∀ R, _
        intro R h1 h2 h3 h4
        exact chase_end HRU.out hok0 h1 (by omega) (by rw [hpl]; exact h3) (by rw [hpl]; exact h4)
      have hrn := hC.len
      obtain ⟨rA, rN, rK⟩ := rv
      simp only [] at hrn
      rw [hpl] at hrn
      subst hrn
      obtain ⟨P0, hP0⟩ : ∃ P0, partRows n 0 L = P0 := ⟨_, rfl⟩
      rw [hP0] at hC hpl HEND
      rw [hP0]
      obtain ⟨RC, hRC⟩ : ∃ RC, chaseN l P0 = RC := ⟨_, rfl⟩
      rw [hRC] at HEND
      have HRET : Hid (chaseN l (partRows n 0 L) = RC) := by show _ = _; rw [hP0, hRC]
      rw [hRC]
      have HP := Lib.hid hpl
      have HCS := Lib.hid hC
      have HSSL : Hid (ss.length = rN) := by show _ = _; rw [hC.rows.1, hpl]
      have d1 : decide ((k2 : Int) < (rN : Int)) = false := by rw [decide_eq_false_iff_not]; omega
      have d2 : decide (k2 < rN) = false := by rw [decide_eq_false_iff_not]; omega
      clear hk2' htk2 hC hok0 hpl hP0 hRC hlt hB2 HC HL
      go_wp2_with fail
      clear d1 d2
      go_loopg [11] (2 * sumR P0 + 1) (fun gg b wr => ∃ R1 : List (List Int), ∃ t : Bool, b = .bool t ∧ ChAtB 40 wr w2.heap.size w2.heap.size ⟨cA, cols.length, ck⟩ ⟨rA, rN, rK⟩ ss n R1 ∧ ChSteps rN l (mx P0) (mx R1) ∧ (t = false → ChStuck rN l (mx R1)) ∧ Below w2.heap.size w2 wr ∧ 2 * sumR R1 + t.toNat ≤ gg)
      case atStart => exact ⟨P0, true, rfl, HCS.out, .refl, (fun h => by cases h), HBW.out, by simp⟩
      case round =>
        clear HCS HBW
        obtain ⟨R1, t, rfl, hC, hst, hf, hB, hgg⟩ := hrel
        have HC := Lib.hid hC
        have HB := Lib.hid hB
        have HST := Lib.hid hst
        have HLN : Hid (R1.length = rN) := hC.len.symm
        cases t with
        | false =>
          have HRC : Hid (R1 = RC) := HEND.out R1 hC.ok HLN.out hst (hf rfl)
          have c1 := cell_at_block (off := 1) hC.box rfl
          have hrows : RowsAt wr w2.heap.size ⟨rA, rN, rK⟩ R1 := ⟨ss, hC.own.rdN Sl.vs_length, hC.rows.mono fun x y h => h.ints⟩
          have Q7 := Lib.hid (sortedR_lo ⟨rA, rN, rK⟩ R1 wr hrows (by show rN ≤ _; omega))
          clear hC hst hf hB hgg hrows
          go_wp2_with fail
          (with_reducible refine Q7.out.mono ?_)
          rintro e w7 ⟨v7, rfl, hr7, hb7⟩
          obtain ⟨A7, c7, rfl⟩ := hr7.shape
          have HBR : Hid (Below w.heap.size w wr) := HB2.out.trans (HB.out.mono HB2.out.size)
          have hbox := (HC.out.below hb7).box
          obtain ⟨q1, q2⟩ := setCell_at (off := 1) hbox (.slice A7 (sortR R1).length c7)
          have y1 := cell_at_block (off := 1) hbox rfl
          have f1 := free_at_block (off := 1) hbox
          have x0 := cell_at_block (off := 0) q1 rfl
          have x1 := cell_at_block (off := 1) q1 rfl
          have hz6 := (HB.out.block _ (Array.getElem?_eq_some_iff.1 HZ2.out).1).trans HZ2.out
          have hz7 := (hb7.block w.heap.size (Array.getElem?_eq_some_iff.1 hz6).1).trans hz6
          have hne0 : w.heap.size ≠ w2.heap.size := by have := (Array.getElem?_eq_some_iff.1 HZ2.out).1; omega
          have hz8 := (q2.block w.heap.size (Array.getElem?_eq_some_iff.1 hz7).1 (fun e => hne0 (Option.some.inj e))).trans hz7
          have f20 := free_at_block (off := 0) hz8
          have f21 := free_at_block (off := 1) hz8
          have c20 := cell_at_block (off := 0) hz8 rfl
          have c21 := cell_at_block (off := 1) hz8 rfl
          obtain ⟨q3, q4⟩ := setCell_at (off := 0) hz8 (.slice cA cols.length ck)
          obtain ⟨q5, q6⟩ := setCell_at (off := 1) q3 (.slice A7 (sortR R1).length c7)
          have HTAB : Hid (OwnTab w.heap.size (((w7.setCell ⟨w2.heap.size, 1, none⟩ (.slice A7 (sortR R1).length c7)).setCell ⟨w.heap.size, 0, none⟩ (.slice cA cols.length ck)).setCell ⟨w.heap.size, 1, none⟩ (.slice A7 (sortR R1).length c7)) ⟨⟨cA, cols.length, ck⟩, ⟨A7, (sortR R1).length, c7⟩⟩ ⟨cols, sortR R1⟩) := by
            have a0 := HCO.out.below (HB.out.trans (hb7.mono HB.out.size))
            have a1 := a0.grownT q2 hbox (by decide)
            have a2 := a1.grownT q4 hz8 (by decide)
            have a3 := a2.grownT q6 q3 (by decide)
            have b1 := hr7.grownS q2 hbox (by decide) (pair_noInt ⟨cA, cols.length, ck⟩ ⟨rA, rN, rK⟩)
            have b2 := b1.grownS q4 hz8 (by decide) (pair_noInt ⟨none, 0, 0⟩ ⟨none, 0, 0⟩)
            have b3 := b2.grownS q6 q3 (by decide) (pair_noInt ⟨cA, cols.length, ck⟩ ⟨none, 0, 0⟩)
            exact ⟨a3, b3.lowB HB2.out.size (Nat.le_trans HB2.out.size HB.out.size)⟩
          have HBF : Hid (Below w.heap.size w (((w7.setCell ⟨w2.heap.size, 1, none⟩ (.slice A7 (sortR R1).length c7)).setCell ⟨w.heap.size, 0, none⟩ (.slice cA cols.length ck)).setCell ⟨w.heap.size, 1, none⟩ (.slice A7 (sortR R1).length c7))) := by
            have b0 := bchain HBR.out hb7
            exact below_row (below_row (below_row b0 q2 (fun j e => by cases e; exact HB2.out.size)) q4 (fun j e => by cases e; exact Nat.le_refl _)) q6 (fun j e => by cases e; exact Nat.le_refl _)
          have HQ5 := Lib.hid q5
          clear hr7 hb7 hbox q1 q2 hz6 hz7 hz8 q3 q4 q5 q6
          go_wp2_with fail
          refine bodyPost_ret (results_c rfl _ _ w.heap.size (.slice cA cols.length ck) (.slice A7 (sortR R1).length c7) rfl HQ5.out) rfl ?_
          rw [HRC.out] at HTAB HBF ⊢
          rw [HRET.out]
          exact ⟨⟨⟨⟨cA, cols.length, ck⟩, ⟨A7, (sortR RC).length, c7⟩⟩, rfl, HTAB.out⟩, HBF.out⟩
        | true =>
          have HGG := Lib.hid hgg
          clear hC hst hf hB hgg
          go_wp2_with fail
          go_loopw [11, 12] (fun b i wr => ∃ (k : Nat) (R2 : List (List Int)) (g : Bool), k ≤ m ∧ i = .int .i64 k ∧ b = .bool g ∧ ChAtB 40 wr w2.heap.size w2.heap.size ⟨cA, cols.length, ck⟩ ⟨rA, rN, rK⟩ ss n R2 ∧ ChRound n rN l (mx P0) R1 R2 g k 0 0 ∧ Below w2.heap.size w2 wr) (fun _ i _ => m - (intOf i).toNat)
          case atStart => exact ⟨0, R1, false, by omega, rfl, rfl, HC.out, .start HLN.out HST.out, HB.out⟩
          case round =>
            clear HC HB
            obtain ⟨k, R2, g, hk, rfl, rfl, hC, hr, hB⟩ := hrel
            have HC := Lib.hid hC
            have HB := Lib.hid hB
            have HR := Lib.hid hr
            clear hC hr hB
            by_cases hlt : k < m
            · have hk1 : (k : Int) < m := by omega
              have hk0 : (0 : Int) ≤ k := by omega
              obtain ⟨b1, o1, t, T, eA, -, hT, -, -, -⟩ := HA.out.at_ (k := k) hlt
              subst eA
              have HT := Lib.hid hT
              have hrule := HRU.out T (List.mem_of_getElem? hT)
              have HRULE := Lib.hid hrule
              simp only [ruleB, Bool.and_eq_true, decide_eq_true_eq] at hrule
              obtain ⟨⟨hset, hto0⟩, hton⟩ := hrule
              have HSET := Lib.hid hset
              obtain ⟨tc, htc⟩ : ∃ tc : Nat, T.to_ = (tc : Int) := ⟨T.to_.toNat, by omega⟩
              have HTC := Lib.hid htc
              have htcn : tc < n := by omega
              have htc0 : (0 : Int) ≤ tc := by omega
              have htc1 : (tc : Int) < n := by omega
              clear hT hset hto0 hton htc
              go_wp2_with fail
              go_loopw [11, 13] (fun b i wr => ∃ (a : Nat) (R2 : List (List Int)) (g : Bool), a ≤ rN ∧ i = .int .i64 a ∧ b = .bool g ∧ ChAtB 40 wr w2.heap.size w2.heap.size ⟨cA, cols.length, ck⟩ ⟨rA, rN, rK⟩ ss n R2 ∧ ChRound n rN l (mx P0) R1 R2 g k a 0 ∧ Below w2.heap.size w2 wr) (fun _ i _ => rN - (intOf i).toNat)
              case atStart => exact ⟨0, R2, g, by omega, rfl, rfl, HC.out, HR.out, HB.out⟩
              case round =>
                clear HC HB HR
                obtain ⟨a, R2, g, ha, rfl, rfl, hC, hr, hB⟩ := hrel
                have HC := Lib.hid hC
                have HB := Lib.hid hB
                have HR := Lib.hid hr
                clear hC hr hB
                by_cases hlta : a < rN
                · have ha1 : (a : Int) < rN := by omega
                  have ha0 : (0 : Int) ≤ a := by omega
                  go_wp2_with fail
                  go_loopw [11, 14] (fun b i wr => ∃ (q : Nat) (R2 : List (List Int)) (g : Bool), q ≤ rN ∧ i = .int .i64 q ∧ b = .bool g ∧ ChAtB 40 wr w2.heap.size w2.heap.size ⟨cA, cols.length, ck⟩ ⟨rA, rN, rK⟩ ss n R2 ∧ ChRound n rN l (mx P0) R1 R2 g k a q ∧ Below w2.heap.size w2 wr) (fun _ i _ => rN - (intOf i).toNat)
                  case atStart => exact ⟨0, R2, g, by omega, rfl, rfl, HC.out, HR.out, HB.out⟩
                  case round =>
                    clear HC HB HR
                    obtain ⟨q, R2, g, hq, rfl, rfl, hC, hr, hB⟩ := hrel
                    have HC := Lib.hid hC
                    have HB := Lib.hid hB
                    have HR := Lib.hid hr
                    by_cases hltq : q < rN
                    · have hq1 : (q : Int) < rN := by omega
                      have hq0 : (0 : Int) ≤ q := by omega
                      have hRl : R2.length = rN := HR.out.len
                      obtain ⟨g1, g2, sa, ra, x, e1, hra, hsa, e2, e3, a0', hx, a1', -⟩ := hC.at_ (i := a) (k := tc) (by omega) htcn
                      obtain ⟨g3, g4, sb, rb, y, e4, hrb, hsb, e5, e6, b0', hy, b1', -⟩ := hC.at_ (i := q) (k := tc) (by omega) htcn
                      simp only [] at e1 e4
                      subst e1
                      cases e4
                      obtain ⟨saA, saN, saK⟩ := sa
                      obtain ⟨sbA, sbN, sbK⟩ := sb
                      simp only [] at e2 e3 e5 e6
                      subst e2 e5
                      replace e3 := e3.symm
                      replace e6 := e6.symm
                      subst e3 e6
                      have hB0 : Below w.heap.size w wr := HB2.out.trans (hB.mono HB2.out.size)
                      obtain ⟨b2, o2, t2, T2, eA, -, hT2, d0', d1', hfr⟩ := (HA.out.below hB0).at_ (k := k) hlt
                      cases eA
                      rw [HT.out] at hT2
                      cases hT2
                      rw [HTC.out] at d1'
                      have hra2 : rowI R2 a = ra := by simp [rowI, hra]
                      have hrb2 : rowI R2 q = rb := by simp [rowI, hrb]
                      have hxc : colI (rowI R2 a) T.to_ = x := by rw [hra2, HTC.out]; simp [colI, hx]
                      have hyc : colI (rowI R2 q) T.to_ = y := by rw [hrb2, HTC.out]; simp [colI, hy]
                      have HFI : Hid (fireC T R2 a q = (decide (x < y) && agreeB T.from_ ra rb)) := by show _ = _; rw [fireC, hxc, hyc, hra2, hrb2]
                      have HFD : Hid (fired T R2 a q = turnRows tc y x R2) := by show _ = _; rw [fired, hxc, hyc, HTC.out]
                      have hla : ra.length = cols.length := by rw [HCL.out]; exact (hC.ok ra (List.mem_of_getElem? hra)).1
                      have hlb : rb.length = cols.length := by rw [HCL.out]; exact (hC.ok rb (List.mem_of_getElem? hrb)).1
                      have hx0 : 0 ≤ x := (hC.ok ra (List.mem_of_getElem? hra)).2 x (List.mem_of_getElem? hx)
                      have QA := Lib.hid (fun W (hb : Below wr.heap.size wr W) => agree_any ⟨⟨cA, cols.length, ck⟩, ⟨some ⟨g1, 0, none⟩, rN, rK⟩⟩ ⟨cols, R2⟩ a q t2 T.from_ ra rb W ⟨HC2.out.below (hB.trans (hb.mono hB.size)), ⟨ss, (((hC.below hb).own.rdN Sl.vs_length).low (Nat.zero_le _)), (hC.below hb).rows.mono fun x y h => h.ints.low (Nat.zero_le _)⟩⟩ (hfr.below hb) hra hrb hla hlb (fun c hc => HCM.out c (setB_mem HSET.out c hc).1 (setB_mem HSET.out c hc).2))
                      simp only [HAG.out HSET.out] at QA
                      have QC := Lib.hid (fun W (hb : Below wr.heap.size wr W) => chased_any (bt := 40) w2.heap.size w2.heap.size n ⟨cA, cols.length, ck⟩ ⟨some ⟨g1, 0, none⟩, rN, rK⟩ ss R2 tc y x W (hC.below hb) htcn hx0)
                      have HF := Lib.hid (fun W (hb : Below wr.heap.size wr W) => And.intro ((hb.cell (World.block_lt_of_cell? _ _ d0')).trans d0') (And.intro ((hb.cell (World.block_lt_of_cell? _ _ d1')).trans d1') (hC.below hb).box))
                      have a0 := a0'
                      have a1 := a1'
                      have b0 := b0'
                      have b1 := b1'
                      have d0 := d0'
                      have d1 := d1'
                      have c1 := cell_at_block (off := 1) hC.box rfl
                      clear hC hB hr hra hsa hx a0' a1' hrb hsb hy b0' b1' hB0 hfr d0' d1' hra2 hrb2 hxc hyc hla hlb
                      by_cases hxy : x < y
                      · have dxy : decide (x < y) = true := by simpa using hxy
                        cases hag : agreeB T.from_ ra rb with
                        | true =>
                          have HFT : Hid (fireC T R2 a q = true) := by show _ = _; rw [HFI.out, hag, dxy]; rfl
                          rw [hag] at QA
                          clear hag hxy HFI
                          go_wp2_with fail
                          go_quiet (fail)
                          have HDW := Lib.hid (below_drewN (Below.refl wr.heap.size wr) nq)
                          generalize wr.drewN nq = W1 at HDW ⊢
                          obtain ⟨d0, d1, hbx⟩ := HF.out W1 HDW.out
                          have c0 := cell_at_block (off := 0) hbx rfl
                          have c1 := cell_at_block (off := 1) hbx rfl
                          clear hbx
                          go_wp2_with fail
                          refine wp_region_still_tail 12 (by kernel_rfl) (by kernel_rfl) ?_
                          simp only [List.take_succ_cons, List.take_zero, List.drop_succ_cons, List.drop_zero]
                          change wpStill _ _ (World.drew _) _ _ _
                          repeat still_step
                          refine wpStill_nil ?_
                          change wpList _ _ _ _ _ (World.drew _)
                          go_wp2_with fail
                          (with_reducible refine (QA.out _ (HDW.out.drew)).mono ?_)
                          rintro e w3 ⟨rfl, hb3⟩
                          have HD3 := Lib.hid (HDW.out.drew.trans (hb3.mono HDW.out.drew.size))
                          obtain ⟨d0, d1, hbx⟩ := HF.out w3 HD3.out
                          have c0 := cell_at_block (off := 0) hbx rfl
                          have c1 := cell_at_block (off := 1) hbx rfl
                          clear hbx hb3
                          go_wp2_with fail
                          refine wp_region_still_tail 9 (by kernel_rfl) (by kernel_rfl) ?_
                          simp only [List.take_succ_cons, List.take_zero, List.drop_succ_cons, List.drop_zero]
                          change wpStill _ _ (World.drew _) _ _ _
                          repeat still_step
                          refine wpStill_nil ?_
                          change wpList _ _ _ _ _ (World.drew _)
                          go_wp2_with fail
                          (with_reducible refine (QC.out _ (HD3.out.drew)).mono ?_)
                          rintro e w4 ⟨rfl, hC4, hB4, -⟩
                          have HC4 := Lib.hid hC4
                          have HB4 := Lib.hid (HB.out.trans ((HD3.out.drew.mono HB.out.size).trans hB4))
                          clear hC4 hB4 QA QC
                          go_wp2_with fail
                          have hr2 := HR.out.fire HC.out.ok HRULE.out (List.mem_of_getElem? HT.out) hlta hltq HFT.out
                          exact ⟨⟨q + 1, fired T R2 a q, true, by omega, by go_num, rfl, by rw [HFD.out]; exact HC4.out, hr2, HB4.out⟩, by simp [intOf]; omega⟩
                        | false =>
                          have HFT : Hid (fireC T R2 a q = false) := by show _ = _; rw [HFI.out, hag, dxy]; rfl
                          rw [hag] at QA
                          clear hag hxy HFI
                          go_wp2_with fail
                          go_quiet (fail)
                          have HDW := Lib.hid (below_drewN (Below.refl wr.heap.size wr) nq)
                          generalize wr.drewN nq = W1 at HDW ⊢
                          obtain ⟨d0, d1, hbx⟩ := HF.out W1 HDW.out
                          have c0 := cell_at_block (off := 0) hbx rfl
                          have c1 := cell_at_block (off := 1) hbx rfl
                          clear hbx
                          go_wp2_with fail
                          refine wp_region_still_tail 12 (by kernel_rfl) (by kernel_rfl) ?_
                          simp only [List.take_succ_cons, List.take_zero, List.drop_succ_cons, List.drop_zero]
                          change wpStill _ _ (World.drew _) _ _ _
                          repeat still_step
                          refine wpStill_nil ?_
                          change wpList _ _ _ _ _ (World.drew _)
                          go_wp2_with fail
                          (with_reducible refine (QA.out _ (HDW.out.drew)).mono ?_)
                          rintro e w3 ⟨rfl, hb3⟩
                          have HD3 := Lib.hid (HDW.out.drew.trans (hb3.mono HDW.out.drew.size))
                          clear hb3 QA QC
                          go_wp2_with fail
                          exact ⟨⟨q + 1, R2, g, by omega, by go_num, rfl, HC.out.below HD3.out, HR.out.still HT.out HFT.out, HB.out.trans (HD3.out.mono HB.out.size)⟩, by simp [intOf]; omega⟩
                      · have dxy : decide (x < y) = false := by simpa using hxy
                        have HFT : Hid (fireC T R2 a q = false) := by show _ = _; rw [HFI.out, dxy]; rfl
                        clear hxy HFI QA QC
                        go_wp2_with fail
                        go_quiet (fail)
                        have HDW := Lib.hid (below_drewN (Below.refl wr.heap.size wr) nq)
                        generalize wr.drewN nq = W1 at HDW ⊢
                        go_wp2_with fail
                        go_quiet (fail)
                        go_wp2_with fail
                        have HD3 := Lib.hid (HDW.out.trans ((below_drewN (Below.refl W1.heap.size W1) nq).mono HDW.out.size))
                        exact ⟨⟨q + 1, R2, g, by omega, by go_num, rfl, HC.out.below HD3.out, HR.out.still HT.out HFT.out, HB.out.trans (HD3.out.mono HB.out.size)⟩, by simp [intOf]; omega⟩
                    · have hqr : q = rN := by omega
                      have d1 : decide ((q : Int) < (rN : Int)) = false := by rw [decide_eq_false_iff_not]; omega
                      have d2 : decide (q < rN) = false := by rw [decide_eq_false_iff_not]; omega
                      rw [hqr] at HR
                      clear hC hr hB hltq hqr
                      go_wp2_with fail
                      exact ⟨⟨a + 1, R2, g, by omega, by go_num, rfl, HC.out, HR.out.nextA, HB.out⟩, by simp [intOf]; omega⟩
                · have har : a = rN := by omega
                  have d1 : decide ((a : Int) < (rN : Int)) = false := by rw [decide_eq_false_iff_not]; omega
                  have d2 : decide (a < rN) = false := by rw [decide_eq_false_iff_not]; omega
                  rw [har] at HR
                  clear hlta har
                  go_wp2_with fail
                  exact ⟨⟨k + 1, R2, g, by omega, by go_num, rfl, HC.out, HR.out.nextK, HB.out⟩, by simp [intOf]; omega⟩
            · have hkm : k = m := by omega
              have d1 : decide ((k : Int) < (m : Int)) = false := by rw [decide_eq_false_iff_not]; omega
              have d2 : decide (k < m) = false := by rw [decide_eq_false_iff_not]; omega
              clear hlt
              cases g with
              | true =>
                have HLT : Hid (sumR R2 < sumR R1) := HR.out.yes rfl
                clear hkm
                go_wp2_with fail
                go_roundg (2 * sumR R2 + 1)
                case measure => have h1 := HGG.out; have h2 := HLT.out; simp at h1; omega
                case rel => exact ⟨R2, true, rfl, HC.out, HR.out.steps, (fun h => by cases h), HB.out, by simp⟩
              | false =>
                have hno := HR.out.no rfl
                have HSTK : Hid (ChStuck rN l (mx R2)) := by
                  show ChStuck _ _ _
                  rw [hno.1]
                  exact noF_all HRU.out (by have h := hno.2; rw [hkm, ← HLM.out] at h; exact h)
                have HEQ := Lib.hid hno.1
                clear hkm hno
                go_wp2_with fail
                go_roundg (2 * sumR R1)
                case measure => have h1 := HGG.out; simp at h1; omega
                case rel => exact ⟨R2, false, rfl, HC.out, HR.out.steps, (fun _ => HSTK.out), HB.out, by rw [HEQ.out]; simp⟩
end Go.Proofs.Bg
end

section
/- Contracts: ref put, union. -/
namespace Go.Proofs.Bg
open Go.RowKit

/-- A number put into a list that increases. -/
def putL (n : Int) : List Int → List Int
  | [] => [n]
  | x :: r => if x < n then x :: putL n r else if x = n then x :: r else n :: x :: r
theorem putL_stop {n : Int} : ∀ (l : List Int) (k : Nat), (∀ j x, j < k → l[j]? = some x → x < n) → k ≤ l.length → putL n l = l.take k ++ putL n (l.drop k)
  | _, 0, _, _ => rfl
  | [], k + 1, _, h => by simp at h
  | x :: r, k + 1, h, hk => by
    have hx := h 0 x (by omega) rfl
    rw [putL, if_pos hx, putL_stop r k (fun j y hj hy => h (j + 1) y (by omega) (by simpa using hy)) (by simpa using hk)]
    rfl

theorem Rd.zero (w : World) (lo : Nat) (A : Option Addr) : Rd iv 1 w lo A 0 [] := ⟨rfl, by omega, fun h => by omega⟩

set_option maxRecDepth 100000 in
set_option maxHeartbeats 4000000 in
theorem put_any (s : Sl) (x : Int) (l : List Int) (w : World) (h : IntsAt w 0 s l) (hc : s.n ≤ s.cap) (hl : l.length ≤ 1000) :
    Calls Tryz.prog 145 #[.slice s.A s.n s.cap, .int .i64 x] w fun e w' => (∃ t : Sl, e = .returned (.slice t.A t.n t.cap) ∧ IntsAt w' 0 t (putL x l) ∧ t.n ≤ t.cap) ∧ Below w.heap.size w w' := by
  obtain ⟨A, n, cap⟩ := s
  have HA := Lib.hid h
  have HL : Hid (l.length = n) := h.len
  have hle : n ≤ 1000 := by rw [← HL.out]; exact hl
  simp only [] at hc
  clear h hl
  go_enter Tryz.func145, Tryz.ntmps145
  go_wp2_with fail
  go_loopw [5, 6] (fun v i wr => ∃ k : Nat, k ≤ n ∧ i = .int .i64 k ∧ Own iv 1 3 w.heap.size wr v (l.take k) ∧ (∀ j y, j < k → l[j]? = some y → y < x) ∧ Below w.heap.size w wr) (fun _ i _ => n - (intOf i).toNat)
  case atStart => exact ⟨0, by omega, rfl, Own.nil _ _ _ _ _, fun j y hj => by omega, Below.refl _ _⟩
  case round =>
    obtain ⟨k, hk, rfl, hown, hlt0, hB⟩ := hrel
    obtain ⟨oA, ocap, rfl⟩ := hown.shape
    have hlk : (l.take k).length = k := by rw [List.length_take, HL.out]; omega
    rw [hlk]
    have HO := Lib.hid hown
    rw [hlk] at HO
    have HB := Lib.hid hB
    have HLT := Lib.hid hlt0
    have HPS := Lib.hid (putL_stop l k hlt0 (by rw [HL.out]; exact hk))
    have hocap := hown.capOf
    rw [hlk] at hocap
    clear hown hB hlt0
    by_cases hlt : k < n
    · obtain ⟨b1, o1, y, hb, _, hx, c0⟩ := (HA.out.below HB.out).int_at hlt
      have HX := Lib.hid (drop_at hx)
      have HXX := Lib.hid hx
      simp only [] at hb
      subst hb
      have hi1 : (k : Int) < n := by omega
      have hi0 : (0 : Int) ≤ k := by omega
      clear hx
      by_cases hyx : y < x
      · have d1 : decide (y < x) = true := by simpa using hyx
        have HT : Hid (l.take k ++ [y] = l.take (k + 1)) := by show _ = _; rw [List.take_add_one, HXX.out]; rfl
        go_wp2_with (at_builtin; go_loud (refine wpList_app1 iv 1 3 _ 8 infoInt rfl (by decide) rfl _ _ _ rfl Tryz.underlying32 w.heap.size _ (l.take k) rfl (HO.out.alloc _) y _ _ rfl rfl (newAt _ _ _ _ (by simp)) (by simp [iv, Value.oneCell']) (by rw [hlk]; omega) (by rw [hlk]; unfold maxLen; omega) (by have := HB.out.size; simp; omega) (fun v4 w4 hown4 hg4 _ => ?_)))
        refine ⟨⟨k + 1, by omega, by go_num, by rw [← HT.out]; exact hown4, fun j z hj hz => ?_, below_row (HB.out.alloc HB.out.size _) hg4 (fun g e => (HO.out.blk g e).1)⟩, by simp [intOf]; omega⟩
        by_cases hjk : j = k
        · subst hjk
          rw [HXX.out] at hz
          cases hz
          exact hyx
        · exact HLT.out j z (by omega) hz
      · have d1 : decide (y < x) = false := by simpa using hyx
        rw [HX.out, putL, if_neg hyx] at HPS
        by_cases hye : y = x
        · have e1 : (y == x) = true := by simpa using hye
          have HR : Hid (putL x l = l) := by
            show _ = _
            rw [HPS.out, if_pos hye, ← HX.out, List.take_append_drop]
          clear hyx hye
          go_wp2_with fail
          go_ret
          exact ⟨⟨⟨some ⟨b1, o1, none⟩, n, cap⟩, rfl, by rw [HR.out]; exact HA.out.below HB.out, hc⟩, HB.out⟩
        · have e1 : (y == x) = false := by simpa using hye
          rw [if_neg hye, ← HX.out, show l.take k ++ x :: l.drop k = l.take k ++ [x] ++ l.drop k by simp] at HPS
          have HL4 : Hid ((l.take k ++ [x]).length = k + 1) := by show _ = _; rw [List.length_append, hlk]; rfl
          have HL5 : Hid ((l.take k ++ [x] ++ l.drop k).length = n + 1) := by show _ = _; rw [List.length_append, HL4.out, List.length_drop, HL.out]; omega
          clear hyx hye
          go_wp2_with (first
            | (at_builtin; go_loud (refine wpList_app1 iv 1 3 _ 8 infoInt rfl (by decide) rfl _ _ _ rfl Tryz.underlying32 w.heap.size _ (l.take k) rfl (HO.out.alloc _) x _ _ rfl rfl (newAt _ _ _ _ (by simp)) (by simp [iv, Value.oneCell']) (by rw [hlk]; omega) (by rw [hlk]; unfold maxLen; omega) (by have := HB.out.size; simp; omega) (fun v4 w4 hown4 hg4 _ => ?_)); obtain ⟨v4A, v4c, rfl⟩ := hown4.shape; rw [HL4.out] at hown4 ⊢; have HO4 := Lib.hid hown4; have HB4 := Lib.hid (below_row (HB.out.alloc HB.out.size _) hg4 (fun g e => (HO.out.blk g e).1)); clear hown4 hg4)
            | (at_builtin; go_loud (refine wpList_appRd iv 1 iv_length (by decide) iv_one 3 3 _ 8 infoInt rfl rfl _ _ _ _ rfl Tryz.underlying32 Tryz.underlying32 w.heap.size _ (l.take k ++ [x]) rfl HO4.out 0 (n - k) _ _ (l.drop k) rfl (by have := Rd.drop (HA.out.below HB4.out) k (Nat.le_of_lt hlt); rw [Nat.mul_one] at this; exact this) (by rw [List.length_append, hlk]; simp <;> omega) (by rw [List.length_append, hlk]; unfold maxLen; simp <;> omega) (by have := HB4.out.size; omega) (fun v5 w5 hown5 hg5 _ => ?_)); obtain ⟨v5A, v5c, rfl⟩ := hown5.shape; rw [HL5.out] at hown5 ⊢; have HO5 := Lib.hid hown5; have HB5 := Lib.hid (below_row HB4.out hg5 (fun g e => (HO4.out.blk g e).1)); clear hown5 hg5))
          go_ret
          have hcp := HO5.out.capOf
          have hrd := HO5.out
          rw [← HL5.out] at hrd
          have hrd := (hrd.rdN iv_length).low (Nat.zero_le _)
          rw [HL5.out] at hrd
          exact ⟨⟨⟨v5A, n + 1, v5c⟩, rfl, by rw [HPS.out]; exact hrd, hcp⟩, HB5.out⟩
    · have hk' : k = n := by omega
      have hdr : l.drop k = [] := List.drop_eq_nil_of_le (by rw [HL.out]; omega)
      rw [hdr, putL, show l.take k ++ [x] = l.take k ++ [x] ++ ([] : List Int) by simp] at HPS
      have hnk : n - k = 0 := by omega
      cases A with
      | none =>
        have hn0 : n = 0 := by
          rcases Nat.eq_zero_or_pos n with h | h
          · exact h
          · obtain ⟨b, off, e, _⟩ := HA.out.2.2 h
            cases e
        subst hn0
        subst hk'
        clear hlt
        go_wp2_with (first
          | (at_builtin; go_loud (refine wpList_app1 iv 1 3 _ 8 infoInt rfl (by decide) rfl _ _ _ rfl Tryz.underlying32 w.heap.size _ (l.take 0) rfl (HO.out.alloc _) x _ _ rfl rfl (newAt _ _ _ _ (by simp)) (by simp [iv, Value.oneCell']) (by rw [hlk]; omega) (by rw [hlk]; unfold maxLen; omega) (by have := HB.out.size; simp; omega) (fun v4 w4 hown4 hg4 _ => ?_)); obtain ⟨v4A, v4c, rfl⟩ := hown4.shape; have HO4 := Lib.hid hown4; have HB4 := Lib.hid (below_row (HB.out.alloc HB.out.size _) hg4 (fun g e => (HO.out.blk g e).1)); clear hown4 hg4)
          | (at_builtin; go_loud (refine wpList_appRd iv 1 iv_length (by decide) iv_one 3 3 _ 8 infoInt rfl rfl _ _ _ _ rfl Tryz.underlying32 Tryz.underlying32 w.heap.size _ (l.take 0 ++ [x]) rfl HO4.out 0 0 _ _ [] rfl (Rd.zero _ _ _) (by rw [List.length_append, hlk]; simp <;> omega) (by rw [List.length_append, hlk]; unfold maxLen; simp <;> omega) (by have := HB4.out.size; omega) (fun v5 w5 hown5 hg5 _ => ?_)); obtain ⟨v5A, v5c, rfl⟩ := hown5.shape; have HO5 := Lib.hid hown5; have HB5 := Lib.hid (below_row HB4.out hg5 (fun g e => (HO4.out.blk g e).1)); clear hown5 hg5))

        go_ret
        exact ⟨⟨⟨v5A, _, v5c⟩, rfl, by rw [HPS.out]; exact (HO5.out.rdN iv_length).low (Nat.zero_le _), HO5.out.capOf⟩, HB5.out⟩
      | some a =>
        rcases Nat.eq_zero_or_pos n with hn0 | hpos
        · subst hn0
          subst hk'
          clear hlt
          go_wp2_with (first
            | (at_builtin; go_loud (refine wpList_app1 iv 1 3 _ 8 infoInt rfl (by decide) rfl _ _ _ rfl Tryz.underlying32 w.heap.size _ (l.take 0) rfl (HO.out.alloc _) x _ _ rfl rfl (newAt _ _ _ _ (by simp)) (by simp [iv, Value.oneCell']) (by rw [hlk]; omega) (by rw [hlk]; unfold maxLen; omega) (by have := HB.out.size; simp; omega) (fun v4 w4 hown4 hg4 _ => ?_)); obtain ⟨v4A, v4c, rfl⟩ := hown4.shape; have HO4 := Lib.hid hown4; have HB4 := Lib.hid (below_row (HB.out.alloc HB.out.size _) hg4 (fun g e => (HO.out.blk g e).1)); clear hown4 hg4)
            | (at_builtin; go_loud (refine wpList_appRd iv 1 iv_length (by decide) iv_one 3 3 _ 8 infoInt rfl rfl _ _ _ _ rfl Tryz.underlying32 Tryz.underlying32 w.heap.size _ (l.take 0 ++ [x]) rfl HO4.out 0 0 _ _ [] rfl (Rd.zero _ _ _) (by rw [List.length_append, hlk]; simp <;> omega) (by rw [List.length_append, hlk]; unfold maxLen; simp <;> omega) (by have := HB4.out.size; omega) (fun v5 w5 hown5 hg5 _ => ?_)); obtain ⟨v5A, v5c, rfl⟩ := hown5.shape; have HO5 := Lib.hid hown5; have HB5 := Lib.hid (below_row HB4.out hg5 (fun g e => (HO4.out.blk g e).1)); clear hown5 hg5))
          go_ret
          exact ⟨⟨⟨v5A, _, v5c⟩, rfl, by rw [HPS.out]; exact (HO5.out.rdN iv_length).low (Nat.zero_le _), HO5.out.capOf⟩, HB5.out⟩
        · obtain ⟨b1, o1, e, -⟩ := HA.out.2.2 hpos
          cases e
          subst hk'
          have HL4 : Hid ((l.take k ++ [x]).length = k + 1) := by show _ = _; rw [List.length_append, hlk]; rfl
          have HL5 : Hid ((l.take k ++ [x] ++ ([] : List Int)).length = k + 1) := by show _ = _; rw [List.append_nil, HL4.out]
          have hkk : k - k = 0 := by omega
          clear hlt
          go_wp2_with (first
            | (at_builtin; go_loud (refine wpList_app1 iv 1 3 _ 8 infoInt rfl (by decide) rfl _ _ _ rfl Tryz.underlying32 w.heap.size _ (l.take k) rfl (HO.out.alloc _) x _ _ rfl rfl (newAt _ _ _ _ (by simp)) (by simp [iv, Value.oneCell']) (by rw [hlk]; omega) (by rw [hlk]; unfold maxLen; omega) (by have := HB.out.size; simp; omega) (fun v4 w4 hown4 hg4 _ => ?_)); obtain ⟨v4A, v4c, rfl⟩ := hown4.shape; rw [HL4.out] at hown4 ⊢; have HO4 := Lib.hid hown4; have HB4 := Lib.hid (below_row (HB.out.alloc HB.out.size _) hg4 (fun g e => (HO.out.blk g e).1)); clear hown4 hg4)
            | (at_builtin; go_loud (refine wpList_appRd iv 1 iv_length (by decide) iv_one 3 3 _ 8 infoInt rfl rfl _ _ _ _ rfl Tryz.underlying32 Tryz.underlying32 w.heap.size _ (l.take k ++ [x]) rfl HO4.out 0 0 _ _ [] rfl (Rd.zero _ _ _) (by rw [List.length_append, hlk]; simp <;> omega) (by rw [List.length_append, hlk]; unfold maxLen; simp <;> omega) (by have := HB4.out.size; omega) (fun v5 w5 hown5 hg5 _ => ?_)); obtain ⟨v5A, v5c, rfl⟩ := hown5.shape; rw [HL5.out] at hown5 ⊢; have HO5 := Lib.hid hown5; have HB5 := Lib.hid (below_row HB4.out hg5 (fun g e => (HO4.out.blk g e).1)); clear hown5 hg5))
          all_goals
            go_ret
            have hcp := HO5.out.capOf
            have hrd := (HO5.out.rdN iv_length).low (lo' := 0) (Nat.zero_le _)
            exact ⟨⟨⟨v5A, k + 1, v5c⟩, rfl, by rw [HPS.out]; exact hrd, hcp⟩, HB5.out⟩
end Go.Proofs.Bg
end

section
/- Contract: ref union. -/
namespace Go.Proofs.Bg
open Go.RowKit

def unionL (a b : List Int) : List Int := b.foldl (fun o x => putL x o) a
theorem putL_len (x : Int) : ∀ l : List Int, (putL x l).length ≤ l.length + 1
  | [] => by simp [putL]
  | y :: r => by
    rw [putL]
    split
    · have := putL_len x r
      simp
      omega
    · split <;> simp
theorem own_empty (w : World) : Own iv 1 3 w.heap.size (w.alloc (.cells #[] 3)) (.slice (some ⟨w.heap.size, 0, none⟩) 0 0) [] :=
  ⟨rfl, .inr ⟨w.heap.size, 0, #[], rfl, Nat.le_refl _, new_block w #[] 3, Nat.le_refl _, by unfold maxLen; omega, rfl, rfl⟩⟩
set_option maxRecDepth 100000 in
set_option maxHeartbeats 4000000 in
theorem union_any (s u : Sl) (l m : List Int) (w : World) (h : IntsAt w 0 s l) (hu : IntsAt w 0 u m) (hl : l.length + m.length ≤ 900) :
    Calls Tryz.prog 122 #[.slice s.A s.n s.cap, .slice u.A u.n u.cap] w fun e w' => (∃ t : Sl, e = .returned (.slice t.A t.n t.cap) ∧ IntsAt w' 0 t (unionL l m) ∧ t.n ≤ t.cap) ∧ Below w.heap.size w w' := by
  obtain ⟨A, n, cap⟩ := s
  obtain ⟨B, k, ucap⟩ := u
  have HA := Lib.hid h
  have HU := Lib.hid hu
  have HL : Hid (l.length = n) := h.len
  have HM : Hid (m.length = k) := hu.len
  have hle : n + k ≤ 900 := by rw [← HL.out, ← HM.out]; exact hl
  clear h hu hl
  go_enter Tryz.func122, Tryz.ntmps122
  go_wp2_with (at_builtin; go_loud (refine wpList_appRd iv 1 iv_length (by decide) iv_one 3 3 _ 8 infoInt rfl rfl _ _ _ _ rfl Tryz.underlying32 Tryz.underlying32 w.heap.size _ [] rfl (own_empty w) 0 n _ _ l rfl (HA.out.below (below_new w _)) (by simp <;> omega) (by unfold maxLen; simp <;> omega) (by simp) (fun v5 w5 hown5 hg5 _ => ?_)); obtain ⟨v5A, v5c, rfl⟩ := hown5.shape; have HO5 := Lib.hid hown5; have HB5 := Lib.hid (below_row (below_new w _) hg5 (fun g e => ((own_empty w).blk g e).1)); clear hown5 hg5)
  have HCAP := Lib.hid HO5.out.capOf
  go_loopw [5, 6] (fun v i wr => ∃ (j : Nat) (t : Sl), j ≤ k ∧ i = .int .i64 j ∧ v = .slice t.A t.n t.cap ∧ IntsAt wr 0 t (unionL l (m.take j)) ∧ t.n ≤ t.cap ∧ (unionL l (m.take j)).length ≤ n + j ∧ Below w.heap.size w wr) (fun _ i _ => k - (intOf i).toNat)
  case atStart => exact ⟨0, ⟨v5A, _, v5c⟩, by omega, rfl, rfl, (HO5.out.rdN iv_length).low (Nat.zero_le _), HCAP.out, by show l.length ≤ _; rw [HL.out]; omega, HB5.out⟩
  case round =>
    clear HO5 HB5 HCAP
    obtain ⟨j, t, hj, rfl, rfl, ht, hc, hlen, hB⟩ := hrel
    have HB := Lib.hid hB
    have HT := Lib.hid ht
    by_cases hlt : j < k
    · obtain ⟨b1, o1, y, hb, _, hy, c0⟩ := (HU.out.below hB).int_at hlt
      simp only [] at hb
      subst hb
      have hj1 : (j : Int) < k := by omega
      have HF : Hid (unionL l (m.take (j + 1)) = putL y (unionL l (m.take j))) := by
        show _ = _
        rw [List.take_add_one, hy]
        simp [unionL]
      have HLN := Lib.hid (putL_len y (unionL l (m.take j)))
      have Q := Lib.hid (put_any t y _ wr ht hc (by omega))
      clear hB ht hy
      go_wp2_with fail
      (with_reducible refine Q.out.mono ?_)
      rintro e w2 ⟨⟨t2, rfl, ht2, hc2⟩, hb2⟩
      have HB2 := Lib.hid (bchain HB.out hb2)
      have HT2 := Lib.hid ht2
      clear hb2 ht2 Q
      go_wp2_with fail
      exact ⟨⟨j + 1, t2, by omega, by go_num, rfl, by rw [HF.out]; exact HT2.out, hc2, by rw [HF.out]; have := HLN.out; omega, HB2.out⟩, by simp [intOf]; omega⟩
    · have hj' : j = k := by omega
      have HR : Hid (m.take j = m) := List.take_of_length_le (by rw [HM.out]; omega)
      rw [HR.out] at HT
      have d1 : decide ((j : Int) < (k : Int)) = false := by rw [decide_eq_false_iff_not]; omega
      have d2 : decide (j < k) = false := by rw [decide_eq_false_iff_not]; omega
      clear hlt hj' hB ht hlen
      go_wp2_with fail
      go_ret
      exact ⟨⟨t, rfl, HT.out, hc⟩, HB.out⟩
end Go.Proofs.Bg
end

section
/- Contract: ref Sets. -/
namespace Go.Proofs.Bg
open Go.RowKit

def setsG (L : List (List Int)) (n : Int) : Bool := decide (1 ≤ L.length) && decide (L.length ≤ 5) && L.all fun p => setB p n
set_option maxRecDepth 100000 in
set_option maxHeartbeats 4000000 in
theorem SetsR_any (N : Int) (A : Option Addr) (n cap : Nat) (L : List (List Int)) (w : World) (h : RowsAt w 0 ⟨A, n, cap⟩ L) (hN : -9223372036854775808 < N ∧ N ≤ 9223372036854775807) :
    Calls Tryz.prog 61 #[.slice A n cap, .int .i64 N] w fun e w' => e = .returned (.bool (setsG L N)) ∧ DrN w w' := by
  have HA := Lib.hid h
  have HL : Hid (L.length = n) := h.len
  have hle : n ≤ 9223372036854775807 := h.le
  clear h
  have Q0 := Lib.hid (inR_any (n : Int) 1 5 w)
  by_cases hin : 1 ≤ n ∧ n ≤ 5
  · have HI : Hid (inB (n : Int) 1 5 = true) := by
      show _ = _
      unfold inB
      rw [Bool.and_eq_true, decide_eq_true_eq, decide_eq_true_eq]
      omega
    rw [HI.out] at Q0
    have HG : Hid (setsG L N = (L.drop 0).all fun p => setB p N) := by
      show _ = _
      have e3 : decide (1 ≤ L.length) = true := by rw [decide_eq_true_eq, HL.out]; omega
      have e4 : decide (L.length ≤ 5) = true := by rw [decide_eq_true_eq, HL.out]; omega
      rw [setsG, e3, e4]
      rfl
    go_enter Tryz.func61, Tryz.ntmps61
    go_wp2_with fail
    (with_reducible refine Q0.out.mono ?_)
    rintro e w1 ⟨rfl, hd⟩
    go_wp2_with fail
    clear Q0 HI
    go_loopw [5] (fun i wr => ∃ k : Nat, k ≤ n ∧ i = .int .i64 k ∧ setsG L N = ((L.drop k).all fun p => setB p N) ∧ DrN w wr) (fun i _ => n - (intOf i).toNat)
    case atStart => exact ⟨0, by omega, rfl, HG.out, hd⟩
    case round =>
      clear hd
      obtain ⟨k, hk, rfl, he, hD⟩ := hrel
      have HE := Lib.hid he
      have HD := Lib.hid hD
      clear he HG
      by_cases hlt : k < n
      · obtain ⟨b1, o1, s, x, rfl, -, hx, c0, hsx⟩ := (HA.out.below hD.below).at_ hlt
        have HX := Lib.hid (drop_at hx)
        have hi1 : (k : Int) < n := by omega
        have hi0 : (0 : Int) ≤ k := by omega
        rw [HX.out, List.all_cons] at HE
        have Q := Lib.hid (SetR_any s.A s.n s.cap N x _ hsx hN)
        clear hx hsx hD
        cases hf : setB x N with
        | false =>
          have HR : Hid (setsG L N = false) := by show _ = _; rw [HE.out, hf, Bool.false_and]
          rw [hf] at Q
          clear hf HE
          go_wp2_with fail
          (with_reducible refine Q.out.mono ?_)
          rintro e w2 ⟨rfl, hd2⟩
          go_wp2_with fail
          go_ret
          rw [HR.out]
          exact ⟨rfl, HD.out.trans hd2⟩
        | true =>
          have HR : Hid (setsG L N = ((L.drop (k + 1)).all fun p => setB p N)) := by show _ = _; rw [HE.out, hf, Bool.true_and]
          rw [hf] at Q
          clear hf HE
          go_wp2_with fail
          (with_reducible refine Q.out.mono ?_)
          rintro e w2 ⟨rfl, hd2⟩
          have HD2 := Lib.hid (HD.out.trans hd2)
          clear hd2
          go_wp2_with fail
          exact ⟨⟨k + 1, by omega, by go_num, HR.out, HD2.out⟩, by simp [intOf]; omega⟩
      · have hk' : k = n := by omega
        have HR : Hid (setsG L N = true) := by
          show _ = _
          rw [HE.out, (List.drop_eq_nil_of_le (by rw [HL.out]; omega) : L.drop k = [])]
          rfl
        have d1 : decide ((k : Int) < (n : Int)) = false := by rw [decide_eq_false_iff_not]; omega
        have d2 : decide (k < n) = false := by rw [decide_eq_false_iff_not]; omega
        clear hlt hk'
        go_wp2_with fail
        go_ret
        rw [HR.out]
        exact ⟨rfl, HD.out⟩
  · have HI : Hid (inB (n : Int) 1 5 = false) := by
      show _ = _
      unfold inB
      rw [Bool.and_eq_false_iff, decide_eq_false_iff_not, decide_eq_false_iff_not]
      omega
    rw [HI.out] at Q0
    have HR : Hid (setsG L N = false) := by
      show _ = _
      have : (decide (1 ≤ L.length) && decide (L.length ≤ 5)) = false := by
        rw [Bool.and_eq_false_iff, decide_eq_false_iff_not, decide_eq_false_iff_not, HL.out]
        omega
      rw [setsG, this, Bool.false_and]
    clear hin
    go_enter Tryz.func61, Tryz.ntmps61
    go_wp2_with fail
    (with_reducible refine Q0.out.mono ?_)
    rintro e w1 ⟨rfl, hd⟩
    go_wp2_with fail
    go_ret
    rw [HR.out]
    exact ⟨rfl, hd⟩
end Go.Proofs.Bg
end

section
/- Contract: Keys. -/
namespace Go.Proofs.Bg
open Go.RowKit

def keysR (N : Int) (l : List PF) : List (List Int) × Int := if rulesB N l then (keysB N.toNat l, 0) else ([], 2)
/-- Rows and an error. -/
def RetRows (w : World) (p : List (List Int) × Int) (e : Ending) (w' : World) : Prop :=
  (∃ s : Sl, e = .returned (.tuple #[.slice s.A s.n s.cap, .int .i64 p.2]) ∧ RowsAt w' 0 s p.1) ∧ Below w.heap.size w w'
theorem RowsAt.nil (w : World) (cap : Nat) : RowsAt w 0 ⟨none, 0, cap⟩ [] := ⟨[], Rd.nil _ _ _, All2.nil _⟩
theorem Own.shapeN' {α : Type} {enc : α → List Value} {sz : Nat} {e : TypeId} {base : Nat} {w : World} {v : Value} {l : List α} (h : Own enc sz e base w v l) : ∃ A n cap, v = .slice A n cap := by
  obtain ⟨A, cap, rfl⟩ := h.shape
  exact ⟨A, _, cap, rfl⟩
theorem OwnRows.push {base : Nat} {w w2 w4 : World} {v v4 : Value} {s : Sl} {r : List Int} {l : List (List Int)} {ss : List Sl} {o : Obj} (h1 : Own Sl.vs 1 32 base w v ss) (h2 : All2 (fun s r => Own iv 1 3 base w s.v r) ss l) (hb : Below w.heap.size w w2) (hr : Own iv 1 3 base w2 s.v r) (h4 : Own Sl.vs 1 32 base w4 v4 (ss ++ [s])) (hg : (w2.alloc o).grownBy w4 v.ownBlock) : OwnRows base w4 v4 (l ++ [r]) :=
  ⟨_, h4, (All2.snoc (h2.mono fun x y h => (h.below hb)) hr).mono fun x y h => (h.alloc o).grown hg (own_ne (h.alloc o) ((h1.below hb).alloc o) (by decide))⟩
theorem keyB_no {n : Nat} {l : List PF} {s c : Nat} (hc : c < n) (h : (s.testBit c && decide (closedN l (bdiff s (pw c)) = pw n - 1)) = true) : keyB n l s = false := by
  unfold keyB
  have : ((List.range n).all fun c => !(s.testBit c && decide (closedN l (bdiff s (pw c)) = pw n - 1))) = false := by
    rw [List.all_eq_false]
    exact ⟨c, List.mem_range.2 hc, by simp only [h]; decide⟩
  rw [this, Bool.and_false]
theorem keyB_yes {n : Nat} {l : List PF} {s : Nat} (h0 : closedN l s = pw n - 1) (h : ∀ c, c < n → (s.testBit c && decide (closedN l (bdiff s (pw c)) = pw n - 1)) = false) : keyB n l s = true := by
  unfold keyB
  rw [Bool.and_eq_true, decide_eq_true_eq, List.all_eq_true]
  exact ⟨h0, fun c hc => by rw [h c (List.mem_range.1 hc)]; rfl⟩

set_option maxRecDepth 100000 in
set_option maxHeartbeats 8000000 in
theorem Keys_any (N : Int) (A : Option Addr) (m cap : Nat) (l : List PF) (w : World) (h : FdsAt w 0 A m l) :
    Calls Tryz.prog 49 #[.int .i64 N, .slice A m cap] w (RetRows w (keysR N l)) := by
  have Q1 := Lib.hid (rulesIn_any N A m cap l w h)
  have HA := Lib.hid h
  clear h
  cases hr : rulesB N l with
  | false =>
    have HR : Hid (keysR N l = ([], 2)) := by show _ = _; simp [keysR, hr]
    rw [hr] at Q1
    clear hr
    go_enter Tryz.func49, Tryz.ntmps49
    go_wp2_with fail
    go_step3
    go_wp2_with fail
    (with_reducible refine Q1.out.mono ?_)
    rintro e w1 ⟨rfl, hb1⟩
    have HB1 := Lib.hid hb1
    clear hb1
    go_wp2_with fail
    rw [Exit.noGoto_ret]
    go_ret2
    rw [HR.out]
    exact ⟨⟨⟨none, 0, 0⟩, rfl, RowsAt.nil _ _⟩, HB1.out⟩
  | true =>
    have HRL := Lib.hid (rulesB_all hr)
    have hN : 1 ≤ N ∧ N ≤ 8 := by
      simp only [rulesB, Bool.and_eq_true, decide_eq_true_eq] at hr
      exact ⟨hr.1.1.1, hr.1.1.2⟩
    obtain ⟨n, rfl⟩ : ∃ n : Nat, N = (n : Int) := ⟨N.toNat, by omega⟩
    have HR : Hid (keysR (n : Int) l = (keysB n l, 0)) := by show _ = _; simp [keysR, hr]
    rw [hr] at Q1
    have hn1 : 1 ≤ n := by omega
    have hn8 : n ≤ 8 := by omega
    obtain ⟨al, hal⟩ : ∃ al, pw n = al + 1 := ⟨pw n - 1, by have := pw_pos n; omega⟩
    have hal8 : al < 256 := by
      have : pw n < 2 ^ 9 := pw_lt (by omega)
      have h2 : pw n ≤ pw 8 := Nat.pow_le_pow_right (by decide) hn8
      have h3 : pw 8 = 256 := rfl
      omega
    have hsl : IntKind.i64.wrap (2 ^ n) = (al : Int) + 1 := by
      rw [shl_nat (by omega), hal]
      rfl
    have h0 : (0 : Int) ≤ n := by omega
    have h64 : (n : Int) ≤ 64 := by omega
    have HAL := Lib.hid hal
    clear hr hN hal
    go_enter Tryz.func49, Tryz.ntmps49
    go_wp2_with fail
    go_step3
    go_wp2_with fail
    (with_reducible refine Q1.out.mono ?_)
    rintro e w1 ⟨rfl, hb1⟩
    have HB1 := Lib.hid hb1
    clear hb1
    go_wp2_with fail
    go_step3
    go_wp2_with fail
    clear hsl Q1
    go_loopw [7, 8] (fun v i wr => ∃ k : Nat, k ≤ al + 1 ∧ i = .int .i64 k ∧ OwnRows w.heap.size wr v (keysTo n l k) ∧ Below w.heap.size w wr) (fun _ i _ => al + 1 - (intOf i).toNat)
    case atStart => exact ⟨0, by omega, rfl, ⟨[], Own.nil _ _ _ _ _, All2.nil _⟩, HB1.out⟩
    case round =>
      obtain ⟨k, hk, rfl, ⟨ss, ho1, ho2⟩, hB⟩ := hrel
      obtain ⟨A1, c1, rfl⟩ := ho1.shape
      have HO1 := Lib.hid ho1
      have HO2 := Lib.hid ho2
      have HB := Lib.hid hB
      have hsl : ss.length ≤ k := by rw [ho2.1]; exact keysTo_length n l k
      have HKS := Lib.hid (keysTo_succ n l k)
      have hFD := HA.out.below hB
      clear ho1 ho2 hB
      by_cases hlt : k ≤ al
      · have dk : decide ((k : Int) ≤ (al : Int)) = true := by rw [decide_eq_true_eq]; omega
        have dk' : decide (k ≤ al) = true := by rw [decide_eq_true_eq]; omega
        have Q2 := Lib.hid (closed_any A m cap l k wr hFD HRL.out (by omega))
        have hcl := closedN_lt HRL.out (s := k) (by omega)
        generalize hcc : closedN l k = cl at *
        have HCC := Lib.hid hcc
        clear hcc hFD
        by_cases hca : cl = al
        · subst hca
          go_wp2_with fail
          (with_reducible refine Q2.out.mono ?_)
          rintro e w2 ⟨rfl, hb2⟩
          have HO1' := Lib.hid (HO1.out.below hb2)
          have HO2' := Lib.hid (HO2.out.mono (S := fun s r => Own iv 1 3 w.heap.size w2 s.v r) fun x y h => h.below hb2)
          have HB2 := Lib.hid (bchain HB.out hb2)
          clear hb2 Q2 HO1 HO2 HB dk dk'
          go_wp2_with fail
          go_loopw [9] (fun i wr => ∃ c : Nat, c ≤ n ∧ i = .int .i64 c ∧ (∀ d, d < c → (k.testBit d && decide (closedN l (bdiff k (pw d)) = pw n - 1)) = false) ∧ Below w2.heap.size w2 wr) (fun i _ => n - (intOf i).toNat)
          case atStart => exact ⟨0, by omega, rfl, fun d hd => by omega, Below.refl _ _⟩
          case round =>
            obtain ⟨c, hc, rfl, hall, hb3⟩ := hrel
            have HALL := Lib.hid hall
            have HB3 := Lib.hid hb3
            clear hall
            by_cases hlt2 : c < n
            · have hs := shr_nat k c
              have hbo := band_one (x := k) (c := c) (by omega)
              have hsl2 := shl_nat (c := c) (by omega)
              have hpw := pw_lt (c := c) (n := 8) (by omega)
              have hbd := bandnot_nat (a := k) (b := pw c) (by omega) (by omega)
              have hbl : bdiff k (pw c) < 256 := bdiff_lt (n := 8) (by omega)
              have hc0 : (0 : Int) ≤ c := by omega
              have hc64 : (c : Int) ≤ 64 := by omega
              have Q3 := Lib.hid (closed_any A m cap l (bdiff k (pw c)) wr ((HA.out.below HB2.out).below hb3) HRL.out hbl)
              have hNO := fun hh => keyB_no (n := n) (l := l) (s := k) (c := c) hlt2 hh
              have hST : ∀ q, (k.testBit c && decide (closedN l (bdiff k (pw c)) = pw n - 1)) = q → q = false → ∀ d, d < c + 1 → (k.testBit d && decide (closedN l (bdiff k (pw d)) = pw n - 1)) = false := fun q hq hq2 d hd => by
                by_cases hdc : d = c
                · subst hdc; rw [hq, hq2]
                · exact HALL.out d (by omega)
              have HST := Lib.hid hST
              have HNO := Lib.hid hNO
              have hal' : pw n - 1 = cl := by rw [HAL.out]; rfl
              have HAL' := Lib.hid hal'
              clear hal' hST hNO hb3
              generalize hE : closedN l (bdiff k (pw c)) = E at *
              generalize bdiff k (pw c) = D at *
              generalize pw c = PW at *
              generalize k >>> c = S at *
              cases ht : k.testBit c with
              | false =>
                rw [ht] at hbo HST
                have HS2 := Lib.hid (HST.out _ rfl rfl)
                simp only [Bool.false_eq_true, if_false] at hbo
                clear ht hE HST HNO hsl2 hbd
                go_wp2_with fail
                exact ⟨⟨c + 1, by omega, by go_num, HS2.out, HB3.out⟩, by simp [intOf]; omega⟩
              | true =>
                rw [ht] at hbo HST HNO
                simp only [if_true] at hbo
                by_cases hEc : E = cl
                · have eE : ((E : Int) == (cl : Int)) = true := by simp [hEc]
                  have eE' : (E == cl) = true := by simp [hEc]
                  have HK : Hid (keyB n l k = false) := HNO.out (by rw [hEc, HAL'.out]; simp)
                  rw [HK.out] at HKS
                  clear ht HST HNO hEc HK hE
                  go_wp2_with fail
                  (with_reducible refine Q3.out.mono ?_)
                  rintro e w4 ⟨rfl, hb4⟩
                  have HB4 := Lib.hid (bchain HB3.out hb4)
                  clear hb4 Q3
                  go_wp2_with fail
                  exact ⟨⟨k + 1, by omega, by go_num, by rw [HKS.out]; exact ⟨ss, HO1'.out.below HB4.out, HO2'.out.mono fun x y h => h.below HB4.out⟩, bchain HB2.out HB4.out⟩, by simp [intOf]; omega⟩
                · have eE : ((E : Int) == (cl : Int)) = false := by simp; omega
                  have eE' : (E == cl) = false := by simpa using hEc
                  have HS2 := Lib.hid (HST.out _ rfl (by rw [HAL'.out]; simpa using hEc))
                  clear ht HST HNO hEc hE
                  go_wp2_with fail
                  (with_reducible refine Q3.out.mono ?_)
                  rintro e w4 ⟨rfl, hb4⟩
                  have HB4 := Lib.hid (bchain HB3.out hb4)
                  clear hb4 Q3
                  go_wp2_with fail
                  exact ⟨⟨c + 1, by omega, by go_num, HS2.out, HB4.out⟩, by simp [intOf]; omega⟩
            · have hcn : c = n := by omega
              have HK : Hid (keyB n l k = true) := keyB_yes (by rw [HCC.out, HAL.out]; rfl) (fun d hd => HALL.out d (by omega))
              rw [HK.out] at HKS
              simp only [if_true] at HKS
              have Q4 := Lib.hid (columnsOf_any k wr (by omega))
              have d1 : decide ((c : Int) < (n : Int)) = false := by rw [decide_eq_false_iff_not]; omega
              have d2 : decide (c < n) = false := by rw [decide_eq_false_iff_not]; omega
              have HOW := Lib.hid (HO1'.out.below hb3)
              have HOX := Lib.hid (HO2'.out.mono (S := fun s r => Own iv 1 3 w.heap.size wr s.v r) fun x y h => h.below hb3)
              have HBW := Lib.hid (bchain HB2.out hb3)
              clear hlt2 hcn HK hb3
              go_wp2_with fail
              (with_reducible refine Q4.out.mono ?_)
              rintro e w5 ⟨v5, rfl, hown5, hb5⟩
              obtain ⟨A5, n5, c5, rfl⟩ := hown5.shapeN'
              have HO5 := Lib.hid (hown5.low HBW.out.size)
              have HB5 := Lib.hid hb5
              have HB6 := Lib.hid (bchain HBW.out hb5)
              clear hown5 hb5 Q4
              go_wp2_with (at_builtin; go_loud (refine wpList_app1 Sl.vs 1 32 _ 24 infoSl rfl (by decide) rfl _ _ _ rfl Tryz.underlying38 w.heap.size _ ss rfl ((HOW.out.below HB5.out).alloc _) ⟨A5, n5, c5⟩ _ _ rfl rfl (newAt _ _ _ _ (by simp)) (by simp [Sl.vs, Value.oneCell']) (by omega) (by unfold maxLen; omega) (by have := HB6.out.size; simp; omega) (fun v4 w4 hown4 hg4 _ => ?_)))
              exact ⟨⟨k + 1, by omega, by go_num, by rw [HKS.out]; exact OwnRows.push (s := ⟨A5, n5, c5⟩) HOW.out HOX.out HB5.out HO5.out hown4 hg4, below_row (HB6.out.alloc HB6.out.size _) hg4 (fun g e => (HOW.out.blk g e).1)⟩, by simp [intOf]; omega⟩
        · have hne : ((cl : Int) != (al : Int)) = true := by simp; omega
          have hne' : (cl != al) = true := by simpa using hca
          have HK : Hid (keyB n l k = false) := by
            show _ = _
            unfold keyB
            have : decide (closedN l k = pw n - 1) = false := by rw [decide_eq_false_iff_not, HCC.out, HAL.out]; exact hca
            rw [this, Bool.false_and]
          rw [HK.out] at HKS
          clear hca HK
          go_wp2_with fail
          (with_reducible refine Q2.out.mono ?_)
          rintro e w2 ⟨rfl, hb2⟩
          have HB2 := Lib.hid hb2
          clear hb2 Q2
          go_wp2_with fail
          exact ⟨⟨k + 1, by omega, by go_num, by rw [HKS.out]; exact ⟨ss, HO1.out.below HB2.out, HO2.out.mono fun x y h => h.below HB2.out⟩, bchain HB.out HB2.out⟩, by simp [intOf]; omega⟩
      · have hk' : k = al + 1 := by omega
        have dk : decide ((k : Int) ≤ (al : Int)) = false := by rw [decide_eq_false_iff_not]; omega
        have dk' : decide (k ≤ al) = false := by rw [decide_eq_false_iff_not]; omega
        have hrows : RowsAt wr 0 ⟨A1, ss.length, c1⟩ (keysTo n l k) := ⟨ss, (HO1.out.rdN Sl.vs_length).low (Nat.zero_le _), HO2.out.mono fun x y h => h.ints.low (Nat.zero_le _)⟩
        have Q5 := Lib.hid (sorted_any ⟨A1, ss.length, c1⟩ (keysTo n l k) wr hrows (by show ss.length ≤ _; omega))
        have HKB : Hid (sortR (keysTo n l k) = keysB n l) := by show _ = _; rw [keysB, HAL.out, hk']
        rw [HKB.out] at Q5
        clear hlt hk' hrows hFD
        go_wp2_with fail
        (with_reducible refine Q5.out.mono ?_)
        rintro e w2 ⟨v2, rfl, hr2, hb2⟩
        obtain ⟨A2, c2, rfl⟩ := hr2.shape
        have HR2 := Lib.hid hr2.rows
        have HB2 := Lib.hid (bchain HB.out hb2)
        clear hr2 hb2 Q5
        go_wp2_with fail
        go_ret2
        rw [HR.out]
        exact ⟨⟨⟨A2, _, c2⟩, rfl, HR2.out⟩, HB2.out⟩
end Go.Proofs.Bg
end

section
/- Contract: ref Parts. -/
namespace Go.Proofs.Bg
open Go.RowKit

def metL (L : List (List Int)) : List Int := L.foldl unionL []
def fullB (L : List (List Int)) : Bool := L.all fun p => decide (0 < p.length)
/-- Whether sets are parts; whether each column is in one. -/
def partsR (N : Int) (L : List (List Int)) : Bool × Bool := if setsG L N && fullB L then (true, decide (((metL L).length : Int) = N)) else (false, false)
theorem unionL_len (b : List Int) : ∀ a : List Int, (unionL a b).length ≤ a.length + b.length := by
  induction b with
  | nil => intro a; simp [unionL]
  | cons x b ih =>
    intro a
    have h1 := ih (putL x a)
    have h2 := putL_len x a
    unfold unionL at h1 ⊢
    simp only [List.foldl_cons, List.length_cons] at h1 ⊢
    omega
theorem metL_take {L : List (List Int)} {j : Nat} {p : List Int} (h : L[j]? = some p) : metL (L.take (j + 1)) = unionL (metL (L.take j)) p := by
  rw [List.take_add_one, h]
  simp [metL]

set_option maxRecDepth 100000 in
set_option maxHeartbeats 4000000 in
theorem PartsR_any (N : Nat) (s : Sl) (L : List (List Int)) (w : World) (h : RowsAt w 0 s L) (hN : N ≤ 8) :
    Calls Tryz.prog 52 #[.int .i64 (N : Nat), .slice s.A s.n s.cap] w fun e w' => e = .returned (.tuple #[.bool (partsR N L).1, .bool (partsR N L).2]) ∧ Below w.heap.size w w' := by
  obtain ⟨A, n, cap⟩ := s
  have HA := Lib.hid h
  have HL : Hid (L.length = n) := h.len
  have hle : n ≤ 9223372036854775807 := h.le
  have Q0 := Lib.hid (SetsR_any (N : Int) A n cap L w h (by omega))
  clear h
  cases hs : setsG L (N : Int) with
  | false =>
    have HR : Hid (partsR (N : Int) L = (false, false)) := by show _ = _; simp [partsR, hs]
    rw [hs] at Q0
    clear hs
    go_enter Tryz.func52, Tryz.ntmps52
    go_wp2_with fail
    (with_reducible refine Q0.out.mono ?_)
    rintro e w1 ⟨rfl, hd⟩
    go_wp2_with fail
    go_ret2
    rw [HR.out]
    exact ⟨rfl, hd.below⟩
  | true =>
    have hsp : 1 ≤ n ∧ n ≤ 5 ∧ ∀ p ∈ L, setB p (N : Int) = true := by
      simp only [setsG, Bool.and_eq_true, decide_eq_true_eq, List.all_eq_true] at hs
      rw [HL.out] at hs
      exact ⟨hs.1.1, hs.1.2, hs.2⟩
    obtain ⟨hn1, hn5, hsp⟩ := hsp
    have HSP := Lib.hid hsp
    have HSB := Lib.hid hs
    rw [hs] at Q0
    clear hs hsp
    go_enter Tryz.func52, Tryz.ntmps52
    go_wp2_with fail
    (with_reducible refine Q0.out.mono ?_)
    rintro e w1 ⟨rfl, hd⟩
    have HB1 := Lib.hid hd.below
    clear hd Q0
    go_wp2_with fail
    go_loopw [6, 7] (fun v i wr => ∃ (j : Nat) (t : Sl), j ≤ n ∧ i = .int .i64 j ∧ v = .slice t.A t.n t.cap ∧ IntsAt wr 0 t (metL (L.take j)) ∧ fullB (L.take j) = true ∧ (metL (L.take j)).length ≤ 8 * j ∧ Below w.heap.size w wr) (fun _ i _ => n - (intOf i).toNat)
    case atStart => exact ⟨0, ⟨none, 0, 0⟩, by omega, rfl, rfl, Rd.nil _ _ _, rfl, by simp [metL], HB1.out⟩
    case round =>
      clear HB1
      obtain ⟨j, t, hj, rfl, rfl, ht, hf, hlen, hB⟩ := hrel
      have HB := Lib.hid hB
      have HT := Lib.hid ht
      have HF := Lib.hid hf
      have HLEN := Lib.hid hlen
      by_cases hlt : j < n
      · obtain ⟨b1, o1, x, p, e1, -, hp, c0, hx⟩ := (HA.out.below hB).at_ (k := j) hlt
        simp only [] at e1
        subst e1
        have hj1 : (j : Int) < n := by omega
        have hj0 : (0 : Int) ≤ j := by omega
        have hpx : p.length = x.n := hx.len
        have hp8 : p.length ≤ 8 := Nat.le_trans (setB_length (HSP.out p (List.mem_of_getElem? hp))) hN
        have HPE := Lib.hid hpx
        have HP := Lib.hid hp
        have HMT := Lib.hid (metL_take hp)
        by_cases hz : p.length = 0
        · have e0 : ((x.n : Int) == 0) = true := by simp; omega
          have e0' : (x.n == 0) = true := by simp; omega
          have HR : Hid (partsR (N : Int) L = (false, false)) := by
            show _ = _
            have : fullB L = false := by
              unfold fullB
              rw [List.all_eq_false]
              exact ⟨p, List.mem_of_getElem? hp, by simp [List.length_eq_zero_iff.1 hz]⟩
            simp [partsR, this]
          clear hz hp hx hB ht hf hlen hpx hp8
          go_wp2_with fail
          go_ret2
          rw [HR.out]
          exact ⟨rfl, HB.out⟩
        · have e0 : ((x.n : Int) == 0) = false := by simp; omega
          have e0' : (x.n == 0) = false := by simp; omega
          have Q := Lib.hid (union_any t x _ p wr ht hx (by omega))
          have HF2 : Hid (fullB (L.take (j + 1)) = true) := by
            show _ = _
            rw [List.take_add_one, hp]
            unfold fullB at hf ⊢
            rw [List.all_append, hf]
            simp
            omega
          have HLN : Hid ((metL (L.take (j + 1))).length ≤ 8 * (j + 1)) := by
            show _ ≤ _
            rw [HMT.out]
            have := unionL_len p (metL (L.take j))
            omega
          clear hz hp hx hB ht hf hlen hpx hp8
          go_wp2_with fail
          (with_reducible refine Q.out.mono ?_)
          rintro e w2 ⟨⟨t2, rfl, ht2, -⟩, hb2⟩
          have HB2 := Lib.hid (bchain HB.out hb2)
          have HT2 := Lib.hid ht2
          clear hb2 ht2 Q
          go_wp2_with fail
          exact ⟨⟨j + 1, t2, by omega, by go_num, rfl, by rw [HMT.out]; exact HT2.out, HF2.out, HLN.out, HB2.out⟩, by simp [intOf]; omega⟩
      · have hj' : j = n := by omega
        have htk : L.take j = L := List.take_of_length_le (by rw [HL.out]; omega)
        rw [htk] at HT HF
        have HTL : Hid ((metL L).length = t.n) := HT.out.len
        have HR : Hid (partsR (N : Int) L = (true, decide ((t.n : Int) = (N : Int)))) := by show _ = _; rw [partsR, HSB.out, HF.out, HTL.out]; rfl
        have d1 : decide ((j : Int) < (n : Int)) = false := by rw [decide_eq_false_iff_not]; omega
        have d2 : decide (j < n) = false := by rw [decide_eq_false_iff_not]; omega
        clear hlt hj' hB ht hf hlen htk
        by_cases hq : t.n = N
        · have e1 : ((t.n : Int) == (N : Int)) = true := by simp [hq]
          have e1' : (t.n == N) = true := by simp [hq]
          have e2 : decide ((t.n : Int) = (N : Int)) = true := by simp [hq]
          rw [e2] at HR
          clear hq
          go_wp2_with fail
          go_ret2
          rw [HR.out]
          exact ⟨rfl, HB.out⟩
        · have e1 : ((t.n : Int) == (N : Int)) = false := by simp; omega
          have e1' : (t.n == N) = false := by simp [hq]
          have e2 : decide ((t.n : Int) = (N : Int)) = false := by simp; omega
          rw [e2] at HR
          clear hq
          go_wp2_with fail
          go_ret2
          rw [HR.out]
          exact ⟨rfl, HB.out⟩
end Go.Proofs.Bg
end
