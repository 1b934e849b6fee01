/- Texts of our own, merged: PkOpenT PkCloseP PkHoldsP PkHolds PkRefHs PkRefTb PkRefHo PkClose PkRefCl PkRefKy PkLawRules. -/
import Derived.Test.YtonjmakaebecjaaGreatDoorBgMPp1
import Derived.Test.YtonjmakaebecjaaGreatDoorBgMPp3
import Derived.Test.YtonjmakaebecjaaGreatDoorBgMPp2
import Derived.StillTactics
import Derived.StillTailTactics
import Derived.Test.YtonjmakaebecjaaGreatDoorBgMPp5
import Derived.Deep.DeepCutAuto
import Derived.Test.YtonjmakaebecjaaGreatDoorBgMPp4
import Derived.BigQuiet
import Derived.Deep.LoopGhost
import Derived.Test.YtonjmakaebecjaaGreatDoorBgMPp6

section
/- Tables that are handed in, opened. -/
namespace Go.Proofs.Bg
open Go.RowKit Go.ChangeShapes Go.WideShapes Go.Deep

section
variable {H : Type} {enc : TypeId × Value → H} {W : World} {spare : Nat → Bool} {held : Bool}
theorem cellsTb : Tryz.prog.cellsOf 40 = 2 := by kernel_rfl
set_option maxRecDepth 100000 in
theorem open_tab {n : Nat} {cs : List Value} {x : DataW H × List MemPlace} (h : DataW.trod enc Tryz.prog W 0 spare held n 40 cs = some x) : ∃ (y : Tb) (T : PT), cs = y.vs ∧ TabAt W 0 y T ∧ (y.cols.n ≤ maxLen ∧ y.rows.n ≤ maxLen) := by
  obtain ⟨y0, y1, k, _, hlen, u0, u1⟩ := trod_struct2 Tryz.underlying40 h
  rw [cellsTb] at hlen
  match cs, hlen with
  | [v0, v1], _ =>
    simp only [cellsIs, cellsRs, List.drop, List.take] at u0 u1
    obtain ⟨s, l, e0, hs, _, h1, h2⟩ := open_ints Tryz.underlying32 u0
    obtain ⟨r, L, e1, hr, _, h3, h4⟩ := open_rows Tryz.underlying38 u1
    simp only [Sl.vs, List.cons.injEq, and_true] at e0 e1
    exact ⟨⟨s, r⟩, ⟨l, L⟩, by rw [e0, e1]; rfl, ⟨hs, hr⟩, Nat.le_trans h1 h2, Nat.le_trans h3 h4⟩
theorem open_tabs {t : TypeId} {fuel : Nat} {cs : List Value} {x : DataW H × List MemPlace} (ht : Tryz.prog.underlying t = some (.slice 40)) (hf : DataW.trod enc Tryz.prog W 0 spare held fuel t cs = some x) :
    ∃ (s : Sl) (l : List PT), cs = s.vs ∧ TabsAt W 0 s.A s.n l ∧ s.n ≤ s.cap ∧ s.cap ≤ maxLen := by
  obtain ⟨s, ss, h1, h2, h3, h4, h5⟩ := open_cells Tb.vs 2 (fun y => ∃ T, TabAt W 0 y T) (by decide) cellsTb Tb.vs_length (fun n cs x hx => by
    obtain ⟨y, T, e, hT, _⟩ := open_tab hx
    exact ⟨y, e, T, hT⟩) ht hf
  obtain ⟨L, hL⟩ := all2_choose h3
  exact ⟨s, L, h1, ⟨ss, h2, hL⟩, h4, h5⟩
end
set_option maxRecDepth 100000 in
/-- A table's value, from its cells. -/
theorem tab_of {W : World} {r : Reach} {base : Nat} {v : Value} {t : Tb} (hval : Value.okWide Tryz.prog W r base 40 v) (h : v.cells.toList = t.vs) : v = .agg #[.slice t.cols.A t.cols.n t.cols.cap, .slice t.rows.A t.rows.n t.rows.cap] := by
  obtain ⟨cs, rfl, _⟩ := okWide_struct Tryz.underlying40 hval
  have e : cs.toList = t.vs := h
  have : cs = #[.slice t.cols.A t.cols.n t.cols.cap, .slice t.rows.A t.rows.n t.rows.cap] := by
    apply Array.toList_inj.1
    rw [e]
    rfl
  rw [this]
end Go.Proofs.Bg
end

section
/- Plain words: the reference's closures and keys are the program's. -/
namespace Go.Proofs.Bg
open Go.RowKit

theorem mem_colsN {s : Nat} (hs : s < 256) {c : Int} : c ∈ colsN s ↔ ∃ k : Nat, c = (k : Int) ∧ s.testBit k = true := by
  rw [colsN, mem_colsFrom]
  constructor
  · rintro ⟨k, h1, _, _, h2⟩
    exact ⟨k, h1, h2⟩
  · rintro ⟨k, h1, h2⟩
    refine ⟨k, h1, by omega, ?_, h2⟩
    rcases Nat.lt_or_ge k (0 + 8) with h | h
    · exact h
    · have : s.testBit k = false := Nat.testBit_lt_two_pow (Nat.lt_of_lt_of_le hs (Nat.pow_le_pow_right (n := 2) (by decide) (show 8 ≤ k by omega)))
      rw [this] at h2
      cases h2
theorem colsN_up (s : Nat) : (colsN s).Pairwise (· < ·) := colsFrom_pairwise _ _ _
theorem colsN_bits {l : List Int} (h : setB l 8 = true) : colsN (bitsN l) = l := by
  have h0 : ∀ c ∈ l, 0 ≤ c := fun c hc => (setB_mem h c hc).1
  refine incr_ext (colsN_up _) (setFrom_pairwise h) fun x => ?_
  rw [mem_colsN (bitsN_lt (n := 8) (setB_mem h))]
  constructor
  · rintro ⟨k, rfl, hk⟩
    rw [testBit_bitsN h0] at hk
    simpa using hk
  · intro hx
    refine ⟨x.toNat, by have := h0 x hx; omega, ?_⟩
    rw [testBit_bitsN h0, Int.toNat_of_nonneg (h0 x hx)]
    simpa using hx
theorem bdiff_none {a b : Nat} : bdiff a b = 0 ↔ ∀ i, a.testBit i = true → b.testBit i = true := by
  constructor
  · intro h i hi
    have := congrArg (fun x => x.testBit i) h
    simp only [testBit_bdiff, hi, Nat.zero_testBit, Bool.true_and] at this
    simpa using this
  · intro h
    refine Nat.eq_of_testBit_eq fun i => ?_
    rw [testBit_bdiff, Nat.zero_testBit]
    cases ha : a.testBit i with
    | false => rfl
    | true => rw [h i ha]; rfl
theorem within_cols {fr : List Int} {s : Nat} (hf : setB fr 8 = true) (hs : s < 256) : withinB fr (colsN s) = decide (bdiff (bitsN fr) s = 0) := by
  have h0 : ∀ c ∈ fr, 0 ≤ c := fun c hc => (setB_mem hf c hc).1
  rw [Bool.eq_iff_iff, withinB, List.all_eq_true, decide_eq_true_eq, bdiff_none]
  constructor
  · intro h i hi
    rw [testBit_bitsN h0, decide_eq_true_eq] at hi
    have := h _ hi
    rw [decide_eq_true_eq, mem_colsN hs] at this
    obtain ⟨k, hk, hb⟩ := this
    have : i = k := by omega
    rw [this]; exact hb
  · intro h x hx
    rw [decide_eq_true_eq, mem_colsN hs]
    refine ⟨x.toNat, by have := h0 x hx; omega, h _ ?_⟩
    rw [testBit_bitsN h0, Int.toNat_of_nonneg (h0 x hx), decide_eq_true_eq]
    exact hx
theorem mem_cols {s c : Nat} (hs : s < 256) : decide ((c : Int) ∈ colsN s) = s.testBit c := by
  rw [Bool.eq_iff_iff, decide_eq_true_eq, mem_colsN hs]
  constructor
  · rintro ⟨k, hk, hb⟩
    have : c = k := by omega
    rw [this]; exact hb
  · intro h
    exact ⟨c, rfl, h⟩
theorem put_cols {s c : Nat} (hs : s < 256) (hc : c < 8) : putL (c : Int) (colsN s) = colsN (s ||| pw c) := by
  have h2 : s ||| pw c < 256 := Nat.or_lt_two_pow (n := 8) hs (pw_lt hc)
  refine incr_ext (putL_pairwise _ (colsN_up _)) (colsN_up _) fun x => ?_
  rw [putL_mem, mem_colsN hs, mem_colsN h2]
  constructor
  · rintro (rfl | ⟨k, rfl, hk⟩)
    · exact ⟨c, rfl, by rw [Nat.testBit_or, testBit_pw]; simp⟩
    · exact ⟨k, rfl, by rw [Nat.testBit_or, hk]; rfl⟩
  · rintro ⟨k, rfl, hk⟩
    rw [Nat.testBit_or, testBit_pw, Bool.or_eq_true, decide_eq_true_eq] at hk
    rcases hk with hk | rfl
    · exact .inr ⟨k, rfl, hk⟩
    · exact .inl rfl
/-- One rule used, as the reference does it. -/
theorem use_cols {r : PF} {s : Nat} (hr : ruleB 8 r = true) (hs : s < 256) : colsN (useR r s) = if withinB r.from_ (colsN s) && !decide (r.to_ ∈ colsN s) then putL r.to_ (colsN s) else colsN s := by
  simp only [ruleB, Bool.and_eq_true, decide_eq_true_eq] at hr
  obtain ⟨⟨hset, h0⟩, h8⟩ := hr
  obtain ⟨c, hc⟩ : ∃ c : Nat, r.to_ = (c : Int) := ⟨r.to_.toNat, by omega⟩
  rw [within_cols hset hs, hc, mem_cols hs]
  unfold useR firesB
  rw [hc, Int.toNat_natCast]
  by_cases h : (decide (bdiff (bitsN r.from_) s = 0) && !s.testBit c) = true
  · rw [if_pos h, if_pos h, put_cols hs (by omega)]
  · rw [if_neg h, if_neg h]
/-- Sets below a number of columns stay so. -/
theorem useR_lt' {n : Nat} {r : PF} {s : Nat} (hr : ruleB n r = true) (hs : s < pw n) : useR r s < pw n := by
  simp only [ruleB, Bool.and_eq_true, decide_eq_true_eq] at hr
  unfold useR
  split
  · exact Nat.or_lt_two_pow hs (pw_lt (by omega))
  · exact hs
theorem roundR_lt' {n : Nat} : ∀ {l : List PF} {s : Nat}, (∀ r ∈ l, ruleB n r = true) → s < pw n → roundR l s < pw n
  | [], s, _, h => h
  | r :: l, s, hl, h => by
    rw [roundR]
    exact roundR_lt' (fun x hx => hl x (by simp [hx])) (useR_lt' (hl r (by simp)) h)
theorem closeIt_lt' {n : Nat} {l : List PF} (hl : ∀ r ∈ l, ruleB n r = true) : ∀ (f : Nat) {s : Nat}, s < pw n → closeIt f l s < pw n
  | 0, s, h => h
  | f + 1, s, h => by
    rw [closeIt]
    split
    · exact h
    · exact closeIt_lt' hl f (roundR_lt' hl h)
theorem closedN_lt' {n : Nat} {l : List PF} (hl : ∀ r ∈ l, ruleB n r = true) {s : Nat} (h : s < pw n) : closedN l s < pw n := closeIt_lt' hl _ h
/-- Not all columns. -/
theorem cols_less {n : Nat} (hn : n ≤ 8) {s : Nat} (hs : s < pw n) : decide (((colsN s).length : Int) < (n : Int)) = !decide (s = pw n - 1) := by
  have h := cols_len_all n hn s hs
  have hle : (colsN s).length ≤ n := by
    have hp : pw n ≤ 256 := Nat.pow_le_pow_right (n := 2) (by decide) hn
    have : ∀ c ∈ colsN s, 0 ≤ c ∧ c < (n : Int) := fun c hc => by
      obtain ⟨k, rfl, hk⟩ := (mem_colsN (by omega)).1 hc
      refine ⟨by omega, ?_⟩
      rcases Nat.lt_or_ge k n with h | h
      · omega
      · have : s.testBit k = false := Nat.testBit_lt_two_pow (Nat.lt_of_lt_of_le hs (Nat.pow_le_pow_right (n := 2) (by decide) h))
        rw [this] at hk
        cases hk
    have key : ∀ (l : List Int) (p : Int), l.Pairwise (· < ·) → (∀ c ∈ l, p < c ∧ c < (n : Int)) → (l.length : Int) ≤ (n : Int) - 1 - p ∨ l = [] := by
      intro l
      induction l with
      | nil => intro p _ _; exact .inr rfl
      | cons a r ih =>
        intro p hp hm
        obtain ⟨h1, h2⟩ := List.pairwise_cons.1 hp
        have ha := hm a (by simp)
        refine .inl ?_
        rcases ih a h2 (fun c hc => ⟨h1 c hc, (hm c (by simp [hc])).2⟩) with h | h
        · simp only [List.length_cons]; omega
        · subst h; simp only [List.length_cons, List.length_nil]; omega
    rcases key _ (-1) (colsN_up s) (fun c hc => by have := this c hc; omega) with h | h
    · omega
    · rw [h]; simp
  rw [Bool.eq_iff_iff, decide_eq_true_eq, Bool.not_eq_true', decide_eq_false_iff_not, ← h]
  omega
theorem bdiff_sub : ∀ s, s < 256 → ∀ c, c < 8 → s.testBit c = true → s - pw c = bdiff s (pw c) := by decide +kernel
end Go.Proofs.Bg
end

section
/- Plain words: values of a row by their columns; which tables have rules. No program in sight. -/
namespace Go.Proofs.Bg
open Go.RowKit

theorem overV_out : ∀ (cs xs : List Int) (u : V8) (c : Int), c ∉ cs → (∀ d ∈ cs, 0 ≤ d ∧ d < 8) → 0 ≤ c → c < 8 → (overV u cs xs).get c.toNat = u.get c.toNat
  | [], _, _, _, _, _, _, _ => by simp [overV]
  | d :: cs, [], _, _, _, _, _, _ => by simp [overV]
  | d :: cs, x :: xs, u, c, hc, hd, h0, h8 => by
    rw [overV, overV_out cs xs _ c (fun h => hc (by simp [h])) (fun e he => hd e (by simp [he])) h0 h8, V8.get_set (by have := hd d (by simp); omega), if_neg]
    intro e
    have := hd d (by simp)
    exact hc (by rw [show c = d by omega]; simp)
theorem overV_at : ∀ (cs xs : List Int) (u : V8) (i : Nat) (c x : Int), cs.Pairwise (· < ·) → (∀ d ∈ cs, 0 ≤ d ∧ d < 8) → cs[i]? = some c → xs[i]? = some x → (overV u cs xs).get c.toNat = x
  | [], _, _, i, _, _, _, _, h, _ => by simp at h
  | d :: cs, [], _, i, _, _, _, _, _, h => by simp at h
  | d :: cs, y :: xs, u, 0, c, x, hp, hd, hc, hx => by
    obtain ⟨h1, h2⟩ := List.pairwise_cons.1 hp
    simp at hc hx
    subst hc hx
    have hb := hd d (by simp)
    rw [overV, overV_out cs xs _ d (fun h => by have := h1 d h; omega) (fun e he => hd e (by simp [he])) hb.1 hb.2, V8.get_set (by omega), if_pos rfl]
  | d :: cs, y :: xs, u, i + 1, c, x, hp, hd, hc, hx => by
    rw [overV]
    exact overV_at cs xs _ i c x (List.pairwise_cons.1 hp).2 (fun e he => hd e (by simp [he])) (by simpa using hc) (by simpa using hx)
/-- A row's value in a column of its own. -/
theorem spread_get {cols row : List Int} (hs : setB cols 8 = true) (hl : row.length = cols.length) {c : Int} (hc : c ∈ cols) : (spreadV cols row).get c.toNat = row.getD (placeI cols c).toNat 0 := by
  rcases placeI_spec cols c with ⟨_, h⟩ | ⟨i, h1, h2⟩
  · exact absurd hc h
  · have hi : i < row.length := by rw [hl]; exact (List.getElem?_eq_some_iff.1 h2).1
    have hx : row[i]? = some row[i] := List.getElem?_eq_getElem hi
    rw [h1, Int.toNat_natCast, spreadV, overV_at cols row _ i c row[i] (setFrom_pairwise hs) (setB_mem hs) h2 hx]
    simp [hx]
theorem spread_none {cols row : List Int} (hs : setB cols 8 = true) {c : Int} (hc : c ∉ cols) (h0 : 0 ≤ c) (h8 : c < 8) : (spreadV cols row).get c.toNat = 0 := by
  rw [spreadV, overV_out cols row _ c hc (setB_mem hs) h0 h8]
  have : ∀ k, k < 8 → V8.zero.get k = 0 := by decide
  exact this _ (by omega)
/-- Two rows have the same values in some columns. -/
theorem key_agree {cols ra rb fr : List Int} (hs : setB cols 8 = true) (ha : ra.length = cols.length) (hb : rb.length = cols.length) (hf : setB fr 8 = true) (hw : withinB fr cols = true) : decide (onlyV (spreadV cols ra) (bitsN fr) = onlyV (spreadV cols rb) (bitsN fr)) = agreeG cols ra rb fr := by
  have h0 : ∀ c ∈ fr, 0 ≤ c := fun c hc => (setB_mem hf c hc).1
  simp only [withinB, List.all_eq_true, decide_eq_true_eq] at hw
  rw [Bool.eq_iff_iff, decide_eq_true_eq, agreeG, List.all_eq_true]
  constructor
  · intro h c hc
    have h8 := setB_mem hf c hc
    have := congrArg (fun v => v.get c.toNat) h
    simp only [onlyV_get _ _ _ (show c.toNat < 8 by omega), testBit_bitsN h0, Int.toNat_of_nonneg h8.1, hc, decide_true, if_true] at this
    rw [spread_get hs ha (hw c hc), spread_get hs hb (hw c hc)] at this
    rw [decide_eq_true_eq]
    exact this
  · intro h
    refine V8.ext fun i hi => ?_
    rw [onlyV_get _ _ _ hi, onlyV_get _ _ _ hi, testBit_bitsN h0]
    by_cases hc : (i : Int) ∈ fr
    · have := h _ hc
      rw [decide_eq_true_eq] at this
      rw [if_pos (by simpa using hc), if_pos (by simpa using hc)]
      have e1 := spread_get hs ha (hw _ hc)
      have e2 := spread_get hs hb (hw _ hc)
      rw [Int.toNat_natCast] at e1 e2
      rw [e1, e2, this]
    · rw [if_neg (by simpa using hc), if_neg (by simpa using hc)]
/-- A rule does not tell two rows apart. -/
def okRow (r : PF) (cols ra rb : List Int) : Bool := !(agreeG cols ra rb r.from_ && !agreeG cols ra rb [r.to_])
def ruleHasB (T : PT) (r : PF) : Bool := (List.range T.rows.length).all fun a => (List.range a).all fun b => okRow r T.cols (rowI T.rows a) (rowI T.rows b)
def hasRules (T : PT) (l : List PF) : Bool := l.all (ruleHasB T)
def ofB (T : PT) (r : PF) : Bool := withinB r.from_ T.cols && decide (r.to_ ∈ T.cols)
def holdsR (T : PT) (l : List PF) : Bool × Int := if formedB T && rulesB 8 l then (if l.all (ofB T) then (hasRules T l, 0) else (false, 2)) else (false, 2)
theorem of_bits {T : PT} {r : PF} {c : Nat} (hs : setB T.cols 8 = true) (hf : setB r.from_ 8 = true) (hc : r.to_ = (c : Int)) (_ : c < 8) : decide (bdiff (bitsN r.from_ ||| pw c) (bitsN T.cols) = 0) = ofB T r := by
  have h0 : ∀ c ∈ T.cols, 0 ≤ c := fun c hc => (setB_mem hs c hc).1
  have hb : bitsN T.cols < 256 := bitsN_lt (n := 8) (setB_mem hs)
  have hw := within_cols (s := bitsN T.cols) hf hb
  rw [colsN_bits hs] at hw
  have hm : decide (r.to_ ∈ T.cols) = (bitsN T.cols).testBit c := by rw [testBit_bitsN h0, hc]
  rw [ofB, hw, hm, Bool.eq_iff_iff, Bool.and_eq_true, decide_eq_true_eq, decide_eq_true_eq, bdiff_none, bdiff_none]
  constructor
  · intro h
    exact ⟨fun i hi => h i (by rw [Nat.testBit_or, hi]; rfl), h c (by rw [Nat.testBit_or, testBit_pw]; simp)⟩
  · rintro ⟨h1, h2⟩ i hi
    rw [Nat.testBit_or, testBit_pw, Bool.or_eq_true, decide_eq_true_eq] at hi
    rcases hi with hi | rfl
    · exact h1 i hi
    · exact h2
/-- What the map of a rule's keys holds, of the first rows. -/
structure KeysI (T : PT) (r : PF) (k : Nat) (kv : List (V8 × Int)) : Prop where
  at_ : ∀ (j : Nat) row, j < k → T.rows[j]? = some row → getKV kv (onlyV (spreadV T.cols row) (bitsN r.from_)) = some ((spreadV T.cols row).get r.to_.toNat)
  of_ : ∀ key v, getKV kv key = some v → ∃ (j : Nat) (row : List Int), j < k ∧ T.rows[j]? = some row ∧ onlyV (spreadV T.cols row) (bitsN r.from_) = key ∧ (spreadV T.cols row).get r.to_.toNat = v
theorem KeysI.start (T : PT) (r : PF) : KeysI T r 0 [] := ⟨fun _ _ h => by omega, fun _ _ h => by simp [getKV] at h⟩
theorem KeysI.step {T : PT} {r : PF} {k : Nat} {kv : List (V8 × Int)} {row : List Int} {key : V8} {v : Int} (h : KeysI T r k kv) (hr : T.rows[k]? = some row) (hk : onlyV (spreadV T.cols row) (bitsN r.from_) = key) (hv : (spreadV T.cols row).get r.to_.toNat = v) (hc : getKV kv key = none ∨ getKV kv key = some v) : KeysI T r (k + 1) (putKV kv key v) := by
  refine ⟨fun j row' hj hr' => ?_, fun key' v' hg => ?_⟩
  · rw [getKV_put]
    by_cases e : j = k
    · subst e
      rw [hr] at hr'
      cases hr'
      rw [if_pos hk.symm, hv]
    · have h1 := h.at_ j row' (by omega) hr'
      by_cases e2 : key = onlyV (spreadV T.cols row') (bitsN r.from_)
      · rw [if_pos e2]
        rw [← e2] at h1
        rcases hc with h3 | h3
        · rw [h3] at h1; cases h1
        · rw [h3] at h1; exact h1
      · rw [if_neg e2]
        exact h1
  · rw [getKV_put] at hg
    by_cases e : key = key'
    · rw [if_pos e] at hg
      cases hg
      exact ⟨k, row, by omega, hr, by rw [hk, e], hv⟩
    · rw [if_neg e] at hg
      obtain ⟨j, row', h1, h2, h3, h4⟩ := h.of_ key' v' hg
      exact ⟨j, row', by omega, h2, h3, h4⟩
theorem okRow_get {T : PT} {r : PF} {ra rb : List Int} (hs : setB T.cols 8 = true) (ha : ra.length = T.cols.length) (hb : rb.length = T.cols.length) (hf : setB r.from_ 8 = true) (ho : ofB T r = true) : okRow r T.cols ra rb = !(decide (onlyV (spreadV T.cols ra) (bitsN r.from_) = onlyV (spreadV T.cols rb) (bitsN r.from_)) && !decide ((spreadV T.cols ra).get r.to_.toNat = (spreadV T.cols rb).get r.to_.toNat)) := by
  simp only [ofB, Bool.and_eq_true, decide_eq_true_eq] at ho
  rw [key_agree hs ha hb hf ho.1, spread_get hs ha ho.2, spread_get hs hb ho.2, okRow]
  congr 2
  simp [agreeG]
/-- A conflict is seen. -/
theorem KeysI.bad {T : PT} {r : PF} {k : Nat} {kv : List (V8 × Int)} {row : List Int} {was : Int} (h : KeysI T r k kv) (hs : setB T.cols 8 = true) (hl : ∀ x ∈ T.rows, x.length = T.cols.length) (hf : setB r.from_ 8 = true) (ho : ofB T r = true) (hr : T.rows[k]? = some row) (hg : getKV kv (onlyV (spreadV T.cols row) (bitsN r.from_)) = some was) (hne : was ≠ (spreadV T.cols row).get r.to_.toNat) : ruleHasB T r = false := by
  obtain ⟨j, row', h1, h2, h3, h4⟩ := h.of_ _ _ hg
  have hk := (List.getElem?_eq_some_iff.1 hr).1
  unfold ruleHasB
  rw [List.all_eq_false]
  refine ⟨k, List.mem_range.2 hk, ?_⟩
  rw [Bool.not_eq_true, List.all_eq_false]
  refine ⟨j, List.mem_range.2 h1, ?_⟩
  have e1 : rowI T.rows k = row := by simp [rowI, hr]
  have e2 : rowI T.rows j = row' := by simp [rowI, h2]
  rw [e1, e2, okRow_get hs (hl row (List.mem_of_getElem? hr)) (hl row' (List.mem_of_getElem? h2)) hf ho, h3, h4]
  have : ¬ (spreadV T.cols row).get r.to_.toNat = was := fun e => hne e.symm
  simp [this]
theorem KeysI.good {T : PT} {r : PF} {kv : List (V8 × Int)} (h : KeysI T r T.rows.length kv) (hs : setB T.cols 8 = true) (hl : ∀ x ∈ T.rows, x.length = T.cols.length) (hf : setB r.from_ 8 = true) (ho : ofB T r = true) : ruleHasB T r = true := by
  unfold ruleHasB
  rw [List.all_eq_true]
  intro a ha
  rw [List.all_eq_true]
  intro b hb
  have ha := List.mem_range.1 ha
  have hb := List.mem_range.1 hb
  have hra : T.rows[a]? = some T.rows[a] := List.getElem?_eq_getElem ha
  have hrb : T.rows[b]? = some (T.rows[b]'(by omega)) := List.getElem?_eq_getElem (by omega)
  have e1 : rowI T.rows a = T.rows[a] := by simp [rowI, hra]
  have e2 : rowI T.rows b = T.rows[b]'(by omega) := by simp [rowI, hrb]
  rw [e1, e2, okRow_get hs (hl _ (List.mem_of_getElem? hra)) (hl _ (List.mem_of_getElem? hrb)) hf ho]
  have g1 := h.at_ a _ ha hra
  have g2 := h.at_ b _ (by omega) hrb
  by_cases e : onlyV (spreadV T.cols T.rows[a]) (bitsN r.from_) = onlyV (spreadV T.cols (T.rows[b]'(by omega))) (bitsN r.from_)
  · rw [e, g2] at g1
    simp [Option.some.inj g1]
  · simp [e]
end Go.Proofs.Bg
end

section
/- Contract: Holds. -/
namespace Go.Proofs.Bg
open Go.RowKit Go.Maps

abbrev MapI (w : World) (r : Nat) (kv : List (V8 × Int)) : Prop := MapIs Tryz.prog 142 V8.v (Value.int .i64) w r kv
theorem zeroI (u : World) : (zeroValue 3).run Tryz.prog u = .ok (Value.int .i64 0) u := by kernel_rfl
theorem MapIs.lookupOk {K V : Type} [DecidableEq K] {P : Program} {k t e : TypeId} {ek : K → Value} {ev : V → Value} {w : World} {r : Nat} {kv : List (K × V)} (h : MapIs P k ek ev w r kv) (L : Keyed P k) (hinj : ∀ a b, ek a = ek b → a = b) (ht : P.underlying t = some (.map k e)) {z : Value} (hz : ∀ u : World, (zeroValue e).run P u = .ok z u) {key : K} {kl : Lit} (hkey : keyOf P k (ek key) = some kl) :
    (Instr.lookup t (.map (some r)) (ek key) true).run P w = .ok (.tuple #[match getKV kv key with | some v => ev v | none => z, .bool (getKV kv key).isSome]) w := by
  obtain ⟨hn, es, clock, hb, hl, hd, hk, he⟩ := h
  rcases MapIs.find L hinj hn hk he hkey w with ⟨h1, h2⟩ | ⟨j, e0, v, h1, _, _, _, _, h6⟩
  · rw [getKV_not h2]
    simp [Instr.lookup, run_underlying ht, MapKept.run_getObj_map hb, L.check w _ hkey, h1, hz, Result.andThen]
  · rw [h6]
    simp [Instr.lookup, run_underlying ht, MapKept.run_getObj_map hb, L.check w _ hkey, h1, Result.andThen]
theorem lookI {w : World} {r : Nat} {kv : List (V8 × Int)} {key : V8} {kl : Lit} (h : MapI w r kv) (hkey : keyOf Tryz.prog 142 key.v = some kl) :
    (Instr.lookup 150 (.map (some r)) (.agg #[.int .i64 key.a0, .int .i64 key.a1, .int .i64 key.a2, .int .i64 key.a3, .int .i64 key.a4, .int .i64 key.a5, .int .i64 key.a6, .int .i64 key.a7]) true).run Tryz.prog w = .ok (.tuple #[.int .i64 ((getKV kv key).getD 0), .bool (getKV kv key).isSome]) w :=
  (h.lookupOk lawV8 V8.v_inj Tryz.underlying150 zeroI hkey).trans (by cases getKV kv key <;> rfl)
theorem storeI {w : World} {r : Nat} {kv : List (V8 × Int)} {key : V8} {kl : Lit} (h : MapI w r kv) (hkey : keyOf Tryz.prog 142 key.v = some kl) (x : Int) :
    ∃ w', (Instr.mapUpdate 150 (.map (some r)) (.agg #[.int .i64 key.a0, .int .i64 key.a1, .int .i64 key.a2, .int .i64 key.a3, .int .i64 key.a4, .int .i64 key.a5, .int .i64 key.a6, .int .i64 key.a7]) (.int .i64 x)).run Tryz.prog w = .ok () w' ∧ MapI w' r (putKV kv key x) ∧ w.grownBy w' (some r) :=
  h.update lawV8 V8.v_inj Tryz.underlying150 hkey x

set_option maxRecDepth 100000 in
set_option maxHeartbeats 8000000 in
theorem Holds_any (t : Tb) (T : PT) (A : Option Addr) (m cap : Nat) (l : List PF) (w : World) (ht : TabAt w 0 t T) (h : FdsAt w 0 A m l) :
    Calls Tryz.prog 45 #[.agg #[.slice t.cols.A t.cols.n t.cols.cap, .slice t.rows.A t.rows.n t.rows.cap], .slice A m cap] w fun e w' => e = .returned (.tuple #[.bool (holdsR T l).1, .int .i64 (holdsR T l).2]) ∧ Below w.heap.size w w' := by
  obtain ⟨⟨cA, cn, ck⟩, ⟨rA, rn, rK⟩⟩ := t
  have hb0 := below_new w (.cells #[.slice cA cn ck, .slice rA rn rK] 40)
  have hz0 := new_block w #[.slice cA cn ck, .slice rA rn rK] 40
  generalize hW0 : w.alloc (.cells #[.slice cA cn ck, .slice rA rn rK] 40) = W0 at *
  have QF := Lib.hid (formed_any ⟨⟨cA, cn, ck⟩, ⟨rA, rn, rK⟩⟩ T W0 (ht.below hb0))
  have QR := Lib.hid (fun W (hb : Below W0.heap.size W0 W) => rulesIn_any 8 A m cap l W (h.below (bchain hb0 hb)))
  have c0 := cell_at_block (off := 0) hz0 rfl
  have c1 := cell_at_block (off := 1) hz0 rfl
  have HW0 := Lib.hid hW0
  have HB0 := Lib.hid hb0
  have HZ0 := Lib.hid hz0
  have HT := Lib.hid (ht.below hb0)
  have HA := Lib.hid (h.below hb0)
  have hmle : m ≤ 9223372036854775807 := h.le
  have HML : Hid (l.length = m) := h.len
  have HRN : Hid (T.rows.length = rn) := ht.2.len
  have hrle : rn ≤ 9223372036854775807 := ht.2.le
  clear ht h hb0 hz0 hW0
  cases hf : formedB T with
  | false =>
    have HR : Hid (holdsR T l = (false, 2)) := by show _ = _; simp [holdsR, hf]
    rw [hf] at QF
    clear hf
    go_enter Tryz.func45, Tryz.ntmps45
    go_upto_region 1 with fail
    rw [HW0.out]
    go_wp2_with fail
    (with_reducible refine QF.out.mono ?_)
    rintro e w1 ⟨rfl, hb1⟩
    have HB1 := Lib.hid (bchain HB0.out hb1)
    clear hb1 QF
    go_wp2_with fail
    go_ret2
    rw [HR.out]
    exact ⟨rfl, HB1.out⟩
  | true =>
    have FT := Lib.hid (formed_of hf)
    rw [hf] at QF
    cases hr : rulesB 8 l with
    | false =>
      have HR : Hid (holdsR T l = (false, 2)) := by show _ = _; simp [holdsR, hr]
      rw [hr] at QR
      clear hf hr
      go_enter Tryz.func45, Tryz.ntmps45
      go_upto_region 1 with fail
      rw [HW0.out]
      go_wp2_with fail
      (with_reducible refine QF.out.mono ?_)
      rintro e w1 ⟨rfl, hb1⟩
      have HB1 := Lib.hid hb1
      clear hb1 QF
      go_wp2_with fail
      (with_reducible refine (QR.out _ HB1.out).mono ?_)
      rintro e w2 ⟨rfl, hb2⟩
      have HB2 := Lib.hid (bchain (bchain HB0.out HB1.out) hb2)
      clear hb2 QR
      go_wp2_with fail
      go_ret2
      rw [HR.out]
      exact ⟨rfl, HB2.out⟩
    | true =>
      have HRA := Lib.hid (rulesB_all hr)
      have HH : Hid (holdsR T l = if l.all (ofB T) then (hasRules T l, 0) else (false, 2)) := by show _ = _; simp [holdsR, hf, hr]
      rw [hr] at QR
      have hcb := FT.out.bits
      have QB := Lib.hid (fun W (hb : Below W0.heap.size W0 W) => bitsOf_any cA cn ck T.cols W (HT.out.1.below hb) FT.out.cols)
      obtain ⟨cb, hcbe⟩ : ∃ cb, bitsN T.cols = cb := ⟨_, rfl⟩
      rw [hcbe] at QB hcb
      have HCB := Lib.hid hcbe
      clear hf hr hcbe
      go_enter Tryz.func45, Tryz.ntmps45
      go_upto_region 1 with fail
      rw [HW0.out]
      go_wp2_with fail
      (with_reducible refine QF.out.mono ?_)
      rintro e w1 ⟨rfl, hb1⟩
      have HB1 := Lib.hid hb1
      clear hb1 QF
      go_wp2_with fail
      (with_reducible refine (QR.out _ HB1.out).mono ?_)
      rintro e w2 ⟨rfl, hb2⟩
      have hb3 := bchain HB1.out hb2
      have HB2 := Lib.hid hb3
      have hz2 := (hb3.block _ (Array.getElem?_eq_some_iff.1 HZ0.out).1).trans HZ0.out
      have c0 := cell_at_block (off := 0) hz2 rfl
      clear hb2 hb3 hz2 QR
      go_wp2_with fail
      (with_reducible refine (QB.out _ HB2.out).mono ?_)
      rintro e w3 ⟨rfl, hw3⟩
      obtain rfl := hw3.symm
      clear c0 c1 QB
      go_wp2_with fail
      go_loopw [32] (fun i wr => ∃ k : Nat, k ≤ m ∧ i = .int .i64 k ∧ l.all (ofB T) = (l.drop k).all (ofB T) ∧ Below W0.heap.size W0 wr) (fun i _ => m - (intOf i).toNat)
      case atStart => exact ⟨0, by omega, rfl, rfl, HB2.out⟩
      case round =>
        clear HB2 HB1
        obtain ⟨k, hk, rfl, he, hB⟩ := hrel
        have HE := Lib.hid he
        have HB := Lib.hid hB
        clear he
        by_cases hlt : k < m
        · obtain ⟨b1, o1, t, R, eA, -, hR, d0, d1, hfr⟩ := (HA.out.below hB).at_ hlt
          subst eA
          have hrule := HRA.out R (List.mem_of_getElem? hR)
          have HX := Lib.hid (drop_at hR)
          rw [HX.out, List.all_cons] at HE
          simp only [ruleB, Bool.and_eq_true, decide_eq_true_eq] at hrule
          obtain ⟨⟨hset, hto⟩, hto8⟩ := hrule
          obtain ⟨c, hc⟩ : ∃ c : Nat, R.to_ = (c : Int) := ⟨R.to_.toNat, by omega⟩
          have hc8 : c < 8 := by omega
          have HOF := Lib.hid (of_bits FT.out.set hset hc hc8)
          rw [HCB.out] at HOF
          rw [hc] at d1
          have hbt : bitsN R.from_ < 256 := bitsN_lt (n := 8) (setB_mem hset)
          have hpw := pw_lt hc8
          have hor := bor_nat (a := bitsN R.from_) (b := pw c) (by omega) (by omega)
          have hol : bitsN R.from_ ||| pw c < 256 := Nat.or_lt_two_pow (n := 8) hbt hpw
          have hdn := bandnot_nat (a := bitsN R.from_ ||| pw c) (b := cb) (by omega) (by omega)
          have hsl := shl_nat (c := c) (by omega)
          have h0 : (0 : Int) ≤ c := by omega
          have h64 : (c : Int) ≤ 64 := by omega
          have hk1 : (k : Int) < m := by omega
          have hk0 : (0 : Int) ≤ k := by omega
          have hb1 := below_new wr (.cells #[.slice t.A t.n t.cap, .int .i64 (c : Nat)] 149)
          have hn1 := new_block wr #[.slice t.A t.n t.cap, .int .i64 (c : Nat)] 149
          obtain ⟨W1, hW1⟩ : ∃ W1, wr.alloc (.cells #[.slice t.A t.n t.cap, .int .i64 (c : Nat)] 149) = W1 := ⟨_, rfl⟩
          rw [hW1] at hb1 hn1
          have HW1 := Lib.hid hW1
          have HB1 := Lib.hid (bchain hB hb1)
          have Q := Lib.hid (fun q => bitsOf_any t.A t.n t.cap R.from_ (W1.drewN q) (hfr.below (below_drewN hb1 q)) (setB_mem hset))
          have x0 := cell_at_block (off := 0) hn1 rfl
          have x1 := cell_at_block (off := 1) hn1 rfl
          clear hB hfr hset hto hto8 hc hb1 hn1 hW1 hR
          generalize bitsN R.from_ = bf at *
          generalize bf ||| pw c = bo at *
          generalize hD : bdiff bo cb = D at *
          cases ho : ofB T R with
          | false =>
            have HF : Hid (l.all (ofB T) = false) := by show _ = _; rw [HE.out, ho]; rfl
            have e0 : ((D : Int) != 0) = true := by
              have h := HOF.out
              rw [ho, decide_eq_false_iff_not] at h
              simp; omega
            have HR : Hid (holdsR T l = (false, 2)) := by show _ = _; rw [HH.out, HF.out]; rfl
            clear ho HOF hD
            go_upto_region 7 with fail
            rw [HW1.out]
            go_quiet (first | (go_at_call 92; with_reducible exact Calls.quiet_of_same (Q.out _)))
            go_wp2_with fail
            go_ret2
            rw [HR.out]
            exact ⟨rfl, bchain HB0.out (bchain HB1.out (below_drewN (Below.refl _ _) _))⟩
          | true =>
            have HN : Hid (l.all (ofB T) = (l.drop (k + 1)).all (ofB T)) := by show _ = _; rw [HE.out, ho]; rfl
            have e0 : ((D : Int) != 0) = false := by
              have h := HOF.out
              rw [ho, decide_eq_true_eq] at h
              simp; omega
            clear ho HOF hD
            go_upto_region 7 with fail
            rw [HW1.out]
            go_quiet (first | (go_at_call 92; with_reducible exact Calls.quiet_of_same (Q.out _)))
            go_wp2_with fail
            exact ⟨⟨k + 1, by omega, by go_num, HN.out, bchain HB1.out (below_drewN (Below.refl _ _) _)⟩, by simp [intOf]; omega⟩
        · have hkm : k = m := by omega
          have HAL : Hid (l.all (ofB T) = true) := by
            show _ = _
            rw [HE.out, (List.drop_eq_nil_of_le (by rw [HML.out]; omega) : l.drop k = [])]
            rfl
          have HR : Hid (holdsR T l = (hasRules T l, 0)) := by show _ = _; rw [HH.out, HAL.out]; rfl
          have d1 : decide ((k : Int) < (m : Int)) = false := by rw [decide_eq_false_iff_not]; omega
          have d2 : decide (k < m) = false := by rw [decide_eq_false_iff_not]; omega
          clear hB hlt hkm HE HH
          go_wp2_with fail
          clear d1 d2
          go_loopw [49] (fun i wr => ∃ k : Nat, k ≤ m ∧ i = .int .i64 k ∧ hasRules T l = (l.drop k).all (ruleHasB T) ∧ Below W0.heap.size W0 wr) (fun i _ => m - (intOf i).toNat)
          case atStart => exact ⟨0, by omega, rfl, rfl, HB.out⟩
          case round =>
            clear HB
            obtain ⟨k, hk, rfl, he, hB⟩ := hrel
            have HE := Lib.hid he
            have HB := Lib.hid hB
            clear he
            by_cases hlt : k < m
            · obtain ⟨b1, o1, t, R, eA, -, hR, d0, d1, hfr⟩ := (HA.out.below hB).at_ hlt
              subst eA
              have hmem := List.mem_of_getElem? hR
              have hrule := HRA.out R hmem
              have HX := Lib.hid (drop_at hR)
              rw [HX.out, List.all_cons] at HE
              simp only [ruleB, Bool.and_eq_true, decide_eq_true_eq] at hrule
              obtain ⟨⟨hset, hto⟩, hto8⟩ := hrule
              obtain ⟨c, hc⟩ : ∃ c : Nat, R.to_ = (c : Int) := ⟨R.to_.toNat, by omega⟩
              have hc8 : c < 8 := by omega
              have HC := Lib.hid hc
              have HSET := Lib.hid hset
              have HOF : Hid (ofB T R = true) := List.all_eq_true.1 HAL.out R hmem
              rw [hc] at d1
              have hbt : bitsN R.from_ < 256 := bitsN_lt (n := 8) (setB_mem hset)
              have h0 : (0 : Int) ≤ c := by omega
              have h8 : (c : Int) < 8 := by omega
              have hk1 : (k : Int) < m := by omega
              have hk0 : (0 : Int) ≤ k := by omega
              have hb1 := below_new wr (.cells #[.slice t.A t.n t.cap, .int .i64 (c : Nat)] 149)
              have hn1 := new_block wr #[.slice t.A t.n t.cap, .int .i64 (c : Nat)] 149
              have hb2 := bchain hb1 (below_new (wr.alloc (.cells #[.slice t.A t.n t.cap, .int .i64 (c : Nat)] 149)) (.map #[] 0))
              have hm2 : MapI ((wr.alloc (.cells #[.slice t.A t.n t.cap, .int .i64 (c : Nat)] 149)).alloc (.map #[] 0)) (wr.alloc (.cells #[.slice t.A t.n t.cap, .int .i64 (c : Nat)] 149)).heap.size [] := MapIs.made _ _ _ _ _
              have hn2 := ((below_new (wr.alloc (.cells #[.slice t.A t.n t.cap, .int .i64 (c : Nat)] 149)) (.map #[] 0)).block _ (Array.getElem?_eq_some_iff.1 hn1).1).trans hn1
              have Q := Lib.hid (bitsOf_any t.A t.n t.cap R.from_ (wr.alloc (.cells #[.slice t.A t.n t.cap, .int .i64 (c : Nat)] 149)) (hfr.below hb1) (setB_mem hset))
              have x0 := cell_at_block (off := 0) hn1 rfl
              have x1 := cell_at_block (off := 1) hn1 rfl
              obtain ⟨W2, hW2⟩ : ∃ W2, (wr.alloc (.cells #[.slice t.A t.n t.cap, .int .i64 (c : Nat)] 149)).alloc (.map #[] 0) = W2 := ⟨_, rfl⟩
              rw [hW2] at hb2 hm2 hn2
              have HM2 := Lib.hid hm2
              have HN2 := Lib.hid hn2
              have HW2 := Lib.hid hW2
              have HB2 := Lib.hid (bchain hB hb2)
              have HZ2 := Lib.hid (((bchain hB hb2).block _ (Array.getElem?_eq_some_iff.1 HZ0.out).1).trans HZ0.out)
              have z1 := ((hB.block _ (Array.getElem?_eq_some_iff.1 HZ0.out).1).trans HZ0.out)
              have z2 : ((wr.alloc (.cells #[.slice t.A t.n t.cap, .int .i64 (c : Nat)] 149)).alloc (.map #[] 0)).cell? ⟨w.heap.size, 1, none⟩ = some (.slice rA rn rK) := by rw [hW2]; exact cell_at_block (off := 1) HZ2.out rfl
              obtain ⟨bf, hbf⟩ : ∃ bf, bitsN R.from_ = bf := ⟨_, rfl⟩
              rw [hbf] at Q hbt
              have HBF := Lib.hid hbf
              have hmm := @run_makeMap Tryz.prog
              clear hB hfr hset hto hto8 hc hb1 hn1 hb2 hm2 hn2 hW2 hR hmem hbf z1
              go_wp2_with fail
              (with_reducible refine Q.out.mono ?_)
              rintro e w3 ⟨rfl, hw3⟩
              obtain rfl := hw3.symm
              clear Q x0 x1
              go_wp2_with fail
              rw [HW2.out]
              clear hmm z2
              rw [World.size_alloc] at HM2
              have HGR : Hid (W0.heap.size ≤ wr.heap.size) := HB.out.size
              have HWS : Hid (w.heap.size < W0.heap.size) := (Array.getElem?_eq_some_iff.1 HZ0.out).1
              obtain ⟨gr, hgr⟩ : ∃ gr, wr.heap.size = gr := ⟨_, rfl⟩
              rw [hgr] at HM2 HN2 HGR
              rw [hgr]
              clear hgr HB
              go_loopw [60] (fun i wx => ∃ (k2 : Nat) (kv : List (V8 × Int)), k2 ≤ rn ∧ i = .int .i64 k2 ∧ MapI wx (gr + 1) kv ∧ KeysI T R k2 kv ∧ wx.heap[gr]? = some (.cells #[.slice t.A t.n t.cap, .int .i64 (c : Nat)] 149) ∧ wx.heap[w.heap.size]? = some (.cells #[.slice cA cn ck, .slice rA rn rK] 40) ∧ Below W0.heap.size W0 wx) (fun i _ => rn - (intOf i).toNat)
              case atStart => exact ⟨0, [], by omega, rfl, HM2.out, KeysI.start _ _, HN2.out, HZ2.out, HB2.out⟩
              case round =>
                clear HM2 HN2 HZ2 HB2 HW2
                obtain ⟨k2, kv, hk2, rfl, hM, hK, hN, hZ, hB⟩ := hrel
                have HM := Lib.hid hM
                have HK := Lib.hid hK
                have HN := Lib.hid hN
                have HZ := Lib.hid hZ
                have HBX := Lib.hid hB
                by_cases hlt2 : k2 < rn
                · obtain ⟨b2, o2, s, row, eA, -, hrow, e0, hrI⟩ := (HT.out.below hB).2.at_ hlt2
                  simp only [] at eA
                  subst eA
                  obtain ⟨sA, sn, sk⟩ := s
                  have hmem := List.mem_of_getElem? hrow
                  have hrl : row.length = sn := hrI.len
                  have hrw := FT.out.row row hmem
                  have hcn : T.cols.length = cn := HT.out.1.len
                  have HR2 := Lib.hid hrow
                  obtain ⟨v, hv⟩ : ∃ v, spreadV T.cols row = v := ⟨_, rfl⟩
                  obtain ⟨key, hkey⟩ : ∃ key, onlyV v bf = key := ⟨_, rfl⟩
                  obtain ⟨kl, hkl⟩ := keyV8 key (by rw [← hkey]; exact only_ok (by rw [← hv]; exact spread_ok FT.out hmem))
                  have HKL := Lib.hid hkl
                  have Q1 := Lib.hid (spread_lit cA (some ⟨b2, o2, none⟩) sA cn rn sn ck rK sk T.cols row wr v hv ((HT.out.below hB).1) hrI FT.out.cols (by rw [← hrl, hrw.1, hcn]))
                  have Q2 := Lib.hid (fun W => only_lit v bf W key hkey hbt)
                  have HKE : Hid (onlyV (spreadV T.cols row) (bitsN R.from_) = key) := by show _ = _; rw [hv, HBF.out, hkey]
                  obtain ⟨x, hx⟩ : ∃ x, v.get c = x := ⟨_, rfl⟩
                  have HVX : Hid ((spreadV T.cols row).get R.to_.toNat = x) := by show _ = _; rw [hv, HC.out, Int.toNat_natCast, hx]
                  have HXV := Lib.hid hx
                  have hi1 : (k2 : Int) < rn := by omega
                  have hi0 : (0 : Int) ≤ k2 := by omega
                  have z0 := cell_at_block (off := 0) hZ rfl
                  have z1 := cell_at_block (off := 1) hZ rfl
                  clear hM hK hN hZ hB hmem hrow hrl hrw hcn hv hkey hkl hrI hx
                  go_wp2_with fail
                  (with_reducible refine Q1.out.mono ?_)
                  rintro e w4 ⟨rfl, hb4⟩
                  have hb5 := bchain hb4 (below_new w4 (.cells #[.int .i64 v.a0, .int .i64 v.a1, .int .i64 v.a2, .int .i64 v.a3, .int .i64 v.a4, .int .i64 v.a5, .int .i64 v.a6, .int .i64 v.a7] 142))
                  have h85 := H8.new w4 v
                  obtain ⟨y0, y1, y2, y3, y4, y5, y6, y7⟩ := h85.cells
                  have x0 := cell_at_block (off := 0) ((hb5.block _ (Array.getElem?_eq_some_iff.1 HN.out).1).trans HN.out) rfl
                  obtain ⟨g5, hg5⟩ : ∃ g5, w4.heap.size = g5 := ⟨_, rfl⟩
                  obtain ⟨W5, hW5⟩ : ∃ W5, w4.alloc (.cells #[.int .i64 v.a0, .int .i64 v.a1, .int .i64 v.a2, .int .i64 v.a3, .int .i64 v.a4, .int .i64 v.a5, .int .i64 v.a6, .int .i64 v.a7] 142) = W5 := ⟨_, rfl⟩
                  have HW5 := Lib.hid hW5
                  have HG5 := Lib.hid hg5
                  rw [hW5] at hb5 h85
                  rw [hg5] at h85
                  have HB5 := Lib.hid hb5
                  have H85 := Lib.hid h85
                  clear hb4 hb5 h85 hW5 hg5 Q1 z0 z1 e0
                  go_wp2_with fail
                  rw [HW5.out, HG5.out]
                  (with_reducible refine (Q2.out _).mono ?_)
                  rintro e w6 ⟨rfl, hb6⟩
                  have hb7 := bchain HB5.out (bchain hb6 (below_new w6 (.cells #[.int .i64 key.a0, .int .i64 key.a1, .int .i64 key.a2, .int .i64 key.a3, .int .i64 key.a4, .int .i64 key.a5, .int .i64 key.a6, .int .i64 key.a7] 142)))
                  have hk7 := (H8.new w6 key)
                  obtain ⟨k0, k1, k2', k3, k4, k5, k6, k7⟩ := hk7.cells
                  have h87 := (H85.out.keep hb6).keep (below_new w6 (.cells #[.int .i64 key.a0, .int .i64 key.a1, .int .i64 key.a2, .int .i64 key.a3, .int .i64 key.a4, .int .i64 key.a5, .int .i64 key.a6, .int .i64 key.a7] 142))
                  have hvc := h87.at_ hc8
                  rw [HXV.out] at hvc
                  have hM7 := HM.out.below hb7
                  have hN7 := (hb7.block _ (Array.getElem?_eq_some_iff.1 HN.out).1).trans HN.out
                  have n0 := cell_at_block (off := 0) hN7 rfl
                  have n1 := cell_at_block (off := 1) hN7 rfl
                  have hZ7 := (hb7.block _ (Array.getElem?_eq_some_iff.1 HZ.out).1).trans HZ.out
                  have hlk := lookI hM7 HKL.out
                  have HB7 := Lib.hid hb7
                  have HM7 := Lib.hid hM7
                  have HN7 := Lib.hid hN7
                  have HZ7 := Lib.hid hZ7
                  have HBX7 := Lib.hid (HBX.out.trans (hb7.mono HBX.out.size))
                  clear y0 y1 y2 y3 y4 y5 y6 y7 x0 hb6 hb7 hk7 h87 hM7 hN7 hZ7 Q2 HBX
                  cases hg : getKV kv key with
                  | none =>
                    rw [hg] at hlk
                    simp only [Option.getD_none, Option.isSome_none] at hlk
                    have HNC : getKV kv key = none ∨ getKV kv key = some x := .inl hg
                    clear hg
                    go_wp2_with fail
                    obtain ⟨w8, hst, hM8, hg8⟩ := storeI HM7.out.drew HKL.out x
                    have HM9 := Lib.hid hM8
                    have HG8 := Lib.hid hg8
                    have HKS := Lib.hid (HK.out.step HR2.out HKE.out HVX.out HNC)
                    clear hM8 hg8
                    refine wp_region_still_tail 6 (by kernel_rfl) (by kernel_rfl) ?_
                    simp only [List.take_succ_cons, List.take_zero, List.drop_succ_cons, List.drop_zero]
                    change wpStill _ _ (World.drew _) _ _ _
                    repeat still_step
                    refine wpStill_nil ?_
                    change wpList _ _ _ _ _ (World.drew _)
                    go_wp2_with fail
                    have hne1 : gr + 1 ≠ w.heap.size := by have := HGR.out; have := HWS.out; omega
                    exact ⟨⟨k2 + 1, _, by omega, by go_num, HM9.out, HKS.out, (HG8.out.block _ (Array.getElem?_eq_some_iff.1 HN7.out).1 (fun e => by have := Option.some.inj e; omega)).trans HN7.out, (HG8.out.block _ (Array.getElem?_eq_some_iff.1 HZ7.out).1 (fun e => hne1 (Option.some.inj e).symm)).trans HZ7.out, below_row HBX7.out.drew HG8.out (fun j e => by cases e; have := HGR.out; omega)⟩, by simp [intOf]; omega⟩
                  | some was =>
                    rw [hg] at hlk
                    simp only [Option.getD_some, Option.isSome_some] at hlk
                    by_cases hwx : was = x
                    · have ew : (was != x) = false := by simp [hwx]
                      have HNC : getKV kv key = none ∨ getKV kv key = some x := .inr (by rw [hg, hwx])
                      clear hg hwx
                      go_wp2_with fail
                      obtain ⟨w8, hst, hM8, hg8⟩ := storeI HM7.out.drew HKL.out x
                      have HM9 := Lib.hid hM8
                      have HG8 := Lib.hid hg8
                      have HKS := Lib.hid (HK.out.step HR2.out HKE.out HVX.out HNC)
                      clear hM8 hg8
                      refine wp_region_still_tail 6 (by kernel_rfl) (by kernel_rfl) ?_
                      simp only [List.take_succ_cons, List.take_zero, List.drop_succ_cons, List.drop_zero]
                      change wpStill _ _ (World.drew _) _ _ _
                      repeat still_step
                      refine wpStill_nil ?_
                      change wpList _ _ _ _ _ (World.drew _)
                      go_wp2_with fail
                      have hne1 : gr + 1 ≠ w.heap.size := by have := HGR.out; have := HWS.out; omega
                      exact ⟨⟨k2 + 1, _, by omega, by go_num, HM9.out, HKS.out, (HG8.out.block _ (Array.getElem?_eq_some_iff.1 HN7.out).1 (fun e => by have := Option.some.inj e; omega)).trans HN7.out, (HG8.out.block _ (Array.getElem?_eq_some_iff.1 HZ7.out).1 (fun e => hne1 (Option.some.inj e).symm)).trans HZ7.out, below_row HBX7.out.drew HG8.out (fun j e => by cases e; have := HGR.out; omega)⟩, by simp [intOf]; omega⟩
                    · have ew : (was != x) = true := by simp [hwx]
                      have HBAD : Hid (hasRules T l = false) := by
                        show _ = _
                        rw [HE.out, HK.out.bad FT.out.set (fun x hx => (FT.out.row x hx).1) HSET.out HOF.out HR2.out (by rw [HKE.out]; exact hg) (by rw [HVX.out]; exact hwx), Bool.false_and]
                      clear hg hwx
                      go_wp2_with fail
                      go_ret2
                      rw [HR.out, HBAD.out]
                      exact ⟨rfl, bchain HB0.out HBX7.out⟩
                · have hkr : k2 = rn := by omega
                  have HG : Hid (ruleHasB T R = true) := KeysI.good (by rw [HRN.out, ← hkr]; exact hK) FT.out.set (fun x hx => (FT.out.row x hx).1) HSET.out HOF.out
                  have d1 : decide ((k2 : Int) < (rn : Int)) = false := by rw [decide_eq_false_iff_not]; omega
                  have d2 : decide (k2 < rn) = false := by rw [decide_eq_false_iff_not]; omega
                  rw [HG.out, Bool.true_and] at HE
                  clear hM hK hN hZ hB hlt2 hkr
                  go_wp2_with fail
                  exact ⟨⟨k + 1, by omega, by go_num, HE.out, HBX.out⟩, by simp [intOf]; omega⟩
            · have hkm : k = m := by omega
              have HT1 : Hid (hasRules T l = true) := by
                show _ = _
                rw [HE.out, (List.drop_eq_nil_of_le (by rw [HML.out]; omega) : l.drop k = [])]
                rfl
              have d1 : decide ((k : Int) < (m : Int)) = false := by rw [decide_eq_false_iff_not]; omega
              have d2 : decide (k < m) = false := by rw [decide_eq_false_iff_not]; omega
              clear hB hlt hkm HE
              go_wp2_with fail
              go_ret2
              rw [HR.out, HT1.out]
              exact ⟨rfl, bchain HB0.out HB.out⟩
end Go.Proofs.Bg
end

section
/- Contract: ref Has. -/
namespace Go.Proofs.Bg
open Go.RowKit

theorem rule_all {T : PT} {r : PF} (h : ∀ a, a < T.rows.length → ∀ b, b < a → okRow r T.cols (rowI T.rows a) (rowI T.rows b) = true) : ruleHasB T r = true := by
  unfold ruleHasB
  rw [List.all_eq_true]
  intro a ha
  rw [List.all_eq_true]
  intro b hb
  exact h a (List.mem_range.1 ha) b (List.mem_range.1 hb)
theorem rule_not {T : PT} {r : PF} {a b : Nat} (ha : a < T.rows.length) (hb : b < a) (h : okRow r T.cols (rowI T.rows a) (rowI T.rows b) = false) : ruleHasB T r = false := by
  unfold ruleHasB
  rw [List.all_eq_false]
  refine ⟨a, List.mem_range.2 ha, ?_⟩
  rw [Bool.not_eq_true, List.all_eq_false]
  exact ⟨b, List.mem_range.2 hb, by rw [h]; decide⟩

set_option maxRecDepth 100000 in
set_option maxHeartbeats 16000000 in
theorem HasR_any (t : Tb) (T : PT) (A : Option Addr) (m cap : Nat) (l : List PF) (w : World) (ht : TabAt w 0 t T) (h : FdsAt w 0 A m l) (hf : Formed T) (hl : ∀ r ∈ l, ofB T r = true) :
    Calls Tryz.prog 117 #[.agg #[.slice t.cols.A t.cols.n t.cols.cap, .slice t.rows.A t.rows.n t.rows.cap], .slice A m cap] w fun e w' => e = .returned (.bool (hasRules T l)) ∧ Below w.heap.size w w' := by
  obtain ⟨⟨cA, cn, ck⟩, ⟨rA, rn, rK⟩⟩ := t
  have hb0 := below_new w (.cells #[.slice cA cn ck, .slice rA rn rK] 40)
  have hz0 := new_block w #[.slice cA cn ck, .slice rA rn rK] 40
  generalize hW0 : w.alloc (.cells #[.slice cA cn ck, .slice rA rn rK] 40) = W0 at *
  have HW0 := Lib.hid hW0
  have HB0 := Lib.hid hb0
  have HZ0 := Lib.hid hz0
  have HT := Lib.hid (ht.below hb0)
  have HA := Lib.hid (h.below hb0)
  have hmle : m ≤ 9223372036854775807 := h.le
  have HML : Hid (l.length = m) := h.len
  have HRL : Hid (T.rows.length = rn) := ht.2.len
  have hrle : rn ≤ 9223372036854775807 := ht.2.le
  have FT := Lib.hid hf
  have HLL := Lib.hid hl
  clear ht h hb0 hz0 hW0 hf hl
  go_enter Tryz.func117, Tryz.ntmps117
  go_upto_region 2 with fail
  rw [HW0.out]
  go_loopw [5] (fun i wr => ∃ k : Nat, k ≤ m ∧ i = .int .i64 k ∧ (∀ r ∈ l.take k, ruleHasB T r = true) ∧ Below W0.heap.size W0 wr) (fun i _ => m - (intOf i).toNat)
  case atStart => exact ⟨0, by omega, rfl, (fun r hr => by simp at hr), Below.refl _ _⟩
  case round =>
    obtain ⟨k, hk, rfl, hok, hB⟩ := hrel
    have HOK := Lib.hid hok
    have HB := Lib.hid hB
    clear hok
    by_cases hlt : k < m
    · obtain ⟨bl, o1, u, R, eA, -, hR, d0', d1', hfr'⟩ := HA.out.at_ (k := k) hlt
      subst eA
      have hmem := List.mem_of_getElem? hR
      have hof := HLL.out R hmem
      have HOF := Lib.hid hof
      have HMEM := Lib.hid hmem
      have HTK : Hid (l.take (k + 1) = l.take k ++ [R]) := by show _ = _; rw [List.take_add_one, hR]; rfl
      have HFR := Lib.hid hfr'
      have HD := Lib.hid (And.intro d0' d1')
      have hk1 : (k : Int) < m := by omega
      have hk0 : (0 : Int) ≤ k := by omega
      clear hB hR hmem hof d0' d1' hfr'
      go_wp2_with fail
      go_loopw [6] (fun i wr => ∃ a : Nat, a ≤ rn ∧ i = .int .i64 a ∧ (∀ x, x < a → ∀ y, y < x → okRow R T.cols (rowI T.rows x) (rowI T.rows y) = true) ∧ Below W0.heap.size W0 wr) (fun i _ => rn - (intOf i).toNat)
      case atStart => exact ⟨0, by omega, rfl, (fun x hx => by omega), HB.out⟩
      case round =>
        clear HB
        obtain ⟨a, ha, rfl, hoa, hB⟩ := hrel
        have HOA := Lib.hid hoa
        have HB := Lib.hid hB
        have hzr := (hB.block _ (Array.getElem?_eq_some_iff.1 HZ0.out).1).trans HZ0.out
        have y1 := cell_at_block (off := 1) hzr rfl
        clear hoa hzr hB
        by_cases hlta : a < rn
        · have ha1 : (a : Int) < rn := by omega
          have ha0 : (0 : Int) ≤ a := by omega
          go_wp2_with fail
          clear y1
          go_loopw [7] (fun i wr => ∃ q : Nat, q ≤ a ∧ i = .int .i64 q ∧ (∀ y, y < q → okRow R T.cols (rowI T.rows a) (rowI T.rows y) = true) ∧ Below W0.heap.size W0 wr) (fun i _ => a - (intOf i).toNat)
          case atStart => exact ⟨0, by omega, rfl, (fun x hx => by omega), HB.out⟩
          case round =>
            clear HB
            obtain ⟨q, hq, rfl, hoq, hB⟩ := hrel
            have HOQ := Lib.hid hoq
            have HB := Lib.hid hB
            clear hoq
            by_cases hltq : q < a
            · have hq1 : (q : Int) < a := by omega
              have hq0 : (0 : Int) ≤ q := by omega
              have hra : T.rows[a]? = some (rowI T.rows a) := by
                have h1 : a < T.rows.length := by rw [HRL.out]; exact hlta
                simp [rowI, h1]
              have hrb : T.rows[q]? = some (rowI T.rows q) := by
                have h1 : q < T.rows.length := by rw [HRL.out]; omega
                simp [rowI, h1]
              obtain ⟨ra, hrae⟩ : ∃ ra, rowI T.rows a = ra := ⟨_, rfl⟩
              obtain ⟨rb, hrbe⟩ : ∃ rb, rowI T.rows q = rb := ⟨_, rfl⟩
              rw [hrae] at hra
              rw [hrbe] at hrb
              have hofs := HOF.out
              simp only [ofB, Bool.and_eq_true, decide_eq_true_eq, withinB, List.all_eq_true] at hofs
              have hla := (FT.out.row ra (List.mem_of_getElem? hra)).1
              have hlb := (FT.out.row rb (List.mem_of_getElem? hrb)).1
              have QA1 := Lib.hid (fun W (hb : Below wr.heap.size wr W) => agree_any ⟨⟨cA, cn, ck⟩, ⟨rA, rn, rK⟩⟩ T a q u R.from_ ra rb W (HT.out.below (hB.trans (hb.mono hB.size))) (Rd.below HFR.out (hB.trans (hb.mono hB.size))) hra hrb hla hlb hofs.1)
              have QA2 := Lib.hid (fun (s : Sl) W (hb : Below wr.heap.size wr W) (hs : IntsAt W 0 s [R.to_]) => agree_any ⟨⟨cA, cn, ck⟩, ⟨rA, rn, rK⟩⟩ T a q s [R.to_] ra rb W (HT.out.below (hB.trans (hb.mono hB.size))) hs hra hrb hla hlb (fun c hc => by rw [List.mem_singleton] at hc; rw [hc]; exact hofs.2))
              have HF : Hid (∀ W, Below wr.heap.size wr W → W.cell? ⟨w.heap.size, 0, none⟩ = some (.slice cA cn ck) ∧ W.cell? ⟨w.heap.size, 1, none⟩ = some (.slice rA rn rK) ∧ W.cell? ⟨bl, o1 + k * 2, none⟩ = some (.slice u.A u.n u.cap) ∧ W.cell? ⟨bl, o1 + k * 2 + 1, none⟩ = some (.int .i64 R.to_)) := by
                show ∀ W, _
                intro W hb
                have hbw := hB.trans (hb.mono hB.size)
                have hzr := (hbw.block _ (Array.getElem?_eq_some_iff.1 HZ0.out).1).trans HZ0.out
                exact ⟨cell_at_block (off := 0) hzr rfl, cell_at_block (off := 1) hzr rfl, (hbw.cell (World.block_lt_of_cell? _ _ HD.out.1)).trans HD.out.1, (hbw.cell (World.block_lt_of_cell? _ _ HD.out.2)).trans HD.out.2⟩
              have HRA := Lib.hid hrae
              have HRB := Lib.hid hrbe
              clear hB hra hrb hrae hrbe hofs hla hlb
              cases hq1' : agreeG T.cols ra rb R.from_ with
              | false =>
                have HOK2 : Hid (∀ y, y < q + 1 → okRow R T.cols (rowI T.rows a) (rowI T.rows y) = true) := by
                  show ∀ y, _
                  intro y hy
                  by_cases e : y = q
                  · subst e
                    rw [HRA.out, HRB.out, okRow, hq1']
                    rfl
                  · exact HOQ.out y (by omega)
                rw [hq1'] at QA1
                clear hq1' QA2
                go_wp2_with fail
                refine region_invF 22 26 rfl (by kernel_rfl) (by kernel_rfl) (fun j v W => match j with | 0 => v = .agg #[.slice cA cn ck, .slice rA rn rK] | 1 => v = .int .i64 (a : Nat) | 2 => v = .int .i64 (q : Nat) | 3 => v = .slice (some ⟨bl, o1, none⟩) m cap | 4 => v = .int .i64 (k : Nat) | 5 => v = .pointer (some ⟨bl, o1 + k * 2, none⟩) | 6 => v = .pointer (some ⟨bl, o1 + k * 2, none⟩) | 7 => v = .slice u.A u.n u.cap | 8 => v = .bool false | 9 => v = .bool false | 10 => v = undef | 11 => v = undef | 12 => v = undef | 13 => v = undef | 14 => v = undef | 15 => v = undef | 16 => v = undef | 17 => v = undef | 18 => v = undef | 19 => v = undef | 20 => v = undef | 21 => v = .bool false | _ => True) ?frA ?hfrA (by first | decide | simp) ?hstA ?stepsA ?doneA
                case hfrA =>
                  intro f
                  simp [frOf, Act.put]
                  rfl
                case hstA =>
                  intro j v W W' h hb
                  match j, h with
                  | 0, h => exact h
                  | 1, h => exact h
                  | 2, h => exact h
                  | 3, h => exact h
                  | 4, h => exact h
                  | 5, h => exact h
                  | 6, h => exact h
                  | 7, h => exact h
                  | 8, h => exact h
                  | 9, h => exact h
                  | 10, h => exact h
                  | 11, h => exact h
                  | 12, h => exact h
                  | 13, h => exact h
                  | 14, h => exact h
                  | 15, h => exact h
                  | 16, h => exact h
                  | 17, h => exact h
                  | 18, h => exact h
                  | 19, h => exact h
                  | 20, h => exact h
                  | 21, h => exact h
                  | n + 22, h => trivial
                case stepsA =>
                  refine ⟨⟨⟨⟨⟨⟨⟨⟨⟨⟨⟨⟨⟨⟨⟨⟨⟨⟨⟨⟨⟨⟨trivial, ?_⟩, ?_⟩, ?_⟩, ?_⟩, ?_⟩, ?_⟩, ?_⟩, ?_⟩, ?_⟩, ?_⟩, ?_⟩, ?_⟩, ?_⟩, ?_⟩, ?_⟩, ?_⟩, ?_⟩, ?_⟩, ?_⟩, ?_⟩, ?_⟩, ?_⟩
                  · intro f W K hB hd hK
                    refine wpOp_step rfl (fun K' hK' => ?_)
                    obtain ⟨y0, y1, d0, d1⟩ := HF.out W (bchain ((Below.refl wr.heap.size wr).drew) hB)
                    go_simp
                    have hk := hK _ W (Below.refl _ _) rfl
                    simp only [upd, reduceIte, Nat.reduceEqDiff] at hk
                    exact hK' _ _ hk
                  · intro f W K hB hd hK
                    refine wpOp_step rfl (fun K' hK' => ?_)
                    go_simp
                    have hk := hK _ W (Below.refl _ _) rfl
                    simp only [upd, reduceIte, Nat.reduceEqDiff] at hk
                    exact hK' _ _ hk
                  · intro f W K hB hd hK
                    refine wpOp_step rfl (fun K' hK' => ?_)
                    go_simp
                    have hk := hK _ W (Below.refl _ _) rfl
                    simp only [upd, reduceIte, Nat.reduceEqDiff] at hk
                    exact hK' _ _ hk
                  · intro f W K hB hd hK
                    refine wpOp_step rfl (fun K' hK' => ?_)
                    go_simp
                    have hk := hK _ W (Below.refl _ _) rfl
                    simp only [upd, reduceIte, Nat.reduceEqDiff] at hk
                    exact hK' _ _ hk
                  · intro f W K hB hd hK
                    refine wpOp_step rfl (fun K' hK' => ?_)
                    go_simp
                    have hk := hK _ W (Below.refl _ _) rfl
                    simp only [upd, reduceIte, Nat.reduceEqDiff] at hk
                    exact hK' _ _ hk
                  · intro f W K hB hd hK
                    refine wpOp_step rfl (fun K' hK' => ?_)
                    have e3 := hd 3 (by kernel_rfl)
                    (try simp only [] at e3)
                    have e4 := hd 4 (by kernel_rfl)
                    (try simp only [] at e4)
                    simp only [e3, e4]
                    obtain ⟨y0, y1, d0, d1⟩ := HF.out W (bchain ((Below.refl wr.heap.size wr).drew) hB)
                    go_simp
                    have hk := hK _ W (Below.refl _ _) rfl
                    simp only [upd, reduceIte, Nat.reduceEqDiff, e3, e4] at hk
                    exact hK' _ _ hk
                  · intro f W K hB hd hK
                    refine wpOp_step rfl (fun K' hK' => ?_)
                    have e5 := hd 5 (by kernel_rfl)
                    (try simp only [] at e5)
                    simp only [e5]
                    obtain ⟨y0, y1, d0, d1⟩ := HF.out W (bchain ((Below.refl wr.heap.size wr).drew) hB)
                    go_simp
                    have hk := hK _ W (Below.refl _ _) rfl
                    simp only [upd, reduceIte, Nat.reduceEqDiff, e5] at hk
                    exact hK' _ _ hk
                  · intro f W K hB hd hK
                    refine wpOp_step rfl (fun K' hK' => ?_)
                    have e6 := hd 6 (by kernel_rfl)
                    (try simp only [] at e6)
                    simp only [e6]
                    obtain ⟨y0, y1, d0, d1⟩ := HF.out W (bchain ((Below.refl wr.heap.size wr).drew) hB)
                    go_simp
                    have hk := hK _ W (Below.refl _ _) rfl
                    simp only [upd, reduceIte, Nat.reduceEqDiff, e6] at hk
                    exact hK' _ _ hk
                  · intro f W K hB hd hK
                    refine wpOp_step rfl (fun K' hK' => ?_)
                    have e0 := hd 0 (by kernel_rfl)
                    (try simp only [] at e0)
                    have e1 := hd 1 (by kernel_rfl)
                    (try simp only [] at e1)
                    have e2 := hd 2 (by kernel_rfl)
                    (try simp only [] at e2)
                    have e7 := hd 7 (by kernel_rfl)
                    (try simp only [] at e7)
                    simp only [e0, e1, e2, e7]
                    go_simp
                    refine (QA1.out W (bchain ((Below.refl wr.heap.size wr).drew) hB)).mono ?_
                    rintro e W2 ⟨rfl, hb2⟩
                    dsimp only
                    have hk := hK _ _ hb2 rfl
                    simp only [upd, reduceIte, Nat.reduceEqDiff, e0, e1, e2, e7] at hk
                    exact hK' _ _ hk
                  · intro f W K hB hd hK
                    refine wpOp_step rfl (fun K' hK' => ?_)
                    have e8 := hd 8 (by kernel_rfl)
                    (try simp only [] at e8)
                    simp only [e8]
                    go_simp
                    have hk := hK _ W (Below.refl _ _) rfl
                    simp only [upd, reduceIte, Nat.reduceEqDiff, e8] at hk
                    exact hK' _ _ hk
                  · intro f W K hB hd hK
                    refine wpOp_step rfl (fun K' hK' => ?_)
                    have e9 := hd 9 (by kernel_rfl)
                    (try simp only [] at e9)
                    simp only [e9]
                    go_simp
                    have hk := hK _ W (Below.refl _ _) rfl
                    simp only [upd, reduceIte, Nat.reduceEqDiff, e9] at hk
                    exact hK' _ _ hk
                  · intro f W K hB hd hK
                    refine wpOp_step rfl (fun K' hK' => ?_)
                    have e9 := hd 9 (by kernel_rfl)
                    (try simp only [] at e9)
                    simp only [e9]
                    go_simp
                    have hk := hK _ W (Below.refl _ _) rfl
                    simp only [upd, reduceIte, Nat.reduceEqDiff, e9] at hk
                    exact hK' _ _ hk
                  · intro f W K hB hd hK
                    refine wpOp_step rfl (fun K' hK' => ?_)
                    have e9 := hd 9 (by kernel_rfl)
                    (try simp only [] at e9)
                    simp only [e9]
                    go_simp
                    have hk := hK _ W (Below.refl _ _) rfl
                    simp only [upd, reduceIte, Nat.reduceEqDiff, e9] at hk
                    exact hK' _ _ hk
                  · intro f W K hB hd hK
                    refine wpOp_step rfl (fun K' hK' => ?_)
                    have e9 := hd 9 (by kernel_rfl)
                    (try simp only [] at e9)
                    simp only [e9]
                    go_simp
                    have hk := hK _ W (Below.refl _ _) rfl
                    simp only [upd, reduceIte, Nat.reduceEqDiff, e9] at hk
                    exact hK' _ _ hk
                  · intro f W K hB hd hK
                    refine wpOp_step rfl (fun K' hK' => ?_)
                    have e9 := hd 9 (by kernel_rfl)
                    (try simp only [] at e9)
                    simp only [e9]
                    go_simp
                    have hk := hK _ W (Below.refl _ _) rfl
                    simp only [upd, reduceIte, Nat.reduceEqDiff, e9] at hk
                    exact hK' _ _ hk
                  · intro f W K hB hd hK
                    refine wpOp_step rfl (fun K' hK' => ?_)
                    have e9 := hd 9 (by kernel_rfl)
                    (try simp only [] at e9)
                    simp only [e9]
                    go_simp
                    have hk := hK _ W (Below.refl _ _) rfl
                    simp only [upd, reduceIte, Nat.reduceEqDiff, e9] at hk
                    exact hK' _ _ hk
                  · intro f W K hB hd hK
                    refine wpOp_step rfl (fun K' hK' => ?_)
                    have e9 := hd 9 (by kernel_rfl)
                    (try simp only [] at e9)
                    simp only [e9]
                    go_simp
                    have hk := hK _ W (Below.refl _ _) rfl
                    simp only [upd, reduceIte, Nat.reduceEqDiff, e9] at hk
                    exact hK' _ _ hk
                  · intro f W K hB hd hK
                    refine wpOp_step rfl (fun K' hK' => ?_)
                    have e9 := hd 9 (by kernel_rfl)
                    (try simp only [] at e9)
                    simp only [e9]
                    go_simp
                    have hk := hK _ W (Below.refl _ _) rfl
                    simp only [upd, reduceIte, Nat.reduceEqDiff, e9] at hk
                    exact hK' _ _ hk
                  · intro f W K hB hd hK
                    refine wpOp_step rfl (fun K' hK' => ?_)
                    have e9 := hd 9 (by kernel_rfl)
                    (try simp only [] at e9)
                    simp only [e9]
                    go_simp
                    have hk := hK _ W (Below.refl _ _) rfl
                    simp only [upd, reduceIte, Nat.reduceEqDiff, e9] at hk
                    exact hK' _ _ hk
                  · intro f W K hB hd hK
                    refine wpOp_step rfl (fun K' hK' => ?_)
                    have e9 := hd 9 (by kernel_rfl)
                    (try simp only [] at e9)
                    simp only [e9]
                    go_simp
                    have hk := hK _ W (Below.refl _ _) rfl
                    simp only [upd, reduceIte, Nat.reduceEqDiff, e9] at hk
                    exact hK' _ _ hk
                  · intro f W K hB hd hK
                    refine wpOp_step rfl (fun K' hK' => ?_)
                    have e9 := hd 9 (by kernel_rfl)
                    (try simp only [] at e9)
                    simp only [e9]
                    go_simp
                    have hk := hK _ W (Below.refl _ _) rfl
                    simp only [upd, reduceIte, Nat.reduceEqDiff, e9] at hk
                    exact hK' _ _ hk
                  · intro f W K hB hd hK
                    refine wpOp_step rfl (fun K' hK' => ?_)
                    have e9 := hd 9 (by kernel_rfl)
                    (try simp only [] at e9)
                    have e20 := hd 20 (by kernel_rfl)
                    (try simp only [] at e20)
                    simp only [e9, e20]
                    go_simp
                    have hk := hK _ W (Below.refl _ _) rfl
                    simp only [upd, reduceIte, Nat.reduceEqDiff, e9, e20] at hk
                    exact hK' _ _ hk
                case doneA =>
                  intro f W hB hf
                  have e := hf 21 (by omega)
                  simp only [] at e
                  simp only [e]
                  clear e hf
                  have HBW := Lib.hid (bchain ((Below.refl wr.heap.size wr).drew) hB)
                  clear hB
                  go_wp2_with fail
                  exact ⟨⟨q + 1, by omega, by go_num, HOK2.out, HB.out.trans (HBW.out.mono HB.out.size)⟩, by simp [intOf]; omega⟩
              | true =>
                cases hq2' : agreeG T.cols ra rb [R.to_] with
                | true =>
                  have HOK2 : Hid (∀ y, y < q + 1 → okRow R T.cols (rowI T.rows a) (rowI T.rows y) = true) := by
                    show ∀ y, _
                    intro y hy
                    by_cases e : y = q
                    · subst e
                      rw [HRA.out, HRB.out, okRow, hq1', hq2']
                      rfl
                    · exact HOQ.out y (by omega)
                  rw [hq1'] at QA1
                  simp only [hq2'] at QA2
                  clear hq1' hq2'
                  go_wp2_with fail
                  refine region_invF 22 26 rfl (by kernel_rfl) (by kernel_rfl) (fun j v W => match j with | 0 => v = .agg #[.slice cA cn ck, .slice rA rn rK] | 1 => v = .int .i64 (a : Nat) | 2 => v = .int .i64 (q : Nat) | 3 => v = .slice (some ⟨bl, o1, none⟩) m cap | 4 => v = .int .i64 (k : Nat) | 5 => v = .pointer (some ⟨bl, o1 + k * 2, none⟩) | 6 => v = .pointer (some ⟨bl, o1 + k * 2, none⟩) | 7 => v = .slice u.A u.n u.cap | 8 => v = .bool true | 9 => v = .bool true | 10 => v = .agg #[.slice cA cn ck, .slice rA rn rK] | 11 => v = .int .i64 (a : Nat) | 12 => v = .int .i64 (q : Nat) | 13 => v = .slice (some ⟨bl, o1, none⟩) m cap | 14 => v = .int .i64 (k : Nat) | 15 => v = .pointer (some ⟨bl, o1 + k * 2, none⟩) | 16 => v = .pointer (some ⟨bl, o1 + k * 2 + 1, none⟩) | 17 => v = .int .i64 R.to_ | 18 => IntsW v W [R.to_] | 19 => v = .bool true | 20 => v = .bool false | 21 => v = .bool false | _ => True) ?frB ?hfrB (by first | decide | simp) ?hstB ?stepsB ?doneB
                  case hfrB =>
                    intro f
                    simp [frOf, Act.put]
                    rfl
                  case hstB =>
                    intro j v W W' h hb
                    match j, h with
                    | 0, h => exact h
                    | 1, h => exact h
                    | 2, h => exact h
                    | 3, h => exact h
                    | 4, h => exact h
                    | 5, h => exact h
                    | 6, h => exact h
                    | 7, h => exact h
                    | 8, h => exact h
                    | 9, h => exact h
                    | 10, h => exact h
                    | 11, h => exact h
                    | 12, h => exact h
                    | 13, h => exact h
                    | 14, h => exact h
                    | 15, h => exact h
                    | 16, h => exact h
                    | 17, h => exact h
                    | 18, h => exact h.keep hb
                    | 19, h => exact h
                    | 20, h => exact h
                    | 21, h => exact h
                    | n + 22, h => trivial
                  case stepsB =>
                    refine ⟨⟨⟨⟨⟨⟨⟨⟨⟨⟨⟨⟨⟨⟨⟨⟨⟨⟨⟨⟨⟨⟨trivial, ?_⟩, ?_⟩, ?_⟩, ?_⟩, ?_⟩, ?_⟩, ?_⟩, ?_⟩, ?_⟩, ?_⟩, ?_⟩, ?_⟩, ?_⟩, ?_⟩, ?_⟩, ?_⟩, ?_⟩, ?_⟩, ?_⟩, ?_⟩, ?_⟩, ?_⟩
                    · intro f W K hB hd hK
                      refine wpOp_step rfl (fun K' hK' => ?_)
                      obtain ⟨y0, y1, d0, d1⟩ := HF.out W (bchain ((Below.refl wr.heap.size wr).drew) hB)
                      go_simp
                      have hk := hK _ W (Below.refl _ _) rfl
                      simp only [upd, reduceIte, Nat.reduceEqDiff] at hk
                      exact hK' _ _ hk
                    · intro f W K hB hd hK
                      refine wpOp_step rfl (fun K' hK' => ?_)
                      go_simp
                      have hk := hK _ W (Below.refl _ _) rfl
                      simp only [upd, reduceIte, Nat.reduceEqDiff] at hk
                      exact hK' _ _ hk
                    · intro f W K hB hd hK
                      refine wpOp_step rfl (fun K' hK' => ?_)
                      go_simp
                      have hk := hK _ W (Below.refl _ _) rfl
                      simp only [upd, reduceIte, Nat.reduceEqDiff] at hk
                      exact hK' _ _ hk
                    · intro f W K hB hd hK
                      refine wpOp_step rfl (fun K' hK' => ?_)
                      go_simp
                      have hk := hK _ W (Below.refl _ _) rfl
                      simp only [upd, reduceIte, Nat.reduceEqDiff] at hk
                      exact hK' _ _ hk
                    · intro f W K hB hd hK
                      refine wpOp_step rfl (fun K' hK' => ?_)
                      go_simp
                      have hk := hK _ W (Below.refl _ _) rfl
                      simp only [upd, reduceIte, Nat.reduceEqDiff] at hk
                      exact hK' _ _ hk
                    · intro f W K hB hd hK
                      refine wpOp_step rfl (fun K' hK' => ?_)
                      have e3 := hd 3 (by kernel_rfl)
                      (try simp only [] at e3)
                      have e4 := hd 4 (by kernel_rfl)
                      (try simp only [] at e4)
                      simp only [e3, e4]
                      obtain ⟨y0, y1, d0, d1⟩ := HF.out W (bchain ((Below.refl wr.heap.size wr).drew) hB)
                      go_simp
                      have hk := hK _ W (Below.refl _ _) rfl
                      simp only [upd, reduceIte, Nat.reduceEqDiff, e3, e4] at hk
                      exact hK' _ _ hk
                    · intro f W K hB hd hK
                      refine wpOp_step rfl (fun K' hK' => ?_)
                      have e5 := hd 5 (by kernel_rfl)
                      (try simp only [] at e5)
                      simp only [e5]
                      obtain ⟨y0, y1, d0, d1⟩ := HF.out W (bchain ((Below.refl wr.heap.size wr).drew) hB)
                      go_simp
                      have hk := hK _ W (Below.refl _ _) rfl
                      simp only [upd, reduceIte, Nat.reduceEqDiff, e5] at hk
                      exact hK' _ _ hk
                    · intro f W K hB hd hK
                      refine wpOp_step rfl (fun K' hK' => ?_)
                      have e6 := hd 6 (by kernel_rfl)
                      (try simp only [] at e6)
                      simp only [e6]
                      obtain ⟨y0, y1, d0, d1⟩ := HF.out W (bchain ((Below.refl wr.heap.size wr).drew) hB)
                      go_simp
                      have hk := hK _ W (Below.refl _ _) rfl
                      simp only [upd, reduceIte, Nat.reduceEqDiff, e6] at hk
                      exact hK' _ _ hk
                    · intro f W K hB hd hK
                      refine wpOp_step rfl (fun K' hK' => ?_)
                      have e0 := hd 0 (by kernel_rfl)
                      (try simp only [] at e0)
                      have e1 := hd 1 (by kernel_rfl)
                      (try simp only [] at e1)
                      have e2 := hd 2 (by kernel_rfl)
                      (try simp only [] at e2)
                      have e7 := hd 7 (by kernel_rfl)
                      (try simp only [] at e7)
                      simp only [e0, e1, e2, e7]
                      go_simp
                      refine (QA1.out W (bchain ((Below.refl wr.heap.size wr).drew) hB)).mono ?_
                      rintro e W2 ⟨rfl, hb2⟩
                      dsimp only
                      have hk := hK _ _ hb2 rfl
                      simp only [upd, reduceIte, Nat.reduceEqDiff, e0, e1, e2, e7] at hk
                      exact hK' _ _ hk
                    · intro f W K hB hd hK
                      refine wpOp_step rfl (fun K' hK' => ?_)
                      have e8 := hd 8 (by kernel_rfl)
                      (try simp only [] at e8)
                      simp only [e8]
                      go_simp
                      have hk := hK _ W (Below.refl _ _) rfl
                      simp only [upd, reduceIte, Nat.reduceEqDiff, e8] at hk
                      exact hK' _ _ hk
                    · intro f W K hB hd hK
                      refine wpOp_step rfl (fun K' hK' => ?_)
                      have e9 := hd 9 (by kernel_rfl)
                      (try simp only [] at e9)
                      simp only [e9]
                      obtain ⟨y0, y1, d0, d1⟩ := HF.out W (bchain ((Below.refl wr.heap.size wr).drew) hB)
                      go_simp
                      have hk := hK _ W (Below.refl _ _) rfl
                      simp only [upd, reduceIte, Nat.reduceEqDiff, e9] at hk
                      exact hK' _ _ hk
                    · intro f W K hB hd hK
                      refine wpOp_step rfl (fun K' hK' => ?_)
                      have e9 := hd 9 (by kernel_rfl)
                      (try simp only [] at e9)
                      simp only [e9]
                      go_simp
                      have hk := hK _ W (Below.refl _ _) rfl
                      simp only [upd, reduceIte, Nat.reduceEqDiff, e9] at hk
                      exact hK' _ _ hk
                    · intro f W K hB hd hK
                      refine wpOp_step rfl (fun K' hK' => ?_)
                      have e9 := hd 9 (by kernel_rfl)
                      (try simp only [] at e9)
                      simp only [e9]
                      go_simp
                      have hk := hK _ W (Below.refl _ _) rfl
                      simp only [upd, reduceIte, Nat.reduceEqDiff, e9] at hk
                      exact hK' _ _ hk
                    · intro f W K hB hd hK
                      refine wpOp_step rfl (fun K' hK' => ?_)
                      have e9 := hd 9 (by kernel_rfl)
                      (try simp only [] at e9)
                      simp only [e9]
                      go_simp
                      have hk := hK _ W (Below.refl _ _) rfl
                      simp only [upd, reduceIte, Nat.reduceEqDiff, e9] at hk
                      exact hK' _ _ hk
                    · intro f W K hB hd hK
                      refine wpOp_step rfl (fun K' hK' => ?_)
                      have e9 := hd 9 (by kernel_rfl)
                      (try simp only [] at e9)
                      simp only [e9]
                      go_simp
                      have hk := hK _ W (Below.refl _ _) rfl
                      simp only [upd, reduceIte, Nat.reduceEqDiff, e9] at hk
                      exact hK' _ _ hk
                    · intro f W K hB hd hK
                      refine wpOp_step rfl (fun K' hK' => ?_)
                      have e9 := hd 9 (by kernel_rfl)
                      (try simp only [] at e9)
                      have e13 := hd 13 (by kernel_rfl)
                      (try simp only [] at e13)
                      have e14 := hd 14 (by kernel_rfl)
                      (try simp only [] at e14)
                      simp only [e9, e13, e14]
                      obtain ⟨y0, y1, d0, d1⟩ := HF.out W (bchain ((Below.refl wr.heap.size wr).drew) hB)
                      go_simp
                      have hk := hK _ W (Below.refl _ _) rfl
                      simp only [upd, reduceIte, Nat.reduceEqDiff, e9, e13, e14] at hk
                      exact hK' _ _ hk
                    · intro f W K hB hd hK
                      refine wpOp_step rfl (fun K' hK' => ?_)
                      have e9 := hd 9 (by kernel_rfl)
                      (try simp only [] at e9)
                      have e15 := hd 15 (by kernel_rfl)
                      (try simp only [] at e15)
                      simp only [e9, e15]
                      obtain ⟨y0, y1, d0, d1⟩ := HF.out W (bchain ((Below.refl wr.heap.size wr).drew) hB)
                      go_simp
                      have hk := hK _ W (Below.refl _ _) rfl
                      simp only [upd, reduceIte, Nat.reduceEqDiff, e9, e15] at hk
                      exact hK' _ _ hk
                    · intro f W K hB hd hK
                      refine wpOp_step rfl (fun K' hK' => ?_)
                      have e9 := hd 9 (by kernel_rfl)
                      (try simp only [] at e9)
                      have e16 := hd 16 (by kernel_rfl)
                      (try simp only [] at e16)
                      simp only [e9, e16]
                      obtain ⟨y0, y1, d0, d1⟩ := HF.out W (bchain ((Below.refl wr.heap.size wr).drew) hB)
                      go_simp
                      have hk := hK _ W (Below.refl _ _) rfl
                      simp only [upd, reduceIte, Nat.reduceEqDiff, e9, e16] at hk
                      exact hK' _ _ hk
                    · intro f W K hB hd hK
                      refine wpOp_step rfl (fun K' hK' => ?_)
                      have e9 := hd 9 (by kernel_rfl)
                      (try simp only [] at e9)
                      have e17 := hd 17 (by kernel_rfl)
                      (try simp only [] at e17)
                      simp only [e9, e17]
                      go_simp
                      have hk := hK _ _ (below_new W _) ⟨⟨some ⟨W.heap.size, 0, none⟩, 1, 1⟩, rfl, ints_block (l := [R.to_]) (T := 3) (Nat.zero_le _) (by simp) (new_block W _ _)⟩
                      simp only [upd, reduceIte, Nat.reduceEqDiff, e9, e17] at hk
                      exact hK' _ _ hk
                    · intro f W K hB hd hK
                      refine wpOp_step rfl (fun K' hK' => ?_)
                      have e9 := hd 9 (by kernel_rfl)
                      (try simp only [] at e9)
                      have e10 := hd 10 (by kernel_rfl)
                      (try simp only [] at e10)
                      have e11 := hd 11 (by kernel_rfl)
                      (try simp only [] at e11)
                      have e12 := hd 12 (by kernel_rfl)
                      (try simp only [] at e12)
                      obtain ⟨s18, e18, h18⟩ := hd 18 (by kernel_rfl)
                      (try simp only [] at e18)
                      simp only [e9, e10, e11, e12, e18]
                      go_simp
                      refine (QA2.out s18 W (bchain ((Below.refl wr.heap.size wr).drew) hB) h18).mono ?_
                      rintro e W2 ⟨rfl, hb2⟩
                      dsimp only
                      have hk := hK _ _ hb2 rfl
                      simp only [upd, reduceIte, Nat.reduceEqDiff, e9, e10, e11, e12, e18] at hk
                      exact hK' _ _ hk
                    · intro f W K hB hd hK
                      refine wpOp_step rfl (fun K' hK' => ?_)
                      have e9 := hd 9 (by kernel_rfl)
                      (try simp only [] at e9)
                      have e19 := hd 19 (by kernel_rfl)
                      (try simp only [] at e19)
                      simp only [e9, e19]
                      go_simp
                      have hk := hK _ W (Below.refl _ _) rfl
                      simp only [upd, reduceIte, Nat.reduceEqDiff, e9, e19] at hk
                      exact hK' _ _ hk
                    · intro f W K hB hd hK
                      refine wpOp_step rfl (fun K' hK' => ?_)
                      have e9 := hd 9 (by kernel_rfl)
                      (try simp only [] at e9)
                      have e20 := hd 20 (by kernel_rfl)
                      (try simp only [] at e20)
                      simp only [e9, e20]
                      go_simp
                      have hk := hK _ W (Below.refl _ _) rfl
                      simp only [upd, reduceIte, Nat.reduceEqDiff, e9, e20] at hk
                      exact hK' _ _ hk
                  case doneB =>
                    intro f W hB hf
                    have e := hf 21 (by omega)
                    simp only [] at e
                    simp only [e]
                    clear e hf
                    have HBW := Lib.hid (bchain ((Below.refl wr.heap.size wr).drew) hB)
                    clear hB
                    go_wp2_with fail
                    exact ⟨⟨q + 1, by omega, by go_num, HOK2.out, HB.out.trans (HBW.out.mono HB.out.size)⟩, by simp [intOf]; omega⟩
                | false =>
                  have HBAD : Hid (hasRules T l = false) := by
                    show _ = _
                    unfold hasRules
                    rw [List.all_eq_false]
                    refine ⟨R, HMEM.out, ?_⟩
                    rw [rule_not (a := a) (b := q) (by rw [HRL.out]; exact hlta) hltq (by rw [HRA.out, HRB.out, okRow, hq1', hq2']; rfl)]
                    decide
                  rw [hq1'] at QA1
                  simp only [hq2'] at QA2
                  clear hq1' hq2'
                  go_wp2_with fail
                  refine region_invF 22 26 rfl (by kernel_rfl) (by kernel_rfl) (fun j v W => match j with | 0 => v = .agg #[.slice cA cn ck, .slice rA rn rK] | 1 => v = .int .i64 (a : Nat) | 2 => v = .int .i64 (q : Nat) | 3 => v = .slice (some ⟨bl, o1, none⟩) m cap | 4 => v = .int .i64 (k : Nat) | 5 => v = .pointer (some ⟨bl, o1 + k * 2, none⟩) | 6 => v = .pointer (some ⟨bl, o1 + k * 2, none⟩) | 7 => v = .slice u.A u.n u.cap | 8 => v = .bool true | 9 => v = .bool true | 10 => v = .agg #[.slice cA cn ck, .slice rA rn rK] | 11 => v = .int .i64 (a : Nat) | 12 => v = .int .i64 (q : Nat) | 13 => v = .slice (some ⟨bl, o1, none⟩) m cap | 14 => v = .int .i64 (k : Nat) | 15 => v = .pointer (some ⟨bl, o1 + k * 2, none⟩) | 16 => v = .pointer (some ⟨bl, o1 + k * 2 + 1, none⟩) | 17 => v = .int .i64 R.to_ | 18 => IntsW v W [R.to_] | 19 => v = .bool false | 20 => v = .bool true | 21 => v = .bool true | _ => True) ?frC ?hfrC (by first | decide | simp) ?hstC ?stepsC ?doneC
                  case hfrC =>
                    intro f
                    simp [frOf, Act.put]
                    rfl
                  case hstC =>
                    intro j v W W' h hb
                    match j, h with
                    | 0, h => exact h
                    | 1, h => exact h
                    | 2, h => exact h
                    | 3, h => exact h
                    | 4, h => exact h
                    | 5, h => exact h
                    | 6, h => exact h
                    | 7, h => exact h
                    | 8, h => exact h
                    | 9, h => exact h
                    | 10, h => exact h
                    | 11, h => exact h
                    | 12, h => exact h
                    | 13, h => exact h
                    | 14, h => exact h
                    | 15, h => exact h
                    | 16, h => exact h
                    | 17, h => exact h
                    | 18, h => exact h.keep hb
                    | 19, h => exact h
                    | 20, h => exact h
                    | 21, h => exact h
                    | n + 22, h => trivial
                  case stepsC =>
                    refine ⟨⟨⟨⟨⟨⟨⟨⟨⟨⟨⟨⟨⟨⟨⟨⟨⟨⟨⟨⟨⟨⟨trivial, ?_⟩, ?_⟩, ?_⟩, ?_⟩, ?_⟩, ?_⟩, ?_⟩, ?_⟩, ?_⟩, ?_⟩, ?_⟩, ?_⟩, ?_⟩, ?_⟩, ?_⟩, ?_⟩, ?_⟩, ?_⟩, ?_⟩, ?_⟩, ?_⟩, ?_⟩
                    · intro f W K hB hd hK
                      refine wpOp_step rfl (fun K' hK' => ?_)
                      obtain ⟨y0, y1, d0, d1⟩ := HF.out W (bchain ((Below.refl wr.heap.size wr).drew) hB)
                      go_simp
                      have hk := hK _ W (Below.refl _ _) rfl
                      simp only [upd, reduceIte, Nat.reduceEqDiff] at hk
                      exact hK' _ _ hk
                    · intro f W K hB hd hK
                      refine wpOp_step rfl (fun K' hK' => ?_)
                      go_simp
                      have hk := hK _ W (Below.refl _ _) rfl
                      simp only [upd, reduceIte, Nat.reduceEqDiff] at hk
                      exact hK' _ _ hk
                    · intro f W K hB hd hK
                      refine wpOp_step rfl (fun K' hK' => ?_)
                      go_simp
                      have hk := hK _ W (Below.refl _ _) rfl
                      simp only [upd, reduceIte, Nat.reduceEqDiff] at hk
                      exact hK' _ _ hk
                    · intro f W K hB hd hK
                      refine wpOp_step rfl (fun K' hK' => ?_)
                      go_simp
                      have hk := hK _ W (Below.refl _ _) rfl
                      simp only [upd, reduceIte, Nat.reduceEqDiff] at hk
                      exact hK' _ _ hk
                    · intro f W K hB hd hK
                      refine wpOp_step rfl (fun K' hK' => ?_)
                      go_simp
                      have hk := hK _ W (Below.refl _ _) rfl
                      simp only [upd, reduceIte, Nat.reduceEqDiff] at hk
                      exact hK' _ _ hk
                    · intro f W K hB hd hK
                      refine wpOp_step rfl (fun K' hK' => ?_)
                      have e3 := hd 3 (by kernel_rfl)
                      (try simp only [] at e3)
                      have e4 := hd 4 (by kernel_rfl)
                      (try simp only [] at e4)
                      simp only [e3, e4]
                      obtain ⟨y0, y1, d0, d1⟩ := HF.out W (bchain ((Below.refl wr.heap.size wr).drew) hB)
                      go_simp
                      have hk := hK _ W (Below.refl _ _) rfl
                      simp only [upd, reduceIte, Nat.reduceEqDiff, e3, e4] at hk
                      exact hK' _ _ hk
                    · intro f W K hB hd hK
                      refine wpOp_step rfl (fun K' hK' => ?_)
                      have e5 := hd 5 (by kernel_rfl)
                      (try simp only [] at e5)
                      simp only [e5]
                      obtain ⟨y0, y1, d0, d1⟩ := HF.out W (bchain ((Below.refl wr.heap.size wr).drew) hB)
                      go_simp
                      have hk := hK _ W (Below.refl _ _) rfl
                      simp only [upd, reduceIte, Nat.reduceEqDiff, e5] at hk
                      exact hK' _ _ hk
                    · intro f W K hB hd hK
                      refine wpOp_step rfl (fun K' hK' => ?_)
                      have e6 := hd 6 (by kernel_rfl)
                      (try simp only [] at e6)
                      simp only [e6]
                      obtain ⟨y0, y1, d0, d1⟩ := HF.out W (bchain ((Below.refl wr.heap.size wr).drew) hB)
                      go_simp
                      have hk := hK _ W (Below.refl _ _) rfl
                      simp only [upd, reduceIte, Nat.reduceEqDiff, e6] at hk
                      exact hK' _ _ hk
                    · intro f W K hB hd hK
                      refine wpOp_step rfl (fun K' hK' => ?_)
                      have e0 := hd 0 (by kernel_rfl)
                      (try simp only [] at e0)
                      have e1 := hd 1 (by kernel_rfl)
                      (try simp only [] at e1)
                      have e2 := hd 2 (by kernel_rfl)
                      (try simp only [] at e2)
                      have e7 := hd 7 (by kernel_rfl)
                      (try simp only [] at e7)
                      simp only [e0, e1, e2, e7]
                      go_simp
                      refine (QA1.out W (bchain ((Below.refl wr.heap.size wr).drew) hB)).mono ?_
                      rintro e W2 ⟨rfl, hb2⟩
                      dsimp only
                      have hk := hK _ _ hb2 rfl
                      simp only [upd, reduceIte, Nat.reduceEqDiff, e0, e1, e2, e7] at hk
                      exact hK' _ _ hk
                    · intro f W K hB hd hK
                      refine wpOp_step rfl (fun K' hK' => ?_)
                      have e8 := hd 8 (by kernel_rfl)
                      (try simp only [] at e8)
                      simp only [e8]
                      go_simp
                      have hk := hK _ W (Below.refl _ _) rfl
                      simp only [upd, reduceIte, Nat.reduceEqDiff, e8] at hk
                      exact hK' _ _ hk
                    · intro f W K hB hd hK
                      refine wpOp_step rfl (fun K' hK' => ?_)
                      have e9 := hd 9 (by kernel_rfl)
                      (try simp only [] at e9)
                      simp only [e9]
                      obtain ⟨y0, y1, d0, d1⟩ := HF.out W (bchain ((Below.refl wr.heap.size wr).drew) hB)
                      go_simp
                      have hk := hK _ W (Below.refl _ _) rfl
                      simp only [upd, reduceIte, Nat.reduceEqDiff, e9] at hk
                      exact hK' _ _ hk
                    · intro f W K hB hd hK
                      refine wpOp_step rfl (fun K' hK' => ?_)
                      have e9 := hd 9 (by kernel_rfl)
                      (try simp only [] at e9)
                      simp only [e9]
                      go_simp
                      have hk := hK _ W (Below.refl _ _) rfl
                      simp only [upd, reduceIte, Nat.reduceEqDiff, e9] at hk
                      exact hK' _ _ hk
                    · intro f W K hB hd hK
                      refine wpOp_step rfl (fun K' hK' => ?_)
                      have e9 := hd 9 (by kernel_rfl)
                      (try simp only [] at e9)
                      simp only [e9]
                      go_simp
                      have hk := hK _ W (Below.refl _ _) rfl
                      simp only [upd, reduceIte, Nat.reduceEqDiff, e9] at hk
                      exact hK' _ _ hk
                    · intro f W K hB hd hK
                      refine wpOp_step rfl (fun K' hK' => ?_)
                      have e9 := hd 9 (by kernel_rfl)
                      (try simp only [] at e9)
                      simp only [e9]
                      go_simp
                      have hk := hK _ W (Below.refl _ _) rfl
                      simp only [upd, reduceIte, Nat.reduceEqDiff, e9] at hk
                      exact hK' _ _ hk
                    · intro f W K hB hd hK
                      refine wpOp_step rfl (fun K' hK' => ?_)
                      have e9 := hd 9 (by kernel_rfl)
                      (try simp only [] at e9)
                      simp only [e9]
                      go_simp
                      have hk := hK _ W (Below.refl _ _) rfl
                      simp only [upd, reduceIte, Nat.reduceEqDiff, e9] at hk
                      exact hK' _ _ hk
                    · intro f W K hB hd hK
                      refine wpOp_step rfl (fun K' hK' => ?_)
                      have e9 := hd 9 (by kernel_rfl)
                      (try simp only [] at e9)
                      have e13 := hd 13 (by kernel_rfl)
                      (try simp only [] at e13)
                      have e14 := hd 14 (by kernel_rfl)
                      (try simp only [] at e14)
                      simp only [e9, e13, e14]
                      obtain ⟨y0, y1, d0, d1⟩ := HF.out W (bchain ((Below.refl wr.heap.size wr).drew) hB)
                      go_simp
                      have hk := hK _ W (Below.refl _ _) rfl
                      simp only [upd, reduceIte, Nat.reduceEqDiff, e9, e13, e14] at hk
                      exact hK' _ _ hk
                    · intro f W K hB hd hK
                      refine wpOp_step rfl (fun K' hK' => ?_)
                      have e9 := hd 9 (by kernel_rfl)
                      (try simp only [] at e9)
                      have e15 := hd 15 (by kernel_rfl)
                      (try simp only [] at e15)
                      simp only [e9, e15]
                      obtain ⟨y0, y1, d0, d1⟩ := HF.out W (bchain ((Below.refl wr.heap.size wr).drew) hB)
                      go_simp
                      have hk := hK _ W (Below.refl _ _) rfl
                      simp only [upd, reduceIte, Nat.reduceEqDiff, e9, e15] at hk
                      exact hK' _ _ hk
                    · intro f W K hB hd hK
                      refine wpOp_step rfl (fun K' hK' => ?_)
                      have e9 := hd 9 (by kernel_rfl)
                      (try simp only [] at e9)
                      have e16 := hd 16 (by kernel_rfl)
                      (try simp only [] at e16)
                      simp only [e9, e16]
                      obtain ⟨y0, y1, d0, d1⟩ := HF.out W (bchain ((Below.refl wr.heap.size wr).drew) hB)
                      go_simp
                      have hk := hK _ W (Below.refl _ _) rfl
                      simp only [upd, reduceIte, Nat.reduceEqDiff, e9, e16] at hk
                      exact hK' _ _ hk
                    · intro f W K hB hd hK
                      refine wpOp_step rfl (fun K' hK' => ?_)
                      have e9 := hd 9 (by kernel_rfl)
                      (try simp only [] at e9)
                      have e17 := hd 17 (by kernel_rfl)
                      (try simp only [] at e17)
                      simp only [e9, e17]
                      go_simp
                      have hk := hK _ _ (below_new W _) ⟨⟨some ⟨W.heap.size, 0, none⟩, 1, 1⟩, rfl, ints_block (l := [R.to_]) (T := 3) (Nat.zero_le _) (by simp) (new_block W _ _)⟩
                      simp only [upd, reduceIte, Nat.reduceEqDiff, e9, e17] at hk
                      exact hK' _ _ hk
                    · intro f W K hB hd hK
                      refine wpOp_step rfl (fun K' hK' => ?_)
                      have e9 := hd 9 (by kernel_rfl)
                      (try simp only [] at e9)
                      have e10 := hd 10 (by kernel_rfl)
                      (try simp only [] at e10)
                      have e11 := hd 11 (by kernel_rfl)
                      (try simp only [] at e11)
                      have e12 := hd 12 (by kernel_rfl)
                      (try simp only [] at e12)
                      obtain ⟨s18, e18, h18⟩ := hd 18 (by kernel_rfl)
                      (try simp only [] at e18)
                      simp only [e9, e10, e11, e12, e18]
                      go_simp
                      refine (QA2.out s18 W (bchain ((Below.refl wr.heap.size wr).drew) hB) h18).mono ?_
                      rintro e W2 ⟨rfl, hb2⟩
                      dsimp only
                      have hk := hK _ _ hb2 rfl
                      simp only [upd, reduceIte, Nat.reduceEqDiff, e9, e10, e11, e12, e18] at hk
                      exact hK' _ _ hk
                    · intro f W K hB hd hK
                      refine wpOp_step rfl (fun K' hK' => ?_)
                      have e9 := hd 9 (by kernel_rfl)
                      (try simp only [] at e9)
                      have e19 := hd 19 (by kernel_rfl)
                      (try simp only [] at e19)
                      simp only [e9, e19]
                      go_simp
                      have hk := hK _ W (Below.refl _ _) rfl
                      simp only [upd, reduceIte, Nat.reduceEqDiff, e9, e19] at hk
                      exact hK' _ _ hk
                    · intro f W K hB hd hK
                      refine wpOp_step rfl (fun K' hK' => ?_)
                      have e9 := hd 9 (by kernel_rfl)
                      (try simp only [] at e9)
                      have e20 := hd 20 (by kernel_rfl)
                      (try simp only [] at e20)
                      simp only [e9, e20]
                      go_simp
                      have hk := hK _ W (Below.refl _ _) rfl
                      simp only [upd, reduceIte, Nat.reduceEqDiff, e9, e20] at hk
                      exact hK' _ _ hk
                  case doneC =>
                    intro f W hB hf
                    have e := hf 21 (by omega)
                    simp only [] at e
                    simp only [e]
                    clear e hf
                    have HBW := Lib.hid (bchain ((Below.refl wr.heap.size wr).drew) hB)
                    clear hB
                    go_wp2_with fail
                    go_ret
                    exact ⟨ret_bool HBAD.out.symm, bchain HB0.out (HB.out.trans (HBW.out.mono HB.out.size))⟩
            · have hqa : q = a := by omega
              have HOA2 : Hid (∀ x, x < a + 1 → ∀ y, y < x → okRow R T.cols (rowI T.rows x) (rowI T.rows y) = true) := by
                show ∀ x, _
                intro x hx y hy
                by_cases e : x = a
                · subst e
                  exact HOQ.out y (by omega)
                · exact HOA.out x (by omega) y hy
              have d1 : decide ((q : Int) < (a : Int)) = false := by rw [decide_eq_false_iff_not]; omega
              have d2 : decide (q < a) = false := by rw [decide_eq_false_iff_not]; omega
              clear hB hltq hqa
              go_wp2_with fail
              exact ⟨⟨a + 1, by omega, by go_num, HOA2.out, HB.out⟩, by simp [intOf]; omega⟩
        · have har : a = rn := by omega
          have HOK2 : Hid (∀ r ∈ l.take (k + 1), ruleHasB T r = true) := by
            show ∀ r ∈ _, _
            rw [HTK.out]
            intro r hr
            rcases List.mem_append.1 hr with hr | hr
            · exact HOK.out r hr
            · rw [List.mem_singleton] at hr
              rw [hr]
              exact rule_all fun x hx y hy => HOA.out x (by rw [HRL.out] at hx; omega) y hy
          have d1 : decide ((a : Int) < (rn : Int)) = false := by rw [decide_eq_false_iff_not]; omega
          have d2 : decide (a < rn) = false := by rw [decide_eq_false_iff_not]; omega
          clear hlta har
          go_wp2_with fail
          exact ⟨⟨k + 1, by omega, by go_num, HOK2.out, HB.out⟩, by simp [intOf]; omega⟩
    · have hkm : k = m := by omega
      have HR : Hid (hasRules T l = true) := by
        show _ = _
        unfold hasRules
        rw [List.all_eq_true]
        intro r hr
        have h1 : l.take k = l := List.take_of_length_le (by rw [HML.out]; omega)
        exact HOK.out r (by rw [h1]; exact hr)
      have d1 : decide ((k : Int) < (m : Int)) = false := by rw [decide_eq_false_iff_not]; omega
      have d2 : decide (k < m) = false := by rw [decide_eq_false_iff_not]; omega
      clear hB hlt hkm
      go_wp2_with fail
      go_ret
      exact ⟨ret_bool HR.out.symm, bchain HB0.out HB.out⟩
end Go.Proofs.Bg
end

section
/- Contract: ref Table. -/
namespace Go.Proofs.Bg
open Go.RowKit

set_option maxRecDepth 100000 in
set_option maxHeartbeats 8000000 in
theorem TableR_any (t : Tb) (T : PT) (w : World) (ht : TabAt w 0 t T) :
    Calls Tryz.prog 54 #[.agg #[.slice t.cols.A t.cols.n t.cols.cap, .slice t.rows.A t.rows.n t.rows.cap]] w fun e w' => e = .returned (.bool (formedB T)) ∧ Below w.heap.size w w' := by
  obtain ⟨⟨cA, cn, ck⟩, ⟨rA, rn, rK⟩⟩ := t
  have hb0 := below_new w (.cells #[.slice cA cn ck, .slice rA rn rK] 40)
  have hz0 := new_block w #[.slice cA cn ck, .slice rA rn rK] 40
  generalize hW0 : w.alloc (.cells #[.slice cA cn ck, .slice rA rn rK] 40) = W0 at *
  have QS := Lib.hid (SetR_any cA cn ck 8 T.cols W0 ((ht.below hb0).1) (by omega))
  have c0 := cell_at_block (off := 0) hz0 rfl
  have c1 := cell_at_block (off := 1) hz0 rfl
  have HW0 := Lib.hid hW0
  have HB0 := Lib.hid hb0
  have HZ0 := Lib.hid hz0
  have HT := Lib.hid (ht.below hb0)
  have HC : Hid (T.cols.length = cn) := ht.1.len
  have HRL : Hid (T.rows.length = rn) := ht.2.len
  have hle : rn ≤ 9223372036854775807 := ht.2.le
  clear ht hb0 hz0 hW0
  cases hs : setB T.cols 8 with
  | false =>
    have HR : Hid (formedB T = false) := by show _ = _; simp [formedB, hs]
    rw [hs] at QS
    clear hs
    go_enter Tryz.func54, Tryz.ntmps54
    go_upto_region 1 with fail
    rw [HW0.out]
    go_wp2_with fail
    (with_reducible refine QS.out.mono ?_)
    rintro e w1 ⟨rfl, hd1⟩
    have HB1 := Lib.hid (bchain HB0.out hd1.below)
    clear hd1
    go_wp2_with fail
    go_ret
    exact ⟨ret_bool HR.out.symm, HB1.out⟩
  | true =>
    have hcn8 : cn ≤ 8 := by rw [← HC.out]; exact setB_length hs
    rw [hs] at QS
    by_cases h500 : rn ≤ 500
    · have HF : Hid (formedB T = rowsB T.cols.length none T.rows) := by show _ = _; simp [formedB, hs, HRL.out, h500]
      have d5 : decide ((500 : Int) < (rn : Int)) = false := by rw [decide_eq_false_iff_not]; omega
      have d5' : decide (500 < rn) = false := by rw [decide_eq_false_iff_not]; omega
      clear hs
      go_enter Tryz.func54, Tryz.ntmps54
      go_upto_region 1 with fail
      rw [HW0.out]
      go_wp2_with fail
      (with_reducible refine QS.out.mono ?_)
      rintro e w1 ⟨rfl, hd1⟩
      have HB1 := Lib.hid hd1.below
      have hz1 := (hd1.below.block _ (Array.getElem?_eq_some_iff.1 HZ0.out).1).trans HZ0.out
      have y0 := cell_at_block (off := 0) hz1 rfl
      have y1 := cell_at_block (off := 1) hz1 rfl
      clear hd1 hz1 c0 c1 QS
      go_wp2_with fail
      clear y0 y1 d5 d5'
      go_loopw [3] (fun i wr => ∃ k : Nat, k ≤ rn ∧ i = .int .i64 k ∧ formedB T = rowsB T.cols.length (prevR T.rows k) (T.rows.drop k) ∧ Below W0.heap.size W0 wr) (fun i _ => rn - (intOf i).toNat)
      case atStart => exact ⟨0, by omega, rfl, by rw [HF.out]; rfl, HB1.out⟩
      case round =>
        obtain ⟨k, hk, rfl, he, hB1⟩ := hrel
        have HE := Lib.hid he
        clear he HB1
        have hzr := (hB1.block _ (Array.getElem?_eq_some_iff.1 HZ0.out).1).trans HZ0.out
        have y0 := cell_at_block (off := 0) hzr rfl
        have y1 := cell_at_block (off := 1) hzr rfl
        clear hzr
        by_cases hlt : k < rn
        · obtain ⟨b1, o1, s, r, hb, _, hr, c0, hRI⟩ := (HT.out.2.below hB1).at_ hlt
          simp only [] at hb
          subst hb
          have HX := Lib.hid (drop_at hr)
          have HPS := Lib.hid (prevR_succ hr)
          rw [HX.out, rowsB] at HE
          have HRL2 := Lib.hid hRI.len
          have hi1 : (k : Int) < rn := by omega
          have hi0 : (0 : Int) ≤ k := by omega
          clear hr
          by_cases hlen : s.n = cn
          · have dl : ((s.n : Int) != (cn : Int)) = false := by simp [hlen]
            have el : decide (r.length = T.cols.length) = true := by rw [decide_eq_true_eq, HRL2.out, HC.out, hlen]
            rw [el, Bool.true_and] at HE
            have HSNN : Hid (s.n = cn) := hlen
            clear el hlen
            rcases Nat.eq_zero_or_pos k with hk0 | hk0
            · have el : afterB (prevR T.rows k) r = true := by rw [hk0]; rfl
              rw [el, Bool.true_and] at HE
              have hg : decide ((0 : Int) < (k : Int)) = false := by rw [decide_eq_false_iff_not]; omega
              have hg' : decide (0 < k) = false := by rw [decide_eq_false_iff_not]; omega
              clear el hk0
              go_wp2_with fail
              go_quiet (fail)
              have HBO := Lib.hid (hB1.trans ((below_drewN (Below.refl wr.heap.size wr) nq).mono hB1.size))
              have HRI := Lib.hid (hRI.below (below_drewN (Below.refl wr.heap.size wr) nq))
              have HE0 := Lib.hid (((below_drewN (Below.refl wr.heap.size wr) nq).cell (World.block_lt_of_cell? _ _ c0)).trans c0)
              generalize wr.drewN nq = wo at HBO HRI HE0 ⊢
              clear hB1 hRI c0 y0 y1
              go_wp2_with fail
              go_loopw [4] (fun i wr => ∃ k2 : Nat, k2 ≤ cn ∧ i = .int .i64 k2 ∧ valsB r = valsB (r.drop k2) ∧ DrN wo wr) (fun i _ => cn - (intOf i).toNat)
              case atStart => exact ⟨0, by omega, rfl, rfl, DrN.refl _⟩
              case round =>
                obtain ⟨k2, hk2, rfl, hv, hwr⟩ := hrel
                have HDW := Lib.hid hwr
                have HBW := Lib.hid (HBO.out.trans (hwr.below.mono HBO.out.size))
                have HV := Lib.hid hv
                clear hv
                have hzw := (HBW.out.block _ (Array.getElem?_eq_some_iff.1 HZ0.out).1).trans HZ0.out
                have b0 := cell_at_block (off := 0) hzw rfl
                have b1 := cell_at_block (off := 1) hzw rfl
                by_cases hlt2 : k2 < cn
                · obtain ⟨b3, o3, x, hb3, _, hx, x0⟩ := (HRI.out.below hwr.below).at_ (k := k2) (by have := HSNN.out; omega)
                  have e0 := (hwr.below.cell (World.block_lt_of_cell? _ _ HE0.out)).trans HE0.out
                  have hVD := valsB_drop hx
                  rw [hVD] at HV
                  have hsn := HSNN.out
                  obtain ⟨sA, sn, sk⟩ := s
                  simp only [] at hb3 hsn
                  subst hb3 hsn
                  have hi2 : (k2 : Int) < sn := by omega
                  have hi3 : (0 : Int) ≤ k2 := by omega
                  have QI := Lib.hid (inR_any x (-1000000000) 1000000000 wr)
                  have hin : inB x (-1000000000) 1000000000 = rangeB x := rfl
                  rw [hin] at QI
                  clear hVD hx hin hzw hwr
                  cases hrb : rangeB x with
                  | false =>
                    have HR : Hid (formedB T = false) := by
                      show _ = _
                      rw [HE.out, HV.out, hrb, Bool.false_and, Bool.false_and]
                    rw [hrb] at QI
                    clear hrb
                    go_wp2_with fail
                    (with_reducible refine QI.out.mono ?_)
                    rintro e w7 ⟨rfl, hd7⟩
                    have HB7 := Lib.hid (HBW.out.trans (hd7.below.mono HBW.out.size))
                    clear hd7
                    go_wp2_with fail
                    go_ret
                    exact ⟨ret_bool HR.out.symm, bchain HB0.out HB7.out⟩
                  | true =>
                    have HR : Hid (valsB r = valsB (r.drop (k2 + 1))) := by show _ = _; rw [HV.out, hrb, Bool.true_and]
                    rw [hrb] at QI
                    clear hrb
                    go_wp2_with fail
                    (with_reducible refine QI.out.mono ?_)
                    rintro e w7 ⟨rfl, hd7⟩
                    have HD7 := Lib.hid (HDW.out.trans hd7)
                    clear hd7
                    go_wp2_with fail
                    exact ⟨⟨k2 + 1, by omega, by go_num, HR.out, HD7.out⟩, by simp [intOf]; omega⟩
                · have hk' : k2 = cn := by omega
                  have HR : Hid (formedB T = rowsB T.cols.length (prevR T.rows (k + 1)) (T.rows.drop (k + 1))) := by
                    show _ = _
                    rw [HE.out, HV.out, (List.drop_eq_nil_of_le (by rw [HRL2.out, HSNN.out]; omega) : r.drop k2 = []), HPS.out]
                    rfl
                  have d1 : decide ((k2 : Int) < (cn : Int)) = false := by rw [decide_eq_false_iff_not]; omega
                  have d2 : decide (k2 < cn) = false := by rw [decide_eq_false_iff_not]; omega
                  clear hlt2 hk' hzw hwr
                  go_wp2_with fail
                  exact ⟨⟨k + 1, by omega, by go_num, HR.out, HBW.out⟩, by simp [intOf]; omega⟩
            · obtain ⟨j, hj⟩ : ∃ j, k = j + 1 := ⟨k - 1, by omega⟩
              obtain ⟨b2, o2, s2, p, hb2, _, hp, d0, hP⟩ := (HT.out.2.below hB1).at_ (k := j) (by show j < rn; omega)
              cases hb2
              have hpv : prevR T.rows k = some p := by rw [hj]; exact prevR_succ hp
              rw [hpv, afterB] at HE
              have hg : decide ((0 : Int) < (k : Int)) = true := by rw [decide_eq_true_eq]; omega
              have hg' : decide (0 < k) = true := by rw [decide_eq_true_eq]; omega
              have hw : IntKind.i64.wrap ((k : Int) - 1) = (j : Int) := by rw [show (k : Int) - 1 = (j : Int) by omega]; exact IntWalk.i64_in _ (by omega)
              have hj1 : (j : Int) < rn := by omega
              have hj0 : (0 : Int) ≤ j := by omega
              have QO := Lib.hid (fun q => Order_any s2.A s.A s2.n s.n s2.cap s.cap p r (wr.drewN q) (hP.below (below_drewN (Below.refl _ _) q)) (hRI.below (below_drewN (Below.refl _ _) q)))
              have hol := orderC_lex p r
              clear hp hpv hj hk0 hP
              by_cases hlx : lexC p r < 0
              · have dx : decide ((0 : Int) ≤ orderC p r) = false := by rw [decide_eq_false_iff_not]; have := hol.1.2 hlx; omega
                rw [decide_eq_true hlx, Bool.true_and] at HE
                clear hlx hol
                go_wp2_with fail
                go_quiet (first | (go_at_call 22; with_reducible exact Calls.quiet_of (QO.out _)))
                have HBO := Lib.hid (hB1.trans ((below_drewN (Below.refl wr.heap.size wr) nq).mono hB1.size))
                have HRI := Lib.hid (hRI.below (below_drewN (Below.refl wr.heap.size wr) nq))
                have HE0 := Lib.hid (((below_drewN (Below.refl wr.heap.size wr) nq).cell (World.block_lt_of_cell? _ _ c0)).trans c0)
                generalize wr.drewN nq = wo at HBO HRI HE0 ⊢
                clear hB1 hRI c0 y0 y1
                go_wp2_with fail
                go_loopw [4] (fun i wr => ∃ k2 : Nat, k2 ≤ cn ∧ i = .int .i64 k2 ∧ valsB r = valsB (r.drop k2) ∧ DrN wo wr) (fun i _ => cn - (intOf i).toNat)
                case atStart => exact ⟨0, by omega, rfl, rfl, DrN.refl _⟩
                case round =>
                  obtain ⟨k2, hk2, rfl, hv, hwr⟩ := hrel
                  have HDW := Lib.hid hwr
                  have HBW := Lib.hid (HBO.out.trans (hwr.below.mono HBO.out.size))
                  have HV := Lib.hid hv
                  clear hv
                  have hzw := (HBW.out.block _ (Array.getElem?_eq_some_iff.1 HZ0.out).1).trans HZ0.out
                  have b0 := cell_at_block (off := 0) hzw rfl
                  have b1 := cell_at_block (off := 1) hzw rfl
                  by_cases hlt2 : k2 < cn
                  · obtain ⟨b3, o3, x, hb3, _, hx, x0⟩ := (HRI.out.below hwr.below).at_ (k := k2) (by have := HSNN.out; omega)
                    have e0 := (hwr.below.cell (World.block_lt_of_cell? _ _ HE0.out)).trans HE0.out
                    have hVD := valsB_drop hx
                    rw [hVD] at HV
                    have hsn := HSNN.out
                    obtain ⟨sA, sn, sk⟩ := s
                    simp only [] at hb3 hsn
                    subst hb3 hsn
                    have hi2 : (k2 : Int) < sn := by omega
                    have hi3 : (0 : Int) ≤ k2 := by omega
                    have QI := Lib.hid (inR_any x (-1000000000) 1000000000 wr)
                    have hin : inB x (-1000000000) 1000000000 = rangeB x := rfl
                    rw [hin] at QI
                    clear hVD hx hin hzw hwr
                    cases hrb : rangeB x with
                    | false =>
                      have HR : Hid (formedB T = false) := by
                        show _ = _
                        rw [HE.out, HV.out, hrb, Bool.false_and, Bool.false_and]
                      rw [hrb] at QI
                      clear hrb
                      go_wp2_with fail
                      (with_reducible refine QI.out.mono ?_)
                      rintro e w7 ⟨rfl, hd7⟩
                      have HB7 := Lib.hid (HBW.out.trans (hd7.below.mono HBW.out.size))
                      clear hd7
                      go_wp2_with fail
                      go_ret
                      exact ⟨ret_bool HR.out.symm, bchain HB0.out HB7.out⟩
                    | true =>
                      have HR : Hid (valsB r = valsB (r.drop (k2 + 1))) := by show _ = _; rw [HV.out, hrb, Bool.true_and]
                      rw [hrb] at QI
                      clear hrb
                      go_wp2_with fail
                      (with_reducible refine QI.out.mono ?_)
                      rintro e w7 ⟨rfl, hd7⟩
                      have HD7 := Lib.hid (HDW.out.trans hd7)
                      clear hd7
                      go_wp2_with fail
                      exact ⟨⟨k2 + 1, by omega, by go_num, HR.out, HD7.out⟩, by simp [intOf]; omega⟩
                  · have hk' : k2 = cn := by omega
                    have HR : Hid (formedB T = rowsB T.cols.length (prevR T.rows (k + 1)) (T.rows.drop (k + 1))) := by
                      show _ = _
                      rw [HE.out, HV.out, (List.drop_eq_nil_of_le (by rw [HRL2.out, HSNN.out]; omega) : r.drop k2 = []), HPS.out]
                      rfl
                    have d1 : decide ((k2 : Int) < (cn : Int)) = false := by rw [decide_eq_false_iff_not]; omega
                    have d2 : decide (k2 < cn) = false := by rw [decide_eq_false_iff_not]; omega
                    clear hlt2 hk' hzw hwr
                    go_wp2_with fail
                    exact ⟨⟨k + 1, by omega, by go_num, HR.out, HBW.out⟩, by simp [intOf]; omega⟩
              · have dx : decide ((0 : Int) ≤ orderC p r) = true := by rw [decide_eq_true_eq]; have := mt hol.1.1 hlx; omega
                rw [decide_eq_false hlx, Bool.false_and, Bool.false_and] at HE
                clear hlx hol
                go_wp2_with fail
                go_quiet (first | (go_at_call 22; with_reducible exact Calls.quiet_of (QO.out _)))
                go_wp2_with fail
                go_ret
                exact ⟨ret_bool HE.out.symm, bchain HB0.out (hB1.trans ((below_drewN (Below.refl wr.heap.size wr) _).mono hB1.size))⟩
          · have dl : ((s.n : Int) != (cn : Int)) = true := by simp; omega
            have el : decide (r.length = T.cols.length) = false := by rw [decide_eq_false_iff_not, HRL2.out, HC.out]; exact hlen
            rw [el, Bool.false_and, Bool.false_and, Bool.false_and] at HE
            clear el hlen
            go_wp2_with fail
            go_quiet (fail)
            go_wp2_with fail
            go_ret
            exact ⟨ret_bool HE.out.symm, bchain HB0.out (hB1.trans ((below_drewN (Below.refl wr.heap.size wr) _).mono hB1.size))⟩
        · have hk' : k = rn := by omega
          have HR : Hid (formedB T = true) := by
            show _ = _
            rw [HE.out, (List.drop_eq_nil_of_le (by rw [HRL.out]; omega) : T.rows.drop k = [])]
            rfl
          have d1 : decide ((k : Int) < (rn : Int)) = false := by rw [decide_eq_false_iff_not]; omega
          have d2 : decide (k < rn) = false := by rw [decide_eq_false_iff_not]; omega
          clear hlt hk'
          go_wp2_with fail
          go_ret
          exact ⟨ret_bool HR.out.symm, bchain HB0.out hB1⟩
    · have HR : Hid (formedB T = false) := by show _ = _; simp [formedB, hs, HRL.out]; intro h; exact absurd h h500
      have d5 : decide ((500 : Int) < (rn : Int)) = true := by rw [decide_eq_true_eq]; omega
      have d5' : decide (500 < rn) = true := by rw [decide_eq_true_eq]; omega
      clear hs
      go_enter Tryz.func54, Tryz.ntmps54
      go_upto_region 1 with fail
      rw [HW0.out]
      go_wp2_with fail
      (with_reducible refine QS.out.mono ?_)
      rintro e w1 ⟨rfl, hd1⟩
      have HB1 := Lib.hid (bchain HB0.out hd1.below)
      have hz1 := (hd1.below.block _ (Array.getElem?_eq_some_iff.1 HZ0.out).1).trans HZ0.out
      have y0 := cell_at_block (off := 0) hz1 rfl
      have y1 := cell_at_block (off := 1) hz1 rfl
      clear hd1 hz1
      go_wp2_with fail
      go_ret
      exact ⟨ret_bool HR.out.symm, HB1.out⟩
end Go.Proofs.Bg
end

section
/- Contract: ref Holds. -/
namespace Go.Proofs.Bg
open Go.RowKit

set_option maxRecDepth 100000 in
set_option maxHeartbeats 8000000 in
theorem HoldsR_any (t : Tb) (T : PT) (A : Option Addr) (m cap : Nat) (l : List PF) (w : World) (ht : TabAt w 0 t T) (h : FdsAt w 0 A m l) :
    Calls Tryz.prog 46 #[.agg #[.slice t.cols.A t.cols.n t.cols.cap, .slice t.rows.A t.rows.n t.rows.cap], .slice A m cap] w fun e w' => e = .returned (.tuple #[.bool (holdsR T l).1, .int .i64 (holdsR T l).2]) ∧ Below w.heap.size w w' := by
  obtain ⟨⟨cA, cn, ck⟩, ⟨rA, rn, rK⟩⟩ := t
  have hb0 := below_new w (.cells #[.slice cA cn ck, .slice rA rn rK] 40)
  have hz0 := new_block w #[.slice cA cn ck, .slice rA rn rK] 40
  generalize hW0 : w.alloc (.cells #[.slice cA cn ck, .slice rA rn rK] 40) = W0 at *
  have QF := Lib.hid (TableR_any ⟨⟨cA, cn, ck⟩, ⟨rA, rn, rK⟩⟩ T W0 (ht.below hb0))
  have QR := Lib.hid (fun W (hb : Below W0.heap.size W0 W) => RulesR_any 8 A m cap l W (h.below (bchain hb0 hb)))
  have c0 := cell_at_block (off := 0) hz0 rfl
  have c1 := cell_at_block (off := 1) hz0 rfl
  have HW0 := Lib.hid hW0
  have HB0 := Lib.hid hb0
  have HZ0 := Lib.hid hz0
  have HT := Lib.hid (ht.below hb0)
  have HA := Lib.hid (h.below hb0)
  have hmle : m ≤ 9223372036854775807 := h.le
  have HML : Hid (l.length = m) := h.len
  clear ht h hb0 hz0 hW0
  cases hf : formedB T with
  | false =>
    have HR : Hid (holdsR T l = (false, 2)) := by show _ = _; simp [holdsR, hf]
    rw [hf] at QF
    clear hf
    go_enter Tryz.func46, Tryz.ntmps46
    go_upto_region 1 with fail
    rw [HW0.out]
    go_wp2_with fail
    (with_reducible refine QF.out.mono ?_)
    rintro e w1 ⟨rfl, hb1⟩
    have HB1 := Lib.hid (bchain HB0.out hb1)
    clear hb1 QF
    go_wp2_with fail
    go_ret2
    rw [HR.out]
    exact ⟨rfl, HB1.out⟩
  | true =>
    have FT := Lib.hid (formed_of hf)
    rw [hf] at QF
    cases hr : rulesB 8 l with
    | false =>
      have HR : Hid (holdsR T l = (false, 2)) := by show _ = _; simp [holdsR, hr]
      rw [hr] at QR
      clear hf hr
      go_enter Tryz.func46, Tryz.ntmps46
      go_upto_region 1 with fail
      rw [HW0.out]
      go_wp2_with fail
      (with_reducible refine QF.out.mono ?_)
      rintro e w1 ⟨rfl, hb1⟩
      have HB1 := Lib.hid hb1
      clear hb1 QF
      go_wp2_with fail
      (with_reducible refine (QR.out _ HB1.out).mono ?_)
      rintro e w2 ⟨rfl, hd2⟩
      have HB2 := Lib.hid (bchain (bchain HB0.out HB1.out) hd2.below)
      clear hd2 QR
      go_wp2_with fail
      go_ret2
      rw [HR.out]
      exact ⟨rfl, HB2.out⟩
    | true =>
      have HH : Hid (holdsR T l = if l.all (ofB T) then (hasRules T l, 0) else (false, 2)) := by show _ = _; simp [holdsR, hf, hr]
      rw [hr] at QR
      clear hf hr
      go_enter Tryz.func46, Tryz.ntmps46
      go_upto_region 1 with fail
      rw [HW0.out]
      go_wp2_with fail
      (with_reducible refine QF.out.mono ?_)
      rintro e w1 ⟨rfl, hb1⟩
      have HB1 := Lib.hid hb1
      clear hb1 QF
      go_wp2_with fail
      (with_reducible refine (QR.out _ HB1.out).mono ?_)
      rintro e w2 ⟨rfl, hd2⟩
      have HB2 := Lib.hid (bchain HB1.out hd2.below)
      clear hd2 QR c0 c1
      go_wp2_with fail
      go_loopw [6] (fun i wr => ∃ k : Nat, k ≤ m ∧ i = .int .i64 k ∧ l.all (ofB T) = (l.drop k).all (ofB T) ∧ Below W0.heap.size W0 wr) (fun i _ => m - (intOf i).toNat)
      case atStart => exact ⟨0, by omega, rfl, rfl, HB2.out⟩
      case round =>
        clear HB2 HB1
        obtain ⟨k, hk, rfl, he, hB⟩ := hrel
        have HE := Lib.hid he
        have HB := Lib.hid hB
        have hzr := (hB.block _ (Array.getElem?_eq_some_iff.1 HZ0.out).1).trans HZ0.out
        have c0 := cell_at_block (off := 0) hzr rfl
        have c1 := cell_at_block (off := 1) hzr rfl
        clear he hzr
        by_cases hlt : k < m
        · obtain ⟨b1, o1, t, R, eA, -, hR, d0, d1, hfr⟩ := (HA.out.below hB).at_ hlt
          subst eA
          have HX := Lib.hid (drop_at hR)
          rw [HX.out, List.all_cons] at HE
          have hk1 : (k : Int) < m := by omega
          have hk0 : (0 : Int) ≤ k := by omega
          have QW := Lib.hid (fun q => Within_any t.A cA t.n cn t.cap ck R.from_ T.cols (wr.drewN q) (hfr.below (below_drewN (Below.refl _ _) q)) ((HT.out.below hB).1.below (below_drewN (Below.refl _ _) q)))
          have QP := Lib.hid (fun q => Place_any cA cn ck R.to_ T.cols (wr.drewN q) ((HT.out.below hB).1.below (below_drewN (Below.refl _ _) q)))
          have HPN := Lib.hid (placeI_neg T.cols R.to_)
          clear hB hfr hR
          cases hw : withinB R.from_ T.cols with
          | false =>
            have HF : Hid (l.all (ofB T) = false) := by show _ = _; rw [HE.out, ofB, hw]; rfl
            have HR : Hid (holdsR T l = (false, 2)) := by show _ = _; rw [HH.out, HF.out]; rfl
            rw [hw] at QW
            clear hw QP
            go_wp2_with fail
            go_quiet (first | (go_at_call 111; with_reducible exact Calls.quiet_of_same (QW.out _)))
            go_wp2_with fail
            go_ret2
            rw [HR.out]
            exact ⟨rfl, bchain HB0.out (HB.out.trans ((below_drewN (Below.refl wr.heap.size wr) _).mono HB.out.size))⟩
          | true =>
            rw [hw] at QW
            by_cases hm : R.to_ ∈ T.cols
            · have dp : decide (placeI T.cols R.to_ < 0) = false := by rw [HPN.out, decide_eq_true hm]; rfl
              have HN : Hid (l.all (ofB T) = (l.drop (k + 1)).all (ofB T)) := by show _ = _; rw [HE.out, ofB, hw, decide_eq_true hm]; rfl
              clear hw hm
              go_wp2_with fail
              go_quiet (first | (go_at_call 111; with_reducible exact Calls.quiet_of_same (QW.out _)) | (go_at_call 68; with_reducible exact Calls.quiet_of_same (QP.out _)))
              go_wp2_with fail
              exact ⟨⟨k + 1, by omega, by go_num, HN.out, HB.out.trans ((below_drewN (Below.refl wr.heap.size wr) _).mono HB.out.size)⟩, by simp [intOf]; omega⟩
            · have dp : decide (placeI T.cols R.to_ < 0) = true := by rw [HPN.out, decide_eq_false hm]; rfl
              have HF : Hid (l.all (ofB T) = false) := by show _ = _; rw [HE.out, ofB, hw, decide_eq_false hm]; rfl
              have HR : Hid (holdsR T l = (false, 2)) := by show _ = _; rw [HH.out, HF.out]; rfl
              clear hw hm
              go_wp2_with fail
              go_quiet (first | (go_at_call 111; with_reducible exact Calls.quiet_of_same (QW.out _)) | (go_at_call 68; with_reducible exact Calls.quiet_of_same (QP.out _)))
              go_wp2_with fail
              go_ret2
              rw [HR.out]
              exact ⟨rfl, bchain HB0.out (HB.out.trans ((below_drewN (Below.refl wr.heap.size wr) _).mono HB.out.size))⟩
        · have hkm : k = m := by omega
          have HAL : Hid (l.all (ofB T) = true) := by
            show _ = _
            rw [HE.out, (List.drop_eq_nil_of_le (by rw [HML.out]; omega) : l.drop k = [])]
            rfl
          have HR : Hid (holdsR T l = (hasRules T l, 0)) := by show _ = _; rw [HH.out, HAL.out]; rfl
          have QH := Lib.hid (HasR_any ⟨⟨cA, cn, ck⟩, ⟨rA, rn, rK⟩⟩ T A m cap l wr (HT.out.below hB) (HA.out.below hB) FT.out (List.all_eq_true.1 HAL.out))
          have d1 : decide ((k : Int) < (m : Int)) = false := by rw [decide_eq_false_iff_not]; omega
          have d2 : decide (k < m) = false := by rw [decide_eq_false_iff_not]; omega
          clear hB hlt hkm HE HH
          go_wp2_with fail
          (with_reducible refine QH.out.mono ?_)
          rintro e w3 ⟨rfl, hb3⟩
          have HB3 := Lib.hid (bchain HB0.out (bchain HB.out hb3))
          clear hb3
          go_wp2_with fail
          go_ret2
          rw [HR.out]
          exact ⟨rfl, HB3.out⟩
end Go.Proofs.Bg
end

section
/- Contract: Close. -/
namespace Go.Proofs.Bg
open Go.RowKit

def closeR (N : Int) (l : List PF) (c : List Int) : List Int × Int := if rulesB N l && setB c N then (colsN (closedN l (bitsN c)), 0) else ([], 2)
/-- A row and an error. -/
def RetInts (w : World) (p : List Int × Int) (e : Ending) (w' : World) : Prop :=
  (∃ s : Sl, e = .returned (.tuple #[.slice s.A s.n s.cap, .int .i64 p.2]) ∧ IntsAt w' 0 s p.1) ∧ Below w.heap.size w w'

set_option maxRecDepth 100000 in
set_option maxHeartbeats 4000000 in
theorem Close_any (N : Int) (A : Option Addr) (m cap : Nat) (l : List PF) (s : Sl) (c : List Int) (w : World) (h : FdsAt w 0 A m l) (hs : IntsAt w 0 s c) :
    Calls Tryz.prog 47 #[.int .i64 N, .slice A m cap, .slice s.A s.n s.cap] w (RetInts w (closeR N l c)) := by
  obtain ⟨sA, sn, sk⟩ := s
  have Q1 := Lib.hid (rulesIn_any N A m cap l w h)
  have HA := Lib.hid h
  have HS := Lib.hid hs
  clear h hs
  cases hr : rulesB N l with
  | false =>
    have HR : Hid (closeR N l c = ([], 2)) := by show _ = _; simp [closeR, hr]
    rw [hr] at Q1
    clear hr
    go_enter Tryz.func47, Tryz.ntmps47
    go_wp2_with fail
    (with_reducible refine Q1.out.mono ?_)
    rintro e w1 ⟨rfl, hb1⟩
    have HB1 := Lib.hid hb1
    clear hb1
    go_wp2_with fail
    go_ret2
    rw [HR.out]
    exact ⟨⟨⟨none, 0, 0⟩, rfl, Rd.nil _ _ _⟩, HB1.out⟩
  | true =>
    have HRL := Lib.hid (rulesB_all hr)
    have hN : 1 ≤ N ∧ N ≤ 8 := by
      simp only [rulesB, Bool.and_eq_true, decide_eq_true_eq] at hr
      exact ⟨hr.1.1.1, hr.1.1.2⟩
    rw [hr] at Q1
    have Q2 := Lib.hid (fun W (hb : Below w.heap.size w W) => setIn_any sA sn sk N c W (HS.out.below hb))
    cases hc : setB c N with
    | false =>
      have HR : Hid (closeR N l c = ([], 2)) := by show _ = _; simp [closeR, hr, hc]
      rw [hc] at Q2
      clear hr hc
      go_enter Tryz.func47, Tryz.ntmps47
      go_wp2_with fail
      (with_reducible refine Q1.out.mono ?_)
      rintro e w1 ⟨rfl, hb1⟩
      have HB1 := Lib.hid hb1
      clear hb1
      go_wp2_with fail
      (with_reducible refine (Q2.out _ HB1.out).mono ?_)
      rintro e w2 ⟨rfl, rfl⟩
      go_wp2_with fail
      go_ret2
      rw [HR.out]
      exact ⟨⟨⟨none, 0, 0⟩, rfl, Rd.nil _ _ _⟩, HB1.out⟩
    | true =>
      have HR : Hid (closeR N l c = (colsN (closedN l (bitsN c)), 0)) := by show _ = _; simp [closeR, hr, hc]
      have hcm : ∀ x ∈ c, 0 ≤ x ∧ x < 8 := fun x hx => by have := setB_mem hc x hx; omega
      have hb8 : bitsN c < 256 := bitsN_lt (n := 8) hcm
      have Q3 := Lib.hid (fun W (hb : Below w.heap.size w W) => bitsOf_any sA sn sk c W (HS.out.below hb) hcm)
      have Q4 := Lib.hid (fun W (hb : Below w.heap.size w W) => closed_any A m cap l (bitsN c) W (HA.out.below hb) HRL.out hb8)
      have Q5 := Lib.hid (fun W => columnsOf_any (closedN l (bitsN c)) W (closedN_lt HRL.out hb8))
      rw [hc] at Q2
      clear hr hc hcm hb8
      generalize bitsN c = bc at *
      generalize closedN l bc = cl at *
      go_enter Tryz.func47, Tryz.ntmps47
      go_wp2_with fail
      (with_reducible refine Q1.out.mono ?_)
      rintro e w1 ⟨rfl, hb1⟩
      have HB1 := Lib.hid hb1
      clear hb1
      go_wp2_with fail
      (with_reducible refine (Q2.out _ HB1.out).mono ?_)
      rintro e w2 ⟨rfl, rfl⟩
      go_wp2_with fail
      (with_reducible refine (Q3.out _ HB1.out).mono ?_)
      rintro e w2 ⟨rfl, rfl⟩
      go_wp2_with fail
      (with_reducible refine (Q4.out _ HB1.out).mono ?_)
      rintro e w2 ⟨rfl, hb2⟩
      have HB2 := Lib.hid (bchain HB1.out hb2)
      clear hb2
      go_wp2_with fail
      (with_reducible refine (Q5.out _).mono ?_)
      rintro e w3 ⟨v, rfl, hv, hb3⟩
      obtain ⟨vA, vn, vk, rfl⟩ := hv.shapeN'
      have HB3 := Lib.hid (bchain HB2.out hb3)
      have HV := Lib.hid hv
      clear hb3 hv
      go_wp2_with fail
      go_ret2
      rw [HR.out]
      exact ⟨⟨⟨vA, vn, vk⟩, rfl, (HV.out.rdN iv_length).low (Nat.zero_le _)⟩, HB3.out⟩
end Go.Proofs.Bg
end

section
/- Contract: ref CloseOf, Close. -/
namespace Go.Proofs.Bg
open Go.RowKit

theorem fires_cols {r : PF} {s : Nat} (hr : ruleB 8 r = true) (hs : s < 256) : firesB r s = (withinB r.from_ (colsN s) && decide (placeI (colsN s) r.to_ < 0)) := by
  simp only [ruleB, Bool.and_eq_true, decide_eq_true_eq] at hr
  obtain ⟨⟨hset, h0⟩, h8⟩ := hr
  obtain ⟨c, hc⟩ : ∃ c : Nat, r.to_ = (c : Int) := ⟨r.to_.toNat, by omega⟩
  rw [within_cols hset hs, placeI_neg, hc, mem_cols hs]
  unfold firesB
  rw [hc, Int.toNat_natCast]
theorem put_fires {r : PF} {s : Nat} (hr : ruleB 8 r = true) (hs : s < 256) (hf : firesB r s = true) : putL r.to_ (colsN s) = colsN (useR r s) := by
  have h := fires_cols hr hs
  rw [use_cols hr hs, if_pos]
  rw [h, placeI_neg] at hf
  exact hf

set_option maxRecDepth 100000 in
set_option maxHeartbeats 8000000 in
theorem CloseOfR_any (A : Option Addr) (m cap : Nat) (l : List PF) (s : Sl) (x : Nat) (w : World) (h : FdsAt w 0 A m l) (hs : IntsAt w 0 s (colsN x)) (hx : x < 256) (hl : ∀ r ∈ l, ruleB 8 r = true) :
    Calls Tryz.prog 119 #[.slice A m cap, .slice s.A s.n s.cap] w fun e w' => (∃ t : Sl, e = .returned (.slice t.A t.n t.cap) ∧ IntsAt w' 0 t (colsN (closedN l x))) ∧ Below w.heap.size w w' := by
  obtain ⟨sA, sn, sk⟩ := s
  have HA := Lib.hid h
  have HS := Lib.hid hs
  have HML : Hid (l.length = m) := h.len
  have hmle : m ≤ 9223372036854775807 := h.le
  have HRU := Lib.hid hl
  have hsn8 : sn ≤ 8 := by
    have h1 : (colsN x).length = sn := hs.len
    have h2 := colsFrom_length x 8 0
    unfold colsN at h1
    omega
  clear h hs hl
  go_enter Tryz.func119, Tryz.ntmps119
  go_wp2_with (at_builtin; go_loud (refine wpList_appRd iv 1 iv_length (by decide) iv_one 3 3 _ 8 infoInt rfl rfl _ _ _ _ rfl Tryz.underlying32 Tryz.underlying32 w.heap.size _ [] rfl (own_empty w) 0 sn _ _ (colsN x) rfl (HS.out.below (below_new w _)) (by simp <;> omega) (by unfold maxLen; simp <;> omega) (by simp) (fun v5 w5 hown5 hg5 _ => ?_)); obtain ⟨v5A, v5c, rfl⟩ := hown5.shape; have HO5 := Lib.hid hown5; have HB5 := Lib.hid (below_row (below_new w _) hg5 (fun g e => ((own_empty w).blk g e).1)); clear hown5 hg5)
  have HCAP := Lib.hid HO5.out.capOf
  go_loopg [5, 6] (2 * (256 - x) + 1) (fun gg v b wr => ∃ (t : Sl) (x1 : Nat) (g : Bool), v = .slice t.A t.n t.cap ∧ b = .bool g ∧ IntsAt wr 0 t (colsN x1) ∧ t.n ≤ t.cap ∧ x1 < 256 ∧ (g = true → closedN l x = closedN l x1) ∧ (g = false → closedN l x = x1) ∧ Below w.heap.size w wr ∧ 2 * (256 - x1) + g.toNat ≤ gg)
  case atStart => exact ⟨⟨v5A, _, v5c⟩, x, true, rfl, rfl, (HO5.out.rdN iv_length).low (Nat.zero_le _), HCAP.out, hx, (fun _ => rfl), (fun h => by cases h), HB5.out, by simp⟩
  case round =>
    clear HO5 HB5 HCAP
    obtain ⟨t, x1, g, rfl, rfl, hI, hcap, hx1, ht, hf, hB, hgg⟩ := hrel
    have HI := Lib.hid hI
    have HB := Lib.hid hB
    cases g with
    | false =>
      have HF := Lib.hid (hf rfl)
      clear hI hcap ht hf hB hgg
      go_wp2_with fail
      go_ret
      rw [HF.out]
      exact ⟨⟨t, rfl, HI.out⟩, HB.out⟩
    | true =>
      have HT := Lib.hid (ht rfl)
      have HGG := Lib.hid hgg
      have HST := Lib.hid (closedN_step HRU.out hx1)
      have HCP := Lib.hid hcap
      clear hI hcap ht hf hB hgg
      go_wp2_with fail
      go_loopw [5, 6, 7] (fun v b i wr => ∃ (t : Sl) (k y : Nat), k ≤ m ∧ i = .int .i64 k ∧ v = .slice t.A t.n t.cap ∧ b = .bool (decide (x1 < y)) ∧ IntsAt wr 0 t (colsN y) ∧ t.n ≤ t.cap ∧ x1 ≤ y ∧ y < 256 ∧ roundR l x1 = roundR (l.drop k) y ∧ Below w.heap.size w wr) (fun _ _ i _ => m - (intOf i).toNat)
      case atStart => exact ⟨t, 0, x1, by omega, rfl, rfl, by simp, HI.out, HCP.out, Nat.le_refl _, hx1, rfl, HB.out⟩
      case round =>
        clear HI HB HCP
        obtain ⟨t, k, y, hk, rfl, rfl, rfl, hI, hcap, hxy, hy, hround, hB⟩ := hrel
        have HI := Lib.hid hI
        have HB := Lib.hid hB
        have HRD := Lib.hid hround
        have HCP := Lib.hid hcap
        clear hround hcap
        by_cases hlt : k < m
        · obtain ⟨b1, o1, u, R, eA, -, hR, d0, d1, hfr⟩ := (HA.out.below hB).at_ hlt
          subst eA
          have hrule := HRU.out R (List.mem_of_getElem? hR)
          have HRULE := Lib.hid hrule
          have HNX := Lib.hid (roundR_drop hR y)
          have HLE := Lib.hid (useR_le R y)
          have HLT := Lib.hid (useR_lt hrule hy)
          have HFI := Lib.hid (fires_cols hrule hy)
          have hk1 : (k : Int) < m := by omega
          have hk0 : (0 : Int) ≤ k := by omega
          have QW := Lib.hid (Within_any u.A t.A u.n t.n u.cap t.cap R.from_ (colsN y) wr hfr hI)
          have QP := Lib.hid (Place_any t.A t.n t.cap R.to_ (colsN y) wr hI)
          have hyl : (colsN y).length ≤ 8 := colsFrom_length y 8 0
          have QU := Lib.hid (put_any t R.to_ (colsN y) wr hI HCP.out (by omega))
          clear hI hB hfr hrule hR
          cases hw : withinB R.from_ (colsN y) with
          | false =>
            have HNF : Hid (useR R y = y) := by show _ = _; unfold useR; rw [HFI.out, hw]; rfl
            rw [hw] at QW
            clear hw QP QU
            go_wp2_with fail
            (with_reducible refine QW.out.mono ?_)
            rintro e w2 ⟨rfl, hw2⟩
            obtain rfl := hw2.symm
            go_wp2_with fail
            exact ⟨⟨t, k + 1, y, by omega, by go_num, rfl, rfl, HI.out, HCP.out, hxy, hy, by rw [HRD.out, HNX.out, HNF.out], HB.out⟩, by simp [intOf]; omega⟩
          | true =>
            rw [hw] at QW
            cases hp : decide (placeI (colsN y) R.to_ < 0) with
            | false =>
              have HNF : Hid (useR R y = y) := by show _ = _; unfold useR; rw [HFI.out, hw, hp]; rfl
              clear hw QU
              go_wp2_with fail
              (with_reducible refine QW.out.mono ?_)
              rintro e w2 ⟨rfl, hw2⟩
              obtain rfl := hw2.symm
              go_wp2_with fail
              (with_reducible refine QP.out.mono ?_)
              rintro e w2 ⟨rfl, hw2⟩
              obtain rfl := hw2.symm
              go_wp2_with fail
              exact ⟨⟨t, k + 1, y, by omega, by go_num, rfl, rfl, HI.out, HCP.out, hxy, hy, by rw [HRD.out, HNX.out, HNF.out], HB.out⟩, by simp [intOf]; omega⟩
            | true =>
              have hfi : firesB R y = true := by rw [HFI.out, hw, hp]; rfl
              have HPU := Lib.hid (put_fires HRULE.out hy hfi)
              have HNE := Lib.hid (useR_ne hfi)
              clear hw hfi
              go_wp2_with fail
              (with_reducible refine QW.out.mono ?_)
              rintro e w2 ⟨rfl, hw2⟩
              obtain rfl := hw2.symm
              go_wp2_with fail
              (with_reducible refine QP.out.mono ?_)
              rintro e w2 ⟨rfl, hw2⟩
              obtain rfl := hw2.symm
              go_wp2_with fail
              (with_reducible refine QU.out.mono ?_)
              rintro e w3 ⟨⟨t3, rfl, hI3, hc3⟩, hb3⟩
              have HI3 := Lib.hid hI3
              have HC3 := Lib.hid hc3
              have HB3 := Lib.hid (bchain HB.out hb3)
              have HDC : Hid (decide (x1 < useR R y) = true) := by show _ = _; have h1 := HNE.out; have h2 := HLE.out; rw [decide_eq_true_eq]; omega
              clear hI3 hc3 hb3 QU QP QW
              go_wp2_with fail
              exact ⟨⟨t3, k + 1, useR R y, by omega, by go_num, rfl, by rw [HDC.out], by rw [← HPU.out]; exact HI3.out, HC3.out, Nat.le_trans hxy HLE.out, HLT.out, by rw [HRD.out, HNX.out], HB3.out⟩, by simp [intOf]; omega⟩
        · have hkm : k = m := by omega
          have hend : roundR l x1 = y := by
            rw [HRD.out, (List.drop_eq_nil_of_le (by rw [HML.out]; omega) : l.drop k = []), roundR]
          have hst := HST.out
          rw [hend] at hst
          have d1 : decide ((k : Int) < (m : Int)) = false := by rw [decide_eq_false_iff_not]; omega
          have d2 : decide (k < m) = false := by rw [decide_eq_false_iff_not]; omega
          by_cases hlts : x1 < y
          · have hd : decide (x1 < y) = true := by simpa using hlts
            have HE2 : Hid (closedN l x = closedN l y) := by
              show _ = _
              rw [HT.out, hst, if_neg]
              omega
            have HLTS := Lib.hid hlts
            rw [hd]
            clear hI hB hlt hkm hend hst hd hlts
            go_wp2_with fail
            go_roundg (2 * (256 - y) + 1)
            case measure => have h1 := HGG.out; have h2 := HLTS.out; simp at h1; omega
            case rel => exact ⟨t, y, true, rfl, rfl, HI.out, HCP.out, hy, (fun _ => HE2.out), (fun h => by cases h), HB.out, by simp⟩
          · have hd : decide (x1 < y) = false := by simpa using hlts
            have heq : y = x1 := by omega
            have HE2 : Hid (closedN l x = y) := by
              show _ = _
              rw [HT.out, hst, if_pos heq, heq]
            have HEQ := Lib.hid heq
            rw [hd]
            clear hI hB hlt hkm hend hst hd hlts heq
            go_wp2_with fail
            go_roundg (2 * (256 - x1))
            case measure => have h1 := HGG.out; simp at h1; omega
            case rel => exact ⟨t, y, false, rfl, rfl, HI.out, HCP.out, hy, (fun h => by cases h), (fun _ => HE2.out), HB.out, by rw [HEQ.out]; simp⟩

theorem setB_up {n : Int} (hn : n ≤ 8) {c : List Int} (h : setB c n = true) : setB c 8 = true := by
  have : ∀ (m : List Int) (p : Int), setFrom p n m = true → setFrom p 8 m = true := by
    intro m
    induction m with
    | nil => intro p _; rfl
    | cons a r ih =>
      intro p h
      simp only [setFrom, Bool.and_eq_true, decide_eq_true_eq] at h ⊢
      exact ⟨⟨h.1.1, by omega⟩, ih _ h.2⟩
  exact this _ _ h
set_option maxRecDepth 100000 in
set_option maxHeartbeats 4000000 in
theorem CloseR_any (N : Int) (A : Option Addr) (m cap : Nat) (l : List PF) (s : Sl) (c : List Int) (w : World) (h : FdsAt w 0 A m l) (hs : IntsAt w 0 s c) :
    Calls Tryz.prog 48 #[.int .i64 N, .slice A m cap, .slice s.A s.n s.cap] w (RetInts w (closeR N l c)) := by
  obtain ⟨sA, sn, sk⟩ := s
  have Q1 := Lib.hid (RulesR_any N A m cap l w h)
  have HA := Lib.hid h
  have HS := Lib.hid hs
  clear h hs
  cases hr : rulesB N l with
  | false =>
    have HR : Hid (closeR N l c = ([], 2)) := by show _ = _; simp [closeR, hr]
    rw [hr] at Q1
    clear hr
    go_enter Tryz.func48, Tryz.ntmps48
    go_wp2_with fail
    (with_reducible refine Q1.out.mono ?_)
    rintro e w1 ⟨rfl, hd1⟩
    have HB1 := Lib.hid hd1.below
    clear hd1
    go_wp2_with fail
    go_ret2
    rw [HR.out]
    exact ⟨⟨⟨none, 0, 0⟩, rfl, Rd.nil _ _ _⟩, HB1.out⟩
  | true =>
    have HRL := Lib.hid (rulesB_all hr)
    have hN : 1 ≤ N ∧ N ≤ 8 := by
      simp only [rulesB, Bool.and_eq_true, decide_eq_true_eq] at hr
      exact ⟨hr.1.1.1, hr.1.1.2⟩
    have QS := Lib.hid (fun W (hb : Below w.heap.size w W) => SetR_any sA sn sk N c W (HS.out.below hb) (by omega))
    rw [hr] at Q1
    cases hc : setB c N with
    | false =>
      have HR : Hid (closeR N l c = ([], 2)) := by show _ = _; simp [closeR, hc]
      rw [hc] at QS
      clear hr hc
      go_enter Tryz.func48, Tryz.ntmps48
      go_wp2_with fail
      (with_reducible refine Q1.out.mono ?_)
      rintro e w1 ⟨rfl, hd1⟩
      have HB1 := Lib.hid hd1.below
      clear hd1
      go_wp2_with fail
      (with_reducible refine (QS.out _ HB1.out).mono ?_)
      rintro e w2 ⟨rfl, hd2⟩
      have HB2 := Lib.hid (bchain HB1.out hd2.below)
      clear hd2
      go_wp2_with fail
      go_ret2
      rw [HR.out]
      exact ⟨⟨⟨none, 0, 0⟩, rfl, Rd.nil _ _ _⟩, HB2.out⟩
    | true =>
      have HR : Hid (closeR N l c = (colsN (closedN l (bitsN c)), 0)) := by show _ = _; simp [closeR, hr, hc]
      have h8 := setB_up hN.2 hc
      have QC := Lib.hid (fun W (hb : Below w.heap.size w W) => CloseOfR_any A m cap l ⟨sA, sn, sk⟩ (bitsN c) W (HA.out.below hb) (by rw [colsN_bits h8]; exact HS.out.below hb) (bitsN_lt (n := 8) (setB_mem h8)) HRL.out)
      rw [hc] at QS
      clear hr hc h8
      go_enter Tryz.func48, Tryz.ntmps48
      go_wp2_with fail
      (with_reducible refine Q1.out.mono ?_)
      rintro e w1 ⟨rfl, hd1⟩
      have HB1 := Lib.hid hd1.below
      clear hd1
      go_wp2_with fail
      (with_reducible refine (QS.out _ HB1.out).mono ?_)
      rintro e w2 ⟨rfl, hd2⟩
      have HB2 := Lib.hid (bchain HB1.out hd2.below)
      clear hd2
      go_wp2_with fail
      (with_reducible refine (QC.out _ HB2.out).mono ?_)
      rintro e w3 ⟨⟨t, rfl, ht⟩, hb3⟩
      have HT := Lib.hid ht
      have HB3 := Lib.hid (bchain HB2.out hb3)
      clear ht hb3
      go_wp2_with fail
      go_ret2
      rw [HR.out]
      exact ⟨⟨t, rfl, HT.out⟩, HB3.out⟩
end Go.Proofs.Bg
end

section
/- Contract: ref Keys. -/
namespace Go.Proofs.Bg
open Go.RowKit

/-- No column among the first can be left out. -/
def leastB (n : Nat) (l : List PF) (s k : Nat) : Bool := (List.range k).all fun c => !(s.testBit c && decide (closedN l (bdiff s (pw c)) = pw n - 1))
theorem leastB_succ (n : Nat) (l : List PF) (s k : Nat) : leastB n l s (k + 1) = (leastB n l s k && !(s.testBit k && decide (closedN l (bdiff s (pw k)) = pw n - 1))) := by
  unfold leastB
  rw [List.range_succ, List.all_append]
  simp
theorem keyB_least (n : Nat) (l : List PF) (s : Nat) : keyB n l s = (decide (closedN l s = pw n - 1) && leastB n l s n) := rfl
theorem pw_le {s c : Nat} (h : s.testBit c = true) : pw c ≤ s := Nat.ge_two_pow_of_testBit h

set_option maxRecDepth 100000 in
set_option maxHeartbeats 8000000 in
theorem KeysR_any (N : Int) (A : Option Addr) (m cap : Nat) (l : List PF) (w : World) (h : FdsAt w 0 A m l) :
    Calls Tryz.prog 50 #[.int .i64 N, .slice A m cap] w (RetRows w (keysR N l)) := by
  have Q1 := Lib.hid (RulesR_any N A m cap l w h)
  have HA := Lib.hid h
  clear h
  cases hr : rulesB N l with
  | false =>
    have HR : Hid (keysR N l = ([], 2)) := by show _ = _; simp [keysR, hr]
    rw [hr] at Q1
    clear hr
    go_enter Tryz.func50, Tryz.ntmps50
    go_wp2_with fail
    (with_reducible refine Q1.out.mono ?_)
    rintro e w1 ⟨rfl, hd1⟩
    have HB1 := Lib.hid hd1.below
    clear hd1
    go_wp2_with fail
    go_ret2
    rw [HR.out]
    exact ⟨⟨⟨none, 0, 0⟩, rfl, RowsAt.nil _ _⟩, HB1.out⟩
  | true =>
    have HRL := Lib.hid (rulesB_all hr)
    have hN : 1 ≤ N ∧ N ≤ 8 := by
      simp only [rulesB, Bool.and_eq_true, decide_eq_true_eq] at hr
      exact ⟨hr.1.1.1, hr.1.1.2⟩
    have hRN : ∀ r ∈ l, ruleB N r = true := by
      simp only [rulesB, Bool.and_eq_true, List.all_eq_true] at hr
      exact hr.2
    obtain ⟨n, rfl⟩ : ∃ n : Nat, N = (n : Int) := ⟨N.toNat, by omega⟩
    have HRN := Lib.hid hRN
    have HR : Hid (keysR (n : Int) l = (keysB n l, 0)) := by show _ = _; simp [keysR, hr]
    rw [hr] at Q1
    have hn1 : 1 ≤ n := by omega
    have hn8 : n ≤ 8 := by omega
    obtain ⟨al, hal⟩ : ∃ al, pw n = al + 1 := ⟨pw n - 1, by have := pw_pos n; omega⟩
    have hal8 : al < 256 := by
      have h2 : pw n ≤ pw 8 := Nat.pow_le_pow_right (by decide) hn8
      have h3 : pw 8 = 256 := rfl
      omega
    have hsl : IntKind.i64.wrap (2 ^ n) = (al : Int) + 1 := by
      rw [shl_nat (by omega), hal]
      rfl
    have h0 : (0 : Int) ≤ n := by omega
    have h64 : (n : Int) ≤ 64 := by omega
    have HAL := Lib.hid hal
    have HLESS : Hid (∀ s, s ≤ al → decide (((colsN (closedN l s)).length : Int) < (n : Int)) = !decide (closedN l s = pw n - 1)) := by
      show ∀ s, _
      intro s hs
      exact cols_less hn8 (closedN_lt' HRN.out (by omega))
    clear hr hN hal hRN
    go_enter Tryz.func50, Tryz.ntmps50
    go_wp2_with fail
    (with_reducible refine Q1.out.mono ?_)
    rintro e w1 ⟨rfl, hd1⟩
    have HB1 := Lib.hid hd1.below
    clear hd1 Q1
    go_wp2_with fail
    go_loopw [6, 7] (fun v i wr => ∃ k : Nat, k ≤ al + 1 ∧ i = .int .i64 k ∧ OwnRows w.heap.size wr v (keysTo n l k) ∧ Below w.heap.size w wr) (fun _ i _ => al + 1 - (intOf i).toNat)
    case atStart => exact ⟨0, by omega, rfl, ⟨[], Own.nil _ _ _ _ _, All2.nil _⟩, HB1.out⟩
    case round =>
      clear HB1
      obtain ⟨k, hk, rfl, ⟨ss, ho1, ho2⟩, hB⟩ := hrel
      obtain ⟨A1, c1, rfl⟩ := ho1.shape
      have HO1 := Lib.hid ho1
      have HO2 := Lib.hid ho2
      have HB := Lib.hid hB
      have hsl5 : ss.length ≤ k := by rw [ho2.1]; exact keysTo_length n l k
      have HKS := Lib.hid (keysTo_succ n l k)
      clear ho1 ho2 hB
      by_cases hlt : k ≤ al
      · have dk : decide ((k : Int) < (al : Int) + 1) = true := by rw [decide_eq_true_eq]; omega
        have dk' : decide (k < al + 1) = true := by rw [decide_eq_true_eq]; omega
        have Q2 := Lib.hid (columnsR_any k wr (by omega))
        have HLS := Lib.hid (HLESS.out k hlt)
        have hk0 : (0 : Int) ≤ k := by omega
        go_wp2_with fail
        (with_reducible refine Q2.out.mono ?_)
        rintro e w2 ⟨v2, rfl, hown2, hb2⟩
        obtain ⟨A2, n2, c2, rfl⟩ := hown2.shapeN'
        have HB2 := Lib.hid (bchain HB.out hb2)
        have HO1' := Lib.hid (HO1.out.below hb2)
        have HO2' := Lib.hid (HO2.out.mono (S := fun s r => Own iv 1 3 w.heap.size w2 s.v r) fun x y h => h.below hb2)
        have Q3 := Lib.hid (CloseOfR_any A m cap l ⟨A2, n2, c2⟩ k w2 (HA.out.below HB2.out) ((hown2.rdN iv_length).low (Nat.zero_le _)) (by omega) HRL.out)
        clear hown2 hb2 Q2 HO1 HO2 HB
        go_wp2_with fail
        (with_reducible refine Q3.out.mono ?_)
        rintro e w3 ⟨⟨t, rfl, ht⟩, hb3⟩
        have HTN : Hid ((colsN (closedN l k)).length = t.n) := ht.len
        rw [HTN.out] at HLS
        have HB3 := Lib.hid (bchain HB2.out hb3)
        have HO3 := Lib.hid (HO1'.out.below hb3)
        have HO4 := Lib.hid (HO2'.out.mono (S := fun s r => Own iv 1 3 w.heap.size w3 s.v r) fun x y h => h.below hb3)
        clear hb3 Q3 HO1' HO2' HB2 ht
        by_cases hca : closedN l k = pw n - 1
        · have dl : decide ((t.n : Int) < (n : Int)) = false := by rw [HLS.out, decide_eq_true hca]; rfl
          have dl' : decide (t.n < n) = false := by rw [decide_eq_false_iff_not] at dl ⊢; omega
          have HKL : Hid (keyB n l k = leastB n l k n) := by show _ = _; rw [keyB_least, decide_eq_true hca, Bool.true_and]
          clear hca HTN
          go_wp2_with fail
          go_loopw [8, 9] (fun b i wr => ∃ c : Nat, c ≤ n ∧ i = .int .i64 c ∧ b = .bool (leastB n l k c) ∧ Below w3.heap.size w3 wr) (fun _ i _ => n - (intOf i).toNat)
          case atStart => exact ⟨0, by omega, rfl, rfl, Below.refl _ _⟩
          case round =>
            obtain ⟨c, hc, rfl, rfl, hb4⟩ := hrel
            have HB4 := Lib.hid hb4
            by_cases hlt2 : c < n
            · have hs := shr_nat k c
              have hbo := band_one (x := k) (c := c) (by omega)
              have hsl2 := shl_nat (c := c) (by omega)
              have hpw := pw_lt (c := c) (n := 8) (by omega)
              have hbl : bdiff k (pw c) < 256 := bdiff_lt (n := 8) (by omega)
              have hc0 : (0 : Int) ≤ c := by omega
              have hc64 : (c : Int) ≤ 64 := by omega
              have hc1 : (c : Int) < n := by omega
              have HLS2 := Lib.hid (leastB_succ n l k c)
              cases hlb : leastB n l k c with
              | false =>
                rw [hlb, Bool.false_and] at HLS2
                clear hlb hb4
                go_wp2_with fail
                exact ⟨⟨c + 1, by omega, by go_num, by rw [HLS2.out], HB4.out⟩, by simp [intOf]; omega⟩
              | true =>
                rw [hlb, Bool.true_and] at HLS2
                cases ht : k.testBit c with
                | false =>
                  rw [ht] at hbo HLS2
                  simp only [Bool.false_eq_true, if_false] at hbo
                  have HL2 : Hid (leastB n l k (c + 1) = true) := by show _ = _; rw [HLS2.out]; rfl
                  clear ht hlb hb4 hsl2
                  generalize k >>> c = S at *
                  go_wp2_with fail
                  exact ⟨⟨c + 1, by omega, by go_num, by rw [HL2.out], HB4.out⟩, by simp [intOf]; omega⟩
                | true =>
                  rw [ht] at hbo HLS2
                  simp only [if_true] at hbo
                  have hsub : IntKind.i64.wrap ((k : Int) - (pw c : Nat)) = (bdiff k (pw c) : Nat) := by
                    have e := bdiff_sub k (by omega) c (by omega) ht
                    have := pw_le ht
                    rw [← e, show (k : Int) - (pw c : Nat) = ((k - pw c : Nat) : Int) by omega]
                    exact IntWalk.i64_in _ (by omega)
                  have hDl : bdiff k (pw c) ≤ al := by
                    have e := bdiff_sub k (by omega) c (by omega) ht
                    omega
                  have HLD := Lib.hid (HLESS.out _ hDl)
                  have Q4 := Lib.hid (columnsR_any (bdiff k (pw c)) wr hbl)
                  have QC := Lib.hid (fun (s : Sl) W (hb : Below wr.heap.size wr W) hs => CloseOfR_any A m cap l s (bdiff k (pw c)) W (HA.out.below (bchain (bchain HB3.out hb4) hb)) hs hbl HRL.out)
                  obtain ⟨D, hD⟩ : ∃ D, bdiff k (pw c) = D := ⟨_, rfl⟩
                  rw [hD] at hsub hbl HLD Q4 QC HLS2
                  clear ht hlb hb4 hDl hD
                  generalize pw c = PW at *
                  generalize k >>> c = S at *
                  go_wp2_with fail
                  (with_reducible refine Q4.out.mono ?_)
                  rintro e w5 ⟨v5, rfl, hown5, hb5⟩
                  obtain ⟨A5, n5, c5, rfl⟩ := hown5.shapeN'
                  have HB5 := Lib.hid hb5
                  have QC5 := Lib.hid (QC.out ⟨A5, n5, c5⟩ w5 hb5 ((hown5.rdN iv_length).low (Nat.zero_le _)))
                  clear hown5 hb5 Q4 QC
                  go_wp2_with fail
                  (with_reducible refine QC5.out.mono ?_)
                  rintro e w6 ⟨⟨u, rfl, hu⟩, hb6⟩
                  have HUN : Hid ((colsN (closedN l D)).length = u.n) := hu.len
                  rw [HUN.out] at HLD
                  have HB6 := Lib.hid (bchain HB4.out (bchain HB5.out hb6))
                  clear hb6 hu QC5
                  by_cases hcd : closedN l D = pw n - 1
                  · have du : decide ((u.n : Int) < (n : Int)) = false := by rw [HLD.out, decide_eq_true hcd]; rfl
                    have du' : decide (u.n < n) = false := by rw [decide_eq_false_iff_not] at du ⊢; omega
                    have HL2 : Hid (leastB n l k (c + 1) = false) := by show _ = _; rw [HLS2.out, decide_eq_true hcd]; rfl
                    clear hcd HUN
                    go_wp2_with fail
                    exact ⟨⟨c + 1, by omega, by go_num, by rw [HL2.out], HB6.out⟩, by simp [intOf]; omega⟩
                  · have du : decide ((u.n : Int) < (n : Int)) = true := by rw [HLD.out, decide_eq_false hcd]; rfl
                    have du' : decide (u.n < n) = true := by rw [decide_eq_true_eq] at du ⊢; omega
                    have HL2 : Hid (leastB n l k (c + 1) = true) := by show _ = _; rw [HLS2.out, decide_eq_false hcd]; rfl
                    clear hcd HUN
                    go_wp2_with fail
                    exact ⟨⟨c + 1, by omega, by go_num, by rw [HL2.out], HB6.out⟩, by simp [intOf]; omega⟩
            · have hcn : c = n := by omega
              have d1 : decide ((c : Int) < (n : Int)) = false := by rw [decide_eq_false_iff_not]; omega
              have d2 : decide (c < n) = false := by rw [decide_eq_false_iff_not]; omega
              have HOW := Lib.hid (HO3.out.below hb4)
              have HOX := Lib.hid (HO4.out.mono (S := fun s r => Own iv 1 3 w.heap.size wr s.v r) fun x y h => h.below hb4)
              have HBW := Lib.hid (bchain HB3.out hb4)
              rw [hcn, ← HKL.out]
              cases hkb : keyB n l k with
              | false =>
                rw [hkb] at HKS
                simp only [Bool.false_eq_true, if_false] at HKS
                clear hlt2 hcn hb4 hkb
                go_wp2_with fail
                exact ⟨⟨k + 1, by omega, by go_num, by rw [HKS.out]; exact ⟨ss, HOW.out, HOX.out⟩, HBW.out⟩, by simp [intOf]; omega⟩
              | true =>
                rw [hkb] at HKS
                simp only [if_true] at HKS
                have Q5 := Lib.hid (columnsR_any k wr (by omega))
                clear hlt2 hcn hb4 hkb
                go_wp2_with fail
                (with_reducible refine Q5.out.mono ?_)
                rintro e w5 ⟨v5, rfl, hown5, hb5⟩
                obtain ⟨A5, n5, c5, rfl⟩ := hown5.shapeN'
                have HO5 := Lib.hid (hown5.low HBW.out.size)
                have HB5 := Lib.hid hb5
                have HB6 := Lib.hid (bchain HBW.out hb5)
                clear hown5 hb5 Q5
                go_wp2_with (at_builtin; go_loud (refine wpList_app1 Sl.vs 1 32 _ 24 infoSl rfl (by decide) rfl _ _ _ rfl Tryz.underlying38 w.heap.size _ ss rfl ((HOW.out.below HB5.out).alloc _) ⟨A5, n5, c5⟩ _ _ rfl rfl (newAt _ _ _ _ (by simp)) (by simp [Sl.vs, Value.oneCell']) (by omega) (by unfold maxLen; omega) (by have := HB6.out.size; simp; omega) (fun v4 w4 hown4 hg4 _ => ?_)))
                exact ⟨⟨k + 1, by omega, by go_num, by rw [HKS.out]; exact OwnRows.push (s := ⟨A5, n5, c5⟩) HOW.out HOX.out HB5.out HO5.out hown4 hg4, below_row (HB6.out.alloc HB6.out.size _) hg4 (fun g e => (HOW.out.blk g e).1)⟩, by simp [intOf]; omega⟩
        · have dl : decide ((t.n : Int) < (n : Int)) = true := by rw [HLS.out, decide_eq_false hca]; rfl
          have dl' : decide (t.n < n) = true := by rw [decide_eq_true_eq] at dl ⊢; omega
          have HK : Hid (keyB n l k = false) := by show _ = _; rw [keyB_least, decide_eq_false hca, Bool.false_and]
          rw [HK.out] at HKS
          simp only [Bool.false_eq_true, if_false] at HKS
          clear hca HK HTN
          go_wp2_with fail
          exact ⟨⟨k + 1, by omega, by go_num, by rw [HKS.out]; exact ⟨ss, HO3.out, HO4.out⟩, HB3.out⟩, by simp [intOf]; omega⟩
      · have hk' : k = al + 1 := by omega
        have dk : decide ((k : Int) < (al : Int) + 1) = false := by rw [decide_eq_false_iff_not]; omega
        have dk' : decide (k < al + 1) = false := by rw [decide_eq_false_iff_not]; omega
        have hrows : RowsAt wr 0 ⟨A1, ss.length, c1⟩ (keysTo n l k) := ⟨ss, (HO1.out.rdN Sl.vs_length).low (Nat.zero_le _), HO2.out.mono fun x y h => h.ints.low (Nat.zero_le _)⟩
        have Q5 := Lib.hid (sortedR_any ⟨A1, ss.length, c1⟩ (keysTo n l k) wr hrows (by show ss.length ≤ _; omega))
        have HKB : Hid (sortR (keysTo n l k) = keysB n l) := by show _ = _; rw [keysB, HAL.out, hk']
        rw [HKB.out] at Q5
        clear hlt hk' hrows
        go_wp2_with fail
        (with_reducible refine Q5.out.mono ?_)
        rintro e w6 ⟨v6, rfl, hr6, hb6⟩
        obtain ⟨A6, c6, rfl⟩ := hr6.shape
        have HR6 := Lib.hid hr6.rows
        have HB6 := Lib.hid (bchain HB.out hb6)
        clear hr6 hb6 Q5
        go_wp2_with fail
        go_ret2
        rw [HR.out]
        exact ⟨⟨_, rfl, HR6.out⟩, HB6.out⟩
end Go.Proofs.Bg
end

section
/- The law PickRules: returns true. -/
namespace Go.Proofs.Bg
open Go.RowKit

set_option maxRecDepth 100000 in
set_option maxHeartbeats 8000000 in
theorem PickRules_any (t : Tb) (T : PT) (A : Option Addr) (m cap : Nat) (l : List PF) (N : Int) (s : Sl) (c : List Int) (w : World) (ht : TabAt w 0 t T) (h : FdsAt w 0 A m l) (hs : IntsAt w 0 s c) (hd : DeTab w) :
    Calls Tryz.prog 8 #[.agg #[.slice t.cols.A t.cols.n t.cols.cap, .slice t.rows.A t.rows.n t.rows.cap], .slice A m cap, .int .i64 N, .slice s.A s.n s.cap] w fun e w' => e = .returned (.bool true) ∧ Below w.heap.size w w' := by
  obtain ⟨⟨cA, cn, ck⟩, ⟨rA, rn, rK⟩⟩ := t
  obtain ⟨sA, sn, sk⟩ := s
  have hb0 := below_new w (.cells #[.slice cA cn ck, .slice rA rn rK] 40)
  have hz0 := new_block w #[.slice cA cn ck, .slice rA rn rK] 40
  generalize hW0 : w.alloc (.cells #[.slice cA cn ck, .slice rA rn rK] 40) = W0 at *
  have HW0 := Lib.hid hW0
  have HB0 := Lib.hid hb0
  have HZ0 := Lib.hid hz0
  have HT := Lib.hid (ht.below hb0)
  have HA := Lib.hid (h.below hb0)
  have HS := Lib.hid (IntsAt.below hs hb0)
  have HD := Lib.hid (hd.below hb0)
  clear ht h hs hd hb0 hz0 hW0
  have Q1 := Lib.hid (Holds_any ⟨⟨cA, cn, ck⟩, ⟨rA, rn, rK⟩⟩ T A m cap l W0 HT.out HA.out)
  have Q2 := Lib.hid (fun W (hb : Below W0.heap.size W0 W) => HoldsR_any ⟨⟨cA, cn, ck⟩, ⟨rA, rn, rK⟩⟩ T A m cap l W (HT.out.below hb) (HA.out.below hb))
  have Q3 := Lib.hid (fun W (hb : Below W0.heap.size W0 W) => Close_any N A m cap l ⟨sA, sn, sk⟩ c W (HA.out.below hb) (IntsAt.below HS.out hb))
  have Q4 := Lib.hid (fun W (hb : Below W0.heap.size W0 W) => CloseR_any N A m cap l ⟨sA, sn, sk⟩ c W (HA.out.below hb) (IntsAt.below HS.out hb))
  have Q5 := Lib.hid (fun W (hb : Below W0.heap.size W0 W) => Keys_any N A m cap l W (HA.out.below hb))
  have Q6 := Lib.hid (fun W (hb : Below W0.heap.size W0 W) => KeysR_any N A m cap l W (HA.out.below hb))
  obtain ⟨p1, hp1⟩ : ∃ p, holdsR T l = p := ⟨_, rfl⟩
  obtain ⟨p2, hp2⟩ : ∃ p, closeR N l c = p := ⟨_, rfl⟩
  obtain ⟨p3, hp3⟩ : ∃ p, keysR N l = p := ⟨_, rfl⟩
  rw [hp1] at Q1 Q2
  rw [hp2] at Q3 Q4
  rw [hp3] at Q5 Q6
  obtain ⟨b1, z1⟩ := p1
  obtain ⟨c2, z2⟩ := p2
  obtain ⟨k3, z3⟩ := p3
  clear hp1 hp2 hp3
  have c0 := cell_at_block (off := 0) HZ0.out rfl
  have c1 := cell_at_block (off := 1) HZ0.out rfl
  go_enter Tryz.func8, Tryz.ntmps8
  go_upto_region 1 with fail
  rw [HW0.out]
  go_wp2_with fail
  (with_reducible refine Q1.out.mono ?_)
  rintro e w1 ⟨rfl, hb1⟩
  have HB1 := Lib.hid hb1
  have hz1 := (hb1.block _ (Array.getElem?_eq_some_iff.1 HZ0.out).1).trans HZ0.out
  have y0 := cell_at_block (off := 0) hz1 rfl
  have y1 := cell_at_block (off := 1) hz1 rfl
  clear hb1 hz1 Q1 c0 c1
  go_wp2_with fail
  (with_reducible refine (Q2.out _ HB1.out).mono ?_)
  rintro e w2 ⟨rfl, hb2⟩
  have HB2 := Lib.hid (bchain HB1.out hb2)
  have e1 : (b1 != b1) = false := by simp
  have e2 : (z1 != z1) = false := by simp
  clear hb2 Q2 y0 y1
  go_wp2_with fail
  (with_reducible refine (Q3.out _ HB2.out).mono ?_)
  rintro e w3 ⟨⟨u3, rfl, hu3⟩, hb3⟩
  have HB3 := Lib.hid (bchain HB2.out hb3)
  have HU3 := Lib.hid hu3
  clear hb3 hu3 Q3 e1 e2
  go_wp2_with fail
  (with_reducible refine (Q4.out _ HB3.out).mono ?_)
  rintro e w4 ⟨⟨u4, rfl, hu4⟩, hb4⟩
  have HB4 := Lib.hid (bchain HB3.out hb4)
  have HU3' := Lib.hid (IntsAt.below HU3.out hb4)
  have HU4 := Lib.hid hu4
  clear hb4 hu4 Q4 HU3
  go_wp2_with fail
  (with_reducible refine (Q5.out _ HB4.out).mono ?_)
  rintro e w5 ⟨⟨u5, rfl, hu5⟩, hb5⟩
  have HB5 := Lib.hid (bchain HB4.out hb5)
  have HU35 := Lib.hid (IntsAt.below HU3'.out hb5)
  have HU45 := Lib.hid (IntsAt.below HU4.out hb5)
  have HU5 := Lib.hid hu5
  clear hb5 hu5 Q5 HU3' HU4
  go_wp2_with fail
  (with_reducible refine (Q6.out _ HB5.out).mono ?_)
  rintro e w6 ⟨⟨u6, rfl, hu6⟩, hb6⟩
  have HB6 := Lib.hid (bchain HB5.out hb6)
  have HU56 := Lib.hid (RowsAt.below HU5.out hb6)
  have QO := Lib.hid (Order_any u3.A u4.A u3.n u4.n u3.cap u4.cap c2 c2 w6 (IntsAt.below HU35.out hb6) (IntsAt.below HU45.out hb6))
  have HU6 := Lib.hid hu6
  rw [orderC_zero.2 rfl] at QO
  have e1 : (z2 == z2) = true := by simp
  have e2 : (z3 == z3) = true := by simp
  clear hb6 hu6 Q6 HU35 HU45 HU5
  go_wp2_with fail
  (with_reducible refine QO.out.mono ?_)
  rintro e w7 ⟨rfl, hd7⟩
  have HB7 := Lib.hid (bchain HB6.out hd7.below)
  have QS := Lib.hid (SameRows_any u5.A u6.A u5.n u6.n u5.cap u6.cap k3 k3 w7 (RowsAt.below HU56.out hd7.below) (RowsAt.below HU6.out hd7.below))
  rw [decide_eq_true rfl] at QS
  clear hd7 QO
  go_wp2_with fail
  (with_reducible refine QS.out.mono ?_)
  rintro e w8 ⟨rfl, hd8⟩
  have HB8 := Lib.hid (bchain HB7.out hd8.below)
  have QK := Lib.hid (known_any w8 (HD.out.below (bchain HB7.out hd8.below)))
  clear hd8 QS
  go_wp2_with fail
  (with_reducible refine QK.out.mono ?_)
  rintro e w9 ⟨rfl, hb9⟩
  have HB9 := Lib.hid (bchain HB0.out (bchain HB8.out hb9))
  clear hb9 QK
  go_wp2_with fail
  go_ret
  exact ⟨rfl, HB9.out⟩
end Go.Proofs.Bg
end
