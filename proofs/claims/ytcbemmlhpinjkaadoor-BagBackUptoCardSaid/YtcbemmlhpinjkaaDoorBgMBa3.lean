/- Texts of our own, merged: BgReadP BgCode BgCodeItem BgRead1 BgTextP BgEqual BgEqualB BgRet BgLawBack. -/
import Derived.Test.YtcbemmlhpinjkaaDoorBgMBa2
import Derived.Deep.RegionHeld3
import Derived.Deep.RegionWith
import Derived.Deep.DeepCutAuto
import Derived.Laws.Rows
import Derived.Deep.Onto
import Derived.BigQuiet
import Derived.Deep.QuietTactic
import Derived.Test.YtcbemmlhpinjkaaDoorBgMBa1

section
/- Plain law: a bag comes back from its bytes, and what is taken as bytes is what is written for it. No memory. -/
namespace Go.Proofs.Bg

/-! ### reading -/
/-- A number from 0 on, so many groups at most; i groups, of the value n, have been read. -/
def dNumF : Nat → Nat → Int → List Int → Option (Int × List Int)
  | 0, _, _, _ => none
  | _ + 1, _, _, [] => none
  | f + 1, i, n, x :: r => if x < 128 then (if 0 < x ∨ i = 0 then some (n + x * 128 ^ i, r) else none) else dNumF f (i + 1) (n + (x - 128) * 128 ^ i) r
def dNum (s : List Int) : Option (Int × List Int) := dNumF 5 0 0 s
def unzig (n : Int) : Int := if n % 2 = 1 then -((n + 1) / 2) else n / 2
def dInt (s : List Int) : Option (Int × List Int) := match dNum s with | some (n, r) => some (unzig n, r) | none => none
def dKey (same : Bool) (b : Int) (s : List Int) : Option (Int × List Int) := if same then (match dNum s with | some (n, r) => some (b + n, r) | none => none) else dInt s
def dItem (b : Rc) (first : Bool) (s : List Int) : Option (It × List Int) :=
  match dNum s with
  | none => none
  | some (a, s1) => match dKey (!first && (b.at_ + a == b.at_)) b.key s1 with
    | none => none
    | some (k, s2) => match dKey ((!first && (b.at_ + a == b.at_)) && (k == b.key)) b.val s2 with
      | none => none
      | some (v, s3) => match dInt s3 with
        | none => none
        | some (n, s4) => some (⟨⟨b.at_ + a, k, v⟩, n⟩, s4)
def lastR : List It → Rc
  | [] => zeroRc
  | [x] => x.r
  | _ :: y :: r => lastR (y :: r)
theorem lastR_snoc (L : List It) (x : It) : lastR (L ++ [x]) = x.r := by
  induction L with
  | nil => rfl
  | cons y r ih =>
    cases r with
    | nil => rfl
    | cons z t => exact ih
def dAll : Nat → List Int → List It → Option (List It × List Int)
  | 0, s, L => some (L, s)
  | m + 1, s, L => match dItem (lastR L) L.isEmpty s with
    | none => none
    | some (x, r) => dAll m r (L ++ [x])
/-- What bytes say, before it is asked whether that is a bag. -/
def dBag (s : List Int) : Option (List It) :=
  match dNum s with
  | none => none
  | some (m, r) => if m ≤ 300 then (match dAll m.toNat r [] with | some (l, []) => some l | _ => none) else none
def readR (s : List Int) : List It × Int := readB (dBag s)

/-! ### numbers -/
theorem pow_step (i : Nat) : (128 : Int) ^ (i + 1) = 128 ^ i * 128 := Int.pow_succ 128 i
theorem dNumF_num : ∀ (f g i : Nat) (n acc : Int) (t : List Int), 0 < f → 0 ≤ n → n < 128 ^ f → f ≤ g + 1 → (0 < n ∨ i = 0) → dNumF f i acc (numF g n ++ t) = some (acc + n * 128 ^ i, t)
  | 0, _, _, _, _, _, hf, _, _, _, _ => absurd hf (by omega)
  | f + 1, g, i, n, acc, t, _, h0, h1, hg, hi => by
    by_cases hs : n < 128
    · have e : numF g n = [n] := by cases g <;> simp [numF, hs]
      simp only [e, List.cons_append, List.nil_append, dNumF, hs, if_true, hi]
    · obtain ⟨g', rfl⟩ : ∃ g', g = g' + 1 := by
        cases g with
        | zero =>
          have : f = 0 := by omega
          subst this
          simp at h1
          omega
        | succ g' => exact ⟨g', rfl⟩
      have h1' : n / 128 < 128 ^ f := by
        rw [Int.pow_succ] at h1
        exact Int.ediv_lt_of_lt_mul (by omega) h1
      have hf : 0 < f := by
        cases f with
        | zero => simp at h1'; omega
        | succ f => omega
      have ih := dNumF_num f g' (i + 1) (n / 128) (acc + (n % 128) * 128 ^ i) t hf (by omega) h1' (by omega) (.inl (by omega))
      have e : numF (g' + 1) n = (n % 128 + 128) :: numF g' (n / 128) := by rw [numF, if_neg hs]
      have e2 : n % 128 + 128 - 128 = n % 128 := by omega
      simp only [e, List.cons_append, dNumF, e2]
      rw [if_neg (by omega), ih, pow_step]
      congr 2
      have e3 : n = n % 128 + 128 * (n / 128) := by omega
      conv => rhs; rw [e3, Int.add_mul]
      rw [Int.add_assoc]
      congr 2
      rw [Int.mul_comm ((128 : Int) ^ i) 128, ← Int.mul_assoc, Int.mul_comm (n / 128) 128]
/-- Bytes. -/
def Byt (s : List Int) : Prop := ∀ x ∈ s, 0 ≤ x ∧ x ≤ 255
theorem dNumF_back : ∀ (f i : Nat) (acc m : Int) (s r : List Int), Byt s → dNumF f i acc s = some (m, r) → ∃ n, 0 ≤ n ∧ n < 128 ^ f ∧ (0 < n ∨ i = 0) ∧ m = acc + n * 128 ^ i ∧ Byt r ∧ ∀ g, f ≤ g + 1 → s = numF g n ++ r
  | 0, _, _, _, _, _, _, h => by cases h
  | f + 1, i, acc, m, [], r, _, h => by cases h
  | f + 1, i, acc, m, x :: s, r, hb, h => by
    have hx := hb x List.mem_cons_self
    have hs : Byt s := fun y hy => hb y (List.mem_cons_of_mem _ hy)
    rw [dNumF] at h
    have hp : (0 : Int) < 128 ^ f := Int.pow_pos (by omega)
    split at h
    · rename_i hlt
      split at h
      · rename_i hc
        simp only [Option.some.injEq, Prod.mk.injEq] at h
        obtain ⟨rfl, rfl⟩ := h
        refine ⟨x, hx.1, ?_, hc, rfl, hs, fun g _ => ?_⟩
        · rw [Int.pow_succ]; omega
        · have e : numF g x = [x] := by cases g <;> simp [numF, hlt]
          rw [e]
          rfl
      · cases h
    · rename_i hge
      obtain ⟨n, n0, n1, n2, n3, n4, n5⟩ := dNumF_back f (i + 1) _ m s r hs h
      have hn : 0 < n := by rcases n2 with h | h <;> omega
      refine ⟨(x - 128) + 128 * n, by omega, ?_, .inl (by omega), ?_, n4, fun g hg => ?_⟩
      · rw [Int.pow_succ]; omega
      · rw [n3, pow_step, Int.add_mul, Int.add_assoc]
        congr 2
        rw [Int.mul_comm ((128 : Int) ^ i) 128, ← Int.mul_assoc, Int.mul_comm n 128]
      · obtain ⟨g', rfl⟩ : ∃ g', g = g' + 1 := by
          cases g with
          | zero =>
            have : f = 0 := by omega
            subst this
            simp at n1
            omega
          | succ g' => exact ⟨g', rfl⟩
        have e : numF (g' + 1) (x - 128 + 128 * n) = x :: numF g' n := by
          rw [numF, if_neg (by omega)]
          have e1 : (x - 128 + 128 * n) % 128 + 128 = x := by omega
          have e2 : (x - 128 + 128 * n) / 128 = n := by omega
          rw [e1, e2]
        rw [e, n5 g' (by omega)]
        rfl
theorem dNum_num {n : Int} (h0 : 0 ≤ n) (h1 : n < 34359738368) (t : List Int) : dNum (numB n ++ t) = some (n, t) := by
  unfold dNum numB
  rw [dNumF_num 5 9 0 n 0 t (by omega) h0 (by simpa using h1) (by omega) (.inr rfl)]
  simp
theorem dNum_back {s r : List Int} {m : Int} (hb : Byt s) (h : dNum s = some (m, r)) : 0 ≤ m ∧ m < 34359738368 ∧ Byt r ∧ s = numB m ++ r := by
  obtain ⟨n, n0, n1, _, n3, n4, n5⟩ := dNumF_back 5 0 0 m s r hb h
  have e : m = n := by simpa using n3
  subst e
  exact ⟨n0, by simpa using n1, n4, n5 9 (by omega)⟩
theorem dInt_int {n : Int} (h0 : -1000000000 ≤ n) (h1 : n ≤ 1000000000) (t : List Int) : dInt (intB n ++ t) = some (n, t) := by
  unfold dInt intB
  by_cases hn : n < 0
  · rw [if_pos hn, dNum_num (by omega) (by omega)]
    simp only [unzig]
    rw [if_pos (by omega)]
    congr 2
    omega
  · rw [if_neg hn, dNum_num (by omega) (by omega)]
    simp only [unzig]
    rw [if_neg (by omega)]
    congr 2
    omega
theorem unzig_bd {n : Int} (h0 : 0 ≤ n) (h1 : n < 34359738368) : -17179869184 ≤ unzig n ∧ unzig n ≤ 17179869184 := by
  unfold unzig
  split <;> omega
theorem dInt_back {s r : List Int} {m : Int} (hb : Byt s) (h : dInt s = some (m, r)) : -17179869184 ≤ m ∧ m ≤ 17179869184 ∧ Byt r ∧ s = intB m ++ r := by
  unfold dInt at h
  cases e : dNum s with
  | none => rw [e] at h; cases h
  | some q =>
    obtain ⟨n, r'⟩ := q
    rw [e] at h
    simp only [Option.some.injEq, Prod.mk.injEq] at h
    obtain ⟨rfl, rfl⟩ := h
    obtain ⟨n0, n1, n2, n3⟩ := dNum_back hb e
    have hu := unzig_bd n0 n1
    refine ⟨hu.1, hu.2, n2, ?_⟩
    rw [n3]
    congr 1
    unfold intB unzig
    by_cases hp : n % 2 = 1
    · rw [if_pos hp, if_pos (by omega)]
      congr 1
      omega
    · rw [if_neg hp, if_neg (by omega)]
      congr 1
      omega

/-! ### items -/
theorem dKey_enc (same : Bool) (b k : Int) (hs : same = true → b ≤ k ∧ k - b < 34359738368) (hn : same = false → -1000000000 ≤ k ∧ k ≤ 1000000000) (t : List Int) : dKey same b ((if same then numB (k - b) else intB k) ++ t) = some (k, t) := by
  cases same with
  | true =>
    have := hs rfl
    simp only [dKey, if_true, dNum_num (n := k - b) (by omega) (by omega) t]
    congr 2
    omega
  | false =>
    have := hn rfl
    simp only [dKey, Bool.false_eq_true, if_false, dInt_int this.1 this.2 t]
theorem dKey_back {same : Bool} {b k : Int} {s r : List Int} (hb : Byt s) (h : dKey same b s = some (k, r)) : (b - 17179869184 ≤ k ∨ -17179869184 ≤ k) ∧ (k ≤ b + 34359738368 ∨ k ≤ 34359738368) ∧ Byt r ∧ s = (if same then numB (k - b) else intB k) ++ r := by
  cases same with
  | true =>
    simp only [dKey, if_true] at h
    cases e : dNum s with
    | none => rw [e] at h; cases h
    | some q =>
      obtain ⟨n, r'⟩ := q
      rw [e] at h
      simp only [Option.some.injEq, Prod.mk.injEq] at h
      obtain ⟨rfl, rfl⟩ := h
      obtain ⟨n0, n1, n2, n3⟩ := dNum_back hb e
      refine ⟨by omega, by omega, n2, ?_⟩
      have : b + n - b = n := by omega
      simp only [if_true, this]
      exact n3
  | false =>
    simp only [dKey, Bool.false_eq_true, if_false] at h
    obtain ⟨n0, n1, n2, n3⟩ := dInt_back hb h
    exact ⟨by omega, by omega, n2, by simpa using n3⟩
def sm (L : List It) (x : It) : Bool := !L.isEmpty && (x.r.at_ == (lastR L).at_)
theorem dItem_enc {L : List It} {x : It} (hx : itB x = true) (h1 : (lastR L).at_ ≤ x.r.at_ ∧ 0 ≤ (lastR L).at_) (h2 : sm L x = true → (lastR L).key ≤ x.r.key ∧ ((lastR L).key = x.r.key → (lastR L).val ≤ x.r.val)) (h3 : -1000000000 ≤ (lastR L).key ∧ (lastR L).key ≤ 1000000000 ∧ -1000000000 ≤ (lastR L).val ∧ (lastR L).val ≤ 1000000000) (t : List Int) :
    dItem (lastR L) L.isEmpty (encOne (sm L x) (lastR L) x ++ t) = some (x, t) := by
  have hb := (itB_spec x).1 hx
  unfold encOne dItem
  have e1 : (lastR L).at_ + (x.r.at_ - (lastR L).at_) = x.r.at_ := by omega
  simp only [List.append_assoc, dNum_num (n := x.r.at_ - (lastR L).at_) (by omega) (by omega), e1]
  have e2 : (!L.isEmpty && (x.r.at_ == (lastR L).at_)) = sm L x := rfl
  simp only [e2]
  unfold keyB
  rw [dKey_enc _ _ _ (fun h => by have := h2 h; omega) (fun _ => by omega)]
  simp only
  unfold valB
  have e3 : (x.r.key == (lastR L).key) = true → x.r.key = (lastR L).key := fun h => by simpa using h
  rw [dKey_enc _ _ _ (fun h => by
    rw [Bool.and_eq_true] at h
    have := (h2 h.1).2 (e3 h.2).symm
    omega) (fun _ => by omega)]
  simp only [dInt_int (n := x.n) (by omega) (by omega)]
theorem dItem_back {L : List It} {x : It} {s r : List Int} (hb : Byt s) (h : dItem (lastR L) L.isEmpty s = some (x, r)) : Byt r ∧ s = encOne (sm L x) (lastR L) x ++ r := by
  unfold dItem at h
  cases h1 : dNum s with
  | none => rw [h1] at h; cases h
  | some p1 =>
    obtain ⟨a, s1⟩ := p1
    rw [h1] at h
    simp only at h
    obtain ⟨a0, a1, a2, a3⟩ := dNum_back hb h1
    cases h2 : dKey (!L.isEmpty && ((lastR L).at_ + a == (lastR L).at_)) (lastR L).key s1 with
    | none => rw [h2] at h; cases h
    | some p2 =>
      obtain ⟨k, s2⟩ := p2
      rw [h2] at h
      simp only at h
      obtain ⟨_, _, b2, b3⟩ := dKey_back a2 h2
      cases h3 : dKey ((!L.isEmpty && ((lastR L).at_ + a == (lastR L).at_)) && (k == (lastR L).key)) (lastR L).val s2 with
      | none => rw [h3] at h; cases h
      | some p3 =>
        obtain ⟨v, s3⟩ := p3
        rw [h3] at h
        simp only at h
        obtain ⟨_, _, c2, c3⟩ := dKey_back b2 h3
        cases h4 : dInt s3 with
        | none => rw [h4] at h; cases h
        | some p4 =>
          obtain ⟨n, s4⟩ := p4
          rw [h4] at h
          simp only [Option.some.injEq, Prod.mk.injEq] at h
          obtain ⟨rfl, rfl⟩ := h
          obtain ⟨_, _, d2, d3⟩ := dInt_back c2 h4
          refine ⟨d2, ?_⟩
          rw [a3, b3, c3, d3]
          have e1 : (lastR L).at_ + a - (lastR L).at_ = a := by omega
          simp only [encOne, keyB, valB, sm, e1, List.append_assoc]
          rfl

/-! ### bags -/
def encF : List It → List It → List Int
  | _, [] => []
  | L, x :: r => encOne (sm L x) (lastR L) x ++ encF (L ++ [x]) r
theorem befR_last (L R : List It) : befR (L ++ R) L.length = lastR L := by
  cases h : L.length with
  | zero =>
    rw [List.length_eq_zero_iff.1 h]
    rfl
  | succ k =>
    have hne : L ≠ [] := fun e => by rw [e] at h; simp at h
    obtain ⟨L', x, rfl⟩ : ∃ L' x, L = L' ++ [x] := ⟨L.dropLast, L.getLast hne, (List.dropLast_concat_getLast _).symm⟩
    have hk : k = L'.length := by simp at h; omega
    subst hk
    have : ((L' ++ [x]) ++ R)[L'.length]? = some x := by simp
    simp only [befR, this, lastR_snoc]
theorem encAt_mid (L R : List It) (x : It) : encAt (L ++ x :: R) L.length = encOne (sm L x) (lastR L) x := by
  have hx : (L ++ x :: R)[L.length]? = some x := by simp
  unfold encAt
  rw [hx]
  simp only [sameB, befR_last]
  have : decide (0 < L.length) = !L.isEmpty := by cases L <;> simp
  rw [this]
  rfl
theorem encTo_encF : ∀ (R L : List It), encTo (L ++ R) (L.length + R.length) = encTo (L ++ R) L.length ++ encF L R
  | [], L => by simp [encF]
  | x :: r, L => by
    have ih := encTo_encF r (L ++ [x])
    have e1 : L ++ [x] ++ r = L ++ x :: r := by simp
    have e2 : (L ++ [x]).length = L.length + 1 := by simp
    rw [e1, e2, encTo_succ, encAt_mid] at ih
    have e3 : L.length + (x :: r).length = L.length + 1 + r.length := by simp; omega
    rw [e3, ih, encF, List.append_assoc]
theorem bytesOf_encF (l : List It) : bytesOf l = numB l.length ++ encF [] l := by
  have := encTo_encF l []
  simp only [List.nil_append, List.length_nil, Nat.zero_add] at this
  rw [bytesOf, this]
  simp [encTo]
theorem dAll_enc (l : List It) (hl : bagB l = true) : ∀ (R L : List It) (t : List Int), L ++ R = l → dAll R.length (encF L R ++ t) L = some (l, t)
  | [], L, t, e => by
    rw [← e]
    simp [dAll, encF]
  | x :: r, L, t, e => by
    have hx : l[L.length]? = some x := by rw [← e]; simp
    have hb := bef_le ((bagB_spec l).1 hl).2.1 ((bagB_spec l).1 hl).1 hx
    have hbr : befR l L.length = lastR L := by rw [← e]; exact befR_last L (x :: r)
    have hsm : sameB l L.length x = sm L x := by
      unfold sameB sm
      rw [hbr]
      congr 1
      cases L <;> simp
    rw [hbr, hsm] at hb
    obtain ⟨b1, b2, b3, b4⟩ := hb
    have hi := dItem_enc (L := L) (((bagB_spec l).1 hl).1 x (List.mem_of_getElem? hx)) ⟨b1, b2⟩ b3 b4 (encF (L ++ [x]) r ++ t)
    have ih := dAll_enc l hl r (L ++ [x]) t (by rw [← e]; simp)
    rw [List.length_cons, encF, List.append_assoc, dAll, hi]
    exact ih
theorem dAll_back : ∀ (m : Nat) (s r : List Int) (L l : List It), Byt s → dAll m s L = some (l, r) → ∃ R, l = L ++ R ∧ R.length = m ∧ s = encF L R ++ r
  | 0, s, r, L, l, _, h => by
    simp only [dAll, Option.some.injEq, Prod.mk.injEq] at h
    obtain ⟨rfl, rfl⟩ := h
    exact ⟨[], by simp, rfl, by simp [encF]⟩
  | m + 1, s, r, L, l, hb, h => by
    rw [dAll] at h
    cases h1 : dItem (lastR L) L.isEmpty s with
    | none => rw [h1] at h; cases h
    | some p =>
      obtain ⟨x, s1⟩ := p
      rw [h1] at h
      simp only at h
      obtain ⟨b1, e1⟩ := dItem_back hb h1
      obtain ⟨R, e2, e3, e4⟩ := dAll_back m s1 r (L ++ [x]) l b1 h
      exact ⟨x :: R, by rw [e2]; simp, by simp [e3], by rw [e1, e4, encF, List.append_assoc]⟩
/-- A bag comes back from its bytes. -/
theorem read_bytes {b : List It} (h : bagB b = true) : readR (bytesOf b) = (b, 0) := by
  have hl := ((bagB_spec b).1 h).2.2
  have h1 := dAll_enc b h b [] [] (by simp)
  rw [List.append_nil] at h1
  have e : dBag (bytesOf b) = some b := by
    unfold dBag
    rw [bytesOf_encF, dNum_num (by omega) (by omega)]
    simp only [Int.toNat_natCast, h1]
    rw [if_pos (by omega)]
  unfold readR
  rw [e]
  simp [readB, h]
/-- What is taken is what is written. -/
theorem read_back {s : List Int} (hs : Byt s) (h : (readR s).2 = 0) : bagB (readR s).1 = true ∧ bytesOf (readR s).1 = s := by
  unfold readR at *
  cases e : dBag s with
  | none => rw [e] at h; simp [readB] at h
  | some l =>
    rw [e] at h
    cases hb : bagB l with
    | false => simp [readB, hb] at h
    | true =>
      simp only [readB, hb, if_true]
      refine ⟨trivial, ?_⟩
      unfold dBag at e
      cases h1 : dNum s with
      | none => rw [h1] at e; cases e
      | some p =>
        obtain ⟨m, r⟩ := p
        rw [h1] at e
        simp only at e
        obtain ⟨m0, m1, m2, m3⟩ := dNum_back hs h1
        split at e
        · cases h2 : dAll m.toNat r [] with
          | none => rw [h2] at e; cases e
          | some q =>
            obtain ⟨l2, t⟩ := q
            rw [h2] at e
            cases t with
            | cons _ _ => cases e
            | nil =>
              simp only [Option.some.injEq] at e
              subst e
              obtain ⟨R, e2, e3, e4⟩ := dAll_back m.toNat r [] [] l2 m2 h2
              have : R = l2 := by simpa using e2.symm
              subst this
              rw [bytesOf_encF, m3, e4, e3]
              have : ((m.toNat : Nat) : Int) = m := by omega
              rw [this]
              simp
        · cases e
theorem read_err (s : List Int) : (readR s).2 = 0 ∨ readR s = ([], 4) := by
  unfold readR readB
  cases dBag s with
  | none => exact .inr rfl
  | some l =>
    simp only
    split
    · exact .inl rfl
    · exact .inr rfl
end Go.Proofs.Bg
end

section
/- The contract of code.number. -/
namespace Go.Proofs.Bg
open Go.RowKit

/-- What the loop holds. -/
def NumC (tb : Nat) (w : World) (R : Option (Int × List Int)) (n : Int) (i : Nat) (rest : List Int) (wr : World) : Prop :=
  LeftIs wr tb 96 rest ∧ w.grownBy wr (some tb) ∧ dNumF (5 - i) i n rest = R ∧ 0 ≤ n ∧ n < 128 ^ i

set_option maxRecDepth 100000 in
set_option maxHeartbeats 2000000 in
theorem cnum_any (tb : Nat) (s : List Int) (w : World) (h : LeftIs w tb 96 s) :
    Calls Tryd.prog 57 #[.pointer (some ⟨tb, 0, none⟩)] w (Reads tb 96 w ((dNum s).map fun p => (.int .i64 p.1, p.2))) := by
  obtain ⟨R, hR⟩ : ∃ R, dNum s = R := ⟨_, rfl⟩
  have HR := Lib.hid hR
  have HRel0 : Hid (NumC tb w R 0 0 s w) := ⟨h, World.grownBy.refl _ _, hR, by omega, by omega⟩
  clear h hR
  go_enter Tryd.func57, Tryd.ntmps57
  go_wp2_with fail
  go_loopw [3, 6] (fun v j wr => ∃ (i : Nat) (n : Int) (rest : List Int), i ≤ 5 ∧ j = .int .i64 i ∧ v = .int .i64 n ∧ NumC tb w R n i rest wr) (fun _ j _ => 5 - (intOf j).toNat)
  case atStart => exact ⟨0, _, _, by omega, rfl, rfl, HRel0.out⟩
  case round =>
    clear HRel0
    obtain ⟨i, n, rest, hi, rfl, rfl, hl, hg, hr, hn0, hn1⟩ := hrel
    have HL := Lib.hid hl
    have HG := Lib.hid hg
    have HRR := Lib.hid hr
    clear hl hg hr
    by_cases h5 : i = 5
    · subst h5
      have HZ : Hid (R = none) := by show _ = _; rw [← HRR.out]; rfl
      clear hn0 hn1
      go_wp2_with fail
      refine ⟨rfl, ?_⟩
      show Reads tb _ w _ _ _
      rw [HR.out, HZ.out]
      exact ⟨rfl, HG.out⟩
    · have h5 : i = 0 ∨ i = 1 ∨ i = 2 ∨ i = 3 ∨ i = 4 := by omega
      cases rest with
      | nil =>
        have HZ : Hid (R = none) := by
          show _ = _
          rw [← HRR.out]
          rcases h5 with rfl | rfl | rfl | rfl | rfl <;> rfl
        have HN := Lib.hid (next_no tb _ _ HL.out)
        have hlt : i < 5 := by omega
        clear h5 hn0 hn1
        go_wp2_with (go_at_call 71; (with_reducible refine HN.out.mono ?_); rintro e w' ⟨rfl, rfl⟩)
        refine ⟨rfl, ?_⟩
        show Reads tb _ w _ _ _
        rw [HR.out, HZ.out]
        exact ⟨rfl, HG.out⟩
      | cons x r =>
        obtain ⟨b, off, cap, c0, d0, hx0, hx1⟩ := HL.out.head
        have HN := Lib.hid (next_yes tb _ x r _ HL.out)
        have hnb : n < 34359738368 := by
          rcases h5 with rfl | rfl | rfl | rfl | rfl <;> simp at hn1 <;> omega
        rcases h5 with rfl | rfl | rfl | rfl | rfl
        · by_cases h128 : x < 128
          · have hd : decide (x < 128) = true := by simpa using h128
            have hxm : x % 128 = x := by omega
            have HF : Hid (R = some (n + x, r)) := by
              show _ = _
              rw [← HRR.out]
              show (if x < 128 then (if 0 < x ∨ 0 = 0 then some (n + x * 128 ^ 0, r) else none) else _) = _
              rw [if_pos h128, if_pos (.inr rfl)]
              simp
            go_wp2_with (first | (go_at_call 71; (with_reducible refine HN.out.mono ?_); rintro e w' ⟨rfl, hl, hg⟩; have HL2 := Lib.hid hl; have HG2 := Lib.hid hg; clear hl hg) | (go_at_call 58; (with_reducible refine (need_yes _).mono ?_); rintro e w' ⟨rfl, rfl⟩))
            all_goals go_ret
            all_goals show Reads tb _ w _ _ _
            all_goals rw [HR.out, HF.out]
            all_goals exact ⟨rfl, HL2.out, HG.out.then_ HG2.out (fun _ e => .inr e)⟩
          · have hd : decide (x < 128) = false := by simpa using h128
            have hxm : x - 128 = x % 128 := by omega
            have HF : Hid (dNumF (5 - (0 + 1)) (0 + 1) (n + x % 128) r = R) := by
              show _ = _
              rw [← HRR.out]
              show _ = (if x < 128 then _ else dNumF (5 - (0 + 1)) (0 + 1) (n + (x - 128) * 128 ^ 0) r)
              rw [if_neg h128, hxm]
              simp
            have hnb2 : 0 ≤ n + x % 128 ∧ n + x % 128 < 128 ^ (0 + 1) := by
              simp at hn1 ⊢
              omega
            go_wp2_with (first | (go_at_call 71; (with_reducible refine HN.out.mono ?_); rintro e w' ⟨rfl, hl, hg⟩; have HL2 := Lib.hid hl; have HG2 := Lib.hid hg; clear hl hg))
            exact ⟨⟨0 + 1, _, r, by omega, by go_num, rfl, HL2.out, HG.out.then_ HG2.out (fun _ e => .inr e), HF.out, hnb2.1, hnb2.2⟩, by simp [intOf]⟩
        · by_cases h128 : x < 128
          · have hd : decide (x < 128) = true := by simpa using h128
            by_cases hx : 0 < x
            · have hq : decide (0 < x) = true := by simpa using hx
              have hxm : x % 128 = x := by omega
              have HF : Hid (R = some (n + x * 128, r)) := by
                show _ = _
                rw [← HRR.out]
                show (if x < 128 then (if 0 < x ∨ 1 = 0 then some (n + x * 128 ^ 1, r) else none) else _) = _
                rw [if_pos h128, if_pos (.inl hx)]
                simp
              go_wp2_with (first | (go_at_call 71; (with_reducible refine HN.out.mono ?_); rintro e w' ⟨rfl, hl, hg⟩; have HL2 := Lib.hid hl; have HG2 := Lib.hid hg; clear hl hg) | (go_at_call 58; (with_reducible refine (need_yes _).mono ?_); rintro e w' ⟨rfl, rfl⟩))
              all_goals go_ret
              all_goals show Reads tb _ w _ _ _
              all_goals rw [HR.out, HF.out]
              all_goals exact ⟨rfl, HL2.out, HG.out.then_ HG2.out (fun _ e => .inr e)⟩
            · have hq : decide (0 < x) = false := by simpa using hx
              have HF : Hid (R = none) := by
                show _ = _
                rw [← HRR.out]
                show (if x < 128 then (if 0 < x ∨ 1 = 0 then some (n + x * 128 ^ 1, r) else none) else _) = _
                rw [if_pos h128, if_neg (by omega)]
              go_wp2_with (first | (go_at_call 71; (with_reducible refine HN.out.mono ?_); rintro e w' ⟨rfl, hl, hg⟩; have HL2 := Lib.hid hl; have HG2 := Lib.hid hg; clear hl hg) | (go_at_call 58; (with_reducible refine (need_no _).mono ?_); rintro e w' ⟨rfl, rfl⟩))
              refine ⟨rfl, ?_⟩
              show Reads tb _ w _ _ _
              rw [HR.out, HF.out]
              exact ⟨rfl, HG.out.then_ HG2.out (fun _ e => .inr e)⟩
          · have hd : decide (x < 128) = false := by simpa using h128
            have hxm : x - 128 = x % 128 := by omega
            have HF : Hid (dNumF (5 - (1 + 1)) (1 + 1) (n + x % 128 * 128) r = R) := by
              show _ = _
              rw [← HRR.out]
              show _ = (if x < 128 then _ else dNumF (5 - (1 + 1)) (1 + 1) (n + (x - 128) * 128 ^ 1) r)
              rw [if_neg h128, hxm]
              simp
            have hnb2 : 0 ≤ n + x % 128 * 128 ∧ n + x % 128 * 128 < 128 ^ (1 + 1) := by
              simp at hn1 ⊢
              omega
            go_wp2_with (first | (go_at_call 71; (with_reducible refine HN.out.mono ?_); rintro e w' ⟨rfl, hl, hg⟩; have HL2 := Lib.hid hl; have HG2 := Lib.hid hg; clear hl hg))
            exact ⟨⟨1 + 1, _, r, by omega, by go_num, rfl, HL2.out, HG.out.then_ HG2.out (fun _ e => .inr e), HF.out, hnb2.1, hnb2.2⟩, by simp [intOf]⟩
        · by_cases h128 : x < 128
          · have hd : decide (x < 128) = true := by simpa using h128
            by_cases hx : 0 < x
            · have hq : decide (0 < x) = true := by simpa using hx
              have hxm : x % 128 = x := by omega
              have HF : Hid (R = some (n + x * 16384, r)) := by
                show _ = _
                rw [← HRR.out]
                show (if x < 128 then (if 0 < x ∨ 2 = 0 then some (n + x * 128 ^ 2, r) else none) else _) = _
                rw [if_pos h128, if_pos (.inl hx)]
                simp
              go_wp2_with (first | (go_at_call 71; (with_reducible refine HN.out.mono ?_); rintro e w' ⟨rfl, hl, hg⟩; have HL2 := Lib.hid hl; have HG2 := Lib.hid hg; clear hl hg) | (go_at_call 58; (with_reducible refine (need_yes _).mono ?_); rintro e w' ⟨rfl, rfl⟩))
              all_goals go_ret
              all_goals show Reads tb _ w _ _ _
              all_goals rw [HR.out, HF.out]
              all_goals exact ⟨rfl, HL2.out, HG.out.then_ HG2.out (fun _ e => .inr e)⟩
            · have hq : decide (0 < x) = false := by simpa using hx
              have HF : Hid (R = none) := by
                show _ = _
                rw [← HRR.out]
                show (if x < 128 then (if 0 < x ∨ 2 = 0 then some (n + x * 128 ^ 2, r) else none) else _) = _
                rw [if_pos h128, if_neg (by omega)]
              go_wp2_with (first | (go_at_call 71; (with_reducible refine HN.out.mono ?_); rintro e w' ⟨rfl, hl, hg⟩; have HL2 := Lib.hid hl; have HG2 := Lib.hid hg; clear hl hg) | (go_at_call 58; (with_reducible refine (need_no _).mono ?_); rintro e w' ⟨rfl, rfl⟩))
              refine ⟨rfl, ?_⟩
              show Reads tb _ w _ _ _
              rw [HR.out, HF.out]
              exact ⟨rfl, HG.out.then_ HG2.out (fun _ e => .inr e)⟩
          · have hd : decide (x < 128) = false := by simpa using h128
            have hxm : x - 128 = x % 128 := by omega
            have HF : Hid (dNumF (5 - (2 + 1)) (2 + 1) (n + x % 128 * 16384) r = R) := by
              show _ = _
              rw [← HRR.out]
              show _ = (if x < 128 then _ else dNumF (5 - (2 + 1)) (2 + 1) (n + (x - 128) * 128 ^ 2) r)
              rw [if_neg h128, hxm]
              simp
            have hnb2 : 0 ≤ n + x % 128 * 16384 ∧ n + x % 128 * 16384 < 128 ^ (2 + 1) := by
              simp at hn1 ⊢
              omega
            go_wp2_with (first | (go_at_call 71; (with_reducible refine HN.out.mono ?_); rintro e w' ⟨rfl, hl, hg⟩; have HL2 := Lib.hid hl; have HG2 := Lib.hid hg; clear hl hg))
            exact ⟨⟨2 + 1, _, r, by omega, by go_num, rfl, HL2.out, HG.out.then_ HG2.out (fun _ e => .inr e), HF.out, hnb2.1, hnb2.2⟩, by simp [intOf]⟩
        · by_cases h128 : x < 128
          · have hd : decide (x < 128) = true := by simpa using h128
            by_cases hx : 0 < x
            · have hq : decide (0 < x) = true := by simpa using hx
              have hxm : x % 128 = x := by omega
              have HF : Hid (R = some (n + x * 2097152, r)) := by
                show _ = _
                rw [← HRR.out]
                show (if x < 128 then (if 0 < x ∨ 3 = 0 then some (n + x * 128 ^ 3, r) else none) else _) = _
                rw [if_pos h128, if_pos (.inl hx)]
                simp
              go_wp2_with (first | (go_at_call 71; (with_reducible refine HN.out.mono ?_); rintro e w' ⟨rfl, hl, hg⟩; have HL2 := Lib.hid hl; have HG2 := Lib.hid hg; clear hl hg) | (go_at_call 58; (with_reducible refine (need_yes _).mono ?_); rintro e w' ⟨rfl, rfl⟩))
              all_goals go_ret
              all_goals show Reads tb _ w _ _ _
              all_goals rw [HR.out, HF.out]
              all_goals exact ⟨rfl, HL2.out, HG.out.then_ HG2.out (fun _ e => .inr e)⟩
            · have hq : decide (0 < x) = false := by simpa using hx
              have HF : Hid (R = none) := by
                show _ = _
                rw [← HRR.out]
                show (if x < 128 then (if 0 < x ∨ 3 = 0 then some (n + x * 128 ^ 3, r) else none) else _) = _
                rw [if_pos h128, if_neg (by omega)]
              go_wp2_with (first | (go_at_call 71; (with_reducible refine HN.out.mono ?_); rintro e w' ⟨rfl, hl, hg⟩; have HL2 := Lib.hid hl; have HG2 := Lib.hid hg; clear hl hg) | (go_at_call 58; (with_reducible refine (need_no _).mono ?_); rintro e w' ⟨rfl, rfl⟩))
              refine ⟨rfl, ?_⟩
              show Reads tb _ w _ _ _
              rw [HR.out, HF.out]
              exact ⟨rfl, HG.out.then_ HG2.out (fun _ e => .inr e)⟩
          · have hd : decide (x < 128) = false := by simpa using h128
            have hxm : x - 128 = x % 128 := by omega
            have HF : Hid (dNumF (5 - (3 + 1)) (3 + 1) (n + x % 128 * 2097152) r = R) := by
              show _ = _
              rw [← HRR.out]
              show _ = (if x < 128 then _ else dNumF (5 - (3 + 1)) (3 + 1) (n + (x - 128) * 128 ^ 3) r)
              rw [if_neg h128, hxm]
              simp
            have hnb2 : 0 ≤ n + x % 128 * 2097152 ∧ n + x % 128 * 2097152 < 128 ^ (3 + 1) := by
              simp at hn1 ⊢
              omega
            go_wp2_with (first | (go_at_call 71; (with_reducible refine HN.out.mono ?_); rintro e w' ⟨rfl, hl, hg⟩; have HL2 := Lib.hid hl; have HG2 := Lib.hid hg; clear hl hg))
            exact ⟨⟨3 + 1, _, r, by omega, by go_num, rfl, HL2.out, HG.out.then_ HG2.out (fun _ e => .inr e), HF.out, hnb2.1, hnb2.2⟩, by simp [intOf]⟩
        · by_cases h128 : x < 128
          · have hd : decide (x < 128) = true := by simpa using h128
            by_cases hx : 0 < x
            · have hq : decide (0 < x) = true := by simpa using hx
              have hxm : x % 128 = x := by omega
              have HF : Hid (R = some (n + x * 268435456, r)) := by
                show _ = _
                rw [← HRR.out]
                show (if x < 128 then (if 0 < x ∨ 4 = 0 then some (n + x * 128 ^ 4, r) else none) else _) = _
                rw [if_pos h128, if_pos (.inl hx)]
                simp
              go_wp2_with (first | (go_at_call 71; (with_reducible refine HN.out.mono ?_); rintro e w' ⟨rfl, hl, hg⟩; have HL2 := Lib.hid hl; have HG2 := Lib.hid hg; clear hl hg) | (go_at_call 58; (with_reducible refine (need_yes _).mono ?_); rintro e w' ⟨rfl, rfl⟩))
              all_goals go_ret
              all_goals show Reads tb _ w _ _ _
              all_goals rw [HR.out, HF.out]
              all_goals exact ⟨rfl, HL2.out, HG.out.then_ HG2.out (fun _ e => .inr e)⟩
            · have hq : decide (0 < x) = false := by simpa using hx
              have HF : Hid (R = none) := by
                show _ = _
                rw [← HRR.out]
                show (if x < 128 then (if 0 < x ∨ 4 = 0 then some (n + x * 128 ^ 4, r) else none) else _) = _
                rw [if_pos h128, if_neg (by omega)]
              go_wp2_with (first | (go_at_call 71; (with_reducible refine HN.out.mono ?_); rintro e w' ⟨rfl, hl, hg⟩; have HL2 := Lib.hid hl; have HG2 := Lib.hid hg; clear hl hg) | (go_at_call 58; (with_reducible refine (need_no _).mono ?_); rintro e w' ⟨rfl, rfl⟩))
              refine ⟨rfl, ?_⟩
              show Reads tb _ w _ _ _
              rw [HR.out, HF.out]
              exact ⟨rfl, HG.out.then_ HG2.out (fun _ e => .inr e)⟩
          · have hd : decide (x < 128) = false := by simpa using h128
            have hxm : x - 128 = x % 128 := by omega
            have HF : Hid (dNumF (5 - (4 + 1)) (4 + 1) (n + x % 128 * 268435456) r = R) := by
              show _ = _
              rw [← HRR.out]
              show _ = (if x < 128 then _ else dNumF (5 - (4 + 1)) (4 + 1) (n + (x - 128) * 128 ^ 4) r)
              rw [if_neg h128, hxm]
              simp
            have hnb2 : 0 ≤ n + x % 128 * 268435456 ∧ n + x % 128 * 268435456 < 128 ^ (4 + 1) := by
              simp at hn1 ⊢
              omega
            go_wp2_with (first | (go_at_call 71; (with_reducible refine HN.out.mono ?_); rintro e w' ⟨rfl, hl, hg⟩; have HL2 := Lib.hid hl; have HG2 := Lib.hid hg; clear hl hg))
            exact ⟨⟨4 + 1, _, r, by omega, by go_num, rfl, HL2.out, HG.out.then_ HG2.out (fun _ e => .inr e), HF.out, hnb2.1, hnb2.2⟩, by simp [intOf]⟩

theorem LeftIs.byt {w : World} {tb : Nat} {T : TypeId} {s : List Int} (h : LeftIs w tb T s) : Byt s := by
  obtain ⟨A, cap, _, _, _, _, hb⟩ := h
  exact hb

set_option maxRecDepth 100000 in
set_option maxHeartbeats 1000000 in
theorem cint_any (tb : Nat) (s : List Int) (w : World) (h : LeftIs w tb 96 s) :
    Calls Tryd.prog 73 #[.pointer (some ⟨tb, 0, none⟩)] w (Reads tb 96 w ((dInt s).map fun p => (.int .i64 p.1, p.2))) := by
  have HC := Lib.hid (cnum_any tb s w h)
  have hby := h.byt
  clear h
  cases hs : dNum s with
  | none =>
    have HZ : Hid (dInt s = none) := by show _ = _; unfold dInt; rw [hs]
    rw [hs] at HC
    clear hs
    go_enter Tryd.func73, Tryd.ntmps73
    go_wp2_with (go_at_call 57; (with_reducible refine HC.out.mono ?_); rintro e w' ⟨rfl, hg⟩; have HG := Lib.hid hg; clear hg)
    refine ⟨rfl, ?_⟩
    show Reads tb _ w _ _ _
    rw [HZ.out]
    exact ⟨rfl, HG.out⟩
  | some p =>
    obtain ⟨n, r⟩ := p
    obtain ⟨h0, h1, _, _⟩ := dNum_back hby hs
    have HZ : Hid (dInt s = some (unzig n, r)) := by show _ = _; unfold dInt; rw [hs]
    rw [hs] at HC
    clear hs hby
    by_cases ho : n % 2 = 1
    · have hq : (n % 2 == 1) = true := by simpa using ho
      have hu : unzig n = -((n + 1) / 2) := by unfold unzig; rw [if_pos ho]
      rw [hu] at HZ
      have ha : IntKind.i64.wrap (n + 1) = n + 1 := IntWalk.i64_in _ (by omega)
      have hb : IntKind.i64.wrap (-(n + 1)) = -(n + 1) := IntWalk.i64_in _ (by omega)
      have HV : Hid (wrap64 (-(n + 1).tdiv 2) = -((n + 1) / 2)) := by
        show _ = _
        rw [Int.tdiv_eq_ediv_of_nonneg (by omega)]
        exact IntWalk.wrap64_in _ (by omega)
      clear hu
      go_enter Tryd.func73, Tryd.ntmps73
      go_wp2_with (go_at_call 57; (with_reducible refine HC.out.mono ?_); rintro e w' ⟨rfl, hl, hg⟩; have HL := Lib.hid hl; have HG := Lib.hid hg; clear hl hg)
      go_ret
      show Reads tb _ w _ _ _
      rw [HZ.out]
      refine ⟨?_, HL.out, HG.out⟩
      show Ending.returned (.int .i64 (wrap64 (-(n + 1).tdiv 2))) = _
      rw [HV.out]
    · have hq : (n % 2 == 1) = false := by simpa using ho
      have hu : unzig n = n / 2 := by unfold unzig; rw [if_neg ho]
      rw [hu] at HZ
      clear hu
      go_enter Tryd.func73, Tryd.ntmps73
      go_wp2_with (go_at_call 57; (with_reducible refine HC.out.mono ?_); rintro e w' ⟨rfl, hl, hg⟩; have HL := Lib.hid hl; have HG := Lib.hid hg; clear hl hg)
      go_ret
      show Reads tb _ w _ _ _
      rw [HZ.out]
      exact ⟨rfl, HL.out, HG.out⟩
end Go.Proofs.Bg
end

section
/- The contract of code.item. -/
namespace Go.Proofs.Bg
open Go.RowKit

structure CIt (tb rb xb bb : Nat) (bf : Rc) (w0 w : World) (a b c d : Int) (rest : List Int) : Prop where
  left : LeftIs w tb 96 rest
  hx : w.heap[xb]? = some (.cells #[.int .i64 a, .int .i64 b, .int .i64 c, .int .i64 d] 33)
  hr : w.heap[rb]? = some (.cells #[.int .i64 0, .int .i64 0, .int .i64 0, .int .i64 0] 33)
  hb : w.heap[bb]? = some (.cells #[.int .i64 bf.at_, .int .i64 bf.key, .int .i64 bf.val] 31)
  g : w0.grownBy w (some tb)
  nx : xb ≠ tb
  nr : rb ≠ tb
  nb : bb ≠ tb
  xr : xb ≠ rb
  xbb : xb ≠ bb
  rbb : rb ≠ bb
  lox : w0.heap.size ≤ xb
  lor : w0.heap.size ≤ rb
theorem CIt.turn {tb rb xb bb : Nat} {bf : Rc} {w0 w w' : World} {a b c d : Int} {rest r : List Int} (h : CIt tb rb xb bb bf w0 w a b c d rest) (hl : LeftIs w' tb 96 r) (hg : w.grownBy w' (some tb)) : CIt tb rb xb bb bf w0 w' a b c d r where
  left := hl
  hx := (hg.block xb (Array.getElem?_eq_some_iff.1 h.hx).1 (fun e => h.nx (Option.some.inj e))).trans h.hx
  hr := (hg.block rb (Array.getElem?_eq_some_iff.1 h.hr).1 (fun e => h.nr (Option.some.inj e))).trans h.hr
  hb := (hg.block bb (Array.getElem?_eq_some_iff.1 h.hb).1 (fun e => h.nb (Option.some.inj e))).trans h.hb
  g := h.g.then_ hg (fun _ e => .inr e)
  nx := h.nx
  nr := h.nr
  nb := h.nb
  xr := h.xr
  xbb := h.xbb
  rbb := h.rbb
  lox := h.lox
  lor := h.lor
theorem CIt.set {tb rb xb bb : Nat} {bf : Rc} {w0 w : World} {a b c d a' b' c' d' : Int} {rest : List Int} (h : CIt tb rb xb bb bf w0 w a b c d rest) (j : Nat) (v : Int) (hc : (#[.int .i64 a, .int .i64 b, .int .i64 c, .int .i64 d] : Array Value).setIfInBounds j (.int .i64 v) = #[.int .i64 a', .int .i64 b', .int .i64 c', .int .i64 d']) : CIt tb rb xb bb bf w0 (w.setCell ⟨xb, j, none⟩ (.int .i64 v)) a' b' c' d' rest := by
  obtain ⟨s1, s2⟩ := setCell_at (off := j) h.hx (.int .i64 v)
  rw [hc] at s1
  exact ⟨h.left.grown s2 h.nx h.hx, s1, (s2.block rb (Array.getElem?_eq_some_iff.1 h.hr).1 (fun e => h.xr (Option.some.inj e).symm)).trans h.hr, (s2.block bb (Array.getElem?_eq_some_iff.1 h.hb).1 (fun e => h.xbb (Option.some.inj e).symm)).trans h.hb, World.grownBy.fresh h.g s2 h.lox, h.nx, h.nr, h.nb, h.xr, h.xbb, h.rbb, h.lox, h.lor⟩
theorem CIt.fin {tb rb xb bb : Nat} {bf : Rc} {w0 w : World} {a b c d : Int} {rest : List Int} (h : CIt tb rb xb bb bf w0 w a b c d rest) (p q r t : Value) : LeftIs ((((w.setCell ⟨rb, 0, none⟩ p).setCell ⟨rb, 1, none⟩ q).setCell ⟨rb, 2, none⟩ r).setCell ⟨rb, 3, none⟩ t) tb 96 rest ∧ w0.grownBy ((((w.setCell ⟨rb, 0, none⟩ p).setCell ⟨rb, 1, none⟩ q).setCell ⟨rb, 2, none⟩ r).setCell ⟨rb, 3, none⟩ t) (some tb) := by
  obtain ⟨h4, g4⟩ := set4 h.hr p q r t
  exact ⟨h.left.grown g4 h.nr h.hr, World.grownBy.fresh h.g g4 h.lor⟩
theorem CIt.four {tb rb xb bb : Nat} {bf : Rc} {w0 w : World} {a b c d : Int} {rest : List Int} (h : CIt tb rb xb bb bf w0 w a b c d rest) (p q r t : Int) : CIt tb rb xb bb bf w0 ((((w.setCell ⟨xb, 0, none⟩ (.int .i64 p)).setCell ⟨xb, 1, none⟩ (.int .i64 q)).setCell ⟨xb, 2, none⟩ (.int .i64 r)).setCell ⟨xb, 3, none⟩ (.int .i64 t)) p q r t rest :=
  (((h.set 0 p rfl).set 1 q rfl).set 2 r rfl).set 3 t rfl
/-- Ahead of x: the two boxes of the call, the reader. -/
structure CIt0 (tb rb bb : Nat) (bf : Rc) (w0 w : World) (rest : List Int) : Prop where
  left : LeftIs w tb 96 rest
  hr : w.heap[rb]? = some (.cells #[.int .i64 0, .int .i64 0, .int .i64 0, .int .i64 0] 33)
  hb : w.heap[bb]? = some (.cells #[.int .i64 bf.at_, .int .i64 bf.key, .int .i64 bf.val] 31)
  g : w0.grownBy w (some tb)
  nr : rb ≠ tb
  nb : bb ≠ tb
  rbb : rb ≠ bb
  lor : w0.heap.size ≤ rb
theorem CIt0.lt {tb rb bb : Nat} {bf : Rc} {w0 w : World} {rest : List Int} (h : CIt0 tb rb bb bf w0 w rest) : rb < w.heap.size ∧ bb < w.heap.size ∧ tb < w.heap.size := ⟨(Array.getElem?_eq_some_iff.1 h.hr).1, (Array.getElem?_eq_some_iff.1 h.hb).1, h.left.lt⟩
theorem CIt0.turn {tb rb bb : Nat} {bf : Rc} {w0 w w' : World} {rest r : List Int} (h : CIt0 tb rb bb bf w0 w rest) (hl : LeftIs w' tb 96 r) (hg : w.grownBy w' (some tb)) : CIt0 tb rb bb bf w0 w' r where
  left := hl
  hr := (hg.block rb h.lt.1 (fun e => h.nr (Option.some.inj e))).trans h.hr
  hb := (hg.block bb h.lt.2.1 (fun e => h.nb (Option.some.inj e))).trans h.hb
  g := h.g.then_ hg (fun _ e => .inr e)
  nr := h.nr
  nb := h.nb
  rbb := h.rbb
  lor := h.lor
/-- x's box is made. -/
theorem CIt0.box {tb rb bb : Nat} {bf : Rc} {w0 w : World} {rest : List Int} (h : CIt0 tb rb bb bf w0 w rest) (a b c d : Int) : CIt tb rb w.heap.size bb bf w0 (w.alloc (.cells #[.int .i64 a, .int .i64 b, .int .i64 c, .int .i64 d] 33)) a b c d rest := by
  obtain ⟨l1, l2, l3⟩ := h.lt
  have hB : Below w.heap.size w (w.alloc (.cells #[.int .i64 a, .int .i64 b, .int .i64 c, .int .i64 d] 33)) := (Below.refl _ _).alloc (Nat.le_refl _) _
  exact ⟨h.left.later (row := none) ⟨hB.os, hB.tape, hB.output, hB.size, fun i hi _ => hB.block i hi⟩ (fun x e => by cases e), new_block _ _ _, (hB.block _ l1).trans h.hr, (hB.block _ l2).trans h.hb, h.g.then_ ⟨hB.os, hB.tape, hB.output, hB.size, fun i hi _ => hB.block i hi⟩ (fun _ e => .inr e), by omega, h.nr, h.nb, by omega, by omega, h.rbb, h.g.size, h.lor⟩
theorem CIt0.start {tb : Nat} {w : World} {s : List Int} (bf : Rc) (h : LeftIs w tb 96 s) : CIt0 tb (w.heap.size + 1) w.heap.size bf w ((w.alloc (.cells #[.int .i64 bf.at_, .int .i64 bf.key, .int .i64 bf.val] 31)).alloc (.cells #[.int .i64 0, .int .i64 0, .int .i64 0, .int .i64 0] 33)) s := by
  have htb : tb < w.heap.size := h.lt
  have hB : Below w.heap.size w ((w.alloc (.cells #[.int .i64 bf.at_, .int .i64 bf.key, .int .i64 bf.val] 31)).alloc (.cells #[.int .i64 0, .int .i64 0, .int .i64 0, .int .i64 0] 33)) := ((Below.refl _ _).alloc (Nat.le_refl _) _).alloc (by simp) _
  refine ⟨h.later (row := none) ⟨hB.os, hB.tape, hB.output, hB.size, fun i hi _ => hB.block i hi⟩ (fun x e => by cases e), ?_, ?_, ⟨hB.os, hB.tape, hB.output, hB.size, fun i hi _ => hB.block i hi⟩, by omega, by omega, by omega, by omega⟩
  · have := new_block (w.alloc (.cells #[.int .i64 bf.at_, .int .i64 bf.key, .int .i64 bf.val] 31)) #[.int .i64 0, .int .i64 0, .int .i64 0, .int .i64 0] 33
    simpa using this
  · rw [Below.heap_alloc _ _ _ (by simp)]
    exact new_block _ _ _
theorem dummy_ {p : Prop} {P : Program} {md : Region.Mode} {a : Act} {w : World} (hp : p) (_h : wpAny P md #[] (fun _ _ _ => True) 0 #[] a w) : p := hp
theorem grownBy_drew {a b' : World} {row : Option Nat} (h : a.drew.grownBy b' row) : a.grownBy b' row := ⟨h.os, h.tape, h.output, h.size, h.block⟩
theorem cnum_yes {tb : Nat} {s r : List Int} {a : Int} (w : World) (h : LeftIs w tb 96 s) (hp : dNum s = some (a, r)) : Calls Tryd.prog 57 #[.pointer (some ⟨tb, 0, none⟩)] w fun e w' => e = .returned (.int .i64 a) ∧ LeftIs w' tb 96 r ∧ w.grownBy w' (some tb) := by
  have := cnum_any tb s w h
  rw [hp] at this
  exact this
theorem cnum_no {tb : Nat} {s : List Int} (w : World) (h : LeftIs w tb 96 s) (hp : dNum s = none) : Calls Tryd.prog 57 #[.pointer (some ⟨tb, 0, none⟩)] w fun e w' => e = .panicked wrongChain ∧ w.grownBy w' (some tb) := by
  have := cnum_any tb s w h
  rw [hp] at this
  exact this
theorem cint_yes {tb : Nat} {s r : List Int} {a : Int} (w : World) (h : LeftIs w tb 96 s) (hp : dInt s = some (a, r)) : Calls Tryd.prog 73 #[.pointer (some ⟨tb, 0, none⟩)] w fun e w' => e = .returned (.int .i64 a) ∧ LeftIs w' tb 96 r ∧ w.grownBy w' (some tb) := by
  have := cint_any tb s w h
  rw [hp] at this
  exact this
theorem cint_no {tb : Nat} {s : List Int} (w : World) (h : LeftIs w tb 96 s) (hp : dInt s = none) : Calls Tryd.prog 73 #[.pointer (some ⟨tb, 0, none⟩)] w fun e w' => e = .panicked wrongChain ∧ w.grownBy w' (some tb) := by
  have := cint_any tb s w h
  rw [hp] at this
  exact this

set_option maxRecDepth 100000 in
set_option maxHeartbeats 2000000 in
theorem citem_any (tb : Nat) (bf : Rc) (first : Bool) (s : List Int) (w : World) (h : LeftIs w tb 96 s) (h1 : -1152921504606846976 ≤ bf.at_ ∧ bf.at_ ≤ 1152921504606846976) (h2 : -1152921504606846976 ≤ bf.key ∧ bf.key ≤ 1152921504606846976) (h3 : -1152921504606846976 ≤ bf.val ∧ bf.val ≤ 1152921504606846976) :
    Calls Tryd.prog 59 #[.pointer (some ⟨tb, 0, none⟩), .agg #[.int .i64 bf.at_, .int .i64 bf.key, .int .i64 bf.val], .bool first] w (Reads tb 96 w ((dItem bf first s).map fun p => (itV p.1, p.2))) := by
  have ST0 := Lib.hid (CIt0.start bf h)
  have hby := h.byt
  obtain ⟨w2, hw2⟩ : ∃ w2, (w.alloc (.cells #[.int .i64 bf.at_, .int .i64 bf.key, .int .i64 bf.val] 31)).alloc (.cells #[.int .i64 0, .int .i64 0, .int .i64 0, .int .i64 0] 33) = w2 := ⟨_, rfl⟩
  rw [hw2] at ST0
  have b0 := cell_at_block (off := 0) ST0.out.hb rfl
  have HW2 := Lib.hid hw2
  have ne0 := World.new_ne w2 _ b0
  have ne1 : w.heap.size ≠ w2.heap.size := fun e => ne0 e.symm
  have ne2 : w.heap.size < w2.heap.size := ST0.out.lt.2.1
  clear h hw2
  cases hp : dNum s with
  | none =>
    have HF : Hid ((dItem bf first s) = none) := by show _ = _; simp [dItem, hp]
    go_enter Tryd.func59, Tryd.ntmps59
    go_upto_region 1 with fail
    rw [HW2.out]
    go_region_with (first | (go_at_call 57; refine (cnum_no _ (by with_unfolding_all exact ST0.out.left) hp).mono ?_; rintro e w3 ⟨rfl, hg3⟩; have HG := Lib.hid (ST0.out.g.then_ (grownBy_drew hg3) (fun _ e => .inr e)); go_simp; go_loud (refine dummy_ (P := Tryd.prog) (md := .any) (a := ⟨#[], []⟩) (w := w) ⟨rfl, by show Reads tb _ w _ _ _; rw [HF.out]; exact ⟨rfl, HG.out⟩⟩ ?_)) | (go_at_call 57; refine (cnum_no _ (by with_unfolding_all exact (ST0.out.box 0 0 0 0).left) hp).mono ?_; rintro e w3 ⟨rfl, hg3⟩; have HG := Lib.hid ((ST0.out.box 0 0 0 0).g.then_ (grownBy_drew hg3) (fun _ e => .inr e)); go_simp; go_loud (refine dummy_ (P := Tryd.prog) (md := .any) (a := ⟨#[], []⟩) (w := w) ⟨rfl, by show Reads tb _ w _ _ _; rw [HF.out]; exact ⟨rfl, HG.out⟩⟩ ?_)))
    all_goals trivial
  | some p0 =>
    obtain ⟨a, s1⟩ := p0
    obtain ⟨a0, a1, hby1, _⟩ := dNum_back hby hp
    have ea : IntKind.i64.wrap (bf.at_ + a) = bf.at_ + a := IntWalk.i64_in _ (by omega)
    go_enter Tryd.func59, Tryd.ntmps59
    go_upto_region 1 with fail
    rw [HW2.out]
    go_cut [7] (fun s7 wx => ∃ xb : Nat, s7 = .pointer (some ⟨xb, 0, none⟩) ∧ CIt tb (w.heap.size + 1) xb w.heap.size bf w wx (bf.at_ + a) 0 0 0 s1)
    case first =>
      go_region_held3 (fun w' => w'.cell? ⟨w.heap.size, 0, none⟩ = some (.int .i64 bf.at_)) (go_keep)
        (first | (go_at_call 57; refine (cnum_yes _ (by with_unfolding_all exact ST0.out.left) hp).mono ?_; rintro e w3 ⟨rfl, hl3, hg3⟩; have T := ST0.out.turn hl3 (grownBy_drew hg3); have b3 := cell_at_block (off := 0) T.hb rfl; have HT := Lib.hid T; clear hl3 hg3 T) | (go_at_call 57; refine (cnum_yes _ (by with_unfolding_all exact (ST0.out.box 0 0 0 0).left) hp).mono ?_; rintro e w3 ⟨rfl, hl3, hg3⟩; have T := (ST0.out.box 0 0 0 0).turn hl3 (grownBy_drew hg3); have b3 := cell_at_block (off := 0) T.hb rfl; have f0 := free_at_block (off := 0) T.hx; have f1 := free_at_block (off := 1) T.hx; have f2 := free_at_block (off := 2) T.hx; have f3 := free_at_block (off := 3) T.hx; have x0 := cell_at_block (off := 0) T.hx rfl; have x1 := cell_at_block (off := 1) T.hx rfl; have x2 := cell_at_block (off := 2) T.hx rfl; have x3 := cell_at_block (off := 3) T.hx rfl; have HT := Lib.hid T; clear hl3 hg3 T))
      all_goals (go_wp2_with fail; go_meet)
      · exact ⟨_, rfl, HT.out.box _ _ _ _⟩
      · exact ⟨_, rfl, HT.out.four (bf.at_ + a) 0 0 0⟩
    case rest =>
      obtain ⟨xb, rfl, T⟩ := hcut
      have HT1 := Lib.hid T
      have cx0 := cell_at_block (off := 0) T.hx rfl
      have cx1 := cell_at_block (off := 1) T.hx rfl
      have cx2 := cell_at_block (off := 2) T.hx rfl
      have cx3 := cell_at_block (off := 3) T.hx rfl
      have cb0 := cell_at_block (off := 0) T.hb rfl
      have cb1 := cell_at_block (off := 1) T.hb rfl
      have cb2 := cell_at_block (off := 2) T.hb rfl
      have cf0 := free_at_block (off := 0) T.hx
      have cf1 := free_at_block (off := 1) T.hx
      have cf2 := free_at_block (off := 2) T.hx
      have cf3 := free_at_block (off := 3) T.hx
      clear T ne0 ne1 ne2 b0
      cases hfi : first with
      | true =>
        have hsm : (!first && (bf.at_ + a == bf.at_)) = false := by rw [hfi]; rfl
        cases hk : dInt s1 with
        | none =>
          have HF : Hid ((dItem bf first s) = none) := by show _ = _; simp [dItem, dKey, hp, hsm, hk]
          clear hsm
          go_wp2_with (go_at_call 73; (with_reducible refine (cint_no _ (by with_unfolding_all exact HT1.out.left) hk).mono ?_); rintro e wz ⟨rfl, hg⟩; have HG := Lib.hid (HT1.out.g.then_ hg (fun _ e => .inr e)); clear hg)
          refine ⟨rfl, ?_⟩
          show Reads tb _ w _ _ _
          rw [HF.out]
          exact ⟨rfl, HG.out⟩
        | some pk =>
          obtain ⟨k, s2⟩ := pk
          have C := Lib.hid (cint_yes _ HT1.out.left hk)
          have HSM := Lib.hid hsm
          clear hsm
          go_wp2_with fail
          (with_reducible refine C.out.mono ?_)
          rintro e w4 ⟨rfl, hl, hg⟩
          clear C
          clear cx0 cx1 cx2 cx3 cf0 cf1 cf2 cf3 cb0 cb1 cb2
          have T2 := HT1.out.turn hl hg
          have HT2 := Lib.hid (T2.set 1 (k) (a' := (bf.at_ + a)) (b' := k) (c' := 0) (d' := 0) rfl)
          have px0 := cell_at_block (off := 0) T2.hx rfl
          have px1 := cell_at_block (off := 1) T2.hx rfl
          have px2 := cell_at_block (off := 2) T2.hx rfl
          have px3 := cell_at_block (off := 3) T2.hx rfl
          have pb0 := cell_at_block (off := 0) T2.hb rfl
          have pb1 := cell_at_block (off := 1) T2.hb rfl
          have pb2 := cell_at_block (off := 2) T2.hb rfl
          have pf0 := free_at_block (off := 0) T2.hx
          have pf1 := free_at_block (off := 1) T2.hx
          have pf2 := free_at_block (off := 2) T2.hx
          have pf3 := free_at_block (off := 3) T2.hx
          clear hl hg T2
          cases hv : dInt s2 with
          | none =>
            have HF : Hid ((dItem bf first s) = none) := by show _ = _; simp [dItem, dKey, hp, HSM.out, hk, hv]
            go_wp2_with (go_at_call 73; (with_reducible refine (cint_no _ (by with_unfolding_all exact HT2.out.left) hv).mono ?_); rintro e wz ⟨rfl, hg⟩; have HG := Lib.hid (HT2.out.g.then_ hg (fun _ e => .inr e)); clear hg)
            refine ⟨rfl, ?_⟩
            show Reads tb _ w _ _ _
            rw [HF.out]
            exact ⟨rfl, HG.out⟩
          | some pv =>
            obtain ⟨v, s3⟩ := pv
            have C := Lib.hid (cint_yes _ HT2.out.left hv)
            go_wp2_with fail
            (with_reducible refine C.out.mono ?_)
            rintro e w5 ⟨rfl, hl, hg⟩
            clear C
            clear px0 px1 px2 px3 pf0 pf1 pf2 pf3 pb0 pb1 pb2
            have T3 := HT2.out.turn hl hg
            have HT3 := Lib.hid (T3.set 2 (v) (a' := (bf.at_ + a)) (b' := k) (c' := v) (d' := 0) rfl)
            have qx0 := cell_at_block (off := 0) T3.hx rfl
            have qx1 := cell_at_block (off := 1) T3.hx rfl
            have qx2 := cell_at_block (off := 2) T3.hx rfl
            have qx3 := cell_at_block (off := 3) T3.hx rfl
            have qb0 := cell_at_block (off := 0) T3.hb rfl
            have qb1 := cell_at_block (off := 1) T3.hb rfl
            have qb2 := cell_at_block (off := 2) T3.hb rfl
            have qf0 := free_at_block (off := 0) T3.hx
            have qf1 := free_at_block (off := 1) T3.hx
            have qf2 := free_at_block (off := 2) T3.hx
            have qf3 := free_at_block (off := 3) T3.hx
            clear hl hg T3
            cases hn0 : dInt s3 with
            | none =>
              have HF : Hid ((dItem bf first s) = none) := by show _ = _; simp [dItem, dKey, hp, HSM.out, hk, hv, hn0]
              go_wp2_with (go_at_call 73; (with_reducible refine (cint_no _ (by with_unfolding_all exact HT3.out.left) hn0).mono ?_); rintro e wz ⟨rfl, hg⟩; have HG := Lib.hid (HT3.out.g.then_ hg (fun _ e => .inr e)); clear hg)
              refine ⟨rfl, ?_⟩
              show Reads tb _ w _ _ _
              rw [HF.out]
              exact ⟨rfl, HG.out⟩
            | some pn =>
              obtain ⟨n, s4⟩ := pn
              have HF : Hid ((dItem bf first s) = some (⟨⟨bf.at_ + a, k, v⟩, n⟩, s4)) := by show _ = _; simp [dItem, dKey, hp, HSM.out, hk, hv, hn0]
              have C := Lib.hid (cint_yes _ HT3.out.left hn0)
              go_wp2_with fail
              (with_reducible refine C.out.mono ?_)
              rintro e wy ⟨rfl, hl, hg⟩
              clear C
              have TN := HT3.out.turn hl hg
              have HTN := Lib.hid (TN.set 3 (n) (a' := (bf.at_ + a)) (b' := k) (c' := v) (d' := n) rfl)
              have yx0 := cell_at_block (off := 0) TN.hx rfl
              have yx1 := cell_at_block (off := 1) TN.hx rfl
              have yx2 := cell_at_block (off := 2) TN.hx rfl
              have yx3 := cell_at_block (off := 3) TN.hx rfl
              have yb0 := cell_at_block (off := 0) TN.hb rfl
              have yb1 := cell_at_block (off := 1) TN.hb rfl
              have yb2 := cell_at_block (off := 2) TN.hb rfl
              have yf0 := free_at_block (off := 0) TN.hx
              have yf1 := free_at_block (off := 1) TN.hx
              have yf2 := free_at_block (off := 2) TN.hx
              have yf3 := free_at_block (off := 3) TN.hx
              clear hl hg TN
              have d0 := cell_at_block (off := 0) HTN.out.hr rfl
              have e0 := free_at_block (off := 0) HTN.out.hr
              have d1 := cell_at_block (off := 1) HTN.out.hr rfl
              have e1 := free_at_block (off := 1) HTN.out.hr
              have d2 := cell_at_block (off := 2) HTN.out.hr rfl
              have e2 := free_at_block (off := 2) HTN.out.hr
              have d3 := cell_at_block (off := 3) HTN.out.hr rfl
              have e3 := free_at_block (off := 3) HTN.out.hr
              have ne3 := HTN.out.xr
              have ne4 : xb ≠ tb := HTN.out.nx
              clear yf0 yf1 yf2
              go_wp2_with fail
              refine bodyPost_ret (results_cell_row rfl _ _ (w.heap.size + 1) 33 #[.int .i64 (bf.at_ + a), .int .i64 (k), .int .i64 (v), .int .i64 n] (0, 0) _ rfl (set4 HTN.out.hr _ _ _ _).1 Tryd.underlying33 rfl (by kernel_rfl)) rfl ?_
              show Reads tb _ w _ _ _
              rw [HF.out]
              exact ⟨rfl, HTN.out.fin _ _ _ _⟩
      | false =>
        cases hq : (bf.at_ + a == bf.at_) with
        | false =>
          have hsm : (!first && (bf.at_ + a == bf.at_)) = false := by rw [hq]; simp
          cases hk : dInt s1 with
          | none =>
            have HF : Hid ((dItem bf first s) = none) := by show _ = _; simp [dItem, dKey, hp, hsm, hk]
            clear hsm
            go_wp2_with (go_at_call 73; (with_reducible refine (cint_no _ (by with_unfolding_all exact HT1.out.left) hk).mono ?_); rintro e wz ⟨rfl, hg⟩; have HG := Lib.hid (HT1.out.g.then_ hg (fun _ e => .inr e)); clear hg)
            refine ⟨rfl, ?_⟩
            show Reads tb _ w _ _ _
            rw [HF.out]
            exact ⟨rfl, HG.out⟩
          | some pk =>
            obtain ⟨k, s2⟩ := pk
            have C := Lib.hid (cint_yes _ HT1.out.left hk)
            have HSM := Lib.hid hsm
            clear hsm
            go_wp2_with fail
            (with_reducible refine C.out.mono ?_)
            rintro e w4 ⟨rfl, hl, hg⟩
            clear C
            clear cx0 cx1 cx2 cx3 cf0 cf1 cf2 cf3 cb0 cb1 cb2
            have T2 := HT1.out.turn hl hg
            have HT2 := Lib.hid (T2.set 1 (k) (a' := (bf.at_ + a)) (b' := k) (c' := 0) (d' := 0) rfl)
            have px0 := cell_at_block (off := 0) T2.hx rfl
            have px1 := cell_at_block (off := 1) T2.hx rfl
            have px2 := cell_at_block (off := 2) T2.hx rfl
            have px3 := cell_at_block (off := 3) T2.hx rfl
            have pb0 := cell_at_block (off := 0) T2.hb rfl
            have pb1 := cell_at_block (off := 1) T2.hb rfl
            have pb2 := cell_at_block (off := 2) T2.hb rfl
            have pf0 := free_at_block (off := 0) T2.hx
            have pf1 := free_at_block (off := 1) T2.hx
            have pf2 := free_at_block (off := 2) T2.hx
            have pf3 := free_at_block (off := 3) T2.hx
            clear hl hg T2
            cases hv : dInt s2 with
            | none =>
              have HF : Hid ((dItem bf first s) = none) := by show _ = _; simp [dItem, dKey, hp, HSM.out, hk, hv]
              go_wp2_with (go_at_call 73; (with_reducible refine (cint_no _ (by with_unfolding_all exact HT2.out.left) hv).mono ?_); rintro e wz ⟨rfl, hg⟩; have HG := Lib.hid (HT2.out.g.then_ hg (fun _ e => .inr e)); clear hg)
              refine ⟨rfl, ?_⟩
              show Reads tb _ w _ _ _
              rw [HF.out]
              exact ⟨rfl, HG.out⟩
            | some pv =>
              obtain ⟨v, s3⟩ := pv
              have C := Lib.hid (cint_yes _ HT2.out.left hv)
              go_wp2_with fail
              (with_reducible refine C.out.mono ?_)
              rintro e w5 ⟨rfl, hl, hg⟩
              clear C
              clear px0 px1 px2 px3 pf0 pf1 pf2 pf3 pb0 pb1 pb2
              have T3 := HT2.out.turn hl hg
              have HT3 := Lib.hid (T3.set 2 (v) (a' := (bf.at_ + a)) (b' := k) (c' := v) (d' := 0) rfl)
              have qx0 := cell_at_block (off := 0) T3.hx rfl
              have qx1 := cell_at_block (off := 1) T3.hx rfl
              have qx2 := cell_at_block (off := 2) T3.hx rfl
              have qx3 := cell_at_block (off := 3) T3.hx rfl
              have qb0 := cell_at_block (off := 0) T3.hb rfl
              have qb1 := cell_at_block (off := 1) T3.hb rfl
              have qb2 := cell_at_block (off := 2) T3.hb rfl
              have qf0 := free_at_block (off := 0) T3.hx
              have qf1 := free_at_block (off := 1) T3.hx
              have qf2 := free_at_block (off := 2) T3.hx
              have qf3 := free_at_block (off := 3) T3.hx
              clear hl hg T3
              cases hn0 : dInt s3 with
              | none =>
                have HF : Hid ((dItem bf first s) = none) := by show _ = _; simp [dItem, dKey, hp, HSM.out, hk, hv, hn0]
                go_wp2_with (go_at_call 73; (with_reducible refine (cint_no _ (by with_unfolding_all exact HT3.out.left) hn0).mono ?_); rintro e wz ⟨rfl, hg⟩; have HG := Lib.hid (HT3.out.g.then_ hg (fun _ e => .inr e)); clear hg)
                refine ⟨rfl, ?_⟩
                show Reads tb _ w _ _ _
                rw [HF.out]
                exact ⟨rfl, HG.out⟩
              | some pn =>
                obtain ⟨n, s4⟩ := pn
                have HF : Hid ((dItem bf first s) = some (⟨⟨bf.at_ + a, k, v⟩, n⟩, s4)) := by show _ = _; simp [dItem, dKey, hp, HSM.out, hk, hv, hn0]
                have C := Lib.hid (cint_yes _ HT3.out.left hn0)
                go_wp2_with fail
                (with_reducible refine C.out.mono ?_)
                rintro e wy ⟨rfl, hl, hg⟩
                clear C
                have TN := HT3.out.turn hl hg
                have HTN := Lib.hid (TN.set 3 (n) (a' := (bf.at_ + a)) (b' := k) (c' := v) (d' := n) rfl)
                have yx0 := cell_at_block (off := 0) TN.hx rfl
                have yx1 := cell_at_block (off := 1) TN.hx rfl
                have yx2 := cell_at_block (off := 2) TN.hx rfl
                have yx3 := cell_at_block (off := 3) TN.hx rfl
                have yb0 := cell_at_block (off := 0) TN.hb rfl
                have yb1 := cell_at_block (off := 1) TN.hb rfl
                have yb2 := cell_at_block (off := 2) TN.hb rfl
                have yf0 := free_at_block (off := 0) TN.hx
                have yf1 := free_at_block (off := 1) TN.hx
                have yf2 := free_at_block (off := 2) TN.hx
                have yf3 := free_at_block (off := 3) TN.hx
                clear hl hg TN
                have d0 := cell_at_block (off := 0) HTN.out.hr rfl
                have e0 := free_at_block (off := 0) HTN.out.hr
                have d1 := cell_at_block (off := 1) HTN.out.hr rfl
                have e1 := free_at_block (off := 1) HTN.out.hr
                have d2 := cell_at_block (off := 2) HTN.out.hr rfl
                have e2 := free_at_block (off := 2) HTN.out.hr
                have d3 := cell_at_block (off := 3) HTN.out.hr rfl
                have e3 := free_at_block (off := 3) HTN.out.hr
                have ne3 := HTN.out.xr
                have ne4 : xb ≠ tb := HTN.out.nx
                clear yf0 yf1 yf2
                go_wp2_with fail
                refine bodyPost_ret (results_cell_row rfl _ _ (w.heap.size + 1) 33 #[.int .i64 (bf.at_ + a), .int .i64 (k), .int .i64 (v), .int .i64 n] (0, 0) _ rfl (set4 HTN.out.hr _ _ _ _).1 Tryd.underlying33 rfl (by kernel_rfl)) rfl ?_
                show Reads tb _ w _ _ _
                rw [HF.out]
                exact ⟨rfl, HTN.out.fin _ _ _ _⟩
        | true =>
          have hsm : (!first && (bf.at_ + a == bf.at_)) = true := by rw [hfi, hq]; rfl
          have HSM := Lib.hid hsm
          clear hsm
          cases hk : dNum s1 with
          | none =>
            have HF : Hid ((dItem bf first s) = none) := by show _ = _; simp [dItem, dKey, hp, HSM.out, hk]
            go_upto_region 4 with fail
            go_region_with (go_at_call 57; refine (cnum_no _ (by with_unfolding_all exact HT1.out.left) hk).mono ?_; rintro e wz ⟨rfl, hg⟩; have HG := Lib.hid (HT1.out.g.then_ (grownBy_drew hg) (fun _ e => .inr e)); go_simp; refine dummy_ (P := Tryd.prog) (md := .any) (a := ⟨#[], []⟩) (w := w) ⟨rfl, by show Reads tb _ w _ _ _; rw [HF.out]; exact ⟨rfl, HG.out⟩⟩ ?_)
            all_goals trivial
          | some pk =>
            obtain ⟨kk, s2⟩ := pk
            obtain ⟨k0, k1, hby2, _⟩ := dNum_back hby1 hk
            have ek : IntKind.i64.wrap (bf.key + kk) = bf.key + kk := IntWalk.i64_in _ (by omega)
            go_upto_region 4 with fail
            have ng0 : xb ≠ w.heap.size := HT1.out.xbb
            go_region_held3 (fun w' => w'.cell? ⟨w.heap.size, 1, none⟩ = some (.int .i64 bf.key)) (go_keep)
              ((go_at_call 57; refine (cnum_yes _ (by with_unfolding_all exact HT1.out.left) hk).mono ?_; rintro e wz ⟨rfl, hl, hg⟩; have T := HT1.out.turn hl (grownBy_drew hg); have pf0 := free_at_block (off := 0) T.hx; have pf1 := free_at_block (off := 1) T.hx; have pf2 := free_at_block (off := 2) T.hx; have pf3 := free_at_block (off := 3) T.hx; have px0 := cell_at_block (off := 0) T.hx rfl; have px1 := cell_at_block (off := 1) T.hx rfl; have px2 := cell_at_block (off := 2) T.hx rfl; have px3 := cell_at_block (off := 3) T.hx rfl; have pb0 := cell_at_block (off := 0) T.hb rfl; have pb1 := cell_at_block (off := 1) T.hb rfl; have pb2 := cell_at_block (off := 2) T.hb rfl; have HT2 := Lib.hid (T.set 1 ((bf.key + kk)) (a' := (bf.at_ + a)) (b' := (bf.key + kk)) (c' := 0) (d' := 0) rfl); clear hl hg T))
            clear cx0 cx1 cx2 cx3 cf0 cf1 cf2 cf3 cb0 cb1 cb2
            cases hkq : (bf.key + kk == bf.key) with
            | false =>
              cases hv : dInt s2 with
              | none =>
                have HF : Hid ((dItem bf first s) = none) := by show _ = _; simp [dItem, dKey, hp, HSM.out, hk, hkq, hv]
                go_wp2_with (go_at_call 73; (with_reducible refine (cint_no _ (by with_unfolding_all exact HT2.out.left) hv).mono ?_); rintro e wz ⟨rfl, hg⟩; have HG := Lib.hid (HT2.out.g.then_ hg (fun _ e => .inr e)); clear hg)
                refine ⟨rfl, ?_⟩
                show Reads tb _ w _ _ _
                rw [HF.out]
                exact ⟨rfl, HG.out⟩
              | some pv =>
                obtain ⟨v, s3⟩ := pv
                have C := Lib.hid (cint_yes _ HT2.out.left hv)
                go_wp2_with fail
                (with_reducible refine C.out.mono ?_)
                rintro e w5 ⟨rfl, hl, hg⟩
                clear C
                clear px0 px1 px2 px3 pf0 pf1 pf2 pf3 pb0 pb1 pb2
                have T3 := HT2.out.turn hl hg
                have HT3 := Lib.hid (T3.set 2 (v) (a' := (bf.at_ + a)) (b' := (bf.key + kk)) (c' := v) (d' := 0) rfl)
                have qx0 := cell_at_block (off := 0) T3.hx rfl
                have qx1 := cell_at_block (off := 1) T3.hx rfl
                have qx2 := cell_at_block (off := 2) T3.hx rfl
                have qx3 := cell_at_block (off := 3) T3.hx rfl
                have qb0 := cell_at_block (off := 0) T3.hb rfl
                have qb1 := cell_at_block (off := 1) T3.hb rfl
                have qb2 := cell_at_block (off := 2) T3.hb rfl
                have qf0 := free_at_block (off := 0) T3.hx
                have qf1 := free_at_block (off := 1) T3.hx
                have qf2 := free_at_block (off := 2) T3.hx
                have qf3 := free_at_block (off := 3) T3.hx
                clear hl hg T3
                cases hn0 : dInt s3 with
                | none =>
                  have HF : Hid ((dItem bf first s) = none) := by show _ = _; simp [dItem, dKey, hp, HSM.out, hk, hkq, hv, hn0]
                  go_wp2_with (go_at_call 73; (with_reducible refine (cint_no _ (by with_unfolding_all exact HT3.out.left) hn0).mono ?_); rintro e wz ⟨rfl, hg⟩; have HG := Lib.hid (HT3.out.g.then_ hg (fun _ e => .inr e)); clear hg)
                  refine ⟨rfl, ?_⟩
                  show Reads tb _ w _ _ _
                  rw [HF.out]
                  exact ⟨rfl, HG.out⟩
                | some pn =>
                  obtain ⟨n, s4⟩ := pn
                  have HF : Hid ((dItem bf first s) = some (⟨⟨bf.at_ + a, (bf.key + kk), v⟩, n⟩, s4)) := by show _ = _; simp [dItem, dKey, hp, HSM.out, hk, hkq, hv, hn0]
                  have C := Lib.hid (cint_yes _ HT3.out.left hn0)
                  go_wp2_with fail
                  (with_reducible refine C.out.mono ?_)
                  rintro e wy ⟨rfl, hl, hg⟩
                  clear C
                  have TN := HT3.out.turn hl hg
                  have HTN := Lib.hid (TN.set 3 (n) (a' := (bf.at_ + a)) (b' := (bf.key + kk)) (c' := v) (d' := n) rfl)
                  have yx0 := cell_at_block (off := 0) TN.hx rfl
                  have yx1 := cell_at_block (off := 1) TN.hx rfl
                  have yx2 := cell_at_block (off := 2) TN.hx rfl
                  have yx3 := cell_at_block (off := 3) TN.hx rfl
                  have yb0 := cell_at_block (off := 0) TN.hb rfl
                  have yb1 := cell_at_block (off := 1) TN.hb rfl
                  have yb2 := cell_at_block (off := 2) TN.hb rfl
                  have yf0 := free_at_block (off := 0) TN.hx
                  have yf1 := free_at_block (off := 1) TN.hx
                  have yf2 := free_at_block (off := 2) TN.hx
                  have yf3 := free_at_block (off := 3) TN.hx
                  clear hl hg TN
                  have d0 := cell_at_block (off := 0) HTN.out.hr rfl
                  have e0 := free_at_block (off := 0) HTN.out.hr
                  have d1 := cell_at_block (off := 1) HTN.out.hr rfl
                  have e1 := free_at_block (off := 1) HTN.out.hr
                  have d2 := cell_at_block (off := 2) HTN.out.hr rfl
                  have e2 := free_at_block (off := 2) HTN.out.hr
                  have d3 := cell_at_block (off := 3) HTN.out.hr rfl
                  have e3 := free_at_block (off := 3) HTN.out.hr
                  have ne3 := HTN.out.xr
                  have ne4 : xb ≠ tb := HTN.out.nx
                  clear yf0 yf1 yf2
                  go_wp2_with fail
                  refine bodyPost_ret (results_cell_row rfl _ _ (w.heap.size + 1) 33 #[.int .i64 (bf.at_ + a), .int .i64 ((bf.key + kk)), .int .i64 (v), .int .i64 n] (0, 0) _ rfl (set4 HTN.out.hr _ _ _ _).1 Tryd.underlying33 rfl (by kernel_rfl)) rfl ?_
                  show Reads tb _ w _ _ _
                  rw [HF.out]
                  exact ⟨rfl, HTN.out.fin _ _ _ _⟩
            | true =>
              cases hv : dNum s2 with
              | none =>
                have HF : Hid ((dItem bf first s) = none) := by show _ = _; simp [dItem, dKey, hp, HSM.out, hk, hkq, hv]
                go_upto_region 7 with fail
                go_region_with (go_at_call 57; refine (cnum_no _ (by with_unfolding_all exact HT2.out.left) hv).mono ?_; rintro e wz ⟨rfl, hg⟩; have HG := Lib.hid (HT2.out.g.then_ (grownBy_drew hg) (fun _ e => .inr e)); go_simp; refine dummy_ (P := Tryd.prog) (md := .any) (a := ⟨#[], []⟩) (w := w) ⟨rfl, by show Reads tb _ w _ _ _; rw [HF.out]; exact ⟨rfl, HG.out⟩⟩ ?_)
                all_goals trivial
              | some pv =>
                obtain ⟨vv, s3⟩ := pv
                obtain ⟨v0, v1, hby3, _⟩ := dNum_back hby2 hv
                have ev : IntKind.i64.wrap (bf.val + vv) = bf.val + vv := IntWalk.i64_in _ (by omega)
                go_upto_region 7 with fail
                go_region_held3 (fun w' => w'.cell? ⟨w.heap.size, 2, none⟩ = some (.int .i64 bf.val)) (go_keep)
                  ((go_at_call 57; refine (cnum_yes _ (by with_unfolding_all exact HT2.out.left) hv).mono ?_; rintro e wz ⟨rfl, hl, hg⟩; have T := HT2.out.turn hl (grownBy_drew hg); have qf0 := free_at_block (off := 0) T.hx; have qf1 := free_at_block (off := 1) T.hx; have qf2 := free_at_block (off := 2) T.hx; have qf3 := free_at_block (off := 3) T.hx; have qx0 := cell_at_block (off := 0) T.hx rfl; have qx1 := cell_at_block (off := 1) T.hx rfl; have qx2 := cell_at_block (off := 2) T.hx rfl; have qx3 := cell_at_block (off := 3) T.hx rfl; have qb0 := cell_at_block (off := 0) T.hb rfl; have qb1 := cell_at_block (off := 1) T.hb rfl; have qb2 := cell_at_block (off := 2) T.hb rfl; have HT3 := Lib.hid (T.set 2 ((bf.val + vv)) (a' := (bf.at_ + a)) (b' := (bf.key + kk)) (c' := (bf.val + vv)) (d' := 0) rfl); clear hl hg T))
                clear px0 px1 px2 px3 pf0 pf1 pf2 pf3 pb0 pb1 pb2
                cases hn0 : dInt s3 with
                | none =>
                  have HF : Hid ((dItem bf first s) = none) := by show _ = _; simp [dItem, dKey, hp, HSM.out, hk, hkq, hv, hn0]
                  go_wp2_with (go_at_call 73; (with_reducible refine (cint_no _ (by with_unfolding_all exact HT3.out.left) hn0).mono ?_); rintro e wz ⟨rfl, hg⟩; have HG := Lib.hid (HT3.out.g.then_ hg (fun _ e => .inr e)); clear hg)
                  refine ⟨rfl, ?_⟩
                  show Reads tb _ w _ _ _
                  rw [HF.out]
                  exact ⟨rfl, HG.out⟩
                | some pn =>
                  obtain ⟨n, s4⟩ := pn
                  have HF : Hid ((dItem bf first s) = some (⟨⟨bf.at_ + a, (bf.key + kk), (bf.val + vv)⟩, n⟩, s4)) := by show _ = _; simp [dItem, dKey, hp, HSM.out, hk, hkq, hv, hn0]
                  have C := Lib.hid (cint_yes _ HT3.out.left hn0)
                  go_wp2_with fail
                  (with_reducible refine C.out.mono ?_)
                  rintro e wy ⟨rfl, hl, hg⟩
                  clear C
                  have TN := HT3.out.turn hl hg
                  have HTN := Lib.hid (TN.set 3 (n) (a' := (bf.at_ + a)) (b' := (bf.key + kk)) (c' := (bf.val + vv)) (d' := n) rfl)
                  have yx0 := cell_at_block (off := 0) TN.hx rfl
                  have yx1 := cell_at_block (off := 1) TN.hx rfl
                  have yx2 := cell_at_block (off := 2) TN.hx rfl
                  have yx3 := cell_at_block (off := 3) TN.hx rfl
                  have yb0 := cell_at_block (off := 0) TN.hb rfl
                  have yb1 := cell_at_block (off := 1) TN.hb rfl
                  have yb2 := cell_at_block (off := 2) TN.hb rfl
                  have yf0 := free_at_block (off := 0) TN.hx
                  have yf1 := free_at_block (off := 1) TN.hx
                  have yf2 := free_at_block (off := 2) TN.hx
                  have yf3 := free_at_block (off := 3) TN.hx
                  clear hl hg TN
                  have d0 := cell_at_block (off := 0) HTN.out.hr rfl
                  have e0 := free_at_block (off := 0) HTN.out.hr
                  have d1 := cell_at_block (off := 1) HTN.out.hr rfl
                  have e1 := free_at_block (off := 1) HTN.out.hr
                  have d2 := cell_at_block (off := 2) HTN.out.hr rfl
                  have e2 := free_at_block (off := 2) HTN.out.hr
                  have d3 := cell_at_block (off := 3) HTN.out.hr rfl
                  have e3 := free_at_block (off := 3) HTN.out.hr
                  have ne3 := HTN.out.xr
                  have ne4 : xb ≠ tb := HTN.out.nx
                  clear yf0 yf1 yf2
                  go_wp2_with fail
                  refine bodyPost_ret (results_cell_row rfl _ _ (w.heap.size + 1) 33 #[.int .i64 (bf.at_ + a), .int .i64 ((bf.key + kk)), .int .i64 ((bf.val + vv)), .int .i64 n] (0, 0) _ rfl (set4 HTN.out.hr _ _ _ _).1 Tryd.underlying33 rfl (by kernel_rfl)) rfl ?_
                  show Reads tb _ w _ _ _
                  rw [HF.out]
                  exact ⟨rfl, HTN.out.fin _ _ _ _⟩
end Go.Proofs.Bg
end

section
/- The contracts of Read's reader and of Read. -/
namespace Go.Proofs.Bg
open Go.RowKit

theorem Own.mono {α : Type} {enc : α → List Value} {sz : Nat} {e : TypeId} {base base' : Nat} {w : World} {v : Value} {l : List α} (h : Own enc sz e base w v l) (hb : base' ≤ base) : Own enc sz e base' w v l := World.ownsRow.mono h hb
/-- Bounds of a record that has been read. -/
def Small (k : Nat) (r : Rc) : Prop := (-(k : Int) * 34359738368 ≤ r.at_ ∧ r.at_ ≤ k * 34359738368) ∧ (-(k : Int) * 34359738368 ≤ r.key ∧ r.key ≤ k * 34359738368) ∧ (-(k : Int) * 34359738368 ≤ r.val ∧ r.val ≤ k * 34359738368)
theorem dKey_small {same : Bool} {b v : Int} {s r : List Int} {k : Nat} (hb : Byt s) (h0 : -(k : Int) * 34359738368 ≤ b ∧ b ≤ k * 34359738368) (h : dKey same b s = some (v, r)) : (-((k + 1 : Nat) : Int) * 34359738368 ≤ v ∧ v ≤ ((k + 1 : Nat) : Int) * 34359738368) ∧ Byt r := by
  unfold dKey at h
  split at h
  · cases hn : dNum s with
    | none => rw [hn] at h; cases h
    | some p =>
      obtain ⟨n, t⟩ := p
      rw [hn] at h
      cases h
      obtain ⟨n0, n1, n2, _⟩ := dNum_back hb hn
      exact ⟨by omega, n2⟩
  · obtain ⟨h1, h2, h3, _⟩ := dInt_back hb h
    exact ⟨by omega, h3⟩
theorem dItem_small {bf : Rc} {first : Bool} {s r : List Int} {x : It} {k : Nat} (hb : Byt s) (h0 : Small k bf) (h : dItem bf first s = some (x, r)) : Small (k + 1) x.r ∧ Byt r := by
  unfold dItem at h
  cases h1 : dNum s with
  | none => rw [h1] at h; cases h
  | some p =>
    obtain ⟨a, s1⟩ := p
    rw [h1] at h; simp only at h
    obtain ⟨a0, a1, hb1, _⟩ := dNum_back hb h1
    cases h2 : dKey (!first && (bf.at_ + a == bf.at_)) bf.key s1 with
    | none => rw [h2] at h; cases h
    | some p2 =>
      obtain ⟨kk, s2⟩ := p2
      rw [h2] at h; simp only at h
      obtain ⟨k1, hb2⟩ := dKey_small (k := k) hb1 h0.2.1 h2
      cases h3 : dKey ((!first && (bf.at_ + a == bf.at_)) && (kk == bf.key)) bf.val s2 with
      | none => rw [h3] at h; cases h
      | some p3 =>
        obtain ⟨vv, s3⟩ := p3
        rw [h3] at h; simp only at h
        obtain ⟨v1, hb3⟩ := dKey_small (k := k) hb2 h0.2.2 h3
        cases h4 : dInt s3 with
        | none => rw [h4] at h; cases h
        | some p4 =>
          obtain ⟨nn, s4⟩ := p4
          rw [h4] at h
          cases h
          obtain ⟨_, _, hb4, _⟩ := dInt_back hb3 h4
          obtain ⟨⟨g0, g1⟩, _, _⟩ := h0
          exact ⟨⟨⟨by simp only; omega, by simp only; omega⟩, k1, v1⟩, hb4⟩
theorem dAll_snoc {m : Nat} {s r : List Int} {L : List It} {x : It} (h : dItem (lastR L) L.isEmpty s = some (x, r)) : dAll (m + 1) s L = dAll m r (L ++ [x]) := by rw [dAll, h]
theorem citem_yes {tb : Nat} {bf : Rc} {first : Bool} {s r : List Int} {x : It} (w : World) (h : LeftIs w tb 96 s) (h1 : -1152921504606846976 ≤ bf.at_ ∧ bf.at_ ≤ 1152921504606846976) (h2 : -1152921504606846976 ≤ bf.key ∧ bf.key ≤ 1152921504606846976) (h3 : -1152921504606846976 ≤ bf.val ∧ bf.val ≤ 1152921504606846976) (hp : dItem bf first s = some (x, r)) : Calls Tryd.prog 59 #[.pointer (some ⟨tb, 0, none⟩), .agg #[.int .i64 bf.at_, .int .i64 bf.key, .int .i64 bf.val], .bool first] w fun e w' => e = .returned (.agg #[.int .i64 x.r.at_, .int .i64 x.r.key, .int .i64 x.r.val, .int .i64 x.n]) ∧ LeftIs w' tb 96 r ∧ w.grownBy w' (some tb) := by
  have := citem_any tb bf first s w h h1 h2 h3
  rw [hp] at this
  exact this
theorem citem_no {tb : Nat} {bf : Rc} {first : Bool} {s : List Int} (w : World) (h : LeftIs w tb 96 s) (h1 : -1152921504606846976 ≤ bf.at_ ∧ bf.at_ ≤ 1152921504606846976) (h2 : -1152921504606846976 ≤ bf.key ∧ bf.key ≤ 1152921504606846976) (h3 : -1152921504606846976 ≤ bf.val ∧ bf.val ≤ 1152921504606846976) (hp : dItem bf first s = none) : Calls Tryd.prog 59 #[.pointer (some ⟨tb, 0, none⟩), .agg #[.int .i64 bf.at_, .int .i64 bf.key, .int .i64 bf.val], .bool first] w fun e w' => e = .panicked wrongChain ∧ w.grownBy w' (some tb) := by
  have := citem_any tb bf first s w h h1 h2 h3
  rw [hp] at this
  exact this

def endB (p : Option (List It × List Int)) : Option (List It) := match p with | some (l, []) => some l | _ => none
theorem dBag_num {s r : List Int} {M : Nat} (h : dNum s = some ((M : Int), r)) (h3 : (M : Int) ≤ 300) : dBag s = endB (dAll M r []) := by
  simp only [dBag, h]
  rw [if_pos h3, Int.toNat_natCast]
  rfl
theorem dBag_long {s r : List Int} {m : Int} (h : dNum s = some (m, r)) (h3 : ¬ m ≤ 300) : dBag s = none := by
  simp only [dBag, h]
  rw [if_neg h3]
/-- What the loop holds: m items of M are read. -/
structure CRel (tb bb base M : Nat) (w : World) (R : Option (List It × List Int)) (rest : List Int) (L : List It) (v : Value) (wr : World) : Prop where
  own : Own It.vs 4 33 (bb + 1) wr v L
  left : LeftIs wr tb 96 rest
  hb : wr.heap[bb]? = some (.cells #[.int .i64 (lastR L).at_, .int .i64 (lastR L).key, .int .i64 (lastR L).val] 31)
  g : w.grownBy wr (some tb)
  r : dAll (M - L.length) rest L = R
  le : L.length ≤ M
  small : Small L.length (lastR L)
  by_ : Byt rest
theorem CRel.next {tb bb base M : Nat} {w : World} {R : Option (List It × List Int)} {rest r : List Int} {L : List It} {x : It} {v v4 : Value} {wr w3 w4 : World} {o o' : Obj} (h : CRel tb bb base M w R rest L v wr) (hlt : L.length < M) (htb : tb < w.heap.size) (hbb : w.heap.size ≤ bb)
    (hl : LeftIs w3 tb 96 r) (hg : wr.grownBy w3 (some tb)) (hown4 : Own It.vs 4 33 (bb + 1) w4 v4 (L ++ [x])) (hg4 : ((w3.alloc o).alloc o').grownBy w4 v.ownBlock) (hi : dItem (lastR L) L.isEmpty rest = some (x, r)) :
    CRel tb bb base M w R r (L ++ [x]) v4 (((w4.setCell ⟨bb, 0, none⟩ (.int .i64 x.r.at_)).setCell ⟨bb, 1, none⟩ (.int .i64 x.r.key)).setCell ⟨bb, 2, none⟩ (.int .i64 x.r.val)) := by
  have hsm := dItem_small h.by_ h.small hi
  have hB : Below w3.heap.size w3 ((w3.alloc o).alloc o') := ((Below.refl _ _).alloc (Nat.le_refl _) _).alloc (by simp) _
  have hgB : w3.grownBy ((w3.alloc o).alloc o') (some tb) := ⟨hB.os, hB.tape, hB.output, hB.size, fun i hi _ => hB.block i hi⟩
  have lbb : bb < wr.heap.size := (Array.getElem?_eq_some_iff.1 h.hb).1
  have lbb3 : bb < w3.heap.size := Nat.lt_of_lt_of_le lbb hg.size
  have hown3 : Own It.vs 4 33 (bb + 1) w3 v L := h.own.grown hg (.inr (fun e => by have := (h.own.blk _ e).1; omega))
  have hne : ∀ k, v.ownBlock = some k → bb + 1 ≤ k := fun k e => (h.own.blk k e).1
  have b3 : w3.heap[bb]? = some (.cells #[.int .i64 (lastR L).at_, .int .i64 (lastR L).key, .int .i64 (lastR L).val] 31) := (hg.block bb lbb (fun e => by have := Option.some.inj e; omega)).trans h.hb
  have b4 : w4.heap[bb]? = some (.cells #[.int .i64 (lastR L).at_, .int .i64 (lastR L).key, .int .i64 (lastR L).val] 31) := (hg4.block bb (by have := hB.size; omega) (fun e => by have := hne bb e.symm; omega)).trans ((hB.block bb lbb3).trans b3)
  obtain ⟨s1, s2⟩ := set3 b4 (.int .i64 x.r.at_) (.int .i64 x.r.key) (.int .i64 x.r.val)
  have g4 : w.grownBy w4 (some tb) := by
    have h3 := (h.g.then_ hg (fun _ e => .inr e)).then_ hgB (fun _ e => .inr e)
    exact ⟨hg4.os.trans h3.os, hg4.tape.trans h3.tape, hg4.output.trans h3.output, Nat.le_trans h3.size hg4.size, fun i hi hn => (hg4.block i (Nat.lt_of_lt_of_le hi h3.size) (fun e => by have := hne i e.symm; omega)).trans (h3.block i hi hn)⟩
  have l4 : LeftIs w4 tb 96 r := (hl.later (w' := (w3.alloc o).alloc o') (row := none) ⟨hB.os, hB.tape, hB.output, hB.size, fun i hi _ => hB.block i hi⟩ (fun x e => by cases e)).later hg4 (fun k e => by have := hne k e; omega)
  have hown5 := hown4.grown s2 (.inr (fun e => by have := (hown4.blk _ e).1; omega))
  exact ⟨hown5, l4.later s2 (fun k e => by have := Option.some.inj e; omega), by rw [lastR_snoc]; exact s1, World.grownBy.fresh g4 s2 hbb, by
      have e := h.r
      rw [show M - L.length = (M - (L ++ [x]).length) + 1 by simp; omega, dAll_snoc hi] at e
      exact e, by simp; omega, by rw [lastR_snoc]; simpa using hsm.1, hsm.2⟩

theorem CRel.mid {tb bb base M : Nat} {w : World} {R : Option (List It × List Int)} {rest : List Int} {L : List It} {v : Value} {wr w3 w4 : World} {o o' : Obj} (h : CRel tb bb base M w R rest L v wr) (htb : tb < w.heap.size) (hbb : w.heap.size ≤ bb) (hg : wr.grownBy w3 (some tb)) (hg4 : ((w3.alloc o).alloc o').grownBy w4 v.ownBlock) :
    w4.heap[bb]? = some (.cells #[.int .i64 (lastR L).at_, .int .i64 (lastR L).key, .int .i64 (lastR L).val] 31) ∧ w4.heap[w3.heap.size]? = some o := by
  have hB : Below w3.heap.size w3 ((w3.alloc o).alloc o') := ((Below.refl _ _).alloc (Nat.le_refl _) _).alloc (by simp) _
  have lbb : bb < wr.heap.size := (Array.getElem?_eq_some_iff.1 h.hb).1
  have lbb3 : bb < w3.heap.size := Nat.lt_of_lt_of_le lbb hg.size
  have hne : ∀ k, v.ownBlock = some k → bb + 1 ≤ k ∧ k < w3.heap.size := fun k e => ⟨(h.own.blk k e).1, Nat.lt_of_lt_of_le (h.own.blk k e).2 hg.size⟩
  have b3 : w3.heap[bb]? = some (.cells #[.int .i64 (lastR L).at_, .int .i64 (lastR L).key, .int .i64 (lastR L).val] 31) := (hg.block bb lbb (fun e => by have := Option.some.inj e; omega)).trans h.hb
  refine ⟨(hg4.block bb (by have := hB.size; omega) (fun e => by have := (hne bb e.symm).1; omega)).trans ((hB.block bb lbb3).trans b3), (hg4.block _ (by simp; omega) (fun e => by have := (hne _ e.symm).2; omega)).trans ?_⟩
  rw [Below.heap_alloc _ _ _ (by simp)]
  show (w3.heap.push _)[w3.heap.size]? = _
  simp

set_option maxRecDepth 100000 in
set_option maxHeartbeats 2000000 in
theorem read1_any (cb tb base : Nat) (s : List Int) (w : World) (h : LeftIs w tb 96 s) (hc : w.heap[cb]? = some (.cells #[.pointer (some ⟨tb, 0, none⟩)] 95)) (hct : cb ≠ tb) (hbase : base = w.heap.size) :
    Calls Tryd.prog 56 #[.pointer (some ⟨cb, 0, none⟩)] w (BagOut base tb w (dBag s)) := by
  have HC := Lib.hid hc
  have HCT := Lib.hid hct
  have HB := Lib.hid hbase
  have htb := h.lt
  have HBY := Lib.hid h.byt
  have cc := cell_at_block (off := 0) hc rfl
  cases hn : dNum s with
  | none =>
    have HF : Hid (dBag s = none) := by show _ = _; simp [dBag, hn]
    have C := Lib.hid (cnum_no _ h hn)
    clear hc h hct hbase hn htb
    go_enter Tryd.func56, Tryd.ntmps56
    go_wp2_with (go_at_call 57; (with_reducible refine C.out.mono ?_); rintro e w1 ⟨rfl, hg⟩; have HG := Lib.hid hg; clear hg)
    refine ⟨rfl, ?_⟩
    show BagOut _ _ _ _ _ _
    rw [HF.out]
    exact ⟨rfl, HG.out⟩
  | some p =>
    obtain ⟨m, s1⟩ := p
    obtain ⟨m0, m1, hby1, hx⟩ := dNum_back h.byt hn
    clear hx
    have C := Lib.hid (cnum_yes _ h hn)
    by_cases h3 : m ≤ 300
    · have hd : decide (m ≤ 300) = true := by simpa using h3
      obtain ⟨M, rfl⟩ : ∃ M : Nat, m = (M : Int) := ⟨m.toNat, by omega⟩
      obtain ⟨R, hR⟩ : ∃ R, dAll M s1 [] = R := ⟨_, rfl⟩
      have HF : Hid (dBag s = endB R) := by show _ = _; rw [dBag_num hn h3, hR]
      have HR := Lib.hid hR
      have HBY1 := Lib.hid hby1
      have HTB := Lib.hid htb
      have hM : M ≤ 300 := by omega
      clear hc h hct hbase hn h3 m0 m1 hR hby1 htb
      go_enter Tryd.func56, Tryd.ntmps56
      go_wp2_with (first | (go_at_call 57; (with_reducible refine C.out.mono ?_); rintro e w1 ⟨rfl, hl, hg⟩; have HG := Lib.hid hg; have HL := Lib.hid hl; clear hl hg) | (go_at_call 58; (with_reducible refine (need_yes _).mono ?_); rintro e w' ⟨rfl, rfl⟩))
      have HREL : Hid (CRel tb w1.heap.size base M w R s1 [] (.slice none 0 0) (w1.alloc (.cells #[.int .i64 0, .int .i64 0, .int .i64 0] 31))) := by
        have hB : Below w1.heap.size w1 (w1.alloc (.cells #[.int .i64 0, .int .i64 0, .int .i64 0] 31)) := (Below.refl _ _).alloc (Nat.le_refl _) _
        exact ⟨Own.nil _ _ _ _ _, HL.out.later (row := none) ⟨hB.os, hB.tape, hB.output, hB.size, fun i hi _ => hB.block i hi⟩ (fun x e => by cases e), new_block _ _ _, HG.out.then_ ⟨hB.os, hB.tape, hB.output, hB.size, fun i hi _ => hB.block i hi⟩ (fun _ e => .inr e), HR.out, by simp, by simp [Small, lastR, zeroRc], HBY1.out⟩
      go_loopw [3, 13] (fun v i wr => ∃ rest L, i = .int .i64 (L.length : Nat) ∧ CRel tb w1.heap.size base M w R rest L v wr) (fun _ i _ => M - (intOf i).toNat)
      case atStart => exact ⟨_, _, rfl, HREL.out⟩
      case round =>
        clear HREL cc
        obtain ⟨rest, L, rfl, hrel⟩ := hrel
        obtain ⟨A0, cap0, rfl⟩ := hrel.own.shape
        have hcb := (hrel.g.block cb (Array.getElem?_eq_some_iff.1 HC.out).1 (fun e => HCT.out (Option.some.inj e))).trans HC.out
        have cc := cell_at_block (off := 0) hcb rfl
        have b0 := cell_at_block (off := 0) hrel.hb rfl
        have b1 := cell_at_block (off := 1) hrel.hb rfl
        have b2 := cell_at_block (off := 2) hrel.hb rfl
        have hle := hrel.le
        have HRR := Lib.hid hrel
        clear hcb hrel
        by_cases hlt : L.length < M
        · have hsm := HRR.out.small
          have hw : IntKind.i64.wrap ((L.length : Int) + 1) = (L.length : Int) + 1 := IntWalk.i64_in _ (by omega)
          have q1 : -1152921504606846976 ≤ (lastR L).at_ ∧ (lastR L).at_ ≤ 1152921504606846976 := by unfold Small at hsm; omega
          have q2 : -1152921504606846976 ≤ (lastR L).key ∧ (lastR L).key ≤ 1152921504606846976 := by unfold Small at hsm; omega
          have q3 : -1152921504606846976 ≤ (lastR L).val ∧ (lastR L).val ≤ 1152921504606846976 := by unfold Small at hsm; omega
          have hbb : w.heap.size ≤ w1.heap.size := HG.out.size
          cases hi : dItem (lastR L) L.isEmpty rest with
          | none =>
            have HZ : Hid (R = none) := by
              show _ = _
              rw [← HRR.out.r, show M - L.length = (M - L.length - 1) + 1 by omega, dAll, hi]
            cases hL : L.isEmpty
            all_goals
              first | (have hk0 : (((L.length : Nat) : Int) == 0) = true := by (rw [List.isEmpty_iff.1 hL]; rfl)) | (have hk0 : (((L.length : Nat) : Int) == 0) = false := by (cases L with | nil => cases hL | cons _ _ => simp; omega))
              rw [hL] at hi
              have C2 := Lib.hid (citem_no _ HRR.out.left q1 q2 q3 hi)
              clear hi hL q1 q2 q3 hsm hw
              go_wp2_with (go_at_call 59; (with_reducible refine C2.out.mono ?_); rintro e w5 ⟨rfl, hg⟩; have HG5 := Lib.hid hg; clear hg)
              refine ⟨rfl, ?_⟩
              show BagOut _ _ _ _ _ _
              rw [HF.out, HZ.out]
              exact ⟨rfl, HRR.out.g.then_ HG5.out (fun _ e => .inr e)⟩
          | some q =>
            obtain ⟨x, r⟩ := q
            have HI := Lib.hid hi
            cases hL : L.isEmpty
            all_goals
              first | (have hk0 : (((L.length : Nat) : Int) == 0) = true := by (rw [List.isEmpty_iff.1 hL]; rfl)) | (have hk0 : (((L.length : Nat) : Int) == 0) = false := by (cases L with | nil => cases hL | cons _ _ => simp; omega))
              rw [hL] at hi
              have C2 := Lib.hid (citem_yes _ HRR.out.left q1 q2 q3 hi)
              have hln : L.length ≤ 300 := by omega
              clear hi hL q1 q2 q3 hsm
              go_wp2_with (first | (go_at_call 59; (with_reducible refine C2.out.mono ?_); rintro e w3 ⟨rfl, hl, hg⟩; have HL3 := Lib.hid hl; have HG3 := Lib.hid hg; have HO3 := Lib.hid (HRR.out.own.grown hg (.inr (fun e => by have := (HRR.out.own.blk _ e).1; have := HTB.out; omega))); clear hl hg) | (at_builtin; go_loud (refine wpList_app1 It.vs 4 33 _ 32 infoIt rfl (by decide) rfl _ _ _ rfl Tryd.underlying23 (w1.heap.size + 1) _ L rfl ((HO3.out.alloc _).alloc _) x _ _ rfl rfl (newAt _ _ _ _ (by simp)) (by simp [It.vs, Value.oneCell']) (by omega) (by unfold maxLen; omega) (by have := (Array.getElem?_eq_some_iff.1 HRR.out.hb).1; have := HG3.out.size; simp; omega) (fun v4 w4 hown4 hg4 _ => ?_)); obtain ⟨hb4, hx4⟩ := HRR.out.mid HTB.out hbb HG3.out hg4; have y0 := cell_at_block (off := 0) hx4 rfl; have y1 := cell_at_block (off := 1) hx4 rfl; have y2 := cell_at_block (off := 2) hx4 rfl; have g0 := free_at_block (off := 0) hb4; have g1 := free_at_block (off := 1) hb4; have g2 := free_at_block (off := 2) hb4; have k0 := cell_at_block (off := 0) hb4 rfl; have k1 := cell_at_block (off := 1) hb4 rfl; have k2 := cell_at_block (off := 2) hb4 rfl; have HN4 := Lib.hid (HRR.out.next hlt HTB.out hbb HL3.out HG3.out hown4 hg4 HI.out); clear hb4 hx4 hown4 hg4))
              exact ⟨⟨r, L ++ [x], by rw [List.length_append]; go_num, HN4.out⟩, by simp [intOf]; omega⟩
        · have hlen : L.length = M := by omega
          have HZ : Hid (R = some (L, rest)) := by
            show _ = _
            rw [← HRR.out.r, hlen, Nat.sub_self]
            rfl
          clear hlen
          have D := Lib.hid (done_any tb _ rest _ HRR.out.left)
          have hne : decide ((L.length : Int) < (M : Int)) = false := by simp; omega
          cases hr : rest with
          | nil =>
            rw [hr] at D HZ
            have HE : Hid (dBag s = some L) := by show _ = _; rw [HF.out, HZ.out]; rfl
            clear hr b0 b1 b2
            go_wp2_with (first | (go_at_call 53; (with_reducible refine D.out.mono ?_); rintro e w' ⟨rfl, rfl⟩) | (go_at_call 58; (with_reducible refine (need_yes _).mono ?_); rintro e w' ⟨rfl, rfl⟩))
            go_ret
            show BagOut _ _ _ _ _ _
            rw [HE.out]
            exact ⟨_, rfl, HRR.out.own.mono (base' := base) (by have := HG.out.size; have := HB.out; omega), HRR.out.g⟩
          | cons y t =>
            rw [hr] at D HZ
            have HE : Hid (dBag s = none) := by show _ = _; rw [HF.out, HZ.out]; rfl
            clear hr b0 b1 b2
            go_wp2_with (first | (go_at_call 53; (with_reducible refine D.out.mono ?_); rintro e w' ⟨rfl, rfl⟩) | (go_at_call 58; (with_reducible refine (need_no _).mono ?_); rintro e w' ⟨rfl, rfl⟩))
            refine ⟨rfl, ?_⟩
            show BagOut _ _ _ _ _ _
            rw [HE.out]
            exact ⟨rfl, HRR.out.g⟩
    · have hd : decide (m ≤ 300) = false := by simpa using h3
      have HF : Hid (dBag s = none) := dBag_long hn h3
      clear hc h hct hbase hn h3 m0 m1 hby1 htb
      go_enter Tryd.func56, Tryd.ntmps56
      go_wp2_with (first | (go_at_call 57; (with_reducible refine C.out.mono ?_); rintro e w1 ⟨rfl, hl, hg⟩; have HG := Lib.hid hg; clear hl hg) | (go_at_call 58; (with_reducible refine (need_no _).mono ?_); rintro e w' ⟨rfl, rfl⟩))
      refine ⟨rfl, ?_⟩
      show BagOut _ _ _ _ _ _
      rw [HF.out]
      exact ⟨rfl, HG.out⟩

/-- The worlds of Read: the bytes to read, the variable that holds them. -/
def readW (w : World) (A : Option Addr) (n cap : Nat) : World := (w.alloc (.cells #[.slice A n cap] 96)).alloc (.cells #[.pointer (some ⟨w.heap.size, 0, none⟩)] 95)
theorem readW_left (w : World) (A : Option Addr) (n cap : Nat) (s : List Int) (h : Rd bv 1 w 0 A n s) (hcap : n ≤ cap) (hin : 0 < n → ∀ b off, A = some ⟨b, off, none⟩ → b < w.heap.size) (hby : Byt s) : LeftIs (readW w A n cap) w.heap.size 96 s ∧ (readW w A n cap).heap[w.heap.size + 1]? = some (.cells #[.pointer (some ⟨w.heap.size, 0, none⟩)] 95) ∧ (readW w A n cap).heap.size = w.heap.size + 2 ∧ Below w.heap.size w (readW w A n cap) := by
  have hB : Below w.heap.size w (readW w A n cap) := ((Below.refl _ _).alloc (Nat.le_refl _) _).alloc (by simp) _
  have hl := h.len
  subst hl
  refine ⟨⟨A, cap, ?_, h.below hB, hin, hcap, hby⟩, ?_, by simp [readW], hB⟩
  · unfold readW
    rw [Below.heap_alloc _ _ _ (by simp)]
    exact new_block _ _ _
  · have := new_block (w.alloc (.cells #[.slice A s.length cap] 96)) #[.pointer (some ⟨w.heap.size, 0, none⟩)] 95
    simpa [readW] using this

set_option maxRecDepth 100000 in
theorem Read_any (A : Option Addr) (n cap : Nat) (s : List Int) (w : World) (hA : Rd bv 1 w 0 A n s) (hcap : n ≤ cap) (hin : 0 < n → ∀ b off, A = some ⟨b, off, none⟩ → b < w.heap.size) (hby : Byt s) :
    Calls Tryd.prog 22 #[.slice A n cap] w (RetBag w (readR s)) := by
  have hmf : ∀ (fn : Fn) (first cap : Array Value) (w : World), (Instr.makeFunc fn first cap).run Tryd.prog w = .ok (.func fn first cap) w := fun _ _ _ _ => rfl
  obtain ⟨hl, hc, hz, hbl⟩ := readW_left w A n cap s hA hcap hin hby
  have HP : Calls Tryd.prog 51 #[.func (.func 56) #[] #[.pointer (some ⟨w.heap.size + 1, 0, none⟩)]] (readW w A n cap) (RetRead w.heap.size (readW w A n cap) (readR s)) := by
    generalize readW w A n cap = W at *
    have hB : Below W.heap.size W ((W.alloc (.cells #[.slice none 0 0] 23)).alloc (.cells #[.int .i64 0] 24)) := ((Below.refl _ _).alloc (Nat.le_refl _) _).alloc (by simp) _
    refine read_read _ _ _ _ (by omega) ?_
    exact read1_any _ _ _ _ _ (hl.later (row := none) ⟨hB.os, hB.tape, hB.output, hB.size, fun i hi _ => hB.block i hi⟩ (fun x e => by cases e)) ((hB.block _ (by omega)).trans hc) (by omega) (by simp)
  have HPh := Lib.hid HP
  have HBL := Lib.hid hbl
  unfold readW at HPh
  clear HP hl hc hz hbl hA hcap hin hby
  go_enter Tryd.func22, Tryd.ntmps22
  go_wp2_with (go_at_call 51; (with_reducible refine HPh.out.mono ?_); rintro e w1 ⟨hg, A1, cap1, rfl, hr⟩; have HG := Lib.hid hg; have HR := Lib.hid hr; clear hg hr)
  go_ret2
  have HG1 : (readW w A n cap).grownBy w1 (some w.heap.size) := HG.out
  have HR1 : Rd It.vs 4 w1 (readW w A n cap).heap.size A1 (readR s).1.length (readR s).1 := HR.out
  have hb := HBL.out
  exact ⟨A1, cap1, rfl, HR1.low hb.size, hb.grown HG1 hb.size (fun k e => by cases e; omega)⟩
end Go.Proofs.Bg
end

section
/- Plain law: a bag comes back from its text, and what is taken as a text is the text of what it says. No memory. -/
namespace Go.Proofs.Bg

theorem intsOf_append (a b : List UInt8) : intsOf (a ++ b) = intsOf a ++ intsOf b := by simp [intsOf]
theorem intsOf_inj {a b : List UInt8} (h : intsOf a = intsOf b) : a = b := by
  induction a generalizing b with
  | nil => cases b with
    | nil => rfl
    | cons y s => simp [intsOf] at h
  | cons x r ih => cases b with
    | nil => simp [intsOf] at h
    | cons y s =>
      simp only [intsOf, List.map_cons, List.cons.injEq] at h
      have : x = y := UInt8.toNat_inj.1 (by omega)
      rw [this, ih (b := s) (by simpa [intsOf] using h.2)]

/-! ### numbers -/
def dec (u : Nat) : List Int := intsOf (Lib.decDigits u)
theorem dec_eq (u : Nat) : dec u = if u < 10 then [48 + (u : Int)] else dec (u / 10) ++ [48 + ((u % 10 : Nat) : Int)] := by
  unfold dec
  rw [Lib.decDigits]
  split
  · rename_i h
    simp only [intsOf, List.map_cons, List.map_nil, List.cons.injEq, and_true]
    rw [UInt8.toNat_ofNat']
    omega
  · rw [intsOf_append]
    congr 1
    simp only [intsOf, List.map_cons, List.map_nil, List.cons.injEq, and_true]
    rw [UInt8.toNat_ofNat']
    omega
theorem isDig_iff (x : Int) : isDig x = true ↔ 48 ≤ x ∧ x ≤ 57 := by simp [isDig, withinB]
theorem dec_head (u : Nat) : ∃ x r, dec u = x :: r ∧ isDig x = true := by
  induction u using Nat.strongRecOn with
  | _ u ih =>
    rw [dec_eq]
    split
    · exact ⟨_, _, rfl, (isDig_iff _).2 (by omega)⟩
    · obtain ⟨x, r, e, h⟩ := ih (u / 10) (by omega)
      exact ⟨x, r ++ [48 + ((u % 10 : Nat) : Int)], by rw [e]; rfl, h⟩
/-- No digit comes next. -/
def Stop (t : List Int) : Prop := ∀ x r, t = x :: r → isDig x = false
theorem Stop.nil : Stop [] := fun _ _ h => by cases h
theorem pLoop_stop {t : List Int} (h : Stop t) (n : Int) : pLoop t n = some (n, t) := by
  cases t with
  | nil => rfl
  | cons x r => rw [pLoop, h x r rfl]; simp
theorem pAbs_dec (u : Nat) (hu : u ≤ 1000000000) (t : List Int) : pAbs (dec u ++ t) = pLoop t u := by
  induction u using Nat.strongRecOn generalizing t with
  | _ u ih =>
    rw [dec_eq]
    split
    · rename_i h
      have hd : isDig (48 + (u : Int)) = true := (isDig_iff _).2 (by omega)
      simp only [List.cons_append, List.nil_append, pAbs, hd, if_true]
      congr 1
      omega
    · rename_i h
      rw [List.append_assoc, ih (u / 10) (by omega) (by omega)]
      have hd : isDig (48 + ((u % 10 : Nat) : Int)) = true := (isDig_iff _).2 (by omega)
      have hp : (decide ((0 : Int) < ((u / 10 : Nat) : Int))) = true := by simp; omega
      have he : 10 * ((u / 10 : Nat) : Int) + (48 + ((u % 10 : Nat) : Int) - 48) = u := by omega
      simp only [List.cons_append, List.nil_append, pLoop, hd, hp, he, Bool.and_self, if_true]
      rw [if_pos (by omega)]
theorem dec_snoc {n : Int} {x : Int} (h0 : 0 < n) (hd : isDig x = true) : dec (10 * n + (x - 48)).toNat = dec n.toNat ++ [x] := by
  have hx := (isDig_iff x).1 hd
  rw [dec_eq, if_neg (by omega)]
  have e1 : (10 * n + (x - 48)).toNat / 10 = n.toNat := by omega
  have e2 : 48 + (((10 * n + (x - 48)).toNat % 10 : Nat) : Int) = x := by omega
  rw [e1, e2]
theorem pLoop_text : ∀ (s : List Int) (n m : Int) (r : List Int), 0 ≤ n → n ≤ 1000000000 → pLoop s n = some (m, r) → 0 ≤ m ∧ m ≤ 1000000000 ∧ ∃ p, s = p ++ r ∧ dec n.toNat ++ p = dec m.toNat
  | [], n, m, r, h0, h1, h => by
    simp only [pLoop, Option.some.injEq, Prod.mk.injEq] at h
    obtain ⟨rfl, rfl⟩ := h
    exact ⟨h0, h1, [], rfl, by simp⟩
  | x :: s, n, m, r, h0, h1, h => by
    rw [pLoop] at h
    split at h
    · rename_i hc
      rw [Bool.and_eq_true, decide_eq_true_eq] at hc
      split at h
      · rename_i hle
        have hx := (isDig_iff x).1 hc.2
        obtain ⟨a, b, p, e1, e2⟩ := pLoop_text s _ m r (by omega) hle h
        refine ⟨a, b, x :: p, by rw [e1]; rfl, ?_⟩
        rw [dec_snoc hc.1 hc.2] at e2
        rw [← e2]
        simp
      · cases h
    · simp only [Option.some.injEq, Prod.mk.injEq] at h
      obtain ⟨rfl, rfl⟩ := h
      exact ⟨h0, h1, [], rfl, by simp⟩
theorem pAbs_text {s r : List Int} {n : Int} (h : pAbs s = some (n, r)) : 0 ≤ n ∧ n ≤ 1000000000 ∧ s = dec n.toNat ++ r := by
  cases s with
  | nil => cases h
  | cons x s =>
    rw [pAbs] at h
    split at h
    · rename_i hd
      have hx := (isDig_iff x).1 hd
      obtain ⟨a, b, p, e1, e2⟩ := pLoop_text s _ n r (by omega) (by omega) h
      refine ⟨a, b, ?_⟩
      rw [dec_eq (x - 48).toNat, if_pos (by omega)] at e2
      have : 48 + ((x - 48).toNat : Int) = x := by omega
      rw [this] at e2
      rw [← e2, e1]
      simp
    · cases h

def itI (n : Int) : List Int := intsOf (Lib.itoa n)
theorem itI_eq (n : Int) : itI n = if n < 0 then 45 :: dec n.natAbs else dec n.toNat := by
  unfold itI Lib.itoa
  split
  · simp [intsOf, dec]
  · rfl
theorem itI_head (n : Int) : ∃ x r, itI n = x :: r ∧ (x = 45 ∨ isDig x = true) := by
  rw [itI_eq]
  split
  · exact ⟨_, _, rfl, .inl rfl⟩
  · obtain ⟨x, r, e, h⟩ := dec_head n.toNat
    exact ⟨x, r, e, .inr h⟩
theorem pNum_it {n : Int} (h0 : -1000000000 ≤ n) (h1 : n ≤ 1000000000) {t : List Int} (ht : Stop t) : pNum (itI n ++ t) = some (n, t) := by
  rw [itI_eq]
  split
  · rename_i hn
    have e : pAbs (dec n.natAbs ++ t) = some ((n.natAbs : Int), t) := by rw [pAbs_dec _ (by omega), pLoop_stop ht]
    simp only [List.cons_append, pNum, if_true, e]
    rw [if_pos (by omega)]
    congr 2
    omega
  · rename_i hn
    obtain ⟨x, r, e, hd⟩ := dec_head n.toNat
    have hx := (isDig_iff x).1 hd
    have e2 : pAbs (dec n.toNat ++ t) = some ((n.toNat : Int), t) := by rw [pAbs_dec _ (by omega), pLoop_stop ht]
    rw [e] at e2 ⊢
    simp only [List.cons_append, pNum] at e2 ⊢
    rw [if_neg (by omega), e2]
    congr 2
    omega
theorem pNum_text {s r : List Int} {n : Int} (h : pNum s = some (n, r)) : -1000000000 ≤ n ∧ n ≤ 1000000000 ∧ s = itI n ++ r := by
  cases s with
  | nil => cases h
  | cons x s =>
    rw [pNum] at h
    split at h
    · rename_i hx
      cases ha : pAbs s with
      | none => rw [ha] at h; cases h
      | some q =>
        obtain ⟨m, r'⟩ := q
        rw [ha] at h
        simp only at h
        split at h
        · rename_i hm
          simp only [Option.some.injEq, Prod.mk.injEq] at h
          obtain ⟨rfl, rfl⟩ := h
          obtain ⟨a, b, e⟩ := pAbs_text ha
          refine ⟨by omega, by omega, ?_⟩
          rw [itI_eq, if_pos (by omega), e, hx]
          have : (-m).natAbs = m.toNat := by omega
          rw [this]
          rfl
        · cases h
    · obtain ⟨a, b, e⟩ := pAbs_text h
      refine ⟨by omega, by omega, ?_⟩
      rw [itI_eq, if_neg (by omega), e]

/-! ### items -/
theorem pSign_cons (c : Int) (t : List Int) : pSign c (c :: t) = some t := by simp [pSign]
theorem pSign_text {c : Int} {s r : List Int} (h : pSign c s = some r) : s = c :: r := by
  cases s with
  | nil => cases h
  | cons x s =>
    rw [pSign] at h
    split at h
    · rename_i hx
      simp only [Option.some.injEq] at h
      rw [hx, h]
    · cases h
def itX (x : It) : List Int := itI x.r.at_ ++ 32 :: (itI x.r.key ++ 32 :: (itI x.r.val ++ 32 :: itI x.n))
theorem itT_ints (x : It) : intsOf (itT x) = itX x := by
  simp [itT, partT, valOf, intsOf_append, itX, itI]
  simp [intsOf]
theorem stop_space (t : List Int) : Stop (32 :: t) := fun x r h => by cases h; decide
theorem stop_semi (t : List Int) : Stop (59 :: t) := fun x r h => by cases h; decide
theorem itB_num {x : It} (h : itB x = true) : (-1000000000 ≤ x.r.at_ ∧ x.r.at_ ≤ 1000000000) ∧ (-1000000000 ≤ x.r.key ∧ x.r.key ≤ 1000000000) ∧ (-1000000000 ≤ x.r.val ∧ x.r.val ≤ 1000000000) ∧ (-1000000000 ≤ x.n ∧ x.n ≤ 1000000000) := by
  have := (itB_spec x).1 h
  omega
theorem pItem_it {x : It} (h : itB x = true) {t : List Int} (ht : Stop t) : pItem (itX x ++ t) = some (x, t) := by
  obtain ⟨⟨a1, a2⟩, ⟨b1, b2⟩, ⟨c1, c2⟩, ⟨d1, d2⟩⟩ := itB_num h
  unfold itX pItem
  simp only [List.append_assoc, List.cons_append, pNum_it a1 a2 (stop_space _), pSign_cons, pNum_it b1 b2 (stop_space _), pNum_it c1 c2 (stop_space _), pNum_it d1 d2 ht]
theorem pItem_text {s r : List Int} {x : It} (h : pItem s = some (x, r)) : s = itX x ++ r := by
  unfold pItem at h
  cases h1 : pNum s with
  | none => rw [h1] at h; cases h
  | some p1 =>
    obtain ⟨a, s1⟩ := p1
    rw [h1] at h
    simp only at h
    cases h2 : pSign 32 s1 with
    | none => rw [h2] at h; cases h
    | some s2 =>
      rw [h2] at h
      simp only at h
      cases h3 : pNum s2 with
      | none => rw [h3] at h; cases h
      | some p3 =>
        obtain ⟨k, s3⟩ := p3
        rw [h3] at h
        simp only at h
        cases h4 : pSign 32 s3 with
        | none => rw [h4] at h; cases h
        | some s4 =>
          rw [h4] at h
          simp only at h
          cases h5 : pNum s4 with
          | none => rw [h5] at h; cases h
          | some p5 =>
            obtain ⟨v, s5⟩ := p5
            rw [h5] at h
            simp only at h
            cases h6 : pSign 32 s5 with
            | none => rw [h6] at h; cases h
            | some s6 =>
              rw [h6] at h
              simp only at h
              cases h7 : pNum s6 with
              | none => rw [h7] at h; cases h
              | some p7 =>
                obtain ⟨n, s7⟩ := p7
                rw [h7] at h
                simp only [Option.some.injEq, Prod.mk.injEq] at h
                obtain ⟨rfl, rfl⟩ := h
                rw [(pNum_text h1).2.2, pSign_text h2, (pNum_text h3).2.2, pSign_text h4, (pNum_text h5).2.2, pSign_text h6, (pNum_text h7).2.2]
                simp [itX]

/-! ### bags -/
def txt : Bool → List It → List Int
  | _, [] => []
  | b, x :: r => (if b then [] else [59, 32]) ++ (itX x ++ txt false r)
theorem txt_snoc (b : Bool) (l : List It) (x : It) : txt b (l ++ [x]) = txt b l ++ ((if b && l.isEmpty then [] else [59, 32]) ++ itX x) := by
  induction l generalizing b with
  | nil => simp [txt]
  | cons y r ih => simp only [List.cons_append, txt, ih]; simp
theorem textTo_txt (l : List It) : ∀ k, k ≤ l.length → intsOf (textTo l k) = txt true (l.take k)
  | 0, _ => by simp [textTo, txt, intsOf]
  | k + 1, h => by
    have hx : l[k]? = some l[k] := List.getElem?_eq_getElem h
    have ht : l.take (k + 1) = l.take k ++ [l[k]] := by rw [List.take_add_one, hx]; rfl
    rw [ht, txt_snoc, textTo, intsOf_append, textTo_txt l k (by omega), hx, intsOf_append]
    simp only [itT_ints]
    congr 2
    cases k with
    | zero => simp [intsOf]
    | succ k =>
      have : (l.take (k + 1)).isEmpty = false := by
        cases l with
        | nil => simp at h
        | cons _ _ => rfl
      rw [this]
      simp [intsOf]
theorem textOf_txt (l : List It) : intsOf (textOf l) = txt true l := by
  rw [textOf, textTo_txt l _ (Nat.le_refl _), List.take_length]
theorem txt_stop (l : List It) : Stop (txt false l) := by
  cases l with
  | nil => exact Stop.nil
  | cons x r => exact stop_semi _
theorem itX_ne (x : It) (t : List Int) : itX x ++ t ≠ [] := by
  obtain ⟨y, r, e, _⟩ := itI_head x.r.at_
  simp [itX, e]
theorem pAll_txt : ∀ (l L : List It) (f : Nat), (∀ x ∈ l, itB x = true) → l.length < f → pAll f (txt L.isEmpty l) L = some (L ++ l)
  | [], L, f, _, hf => by
    obtain ⟨g, rfl⟩ : ∃ g, f = g + 1 := ⟨f - 1, by simp at hf; omega⟩
    simp [pAll, txt]
  | x :: r, L, f, h, hf => by
    obtain ⟨g, rfl⟩ : ∃ g, f = g + 1 := ⟨f - 1, by simp at hf; omega⟩
    have hi := pItem_it (h x List.mem_cons_self) (txt_stop r)
    have ih := pAll_txt r (L ++ [x]) g (fun y hy => h y (List.mem_cons_of_mem _ hy)) (by simp at hf; omega)
    have he : (L ++ [x]).isEmpty = false := by simp
    rw [he] at ih
    cases hL : L.isEmpty with
    | true =>
      rw [pAll, hL]
      have : txt true (x :: r) ≠ [] := by simp only [txt, if_true, List.nil_append]; exact itX_ne _ _
      rw [if_neg this]
      simp only [pSep, txt, if_true, List.nil_append, hi, ih]
      simp
    | false =>
      rw [pAll, hL]
      have : txt false (x :: r) ≠ [] := by simp [txt]
      rw [if_neg this]
      simp only [pSep, txt, Bool.false_eq_true, if_false, List.cons_append, List.nil_append, pSign_cons, Option.bind_some, hi, ih]
      simp
theorem pAll_text : ∀ (f : Nat) (s : List Int) (L R : List It), s.length < f → pAll f s L = some R → ∃ l, R = L ++ l ∧ s = txt L.isEmpty l
  | 0, _, _, _, hf, _ => absurd hf (by omega)
  | f + 1, s, L, R, hf, h => by
    rw [pAll] at h
    split at h
    · rename_i hs
      simp only [Option.some.injEq] at h
      exact ⟨[], by simp [h], by rw [hs]; rfl⟩
    · cases h1 : pSep L.isEmpty s with
      | none => rw [h1] at h; cases h
      | some s1 =>
        rw [h1] at h
        simp only at h
        cases h2 : pItem s1 with
        | none => rw [h2] at h; cases h
        | some q =>
          obtain ⟨x, r⟩ := q
          rw [h2] at h
          simp only at h
          have e2 := pItem_text h2
          have hlt := pItem_lt h2
          have e1 : s = (if L.isEmpty then [] else [59, 32]) ++ s1 := by
            cases hL : L.isEmpty with
            | true =>
              rw [hL] at h1
              simp only [pSep, if_true, Option.some.injEq] at h1
              simp [h1]
            | false =>
              rw [hL] at h1
              simp only [pSep, Bool.false_eq_true, if_false] at h1
              cases h3 : pSign 59 s with
              | none => rw [h3] at h1; cases h1
              | some s3 =>
                rw [h3] at h1
                simp only [Option.bind_some] at h1
                rw [pSign_text h3, pSign_text h1]
                simp
          have hl : r.length < f := by
            have := congrArg List.length e1
            simp only [List.length_append] at this
            omega
          obtain ⟨l, e3, e4⟩ := pAll_text f r (L ++ [x]) R hl h
          have he : (L ++ [x]).isEmpty = false := by simp
          rw [he] at e4
          refine ⟨x :: l, by rw [e3]; simp, ?_⟩
          rw [e1, e2, e4]
          rfl
theorem txt_length (b : Bool) (l : List It) : l.length ≤ (txt b l).length := by
  induction l generalizing b with
  | nil => simp
  | cons x r ih =>
    have := ih false
    have h : 0 < (itX x).length := List.length_pos_iff.2 (by have := itX_ne x []; simpa using this)
    simp only [txt, List.length_cons, List.length_append]
    omega
/-- A bag comes back from its text. -/
theorem parse_text {b : List It} (h : bagB b = true) : parseR (textOf b) = (b, 0) := by
  have h1 := pAll_txt b [] ((intsOf (textOf b)).length + 1) ((bagB_spec b).1 h).1 (by rw [textOf_txt]; have := txt_length true b; omega)
  have e : pBag (intsOf (textOf b)) = some b := by
    unfold pBag
    have e2 : txt ([] : List It).isEmpty b = intsOf (textOf b) := (textOf_txt b).symm
    rw [e2] at h1
    simpa using h1
  unfold parseR
  rw [e]
  simp [readB, h]
/-- What is taken is what is written. -/
theorem parse_back {s : List UInt8} (h : (parseR s).2 = 0) : bagB (parseR s).1 = true ∧ textOf (parseR s).1 = s := by
  unfold parseR at *
  cases e : pBag (intsOf s) with
  | none => rw [e] at h; simp [readB] at h
  | some l =>
    rw [e] at h
    cases hb : bagB l with
    | false => simp [readB, hb] at h
    | true =>
      simp only [readB, hb, if_true]
      refine ⟨trivial, ?_⟩
      obtain ⟨l', e1, e2⟩ := pAll_text _ _ [] l (Nat.lt_succ_self _) e
      have : l' = l := by simpa using e1.symm
      subst this
      apply intsOf_inj
      rw [textOf_txt]
      exact e2.symm
theorem parse_err (s : List UInt8) : (parseR s).2 = 0 ∨ parseR s = ([], 4) := by
  unfold parseR readB
  cases pBag (intsOf s) with
  | none => exact .inr rfl
  | some l =>
    simp only
    split
    · exact .inl rfl
    · exact .inr rfl
/-- The text's bag, by its text. -/
theorem parse_is {s : List UInt8} {b : List It} (hb : bagB b = true) (h : textOf b = s) : parseR s = (b, 0) := by
  rw [← h]
  exact parse_text hb
end Go.Proofs.Bg
end

section
/- The contract of slices.Equal at bags. (Turned by program out of the reference's Same: the two have the same shape.) -/
namespace Go.Proofs.Bg
open Go.RowKit

set_option maxRecDepth 100000 in
set_option maxHeartbeats 8000000 in
theorem Equal_any (A B : Option Addr) (n m capA capB : Nat) (a b : List It) (w : World) (hA : Rd It.vs 4 w 0 A n a) (hB : Rd It.vs 4 w 0 B m b) :
    Calls Tryd.prog 11 #[.slice A n capA, .slice B m capB] w fun e w' => e = .returned (.bool (decide (a = b))) ∧ Below w.heap.size w w' := by
  have HA := Lib.hid hA
  have HB := Lib.hid hB
  have hle := hA.le
  have hle2 := hB.le
  clear hA hB
  cases hnm : ((n : Int) != (m : Int)) with
  | true =>
    have hne : decide (a = b) = false := by
      rw [decide_eq_false_iff_not]
      rintro rfl
      have h1 := HA.out.len
      have h2 := HB.out.len
      simp at hnm
      omega
    rw [hne]
    clear hne
    go_enter Tryd.func11, Tryd.ntmps11
    go_wp2
    go_ret
    exact ⟨rfl, Below.refl _ _⟩
  | false =>
    have hE : n = m := by simp at hnm; omega
    subst hE
    go_enter Tryd.func11, Tryd.ntmps11
    go_wp2_with fail
    go_loopw [5, 13] (fun _ i wr => ∃ k : Nat, k ≤ n ∧ i = .int .i64 k ∧ a.take k = b.take k ∧ Below w.heap.size w wr) (fun _ i _ => n - (intOf i).toNat)
    case atStart => exact ⟨0, by omega, rfl, by simp, Below.refl _ _⟩
    case round =>
      obtain ⟨k, hk, rfl, ht, hW⟩ := hrel
      have hRa := HA.out.below hW
      have hRb := HB.out.below hW
      have HW := Lib.hid hW
      have HT := Lib.hid ht
      clear hW ht
      by_cases hlt : k < n
      · obtain ⟨b1, o1, x, rfl, _, hx, c0, c1, c2, c3⟩ := hRa.it_at hlt
        obtain ⟨b2, o2, y, rfl, _, hy, d0, d1, d2, d3⟩ := hRb.it_at hlt
        have HX := Lib.hid hx
        have HY := Lib.hid hy
        have hi0 : (0 : Int) ≤ k := by omega
        have hi1 : (k : Int) < n := by omega
        clear hx hy hRa hRb
        by_cases hxy : x = y
        · subst hxy
          go_wp2_with fail
          go_quiet (fail)
          go_wp2_with fail
          exact ⟨⟨k + 1, by omega, by go_num, by rw [List.take_add_one, List.take_add_one, HX.out, HY.out, HT.out], below_drewN HW.out _⟩, by simp [intOf]; omega⟩
        · have hne : decide (a = b) = false := by
            rw [decide_eq_false_iff_not]
            rintro rfl
            rw [HX.out] at HY
            exact hxy (Option.some.inj HY.out)
          have HNE := Lib.hid hne
          have hq := fun h => hxy ((It.beq_vs x y).2 h)
          clear hne hxy
          cases e0 : (x.r.at_ == y.r.at_) with
          | false =>
            have e0' : (x.r.at_ != y.r.at_) = true := by rw [bne, e0]; rfl
            clear hq
            go_wp2_with fail
            go_quiet (fail)
            go_wp2_with fail
            go_ret
            refine ⟨ret_bool ?_, below_drewN HW.out _⟩
            rw [HNE.out]
          | true =>
            have g0 := beq_iff_eq.1 e0
            rw [← g0] at d0
            cases e1 : (x.r.key == y.r.key) with
            | false =>
              have e1' : (x.r.key != y.r.key) = true := by rw [bne, e1]; rfl
              clear hq e0 g0
              go_wp2_with fail
              go_quiet (fail)
              go_wp2_with fail
              go_ret
              refine ⟨ret_bool ?_, below_drewN HW.out _⟩
              rw [HNE.out]
            | true =>
              have g1 := beq_iff_eq.1 e1
              rw [← g1] at d1
              cases e2 : (x.r.val == y.r.val) with
              | false =>
                have e2' : (x.r.val != y.r.val) = true := by rw [bne, e2]; rfl
                clear hq e0 g0 e1 g1
                go_wp2_with fail
                go_quiet (fail)
                go_wp2_with fail
                go_ret
                refine ⟨ret_bool ?_, below_drewN HW.out _⟩
                rw [HNE.out]
              | true =>
                have g2 := beq_iff_eq.1 e2
                rw [← g2] at d2
                have e3 : (x.n == y.n) = false := by
                  cases h : (x.n == y.n) with
                  | false => rfl
                  | true => exact absurd ⟨g0, g1, g2, beq_iff_eq.1 h⟩ hq
                have e3' : (x.n != y.n) = true := by rw [bne, e3]; rfl
                clear hq e0 g0 e1 g1 e2 g2
                go_wp2_with fail
                go_quiet (fail)
                go_wp2_with fail
                go_ret
                refine ⟨ret_bool ?_, below_drewN HW.out _⟩
                rw [HNE.out]
      · have hk' : k = n := by omega
        subst hk'
        clear hRa hRb hlt
        go_wp2_with fail
        go_ret
        refine ⟨ret_bool ?_, HW.out⟩
        have h := HT.out
        rw [List.take_of_length_le (by rw [HA.out.len]; exact Nat.le_refl _), List.take_of_length_le (by rw [HB.out.len]; exact Nat.le_refl _)] at h
        simp [h]
end Go.Proofs.Bg
end

section
/- The contract of slices.Equal at bytes. -/
namespace Go.Proofs.Bg
open Go.RowKit

set_option maxRecDepth 100000 in
set_option maxHeartbeats 4000000 in
theorem EqualB_any (A B : Option Addr) (n m capA capB : Nat) (a b : List Int) (w : World) (hA : Rd bv 1 w 0 A n a) (hB : Rd bv 1 w 0 B m b) :
    Calls Tryd.prog 23 #[.slice A n capA, .slice B m capB] w fun e w' => e = .returned (.bool (decide (a = b))) ∧ Below w.heap.size w w' := by
  have HA := Lib.hid hA
  have HB := Lib.hid hB
  have hle := hA.le
  have hle2 := hB.le
  clear hA hB
  cases hnm : ((n : Int) != (m : Int)) with
  | true =>
    have hne : decide (a = b) = false := by
      rw [decide_eq_false_iff_not]
      rintro rfl
      have h1 := HA.out.len
      have h2 := HB.out.len
      simp at hnm
      omega
    rw [hne]
    clear hne
    go_enter Tryd.func23, Tryd.ntmps23
    go_wp2
    go_ret
    exact ⟨rfl, Below.refl _ _⟩
  | false =>
    have hE : n = m := by simp at hnm; omega
    subst hE
    go_enter Tryd.func23, Tryd.ntmps23
    go_wp2_with fail
    go_loopw [5, 13] (fun _ i wr => ∃ k : Nat, k ≤ n ∧ i = .int .i64 k ∧ a.take k = b.take k ∧ Below w.heap.size w wr) (fun _ i _ => n - (intOf i).toNat)
    case atStart => exact ⟨0, by omega, rfl, by simp, Below.refl _ _⟩
    case round =>
      obtain ⟨k, hk, rfl, ht, hW⟩ := hrel
      have hRa := HA.out.below hW
      have hRb := HB.out.below hW
      have HW := Lib.hid hW
      have HT := Lib.hid ht
      clear hW ht
      by_cases hlt : k < n
      · obtain ⟨b1, o1, x, rfl, _, hx, c0⟩ := hRa.at_ hlt
        obtain ⟨b2, o2, y, rfl, _, hy, d0⟩ := hRb.at_ hlt
        have c0 := c0 0 _ rfl
        have d0 := d0 0 _ rfl
        simp only [Nat.add_zero, Nat.mul_one] at c0 d0
        have HX := Lib.hid hx
        have HY := Lib.hid hy
        have hi0 : (0 : Int) ≤ k := by omega
        have hi1 : (k : Int) < n := by omega
        clear hx hy hRa hRb
        by_cases hxy : x = y
        · subst hxy
          go_wp2_with fail
          go_quiet (fail)
          go_wp2_with fail
          exact ⟨⟨k + 1, by omega, by go_num, by rw [List.take_add_one, List.take_add_one, HX.out, HY.out, HT.out], below_drewN HW.out _⟩, by simp [intOf]; omega⟩
        · have hne : decide (a = b) = false := by
            rw [decide_eq_false_iff_not]
            rintro rfl
            rw [HX.out] at HY
            exact hxy (Option.some.inj HY.out)
          have HNE := Lib.hid hne
          have e0 : (x == y) = false := by simpa using hxy
          have e0' : (x != y) = true := by rw [bne, e0]; rfl
          clear hne hxy
          go_wp2_with fail
          go_quiet (fail)
          go_wp2_with fail
          go_ret
          refine ⟨ret_bool ?_, below_drewN HW.out _⟩
          rw [HNE.out]
      · have hk' : k = n := by omega
        subst hk'
        clear hRa hRb hlt
        go_wp2_with fail
        go_ret
        refine ⟨ret_bool ?_, HW.out⟩
        have h := HT.out
        rw [List.take_of_length_le (by rw [HA.out.len]; exact Nat.le_refl _), List.take_of_length_le (by rw [HB.out.len]; exact Nat.le_refl _)] at h
        simp [h]
end Go.Proofs.Bg
end

section
/- What a call that returns a bag and an error leaves, the length named. -/
namespace Go.Proofs.Bg
open Go.RowKit
def RetL (w : World) (p : List It × Int) (e : Ending) (w' : World) : Prop :=
  (∃ A n cap, e = .returned (.tuple #[.slice A n cap, .int .i64 p.2]) ∧ Rd It.vs 4 w' w.heap.size A n p.1) ∧ Below w.heap.size w w'
theorem RetBag.lst {w w' : World} {p : List It × Int} {e : Ending} (h : RetBag w p e w') : RetL w p e w' := by
  obtain ⟨A, cap, he, hr, hb⟩ := h
  exact ⟨⟨A, _, cap, he, hr⟩, hb⟩
end Go.Proofs.Bg
end

section
/- BagBack: the walk of the law. -/
namespace Go.Proofs.Bg
open Go.RowKit

theorem Rd.block_lt {w : World} {A : Option Addr} {n : Nat} {l : List Int} (h : Rd bv 1 w 0 A n l) : 0 < n → ∀ b off, A = some ⟨b, off, none⟩ → b < w.heap.size := by
  intro h0 b off e
  obtain ⟨b2, off2, x, e2, _, _, hc⟩ := h.at_ h0
  rw [e] at e2
  cases e2
  exact World.block_lt_of_cell? w _ (hc 0 _ rfl)
theorem RetBytes.lst {w w' : World} {bs : List Int} {c : Int} {e : Ending} (h : RetBytes w (bs, c) e w') : (∃ A q cap, e = .returned (.tuple #[.slice A q cap, .int .i64 c]) ∧ Rd bv 1 w' 0 A q bs ∧ q ≤ cap) ∧ Below w.heap.size w w' := by
  obtain ⟨A, cap, he, hr, hb, hc⟩ := h
  exact ⟨⟨A, _, cap, he, hr.low (Nat.zero_le _), hc⟩, hb⟩
theorem Byt.append {a b : List Int} (h : Byt a) (k : Byt b) : Byt (a ++ b) := fun x hx => (List.mem_append.1 hx).elim (h x) (k x)
theorem numF_byt : ∀ (f : Nat) (n : Int), 0 ≤ n → n < 128 ^ (f + 1) → Byt (numF f n)
  | 0, n, h0, h1 => fun x hx => by
    simp [numF] at hx h1
    omega
  | f + 1, n, h0, h1 => by
    rw [numF]
    split
    · intro x hx
      simp at hx
      omega
    · intro x hx
      rcases List.mem_cons.1 hx with rfl | hx
      · omega
      · refine numF_byt f (n / 128) (by omega) ?_ x hx
        rw [Int.pow_succ] at h1
        omega
theorem numB_byt {n : Int} (h0 : 0 ≤ n) (h1 : n ≤ 4000000000) : Byt (numB n) := numF_byt 9 n h0 (by simp; omega)
theorem intB_byt {n : Int} (h0 : -1000000000 ≤ n) (h1 : n ≤ 1000000000) : Byt (intB n) := by
  unfold intB
  split
  · exact numB_byt (by omega) (by omega)
  · exact numB_byt (by omega) (by omega)
theorem bytesOf_byt {b : List It} (h : bagB b = true) : Byt (bytesOf b) := by
  have hs := (bagB_spec b).1 h
  refine (numB_byt (by omega) (by omega)).append ?_
  intro y hy
  obtain ⟨k, _, hk⟩ := List.mem_flatMap.1 hy
  unfold encAt at hk
  split at hk
  · rename_i x hx
    obtain ⟨⟨x1, x2, x3, x4, x5, x6⟩, _, x8, x9⟩ := (itB_spec x).1 (hs.1 x (List.mem_of_getElem? hx))
    obtain ⟨b1, b2, b3, b4, b5, b6, b7⟩ := bef_le hs.2.1 hs.1 hx
    have e1 : Byt (numB (x.r.at_ - (befR b k).at_)) := numB_byt (by omega) (by omega)
    have e2 : Byt (keyB (sameB b k x) (befR b k) x.r) := by
      unfold keyB
      cases hsm : sameB b k x
      · exact intB_byt x3 x4
      · have := (b3 hsm).1
        exact numB_byt (by omega) (by omega)
    have e3 : Byt (valB (sameB b k x) (befR b k) x.r) := by
      unfold valB
      cases hsm : sameB b k x
      · exact intB_byt x5 x6
      · cases hk : (x.r.key == (befR b k).key)
        · exact intB_byt x5 x6
        · have := (b3 hsm).2 (beq_iff_eq.1 hk).symm
          exact numB_byt (by omega) (by omega)
    exact (((e1.append e2).append e3).append (intB_byt (by omega) (by omega))) y hk
  · cases hk
theorem textOf_short {b : List It} (h : bagB b = true) : (textOf b).length * 32 ≤ 140737488355328 := by
  have hs := (bagB_spec b).1 h
  have := textTo_length b hs.1 b.length
  have : (textOf b).length ≤ 90 * b.length := this
  omega

set_option maxRecDepth 100000 in
set_option maxHeartbeats 8000000 in
theorem BagBack_any (A B : Option Addr) (n m capA capB : Nat) (b : List It) (s : List UInt8) (l : List Int) (w : World) (hA : Rd It.vs 4 w 0 A n b) (hs : s.length * 32 ≤ 140737488355328) (hB : Rd bv 1 w 0 B m l) (hcap : m ≤ capB) (hby : Byt l) (ht : Tab w) :
    Calls Tryd.prog 6 #[.slice A n capA, .string (strOf s), .slice B m capB] w fun e w' => e = .returned (.bool true) ∧ Below w.heap.size w w' := by
  have HA := Lib.hid hA
  have HB := Lib.hid hB
  have HT := Lib.hid ht
  have HS := Lib.hid hs
  have HCAP := Lib.hid hcap
  have HBY := Lib.hid hby
  clear hA hB ht hs hcap hby
  go_enter Tryd.func6, Tryd.ntmps6
  obtain ⟨⟨L, c⟩, hp⟩ : ∃ p, parseR s = p := ⟨_, rfl⟩
  obtain ⟨⟨M, d⟩, hq⟩ : ∃ p, readR l = p := ⟨_, rfl⟩
  obtain ⟨tb, ub, e0, h1, h2, h3⟩ : ∃ tb ub, ∃ e0 : Int, printR b = (tb, e0) ∧ bytesR b = (ub, e0) ∧ (e0 = 2 ∨ (e0 = 0 ∧ tb = textOf b ∧ ub = bytesOf b ∧ bagB b = true)) := by
    cases gb : bagB b
    · exact ⟨[], [], 2, by simp [printR, gb], by simp [bytesR, gb], .inl rfl⟩
    · exact ⟨_, _, 0, by simp [printR, gb], by simp [bytesR, gb], .inr ⟨rfl, rfl, rfl, rfl⟩⟩
  have hc : c = 0 ∨ (L = [] ∧ c = 4) := by have := parse_err s; rw [hp] at this; simpa using this
  have hd : d = 0 ∨ (M = [] ∧ d = 4) := by have := read_err l; rw [hq] at this; simpa using this
  have HP := Lib.hid hp
  have HQ := Lib.hid hq
  have HC := Lib.hid hc
  have HD := Lib.hid hd
  have E1 := Lib.hid h1
  have E2 := Lib.hid h2
  have H3 := Lib.hid h3
  clear hp hq hc hd h1 h2 h3
  have C := Lib.hid (Print_any A n capA b w HA.out HT.out)
  rw [E1.out] at C
  go_wp2_with fail
  (with_reducible refine C.out.mono ?_)
  rintro e w1 ⟨rfl, hb⟩
  have HS1 := Lib.hid hb
  clear hb C
  have C := Lib.hid (Bytes_any A n capA b w1 (HA.out.below HS1.out))
  rw [E2.out] at C
  replace C := Lib.hid (C.out.mono fun _ _ h => h.lst)
  go_wp2_with fail
  (with_reducible refine C.out.mono ?_)
  rintro e w2 ⟨⟨S2, q2, c2, rfl, hr, hcp⟩, hb⟩
  have HS2 := Lib.hid hb
  have HR2 := Lib.hid hr
  have HP2 := Lib.hid hcp
  clear hr hcp
  clear hb C
  have HW0 := Lib.hid (bchain HS1.out HS2.out)
  go_upto_if 35 with fail
  go_cut [] (fun wx => Below w.heap.size w wx)
  case first =>
    rcases H3.out with rfl | ⟨rfl, rfl, rfl, gb⟩
    · go_wp2_with fail
      go_meet
      exact HW0.out
    · have E3 := Lib.hid (parse_text gb)
      have E4 := Lib.hid (read_bytes gb)
      have E5 := Lib.hid (textOf_short gb)
      have E6 := Lib.hid (bytesOf_byt gb)
      clear gb
      have C := Lib.hid (Parse_any (textOf b) w2 E5.out)
      rw [E3.out] at C
      replace C := Lib.hid (C.out.mono fun _ _ h => h.lst)
      go_wp2_with fail
      (with_reducible refine C.out.mono ?_)
      rintro e w3 ⟨⟨S3, q3, c3, rfl, hr⟩, hb⟩
      have HS3 := Lib.hid hb
      have HR3 := Lib.hid (hr.low (Nat.zero_le _))
      clear hr
      clear hb C
      have C := Lib.hid (Read_any S2 q2 c2 (bytesOf b) w3 (HR2.out.below HS3.out) HP2.out ((HR2.out.below HS3.out)).block_lt E6.out)
      rw [E4.out] at C
      replace C := Lib.hid (C.out.mono fun _ _ h => h.lst)
      go_wp2_with fail
      (with_reducible refine C.out.mono ?_)
      rintro e w4 ⟨⟨S4, q4, c4, rfl, hr⟩, hb⟩
      have HS4 := Lib.hid hb
      have HR4 := Lib.hid (hr.low (Nat.zero_le _))
      clear hr
      clear hb C
      have E7 : Hid (decide (b = b) = true) := by show _ = _; simp
      have C := Lib.hid (Equal_any S3 A q3 n c3 capA b b w4 (HR3.out.below HS4.out) (HA.out.below (bchain HW0.out (bchain HS3.out HS4.out))))
      rw [E7.out] at C
      go_wp2_with fail
      (with_reducible refine C.out.mono ?_)
      rintro e w5 ⟨rfl, hb⟩
      have HS5 := Lib.hid hb
      clear E7
      clear hb C
      have E7 : Hid (decide (b = b) = true) := by show _ = _; simp
      have C := Lib.hid (Equal_any S4 A q4 n c4 capA b b w5 (HR4.out.below HS5.out) (HA.out.below (bchain HW0.out (bchain HS3.out (bchain HS4.out HS5.out)))))
      rw [E7.out] at C
      go_wp2_with fail
      (with_reducible refine C.out.mono ?_)
      rintro e w6 ⟨rfl, hb⟩
      have HS6 := Lib.hid hb
      clear E7
      clear hb C
      go_wp2_with fail
      go_meet
      exact bchain HW0.out (bchain HS3.out (bchain HS4.out (bchain HS5.out HS6.out)))
  case rest =>
    have HW1 := Lib.hid hcut
    clear hcut
    have C := Lib.hid (Parse_any s wc HS.out)
    rw [HP.out] at C
    replace C := Lib.hid (C.out.mono fun _ _ h => h.lst)
    go_wp2_with fail
    (with_reducible refine C.out.mono ?_)
    rintro e w7 ⟨⟨S7, q7, c7, rfl, hr⟩, hb⟩
    have HS7 := Lib.hid hb
    have HR7 := Lib.hid (hr.low (Nat.zero_le _))
    clear hr
    clear hb C
    have HW2 := Lib.hid (bchain HW1.out HS7.out)
    go_upto_if 70 with fail
    go_cut [] (fun wx => Below w.heap.size w wx)
    case first =>
      rcases HC.out with rfl | ⟨rfl, rfl⟩
      · have hpb : bagB L = true ∧ textOf L = s := by have := parse_back (s := s) (by rw [HP.out]); rw [HP.out] at this; exact this
        have E1 : Hid (printR L = (s, 0)) := by show _ = _; simp [printR, hpb.1, hpb.2]
        clear hpb
        have C := Lib.hid (Print_any S7 q7 c7 L w7 HR7.out (HT.out.below HW2.out))
        rw [E1.out] at C
        go_wp2_with fail
        (with_reducible refine C.out.mono ?_)
        rintro e w8 ⟨rfl, hb⟩
        have HS8 := Lib.hid hb
        clear hb C
        go_wp2_with fail
        go_meet
        exact bchain HW2.out HS8.out
      · go_wp2_with fail
        go_meet
        exact HW2.out
    case rest =>
      have HW3 := Lib.hid hcut
      clear hcut HW1
      have C := Lib.hid (Read_any B m capB l wc (HB.out.below HW3.out) HCAP.out (HB.out.below HW3.out).block_lt HBY.out)
      rw [HQ.out] at C
      replace C := Lib.hid (C.out.mono fun _ _ h => h.lst)
      go_wp2_with fail
      (with_reducible refine C.out.mono ?_)
      rintro e w9 ⟨⟨S9, q9, c9, rfl, hr⟩, hb⟩
      have HS9 := Lib.hid hb
      have HR9 := Lib.hid (hr.low (Nat.zero_le _))
      clear hr
      clear hb C
      have HW4 := Lib.hid (bchain HW3.out HS9.out)
      go_upto_if 89 with fail
      go_cut [] (fun wx => Below w.heap.size w wx)
      case first =>
        rcases HD.out with rfl | ⟨rfl, rfl⟩
        · have hpb : bagB M = true ∧ bytesOf M = l := by have := read_back (s := l) HBY.out (by rw [HQ.out]); rw [HQ.out] at this; exact this
          have E1 : Hid (bytesR M = (l, 0)) := by show _ = _; simp [bytesR, hpb.1, hpb.2]
          clear hpb
          have C := Lib.hid (Bytes_any S9 q9 c9 M w9 HR9.out)
          rw [E1.out] at C
          replace C := Lib.hid (C.out.mono fun _ _ h => h.lst)
          go_wp2_with fail
          (with_reducible refine C.out.mono ?_)
          rintro e w10 ⟨⟨S10, q10, c10, rfl, hr, hcp⟩, hb⟩
          have HS10 := Lib.hid hb
          have HR10 := Lib.hid hr
          clear hr hcp
          clear hb C
          have E7 : Hid (decide (l = l) = true) := by show _ = _; simp
          have C := Lib.hid (EqualB_any S10 B q10 m c10 capB l l w10 HR10.out (HB.out.below (bchain HW4.out HS10.out)))
          rw [E7.out] at C
          go_wp2_with fail
          (with_reducible refine C.out.mono ?_)
          rintro e w11 ⟨rfl, hb⟩
          have HS11 := Lib.hid hb
          clear E7
          clear hb C
          go_wp2_with fail
          go_meet
          exact bchain HW4.out (bchain HS10.out HS11.out)
        · go_wp2_with fail
          go_meet
          exact HW4.out
      case rest =>
        have HW5 := Lib.hid hcut
        clear hcut HW3
        have C := Lib.hid (known_any wc (HT.out.below HW5.out))
        rcases HC.out with rfl | ⟨rfl, rfl⟩ <;> rcases HD.out with rfl | ⟨rfl, rfl⟩
        all_goals
          go_wp2_with (go_at_call 10; (with_reducible refine C.out.mono ?_); rintro e wk ⟨rfl, hb⟩; have HK := Lib.hid hb; clear hb)
          go_ret
          exact ⟨rfl, bchain HW5.out HK.out⟩
end Go.Proofs.Bg
end
