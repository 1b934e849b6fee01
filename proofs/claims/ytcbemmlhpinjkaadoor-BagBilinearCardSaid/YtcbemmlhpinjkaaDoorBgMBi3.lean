/- Texts of our own, merged: BgAlg BgLawBilin. -/
import Derived.Test.YtcbemmlhpinjkaaDoorBgMBi2
import Derived.Test.YtcbemmlhpinjkaaDoorBgMBi1

section
/- Plain law: sums of bags are a group; products of sums are sums of products. No program, no memory. -/
namespace Go.Proofs.Bg

/-- A number for each record, added over a list of items. -/
def linS (G : Rc → Int) : List It → Int
  | [] => 0
  | x :: r => x.n * G x.r + linS G r
theorem linS_append (G : Rc → Int) (a b : List It) : linS G (a ++ b) = linS G a + linS G b := by
  induction a with
  | nil => simp [linS]
  | cons x r ih => simp only [List.cons_append, linS, ih]; omega
theorem linS_ins (G : Rc → Int) (x : It) (m : List It) : linS G (insIt x m) = x.n * G x.r + linS G m := by
  induction m with
  | nil => rfl
  | cons y r ih =>
    rw [insIt]
    split
    · rfl
    · split
      · rename_i h
        simp only [linS, h]
        rw [Int.add_mul]
        omega
      · simp only [linS, ih]
        omega
theorem linS_gather (G : Rc → Int) (l : List It) : linS G (gather l) = linS G l := by
  induction l with
  | nil => rfl
  | cons x r ih => rw [gather, linS_ins, ih, linS]
theorem linS_filter (G : Rc → Int) (l : List It) : linS G (l.filter (fun x => x.n != 0)) = linS G l := by
  induction l with
  | nil => rfl
  | cons x r ih =>
    rw [List.filter_cons]
    split
    · rw [linS, linS, ih]
    · rename_i h
      have : x.n = 0 := by simpa using h
      rw [ih, linS, this]
      omega
theorem linS_canon (G : Rc → Int) (l : List It) : linS G (canon l) = linS G l := by rw [canon, linS_filter, linS_gather]

theorem canon_id {a : List It} (h : bagB a = true) : canon a = a := by
  have hs := (bagB_spec a).1 h
  exact (IsBag.eq ⟨hs.2.1, fun x hx => by have := (itB_spec x).1 (hs.1 x hx); omega, fun _ => rfl⟩).symm
theorem canon_comm (a b : List It) : canon (a ++ b) = canon (b ++ a) := canon_eq fun k => by rw [sumN_append, sumN_append]; omega
theorem canon_left (a b : List It) : canon (canon a ++ b) = canon (a ++ b) := canon_eq fun k => by rw [sumN_append, sumN_append, (canon_is a).sums]
theorem canon_right (a b : List It) : canon (a ++ canon b) = canon (a ++ b) := canon_eq fun k => by rw [sumN_append, sumN_append, (canon_is b).sums]
theorem sumN_neg (a : List It) (k : Rc) : sumN (a.map negIt) k = - sumN a k := by
  induction a with
  | nil => rfl
  | cons x r ih => simp only [List.map_cons, sumN, ih, negIt]; split <;> omega
theorem canon_minus (a : List It) : canon (a ++ a.map negIt) = [] := by
  have : canon (a ++ a.map negIt) = canon [] := canon_eq fun k => by rw [sumN_append, sumN_neg, sumN]; omega
  exact this
theorem bagOr_congr {a b : List It} (h : canon a = canon b) : bagOr a = bagOr b ∧ errOr a = errOr b := by
  unfold bagOr errOr
  rw [h]
  exact ⟨rfl, rfl⟩

theorem addR_comm (a b : List It) : addR a b = addR b a := by
  unfold addR
  obtain ⟨h1, h2⟩ := bagOr_congr (canon_comm a b)
  rw [h1, h2, Bool.and_comm]
theorem addR_err {a b : List It} (ha : bagB a = true) (hb : bagB b = true) : (addR a b).2 = 0 ∨ (addR a b).2 = 3 := by
  simp only [addR, ha, hb, errOr]
  simp
theorem bagB_nil : bagB [] = true := by decide
theorem addR_nil {a : List It} (ha : bagB a = true) : addR a [] = (a, 0) := by
  simp [addR, ha, bagB_nil, bagOr, errOr, canon_id ha]
theorem addR_neg {a : List It} (ha : bagB a = true) : addR a (a.map negIt) = ([], 0) := by
  simp [addR, ha, bagB_neg ha, bagOr, errOr, canon_minus, bagB_nil]

/-- What is there, and the contrary of what is missing. -/
def isL (b : List It) : List It := b.filter (fun x => decide (0 < x.n))
def notL (b : List It) : List It := (b.filter (fun x => !decide (0 < x.n))).map negIt
theorem bagB_filter {a : List It} (p : It → Bool) (h : bagB a = true) : bagB (a.filter p) = true := by
  rw [bagB_spec] at h ⊢
  exact ⟨fun x hx => h.1 x (List.mem_filter.1 hx).1, incr_filter p h.2.1, Nat.le_trans (List.length_filter_le _ _) h.2.2⟩
theorem bagB_isL {a : List It} (h : bagB a = true) : bagB (isL a) = true := bagB_filter _ h
theorem bagB_notL {a : List It} (h : bagB a = true) : bagB (notL a) = true := bagB_neg (bagB_filter _ h)
theorem negIt_negIt (x : It) : negIt (negIt x) = x := by cases x; simp [negIt]
theorem map_neg_neg (l : List It) : (l.map negIt).map negIt = l := by
  rw [List.map_map]
  conv => rhs; rw [← List.map_id l]
  exact List.map_congr_left (fun x _ => negIt_negIt x)
theorem sumN_filter_add (p : It → Bool) (l : List It) (k : Rc) : sumN (l.filter p) k + sumN (l.filter (fun x => !p x)) k = sumN l k := by
  induction l with
  | nil => rfl
  | cons x r ih =>
    cases h : p x <;> simp [h, sumN] <;> omega
theorem addR_split {a : List It} (ha : bagB a = true) : addR (isL a) ((notL a).map negIt) = (a, 0) := by
  have h1 : canon (isL a ++ (notL a).map negIt) = a := by
    rw [notL, map_neg_neg, isL]
    exact (canon_eq (l' := a) fun k => by rw [sumN_append, sumN_filter_add]).trans (canon_id ha)
  simp only [addR, bagB_isL ha, bagB_neg (bagB_notL ha), bagOr, errOr, h1, ha]
  rfl
theorem whole_isL {a : List It} : (isL a).all (fun x => !decide (x.n < 0)) = true := by
  rw [List.all_eq_true]
  intro x hx
  have := (List.mem_filter.1 hx).2
  simp at this ⊢
  omega
theorem whole_notL {a : List It} : (notL a).all (fun x => !decide (x.n < 0)) = true := by
  rw [List.all_eq_true]
  intro x hx
  obtain ⟨y, hy, rfl⟩ := List.mem_map.1 hx
  have := (List.mem_filter.1 hy).2
  simp [negIt] at this ⊢
  omega
theorem addR_ok {a b : List It} (h : (addR a b).2 = 0) : bagB a = true ∧ bagB b = true ∧ bagB (canon (a ++ b)) = true ∧ (addR a b).1 = canon (a ++ b) := by
  unfold addR errOr bagOr at *
  cases ha : bagB a <;> cases hb : bagB b <;> cases hc : bagB (canon (a ++ b)) <;> simp_all
theorem addR_assoc {a b c : List It} (h1 : (addR a b).2 = 0) (h2 : (addR b c).2 = 0) : addR (addR a b).1 c = addR a (addR b c).1 := by
  obtain ⟨ha, hb, hab, e1⟩ := addR_ok h1
  obtain ⟨_, hc, hbc, e2⟩ := addR_ok h2
  have e : canon (canon (a ++ b) ++ c) = canon (a ++ canon (b ++ c)) := by rw [canon_left, canon_right, List.append_assoc]
  obtain ⟨g1, g2⟩ := bagOr_congr e
  rw [e1, e2]
  simp only [addR, ha, hc, hab, hbc, g1, g2]

/-! ### products -/
/-- What an item with the record r, once, gives with the item y, at the record k. -/
def oneP (apart : Int) (k : Rc) (r : Rc) (y : It) : Int :=
  if r.key = y.r.key ∧ max r.at_ y.r.at_ - min r.at_ y.r.at_ ≤ apart then (if (⟨max r.at_ y.r.at_, r.key, clampI (r.val + y.r.val)⟩ : Rc) = k then y.n else 0) else 0
def rowP (apart : Int) (k : Rc) (c : List It) (r : Rc) : Int := (c.map (oneP apart k r)).sum
theorem pairIt_sum (apart : Int) (k : Rc) (x y : It) : sumN (pairIt apart x y) k = x.n * oneP apart k x.r y := by
  unfold pairIt oneP
  split
  · simp only [sumN]
    split <;> simp
  · simp [sumN]
theorem rowIts_sum (apart : Int) (k : Rc) (x : It) (c : List It) : sumN (rowIts apart x c) k = x.n * rowP apart k c x.r := by
  unfold rowIts rowP
  induction c with
  | nil => simp [sumN]
  | cons y r ih => rw [List.flatMap_cons, sumN_append, ih, pairIt_sum, List.map_cons, List.sum_cons, Int.mul_add]
theorem pairIts_lin (apart : Int) (k : Rc) (a c : List It) : sumN (pairIts apart a c) k = linS (rowP apart k c) a := by
  unfold pairIts
  induction a with
  | nil => rfl
  | cons x r ih => rw [List.flatMap_cons, sumN_append, ih, rowIts_sum, linS]
theorem oneP_comm (apart : Int) (k : Rc) (x y : It) : x.n * oneP apart k x.r y = y.n * oneP apart k y.r x := by
  unfold oneP
  have e1 : max x.r.at_ y.r.at_ = max y.r.at_ x.r.at_ := by omega
  have e2 : min x.r.at_ y.r.at_ = min y.r.at_ x.r.at_ := by omega
  have e3 : x.r.val + y.r.val = y.r.val + x.r.val := by omega
  by_cases hk : x.r.key = y.r.key
  · simp only [hk, true_and]
    rw [e1, e2, e3]
    split
    · split
      · exact Int.mul_comm _ _
      · simp
    · simp
  · have hk' : ¬ y.r.key = x.r.key := fun e => hk e.symm
    simp [hk, hk']
theorem sum_comm2 (f : It → It → Int) (a c : List It) : (a.map (fun x => (c.map (f x)).sum)).sum = (c.map (fun y => (a.map (fun x => f x y)).sum)).sum := by
  induction a with
  | nil =>
    induction c with
    | nil => rfl
    | cons y r ih => simp only [List.map_nil, List.sum_nil, List.map_cons, List.sum_cons] at ih ⊢; omega
  | cons x r ih =>
    rw [List.map_cons, List.sum_cons, ih]
    clear ih
    induction c with
    | nil => rfl
    | cons y s ih =>
      simp only [List.map_cons, List.sum_cons] at ih ⊢
      omega
theorem mul_sum (n : Int) (l : List Int) : n * l.sum = (l.map (fun z => n * z)).sum := by
  induction l with
  | nil => simp
  | cons x r ih => rw [List.sum_cons, Int.mul_add, ih, List.map_cons, List.sum_cons]
theorem linS_rowP (apart : Int) (k : Rc) (a c : List It) : linS (rowP apart k c) a = (a.map (fun x => (c.map (fun y => x.n * oneP apart k x.r y)).sum)).sum := by
  induction a with
  | nil => rfl
  | cons x r ih =>
    rw [linS, ih, List.map_cons, List.sum_cons, rowP, mul_sum, List.map_map]
    rfl
theorem pairIts_comm (apart : Int) (a c : List It) : canon (pairIts apart a c) = canon (pairIts apart c a) := canon_eq fun k => by
  rw [pairIts_lin, pairIts_lin, linS_rowP, linS_rowP, sum_comm2]
  congr 1
  refine List.map_congr_left fun y _ => ?_
  congr 1
  exact List.map_congr_left fun x _ => oneP_comm apart k x y
theorem pairR_comm (apart : Int) (a c : List It) : pairR a c apart = pairR c a apart := by
  obtain ⟨h1, h2⟩ := bagOr_congr (pairIts_comm apart a c)
  unfold pairR
  rw [h1, h2, Bool.and_comm (bagB a)]
theorem pairR_ok {a c : List It} {apart : Int} (h : (pairR a c apart).2 = 0) : bagB a = true ∧ bagB c = true ∧ 0 ≤ apart ∧ bagB (canon (pairIts apart a c)) = true ∧ (pairR a c apart).1 = canon (pairIts apart a c) := by
  unfold pairR errOr bagOr at *
  by_cases h0 : 0 ≤ apart
  · cases ha : bagB a <;> cases hb : bagB c <;> cases hc : bagB (canon (pairIts apart a c)) <;> simp_all
  · simp [h0] at h
theorem pairIts_nil (apart : Int) (a : List It) : pairIts apart a [] = [] := by
  unfold pairIts rowIts
  simp
theorem pairR_nil {a : List It} {apart : Int} (ha : bagB a = true) (h0 : 0 ≤ apart) : pairR a [] apart = ([], 0) := by
  have e : canon [] = [] := rfl
  simp [pairR, ha, bagB_nil, h0, pairIts_nil, bagOr, errOr, e]
theorem pairIts_two (apart : Int) (a b c : List It) : canon (pairIts apart (canon (a ++ b)) c) = canon (canon (pairIts apart a c) ++ canon (pairIts apart b c)) := canon_eq fun k => by
  rw [sumN_append, (canon_is _).sums, (canon_is _).sums, pairIts_lin, pairIts_lin, pairIts_lin, linS_canon, linS_append]
theorem bilinear {a b c : List It} {apart : Int} (h1 : (addR a b).2 = 0) (h2 : (pairR a c apart).2 = 0) (h3 : (pairR b c apart).2 = 0) :
    pairR (addR a b).1 c apart = addR (pairR a c apart).1 (pairR b c apart).1 := by
  obtain ⟨ha, hb, hab, e1⟩ := addR_ok h1
  obtain ⟨_, hc, h0, hac, e2⟩ := pairR_ok h2
  obtain ⟨_, _, _, hbc, e3⟩ := pairR_ok h3
  obtain ⟨g1, g2⟩ := bagOr_congr (pairIts_two apart a b c)
  rw [e1, e2, e3]
  simp only [pairR, addR, hab, hc, h0, hac, hbc, g1, g2]
  rfl
end Go.Proofs.Bg
end

section
/- BagBilinear: the walk of the law. -/
namespace Go.Proofs.Bg
open Go.RowKit

set_option maxRecDepth 100000 in
set_option maxHeartbeats 8000000 in
theorem BagBilinear_any (A B D : Option Addr) (n m p capA capB capD : Nat) (a b d : List It) (ap : Int) (w : World) (hA : Rd It.vs 4 w 0 A n a) (hB : Rd It.vs 4 w 0 B m b) (hD : Rd It.vs 4 w 0 D p d) (ht : Tab w) :
    Calls Tryd.prog 3 #[.slice A n capA, .slice B m capB, .slice D p capD, .int .i64 ap] w fun e w' => e = .returned (.bool true) ∧ Below w.heap.size w w' := by
  have HA := Lib.hid hA
  have HB := Lib.hid hB
  have HD := Lib.hid hD
  have HT := Lib.hid ht
  clear hA hB hD ht
  have HL1 : Hid ((addR a b).2 = 0 → (pairR a d ap).2 = 0 → (pairR b d ap).2 = 0 → pairR (addR a b).1 d ap = addR (pairR a d ap).1 (pairR b d ap).1) := bilinear
  have HL2 : Hid ((pairR a d ap).2 = 0 → pairR a [] ap = ([], 0)) := fun h => pairR_nil (pairR_ok h).1 (pairR_ok h).2.2.1
  have HL3 : Hid (pairR d a ap = pairR a d ap) := pairR_comm ap d a
  generalize hx : addR a b = x at *
  have HX := Lib.hid hx
  clear hx
  generalize hx : pairR a d ap = y at *
  have HY := Lib.hid hx
  clear hx
  generalize hx : pairR b d ap = z at *
  have HZ := Lib.hid hx
  clear hx
  go_enter Tryd.func3, Tryd.ntmps3
  have C := Lib.hid ((Add_any A B n m capA capB a b w HA.out HB.out).mono fun _ _ h => h.lst)
  rw [HX.out] at C
  go_wp2_with fail
  (with_reducible refine C.out.mono ?_)
  rintro e w1 ⟨⟨S1, q1, c1, rfl, hr⟩, hb⟩
  have HS0 := Lib.hid hb
  have HR1 := Lib.hid (hr.low (Nat.zero_le _))
  clear hr
  clear hb C
  have C := Lib.hid ((Pair_any A D n p capA capD a d ap w1 (HA.out.below HS0.out) (HD.out.below HS0.out)).mono fun _ _ h => h.lst)
  rw [HY.out] at C
  go_wp2_with fail
  (with_reducible refine C.out.mono ?_)
  rintro e w2 ⟨⟨S2, q2, c2, rfl, hr⟩, hb⟩
  have HS1 := Lib.hid hb
  have HR2 := Lib.hid (hr.low (Nat.zero_le _))
  clear hr
  clear hb C
  have C := Lib.hid ((Pair_any B D m p capB capD b d ap w2 (HB.out.below (bchain HS0.out HS1.out)) (HD.out.below (bchain HS0.out HS1.out))).mono fun _ _ h => h.lst)
  rw [HZ.out] at C
  go_wp2_with fail
  (with_reducible refine C.out.mono ?_)
  rintro e w3 ⟨⟨S3, q3, c3, rfl, hr⟩, hb⟩
  have HS2 := Lib.hid hb
  have HR3 := Lib.hid (hr.low (Nat.zero_le _))
  clear hr
  clear hb C
  obtain ⟨l1, e1⟩ := x
  obtain ⟨l2, e2⟩ := y
  obtain ⟨l3, e3⟩ := z
  dsimp only at *
  by_cases hz : e1 = 0 ∧ e2 = 0 ∧ e3 = 0
  · obtain ⟨rfl, rfl, rfl⟩ := hz
    have E1 := Lib.hid (HL1.out rfl rfl rfl)
    have E2 := Lib.hid (HL2.out rfl)
    clear HL1 HL2
    have C := Lib.hid ((Pair_any A none n 0 capA 0 a ([] : List It) ap w3 (HA.out.below (bchain HS0.out (bchain HS1.out HS2.out))) (Rd.nil _ _ _)).mono fun _ _ h => h.lst)
    rw [E2.out] at C
    go_wp2_with fail
    (with_reducible refine C.out.mono ?_)
    rintro e w4 ⟨⟨S4, q4, c4, rfl, hr⟩, hb⟩
    have HS3 := Lib.hid hb
    have hq := hr.len
    simp at hq
    subst hq
    clear hr
    clear hb C
    have C := Lib.hid ((Pair_any D A p n capD capA d a ap w4 (HD.out.below (bchain HS0.out (bchain HS1.out (bchain HS2.out HS3.out)))) (HA.out.below (bchain HS0.out (bchain HS1.out (bchain HS2.out HS3.out))))).mono fun _ _ h => h.lst)
    rw [HL3.out] at C
    go_wp2_with fail
    (with_reducible refine C.out.mono ?_)
    rintro e w5 ⟨⟨S5, q5, c5, rfl, hr⟩, hb⟩
    have HS4 := Lib.hid hb
    have HR5 := Lib.hid (hr.low (Nat.zero_le _))
    clear hr
    clear hb C
    have HE : Hid (decide (l2 = l2) = true) := by show _ = _; simp
    have C := Lib.hid (Equal_any S5 S2 q5 q2 c5 c2 l2 l2 w5 HR5.out (HR2.out.below (bchain HS2.out (bchain HS3.out HS4.out))))
    rw [HE.out] at C
    go_wp2_with fail
    (with_reducible refine C.out.mono ?_)
    rintro e w6 ⟨rfl, hb⟩
    have HS5 := Lib.hid hb
    clear hb C
    have C := Lib.hid ((Pair_any S1 D q1 p c1 capD l1 d ap w6 (HR1.out.below (bchain HS1.out (bchain HS2.out (bchain HS3.out (bchain HS4.out HS5.out))))) (HD.out.below (bchain HS0.out (bchain HS1.out (bchain HS2.out (bchain HS3.out (bchain HS4.out HS5.out))))))).mono fun _ _ h => h.lst)
    rw [E1.out] at C
    go_wp2_with fail
    (with_reducible refine C.out.mono ?_)
    rintro e w7 ⟨⟨S6, q6, c6, rfl, hr⟩, hb⟩
    have HS6 := Lib.hid hb
    have HR6 := Lib.hid (hr.low (Nat.zero_le _))
    clear hr
    clear hb C
    have C0 := HL3
    have C := Lib.hid ((Add_any S2 S3 q2 q3 c2 c3 l2 l3 w7 (HR2.out.below (bchain HS2.out (bchain HS3.out (bchain HS4.out (bchain HS5.out HS6.out))))) (HR3.out.below (bchain HS3.out (bchain HS4.out (bchain HS5.out HS6.out))))).mono fun _ _ h => h.lst)
    go_wp2_with fail
    (with_reducible refine C.out.mono ?_)
    rintro e w8 ⟨⟨S7, q7, c7, rfl, hr⟩, hb⟩
    have HS7 := Lib.hid hb
    have HR7 := Lib.hid (hr.low (Nat.zero_le _))
    clear hr
    clear hb C
    generalize (addR l2 l3).2 = e9 at *
    generalize (addR l2 l3).1 = l9 at *
    have HE2 : Hid (decide (l9 = l9) = true) := by show _ = _; simp
    have C := Lib.hid (Equal_any S6 S7 q6 q7 c6 c7 l9 l9 w8 (HR6.out.below HS7.out) HR7.out)
    rw [HE2.out] at C
    go_wp2_with fail
    (with_reducible refine C.out.mono ?_)
    rintro e w9 ⟨rfl, hb⟩
    have HS8 := Lib.hid hb
    clear hb C
    have C := Lib.hid (known_any w9 (HT.out.below (bchain HS0.out (bchain HS1.out (bchain HS2.out (bchain HS3.out (bchain HS4.out (bchain HS5.out (bchain HS6.out (bchain HS7.out HS8.out))))))))))
    go_wp2_with fail
    (with_reducible refine C.out.mono ?_)
    rintro e w10 ⟨rfl, hb⟩
    have HS9 := Lib.hid hb
    clear hb C
    go_wp2_with fail
    go_ret
    exact ⟨rfl, (bchain HS0.out (bchain HS1.out (bchain HS2.out (bchain HS3.out (bchain HS4.out (bchain HS5.out (bchain HS6.out (bchain HS7.out (bchain HS8.out HS9.out)))))))))⟩
  · have h1 : (e1 != 0) = true ∨ (e1 != 0) = false := by cases (e1 != 0) <;> simp
    have h2 : (e2 != 0) = true ∨ (e2 != 0) = false := by cases (e2 != 0) <;> simp
    clear HL1 HL2
    rcases h1 with h1 | h1
    · clear hz h2
      have C := Lib.hid (known_any w3 (HT.out.below (bchain HS0.out (bchain HS1.out HS2.out))))
      go_wp2_with fail
      (with_reducible refine C.out.mono ?_)
      rintro e w4 ⟨rfl, hb⟩
      have HS3 := Lib.hid hb
      clear hb C
      go_wp2_with fail
      go_ret
      exact ⟨rfl, (bchain HS0.out (bchain HS1.out (bchain HS2.out HS3.out)))⟩
    · rcases h2 with h2 | h2
      · clear hz
        have C := Lib.hid (known_any w3 (HT.out.below (bchain HS0.out (bchain HS1.out HS2.out))))
        go_wp2_with fail
        (with_reducible refine C.out.mono ?_)
        rintro e w4 ⟨rfl, hb⟩
        have HS3 := Lib.hid hb
        clear hb C
        go_wp2_with fail
        go_ret
        exact ⟨rfl, (bchain HS0.out (bchain HS1.out (bchain HS2.out HS3.out)))⟩
      · have h3 : (e3 != 0) = true := by
          simp at h1 h2 ⊢
          omega
        clear hz
        have C := Lib.hid (known_any w3 (HT.out.below (bchain HS0.out (bchain HS1.out HS2.out))))
        go_wp2_with fail
        (with_reducible refine C.out.mono ?_)
        rintro e w4 ⟨rfl, hb⟩
        have HS3 := Lib.hid hb
        clear hb C
        go_wp2_with fail
        go_ret
        exact ⟨rfl, (bchain HS0.out (bchain HS1.out (bchain HS2.out HS3.out)))⟩
end Go.Proofs.Bg
end
