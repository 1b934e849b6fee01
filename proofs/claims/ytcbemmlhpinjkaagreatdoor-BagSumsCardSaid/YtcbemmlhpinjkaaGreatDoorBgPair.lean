/- The contract of Pair. -/
import Derived.Test.YtcbemmlhpinjkaaGreatDoorBgOps
namespace Go.Proofs.Bg
open Go.RowKit

def clampI (n : Int) : Int := min (max n (-1000000000)) 1000000000
theorem clamped_any (n : Int) (w : World) : Calls Tryz.prog 49 #[.int .i64 n] w fun e w' => e = .returned (.int .i64 (clampI n)) ∧ w' = w := by
  go_enter Tryz.func49, Tryz.ntmps49
  go_wp2
  go_ret
  exact ⟨ret_int rfl, rfl⟩
theorem clampI_bd (n : Int) : -1000000000 ≤ clampI n ∧ clampI n ≤ 1000000000 := by unfold clampI; omega

/-- What two items give. -/
def pairIt (apart : Int) (x y : It) : List It :=
  if x.r.key = y.r.key ∧ max x.r.at_ y.r.at_ - min x.r.at_ y.r.at_ ≤ apart then [⟨⟨max x.r.at_ y.r.at_, x.r.key, clampI (x.r.val + y.r.val)⟩, x.n * y.n⟩] else []
def rowIts (apart : Int) (x : It) (b : List It) : List It := b.flatMap (pairIt apart x)
def pairIts (apart : Int) (a b : List It) : List It := a.flatMap fun x => rowIts apart x b
def pairR (a b : List It) (apart : Int) : List It × Int := if bagB a && bagB b && decide (0 ≤ apart) then (bagOr (pairIts apart a b), errOr (pairIts apart a b)) else ([], 2)

theorem pairIt_length (apart : Int) (x y : It) : (pairIt apart x y).length ≤ 1 := by unfold pairIt; split <;> simp
theorem rowIts_length (apart : Int) (x : It) (b : List It) : (rowIts apart x b).length ≤ b.length := by
  induction b with
  | nil => simp [rowIts]
  | cons y r ih =>
    have := pairIt_length apart x y
    simp only [rowIts, List.flatMap_cons, List.length_append, List.length_cons] at ih ⊢
    omega
theorem pairIts_length (apart : Int) (a b : List It) : (pairIts apart a b).length ≤ a.length * b.length := by
  induction a with
  | nil => simp [pairIts]
  | cons x r ih =>
    have := rowIts_length apart x b
    have e : (x :: r).length * b.length = r.length * b.length + b.length := by rw [List.length_cons, Nat.add_mul, Nat.one_mul]
    simp only [pairIts, List.flatMap_cons, List.length_append] at ih ⊢
    rw [e]
    omega
theorem mul_bd {a b A B : Int} (h1 : -A ≤ a) (h2 : a ≤ A) (h3 : -B ≤ b) (h4 : b ≤ B) (hB : 0 ≤ B) : -(A * B) ≤ a * b ∧ a * b ≤ A * B := by
  have hA : 0 ≤ A := by omega
  rcases Int.le_total 0 a with ha | ha <;> rcases Int.le_total 0 b with hb | hb
  · have := Int.mul_le_mul h2 h4 hb hA
    have := Int.mul_nonneg ha hb
    have := Int.mul_nonneg hA hB
    omega
  · have e : a * b = -(a * -b) := by rw [Int.mul_neg, Int.neg_neg]
    have := Int.mul_le_mul (b := -b) (d := B) h2 (by omega) (by omega) hA
    have := Int.mul_nonneg ha (show 0 ≤ -b by omega)
    have := Int.mul_nonneg hA hB
    omega
  · have e : a * b = -(-a * b) := by rw [Int.neg_mul, Int.neg_neg]
    have := Int.mul_le_mul (a := -a) (c := A) (by omega) h4 hb hA
    have := Int.mul_nonneg (show 0 ≤ -a by omega) hb
    have := Int.mul_nonneg hA hB
    omega
  · have e : a * b = (-a) * (-b) := by rw [Int.neg_mul_neg]
    have := Int.mul_le_mul (a := -a) (c := A) (b := -b) (d := B) (by omega) (by omega) (by omega) hA
    have := Int.mul_nonneg (show 0 ≤ -a by omega) (show 0 ≤ -b by omega)
    have := Int.mul_nonneg hA hB
    omega
theorem fits_pair (apart : Int) {a b : List It} (ha : bagB a = true) (hb : bagB b = true) : Fits (pairIts apart a b) := by
  rw [bagB_spec] at ha hb
  have h : ∀ z ∈ pairIts apart a b, z.r.ok ∧ -1000000000000 ≤ z.n ∧ z.n ≤ 1000000000000 := fun z hz => by
    obtain ⟨x, hx, hz⟩ := List.mem_flatMap.1 hz
    obtain ⟨y, hy, hz⟩ := List.mem_flatMap.1 hz
    have hx' := (itB_spec x).1 (ha.1 x hx)
    have hy' := (itB_spec y).1 (hb.1 y hy)
    unfold pairIt at hz
    split at hz
    · simp at hz
      subst hz
      have := clampI_bd (x.r.val + y.r.val)
      have hm := mul_bd (a := x.n) (b := y.n) (A := 1000000) (B := 1000000) (by omega) (by omega) (by omega) (by omega) (by omega)
      refine ⟨?_, by show _ ≤ x.n * y.n; omega, by show x.n * y.n ≤ _; omega⟩
      unfold Rc.ok I64
      show (_ ≤ max x.r.at_ y.r.at_ ∧ max x.r.at_ y.r.at_ ≤ _) ∧ (_ ≤ x.r.key ∧ x.r.key ≤ _) ∧ (_ ≤ clampI (x.r.val + y.r.val) ∧ clampI (x.r.val + y.r.val) ≤ _)
      omega
    · cases hz
  have hl := pairIts_length apart a b
  have hl2 : a.length * b.length ≤ 300 * 300 := Nat.mul_le_mul ha.2.2 hb.2.2
  exact ⟨fun z hz => (h z hz).1, 1000000000000, by omega, fun z hz => (h z hz).2, by omega⟩
theorem rowIts_take (apart : Int) (x : It) (b : List It) (j : Nat) (y : It) (h : b[j]? = some y) : rowIts apart x (b.take (j + 1)) = rowIts apart x (b.take j) ++ pairIt apart x y := by
  unfold rowIts
  rw [List.take_add_one, h]
  simp
theorem pairIts_take (apart : Int) (a b : List It) (k : Nat) (x : It) (h : a[k]? = some x) : pairIts apart (a.take (k + 1)) b = pairIts apart (a.take k) b ++ rowIts apart x b := by
  unfold pairIts
  rw [List.take_add_one, h]
  simp
theorem rowIts_split (apart : Int) (x : It) (b : List It) (j : Nat) (y : It) (h : b[j]? = some y) : ∃ rest, rowIts apart x b = rowIts apart x (b.take j) ++ pairIt apart x y ++ rest := by
  refine ⟨rowIts apart x (b.drop (j + 1)), ?_⟩
  rw [← rowIts_take apart x b j y h]
  unfold rowIts
  rw [← List.flatMap_append, List.take_append_drop]
theorem pairIts_split (apart : Int) (a b : List It) (k j : Nat) (x y : It) (h : a[k]? = some x) (hj : b[j]? = some y) : ∃ rest, pairIts apart a b = (pairIts apart (a.take k) b ++ rowIts apart x (b.take j)) ++ pairIt apart x y ++ rest := by
  obtain ⟨r1, e1⟩ := rowIts_split apart x b j y hj
  refine ⟨r1 ++ pairIts apart (a.drop (k + 1)) b, ?_⟩
  have e2 : pairIts apart a b = pairIts apart (a.take (k + 1)) b ++ pairIts apart (a.drop (k + 1)) b := by
    unfold pairIts
    rw [← List.flatMap_append, List.take_append_drop]
  rw [e2, pairIts_take apart a b k x h, e1]
  simp

/-- What the loops hold. -/
def PairRel (w0 : World) (r0 : Nat) (L : List It) (wr : World) : Prop := SumIs wr r0 L ∧ Below w0.heap.size w0 wr
def PairIn (w0 : World) (r0 gx : Nat) (x : It) (L : List It) (wr : World) : Prop := PairRel w0 r0 L wr ∧ wr.heap[gx]? = some (.cells #[.int .i64 x.r.at_, .int .i64 x.r.key, .int .i64 x.r.val, .int .i64 x.n] 40)

set_option maxRecDepth 100000 in
set_option maxHeartbeats 2000000 in
theorem Pair_any (A B : Option Addr) (n m capA capB : Nat) (a b : List It) (apart : Int) (w : World) (hA : Rd It.vs 4 w 0 A n a) (hB : Rd It.vs 4 w 0 B m b) :
    Calls Tryz.prog 11 #[.slice A n capA, .slice B m capB, .int .i64 apart] w (RetBag w (pairR a b apart)) := by
  have q1 := isBag_any A n capA a w hA
  have Q1 := Lib.hid q1
  have HA := Lib.hid hA
  have HB := Lib.hid hB
  clear q1 hA hB
  cases ga : bagB a with
  | false =>
    have e1 : pairR a b apart = ([], 2) := by simp [pairR, ga]
    rw [e1]
    have GA := Lib.hid ga
    clear ga e1
    go_enter Tryz.func11, Tryz.ntmps11
    go_wp2_with (go_at_call 47; refine Q1.out.mono ?_; rintro e w1 ⟨rfl, hb1⟩; rw [GA.out]; have HB1 := Lib.hid hb1; clear hb1)
    go_ret2
    exact ⟨none, 0, rfl, Rd.nil _ _ _, HB1.out⟩
  | true =>
    cases gb : bagB b with
    | false =>
      have e1 : pairR a b apart = ([], 2) := by simp [pairR, gb]
      rw [e1]
      have GA := Lib.hid ga
      have GB := Lib.hid gb
      clear ga gb e1
      go_enter Tryz.func11, Tryz.ntmps11
      go_wp2_with fail
      refine Q1.out.mono ?_
      rintro e w1 ⟨rfl, hb1⟩
      rw [GA.out]
      have Q2 := Lib.hid (isBag_any B m capB b w1 (HB.out.below hb1))
      have HB1 := Lib.hid hb1
      clear hb1
      go_wp2_with (go_at_call 47; refine Q2.out.mono ?_; rintro e w2 ⟨rfl, hb2⟩; rw [GB.out]; have HB2 := Lib.hid hb2; clear hb2)
      go_ret2
      exact ⟨none, 0, rfl, Rd.nil _ _ _, bchain HB1.out HB2.out⟩
    | true =>
      by_cases hap : 0 ≤ apart
      · have e1 : pairR a b apart = (bagOr (pairIts apart a b), errOr (pairIts apart a b)) := by simp [pairR, ga, gb, hap]
        rw [e1]
        have GA := Lib.hid ga
        have GB := Lib.hid gb
        have hmm := @run_makeMap Tryz.prog
        clear ga gb e1
        go_enter Tryz.func11, Tryz.ntmps11
        go_wp2_with fail
        refine Q1.out.mono ?_
        rintro e w1 ⟨rfl, hb1⟩
        rw [GA.out]
        have Q2 := Lib.hid (isBag_any B m capB b w1 (HB.out.below hb1))
        have HB1 := Lib.hid hb1
        clear hb1
        go_wp2_with (go_at_call 47; refine Q2.out.mono ?_; rintro e w2 ⟨rfl, hb2⟩; rw [GB.out]; have HB2 := Lib.hid hb2; clear hb2)
        have HF := Lib.hid (fits_pair apart GA.out GB.out)
        have hA2 := HA.out.below (bchain HB1.out HB2.out)
        have hB2 := HB.out.below (bchain HB1.out HB2.out)
        have HA2 := Lib.hid hA2
        have HB2' := Lib.hid hB2
        have hn1 := hA2.le
        have hn2 := hB2.le
        have hr0 : PairRel w2 w2.heap.size (pairIts apart (a.take 0) b) (w2.alloc (.map #[] 0)) := ⟨SumIs.made w2, below_new _ _⟩
        have HR0 := Lib.hid hr0
        clear hmm hA2 hB2 HA HB hr0
        go_loopw [10, 12, 28, 32, 33, 34] (fun _ _ i _ _ _ wr => ∃ k : Nat, k ≤ n ∧ i = .int .i64 k ∧ PairRel w2 w2.heap.size (pairIts apart (a.take k) b) wr) (fun _ _ i _ _ _ _ => n - (intOf i).toNat)
        case atStart => exact ⟨0, by omega, rfl, HR0.out⟩
        case round =>
          obtain ⟨k, hk, rfl, hS, hBr⟩ := hrel
          have hRa := HA2.out.below hBr
          have hr0lt := hS.lt
          have HS := Lib.hid hS
          have HBr := Lib.hid hBr
          clear hS hBr
          by_cases hlt : k < n
          · obtain ⟨bb, off, x, rfl, _, hx, c0, c1, c2, c3⟩ := hRa.it_at hlt
            have HX := Lib.hid hx
            clear hx hRa
            go_wp2_with fail
            obtain ⟨wo, rfl⟩ : ∃ wo : World, wo = wr := ⟨_, rfl⟩
            go_loopw [12, 34] (fun _ i wi => ∃ j : Nat, j ≤ m ∧ i = .int .i64 j ∧ PairIn w2 w2.heap.size wo.heap.size x (pairIts apart (a.take k) b ++ rowIts apart x (b.take j)) wi) (fun _ i _ => m - (intOf i).toNat)
            case atStart => exact ⟨0, by omega, rfl, ⟨by simpa [rowIts] using HS.out.alloc _, HBr.out.alloc (by omega) _⟩, new_block _ _ _⟩
            case round =>
              obtain ⟨j, hj, rfl, ⟨hS1, hB1⟩, hgx⟩ := hrel
              have hgl : wo.heap.size < wr.heap.size := (Array.getElem?_eq_some_iff.1 hgx).1
              have hRb := HB2'.out.below hB1
              have HS1 := Lib.hid hS1
              have HB1i := Lib.hid hB1
              have HGX := Lib.hid hgx
              clear hS1 hB1 hgx
              by_cases hjl : j < m
              · obtain ⟨b2, off2, y, rfl, _, hy, d0, d1, d2, d3⟩ := hRb.it_at hjl
                have HY := Lib.hid hy
                have f0 := cell_at_block (off := 0) HGX.out rfl
                have f1 := cell_at_block (off := 1) HGX.out rfl
                have f2 := cell_at_block (off := 2) HGX.out rfl
                have f3 := cell_at_block (off := 3) HGX.out rfl
                have hxi := (itB_spec x).1 (((bagB_spec a).1 GA.out).1 x (List.mem_of_getElem? HX.out))
                have hyi := (itB_spec y).1 (((bagB_spec b).1 GB.out).1 y (List.mem_of_getElem? HY.out))
                obtain ⟨⟨x1, x2, x3, x4, x5, x6⟩, x7, x8, x9⟩ := hxi
                obtain ⟨⟨y1, y2, y3, y4, y5, y6⟩, y7, y8, y9⟩ := hyi
                clear hy hRb x7 y7
                have hmx1 : 0 ≤ max x.r.at_ y.r.at_ := by omega
                have hmx2 : max x.r.at_ y.r.at_ ≤ 200 := by omega
                have hmn1 : 0 ≤ min x.r.at_ y.r.at_ := by omega
                have hmn2 : min x.r.at_ y.r.at_ ≤ 200 := by omega
                cases hke : (x.r.key != y.r.key) with
                | true =>
                  have hp0 : pairIt apart x y = [] := by have := bne_iff_ne.1 hke; simp [pairIt, this]
                  have HP0 := Lib.hid hp0
                  clear hp0
                  go_wp2_with fail
                  refine ⟨⟨j + 1, by omega, by go_num, ⟨?_, HB1i.out.alloc HB1i.out.size _⟩, (Below.heap_alloc _ _ _ hgl).trans HGX.out⟩, by simp [intOf]; omega⟩
                  rw [rowIts_take apart x b j y HY.out, HP0.out, List.append_nil]
                  exact HS1.out.alloc _
                | false =>
                  by_cases hfar : max x.r.at_ y.r.at_ - min x.r.at_ y.r.at_ ≤ apart
                  · have hke' : x.r.key = y.r.key := by simpa using hke
                    have hp1 : pairIt apart x y = [⟨⟨max x.r.at_ y.r.at_, x.r.key, clampI (x.r.val + y.r.val)⟩, x.n * y.n⟩] := by rw [pairIt, if_pos ⟨hke', hfar⟩]
                    have HP1 := Lib.hid hp1
                    obtain ⟨rest, hrest⟩ := pairIts_split apart a b k j x y HX.out HY.out
                    have hput := HF.out.put (P := pairIts apart (a.take k) b ++ rowIts apart x (b.take j)) (rest := rest) (by rw [hrest, hp1])
                    have HP := Lib.hid (put_sum w2.heap.size _ _ (wr.alloc (.cells #[.int .i64 y.r.at_, .int .i64 y.r.key, .int .i64 y.r.val, .int .i64 y.n] 40)).drew (HS1.out.alloc _) hput.1 hput.2)
                    have hm := mul_bd (a := x.n) (b := y.n) (A := 1000000) (B := 1000000) (by omega) (by omega) (by omega) (by omega) (by omega)
                    have hw1 : IntKind.i64.wrap (x.n * y.n) = x.n * y.n := IntWalk.i64_in _ (by omega)
                    have hw2 : IntKind.i64.wrap (x.r.val + y.r.val) = x.r.val + y.r.val := IntWalk.i64_in _ (by omega)
                    clear hke' hp1 hrest hput hm
                    go_wp2_with fail
                    refine wp_region_still_tail 25 (by kernel_rfl) (by kernel_rfl) ?_
                    simp only [List.take_succ_cons, List.take_zero, List.drop_succ_cons, List.drop_zero]
                    change wpStill _ _ (World.drew _) _ _ _
                    repeat (first | (still_call (clamped_any _ _)) | still_step)
                    refine wpStill_nil ?_
                    change wpList _ _ _ _ _ (World.drew (wr.alloc _))
                    go_wp2_with (go_at_call 48; (with_reducible refine HP.out.mono ?_); rintro e w5 ⟨rfl, hs5, hg5⟩)
                    have hz1 := HB1i.out.size
                    refine ⟨⟨j + 1, by omega, by go_num, ⟨?_, ((HB1i.out.alloc hz1 _).drew).grown hg5 (by simp; omega) (fun q hq => by cases hq; exact Nat.le_refl _)⟩, ?_⟩, by simp [intOf]; omega⟩
                    · rw [rowIts_take apart x b j y HY.out, HP1.out, ← List.append_assoc]
                      exact hs5
                    · exact (hg5.block wo.heap.size (by simp; omega) (by simp; omega)).trans ((Below.heap_alloc _ _ _ hgl).trans HGX.out)
                  · have hp0 : pairIt apart x y = [] := by rw [pairIt, if_neg (fun h => hfar h.2)]
                    have HP0 := Lib.hid hp0
                    clear hp0
                    go_wp2_with fail
                    refine ⟨⟨j + 1, by omega, by go_num, ⟨?_, HB1i.out.alloc HB1i.out.size _⟩, (Below.heap_alloc _ _ _ hgl).trans HGX.out⟩, by simp [intOf]; omega⟩
                    rw [rowIts_take apart x b j y HY.out, HP0.out, List.append_nil]
                    exact HS1.out.alloc _
              · have hj' : j = m := by omega
                subst hj'
                clear hRb hjl
                go_wp2_with fail
                refine ⟨⟨k + 1, by omega, by go_num, ?_, HB1i.out⟩, by simp [intOf]; omega⟩
                have e := HS1.out
                rw [List.take_of_length_le (l := b) (by rw [HB2'.out.len]; exact Nat.le_refl _)] at e
                rw [pairIts_take apart a b k x HX.out]
                exact e
          · have hk' : k = n := by omega
            subst hk'
            clear hRa hlt
            have e0 : a.take k = a := List.take_of_length_le (by rw [HA2.out.len]; exact Nat.le_refl _)
            have HS2 := HS.out
            rw [e0] at HS2
            have hlen : (pairIts apart a b).length * 32 ≤ 140737488355328 := by
              have h1 := pairIts_length apart a b
              have h2 : a.length * b.length ≤ 300 * 300 := Nat.mul_le_mul ((bagB_spec a).1 GA.out).2.2 ((bagB_spec b).1 GB.out).2.2
              omega
            have HBg := Lib.hid (bag_sum _ _ _ HS2 HF.out.ok hlen)
            clear HS2 hlen e0
            go_wp2_with (go_at_call 50; (with_reducible refine HBg.out.mono ?_); rintro e w5 ⟨A5, cap5, rfl, hr5, hb5⟩)
            go_ret2
            exact ⟨A5, cap5, rfl, hr5.low (by have := HB1.out.size; have := HB2.out.size; have := HBr.out.size; omega), bchain (bchain (bchain HB1.out HB2.out) HBr.out) hb5⟩
      · have e1 : pairR a b apart = ([], 2) := by simp [pairR, hap]
        rw [e1]
        have GA := Lib.hid ga
        have GB := Lib.hid gb
        clear ga gb e1
        go_enter Tryz.func11, Tryz.ntmps11
        go_wp2_with fail
        refine Q1.out.mono ?_
        rintro e w1 ⟨rfl, hb1⟩
        rw [GA.out]
        have Q2 := Lib.hid (isBag_any B m capB b w1 (HB.out.below hb1))
        have HB1 := Lib.hid hb1
        clear hb1
        go_wp2_with (go_at_call 47; refine Q2.out.mono ?_; rintro e w2 ⟨rfl, hb2⟩; rw [GB.out]; have HB2 := Lib.hid hb2; clear hb2)
        go_ret2
        exact ⟨none, 0, rfl, Rd.nil _ _ _, bchain HB1.out HB2.out⟩
end Go.Proofs.Bg
