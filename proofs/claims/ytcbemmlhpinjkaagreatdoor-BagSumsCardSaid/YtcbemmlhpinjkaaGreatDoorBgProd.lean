/- The reference: Product, Pair. -/
import Derived.StillTactics
import Derived.Deep.RegionHeld3
import Derived.Deep.AppendLies
import Derived.Test.YtcbemmlhpinjkaaGreatDoorBgOf
import Derived.Test.YtcbemmlhpinjkaaGreatDoorBgGood
namespace Go.Proofs.Bg
open Go.RowKit

theorem Own.capOf {α : Type} {enc : α → List Value} {sz : Nat} {T : TypeId} {base n cap : Nat} {A : Option Addr} {w : World} {l : List α} (h : Own enc sz T base w (.slice A n cap) l) : n ≤ cap := by
  rcases h.2 with ⟨e, _⟩ | ⟨g, cap', cur, e, _, _, h1, _⟩
  · cases e; exact Nat.le_refl _
  · cases e; exact h1
theorem own_it {base : Nat} {w : World} {v : Value} {L : List It} {e : It} {n : Nat} {xs : List Value} (h : w.ownsRow base 40 4 v n xs) (hn : n = L.length + 1) (hx : xs = L.flatMap It.vs ++ e.vs) : Own It.vs 4 40 base w v (L ++ [e]) := by
  unfold Own
  rw [List.length_append, List.flatMap_append]
  subst hn hx
  simpa using h
theorem alloc2_drew (w : World) (o o' : Obj) : w.grownBy (((w.alloc o).alloc o').drew) none := ⟨rfl, rfl, rfl, (alloc2_none w o o').size, (alloc2_none w o o').block⟩
theorem new2 (w : World) (o : Obj) (cs : Array Value) (T : TypeId) : (((w.alloc o).alloc (.cells cs T)).drew).heap[w.heap.size + 1]? = some (.cells cs T) := by
  have := new_block (w.alloc o) cs T
  have e : (w.alloc o).heap.size = w.heap.size + 1 := by simp
  rw [e] at this
  exact this
/-- What the loops hold. -/
def ProdIn (w2 : World) (gx : Nat) (x : It) (L : List It) (v : Value) (wr : World) : Prop :=
  Own It.vs 4 40 w2.heap.size wr v L ∧ Below w2.heap.size w2 wr ∧ wr.heap[gx]? = some (.cells #[.int .i64 x.r.at_, .int .i64 x.r.key, .int .i64 x.r.val, .int .i64 x.n] 40) ∧ (∀ k, v.ownBlock = some k → k ≠ gx)

set_option maxRecDepth 100000 in
set_option maxHeartbeats 8000000 in
theorem Product_any (A B : Option Addr) (n m capA capB : Nat) (a b : List It) (apart : Int) (w2 : World) (hA : Rd It.vs 4 w2 0 A n a) (hB : Rd It.vs 4 w2 0 B m b) (ha : bagB a = true) (hb : bagB b = true) :
    Calls Tryz.prog 52 #[.slice A n capA, .slice B m capB, .int .i64 apart] w2 fun e w' => ∃ A' cap', e = .returned (.slice A' (canon (pairIts apart a b)).length cap') ∧ Rd It.vs 4 w' w2.heap.size A' (canon (pairIts apart a b)).length (canon (pairIts apart a b)) ∧ Below w2.heap.size w2 w' := by
  have HA := Lib.hid hA
  have HB := Lib.hid hB
  have GA := Lib.hid ha
  have GB := Lib.hid hb
  have hle := hA.le
  have hle2 := hB.le
  have hn3 : n ≤ 300 := by rw [← hA.len]; exact ((bagB_spec a).1 ha).2.2
  have hm3 : m ≤ 300 := by rw [← hB.len]; exact ((bagB_spec b).1 hb).2.2
  obtain ⟨i0, hi0, hz0, hz1, hz2⟩ := info_parts infoIt
  clear hA hB ha hb
  go_enter Tryz.func52, Tryz.ntmps52
  go_wp2_with fail
  go_loopw [7, 9, 11, 12, 15] (fun v _ _ _ i wr => ∃ k : Nat, k ≤ n ∧ i = .int .i64 k ∧ Own It.vs 4 40 w2.heap.size wr v (pairIts apart (a.take k) b) ∧ Below w2.heap.size w2 wr) (fun _ _ _ _ i _ => n - (intOf i).toNat)
  case atStart => exact ⟨0, by omega, rfl, Own.nil _ _ _ _ _, Below.refl _ _⟩
  case round =>
    obtain ⟨k, hk, rfl, hown, hBr⟩ := hrel
    obtain ⟨A3, cap3, rfl⟩ := hown.shape
    have hRa := HA.out.below hBr
    have HBr := Lib.hid hBr
    have HO := Lib.hid hown
    have hsw := hBr.size
    have hpl : (pairIts apart (a.take k) b).length ≤ k * m := by
      have h1 := pairIts_length apart (a.take k) b
      have h2 : (a.take k).length ≤ k := by rw [List.length_take]; omega
      rw [HB.out.len] at h1
      exact Nat.le_trans h1 (Nat.mul_le_mul_right m h2)
    clear hBr hown
    by_cases hlt : k < n
    · obtain ⟨bb, off, x, rfl, _, hx, c0, c1, c2, c3⟩ := hRa.it_at hlt
      have HX := Lib.hid hx
      have hxi := (itB_spec x).1 (((bagB_spec a).1 GA.out).1 x (List.mem_of_getElem? hx))
      obtain ⟨⟨x1, x2, x3, x4, x5, x6⟩, _, x8, x9⟩ := hxi
      clear hx hRa
      generalize hP : pairIts apart (a.take k) b = PP at *
      have HP := Lib.hid hP
      clear hP
      generalize hpn : PP.length = pn at *
      have HPN := Lib.hid hpn
      clear hpn
      go_wp2_with fail
      obtain ⟨wo, rfl⟩ : ∃ wo : World, wo = wr := ⟨_, rfl⟩
      go_loopw [7, 11, 12, 21] (fun v _ _ i wi => ∃ j : Nat, j ≤ m ∧ i = .int .i64 j ∧ ProdIn w2 wo.heap.size x (PP ++ rowIts apart x (b.take j)) v wi) (fun _ _ _ i _ => m - (intOf i).toNat)
      case atStart => exact ⟨0, by omega, rfl, by simpa [rowIts, HPN.out] using HO.out.alloc _, HBr.out.alloc hsw _, new_block _ _ _, fun q hq => by have := (HO.out.blk q hq).2; omega⟩
      case round =>
        obtain ⟨j, hj, rfl, hown, hB1, hgx, hne⟩ := hrel
        obtain ⟨A4, cap4, rfl⟩ := hown.shape
        have hgl : wo.heap.size < wr.heap.size := (Array.getElem?_eq_some_iff.1 hgx).1
        have hRb := HB.out.below hB1
        have hsz1 := hB1.size
        have HO1 := Lib.hid hown
        have HB1 := Lib.hid hB1
        have HGX := Lib.hid hgx
        have HNE := Lib.hid hne
        have hll : (PP ++ rowIts apart x (b.take j)).length + 1 ≤ 100000 := by
          have h1 := rowIts_length apart x (b.take j)
          have h2 : (b.take j).length ≤ j := by rw [List.length_take]; omega
          have h3 : k * m ≤ 300 * 300 := Nat.mul_le_mul (by omega) hm3
          rw [List.length_append, HPN.out]
          omega
        clear hown hB1 hgx hne
        by_cases hjl : j < m
        · obtain ⟨b2, off2, y, rfl, _, hy, d0, d1, d2, d3⟩ := hRb.it_at hjl
          have HY := Lib.hid hy
          have f0 := cell_at_block (off := 0) HGX.out rfl
          have f1 := cell_at_block (off := 1) HGX.out rfl
          have f2 := cell_at_block (off := 2) HGX.out rfl
          have f3 := cell_at_block (off := 3) HGX.out rfl
          have hyi := (itB_spec y).1 (((bagB_spec b).1 GB.out).1 y (List.mem_of_getElem? hy))
          obtain ⟨⟨y1, y2, y3, y4, y5, y6⟩, _, y8, y9⟩ := hyi
          have hrt := rowIts_take apart x b j y hy
          have HRT := Lib.hid hrt
          clear hy hRb hrt
          generalize hLL : PP ++ rowIts apart x (b.take j) = LL at *
          have HLL := Lib.hid hLL
          clear hLL
          have hfar : max x.r.at_ y.r.at_ - min x.r.at_ y.r.at_ = max (x.r.at_ - y.r.at_) (y.r.at_ - x.r.at_) := by omega
          have hw1 : IntKind.i64.wrap (x.r.at_ - y.r.at_) = x.r.at_ - y.r.at_ := IntWalk.i64_in _ (by omega)
          have hw2 : IntKind.i64.wrap (y.r.at_ - x.r.at_) = y.r.at_ - x.r.at_ := IntWalk.i64_in _ (by omega)
          by_cases hyes : x.r.key = y.r.key ∧ max x.r.at_ y.r.at_ - min x.r.at_ y.r.at_ ≤ apart
          · have hp1 : pairIt apart x y = [⟨⟨max x.r.at_ y.r.at_, x.r.key, clampI (x.r.val + y.r.val)⟩, x.n * y.n⟩] := by rw [pairIt, if_pos hyes]
            have HP1 := Lib.hid hp1
            have hke : (x.r.key == y.r.key) = true := by simpa using hyes.1
            have hfd : decide (max (x.r.at_ - y.r.at_) (y.r.at_ - x.r.at_) ≤ apart) = true := by rw [← hfar]; simpa using hyes.2
            have hm := mul_bd (a := x.n) (b := y.n) (A := 1000000) (B := 1000000) (by omega) (by omega) (by omega) (by omega) (by omega)
            have hw3 : IntKind.i64.wrap (x.n * y.n) = x.n * y.n := IntWalk.i64_in _ (by omega)
            have hw4 : IntKind.i64.wrap (x.r.val + y.r.val) = x.r.val + y.r.val := IntWalk.i64_in _ (by omega)
            clear hp1 hyes hfar hm
            have hy0 := new_block wr #[.int .i64 y.r.at_, .int .i64 y.r.key, .int .i64 y.r.val, .int .i64 y.n] 40
            have g0 := cell_at_block (off := 0) hy0 rfl
            have g1 := cell_at_block (off := 1) hy0 rfl
            have g2 := cell_at_block (off := 2) hy0 rfl
            have g3 := cell_at_block (off := 3) hy0 rfl
            clear hy0
            have hownR : (wr.alloc (.cells #[.int .i64 y.r.at_, .int .i64 y.r.key, .int .i64 y.r.val, .int .i64 y.n] 40)).ownsRow w2.heap.size 40 4 (.slice A4 LL.length cap4) LL.length (LL.flatMap It.vs) := HO1.out.alloc _
            have ag : (Value.slice A4 LL.length cap4).ownBlock ≠ some wo.heap.size := fun e => HNE.out _ e rfl
            have ak : (Value.slice A4 LL.length cap4).ownBlock ≠ some wr.heap.size := fun e => by have := (HO1.out.blk _ e).2; omega
            obtain ⟨K1, hK1⟩ : ∃ K1, clampI (x.r.val + y.r.val) = K1 := ⟨_, rfl⟩
            have HC := Lib.hid (clampR_any (x.r.val + y.r.val))
            rw [hK1] at HC
            have HK1 := Lib.hid hK1
            clear hK1 c0 c1 c2 c3
            go_wp2_with fail
            go_region_held3 (fun w' => w'.cell? ⟨wo.heap.size, 0, none⟩ = some (.int .i64 x.r.at_) ∧ w'.cell? ⟨wo.heap.size, 1, none⟩ = some (.int .i64 x.r.key) ∧ w'.cell? ⟨wo.heap.size, 2, none⟩ = some (.int .i64 x.r.val) ∧ w'.cell? ⟨wo.heap.size, 3, none⟩ = some (.int .i64 x.n) ∧ w'.cell? ⟨wr.heap.size, 0, none⟩ = some (.int .i64 y.r.at_) ∧ w'.cell? ⟨wr.heap.size, 1, none⟩ = some (.int .i64 y.r.key) ∧ w'.cell? ⟨wr.heap.size, 2, none⟩ = some (.int .i64 y.r.val) ∧ w'.cell? ⟨wr.heap.size, 3, none⟩ = some (.int .i64 y.n))
              (first
                | go_keep
                | (go_split_ands
                   refine ⟨?_, ?_, ?_, ?_, ?_, ?_, ?_, ?_⟩
                   · (rw [hgrow.cell_far _ (by simp; omega) (Ne.symm ag)]; assumption)
                   · (rw [hgrow.cell_far _ (by simp; omega) (Ne.symm ag)]; assumption)
                   · (rw [hgrow.cell_far _ (by simp; omega) (Ne.symm ag)]; assumption)
                   · (rw [hgrow.cell_far _ (by simp; omega) (Ne.symm ag)]; assumption)
                   · (rw [hgrow.cell_far _ (by simp; omega) (Ne.symm ak)]; assumption)
                   · (rw [hgrow.cell_far _ (by simp; omega) (Ne.symm ak)]; assumption)
                   · (rw [hgrow.cell_far _ (by simp; omega) (Ne.symm ak)]; assumption)
                   · (rw [hgrow.cell_far _ (by simp; omega) (Ne.symm ak)]; assumption)))
              (first
                | (go_at_call 97; (with_reducible refine (HC.out _).mono ?_); rintro e w' ⟨rfl, rfl⟩)
                | ((refine step_append_lies _ (by rfl) _ _ _ (by rfl) w2.heap.size 40 i0 _ 4 32 Tryz.underlying22 hi0 hz0 hz1 hz2 rfl (by omega) (.slice A4 LL.length cap4) LL.length (LL.flatMap It.vs) (by rfl) ((World.ownsRow.alloc hownR _).drew)
                        ⟨wr.heap.size + 1, 0, none⟩ 1 1 [.int .i64 (max x.r.at_ y.r.at_), .int .i64 x.r.key, .int .i64 K1, .int .i64 (x.n * y.n)] (by rfl) (by rfl) (World.news_of_block (cs := #[.int .i64 (max x.r.at_ y.r.at_), .int .i64 x.r.key, .int .i64 K1, .int .i64 (x.n * y.n)]) (t := 40) (fr := (0, 0)) (new2 _ _ _ _)) (by simp [Value.oneCell'])
                        (by omega) (by unfold maxLen; omega) (by omega) (by simp; omega) (wr.heap.size + 2) (by simp) ?_; intro gg cap w1 hown1 hgrow hat hlt)))
            all_goals
              go_wp2_with fail
              refine ⟨⟨j + 1, by omega, by go_num, ?_, below_far HB1.out (alloc2_drew _ _ _) hgrow (fun q hq => (HO1.out.blk q hq).1), ?_, fun q hq => ?_⟩, by simp [intOf]; omega⟩
              · rw [HRT.out, HP1.out, ← List.append_assoc, HLL.out, HK1.out]
                exact own_it (e := ⟨⟨max x.r.at_ y.r.at_, x.r.key, K1⟩, x.n * y.n⟩) hown1 rfl rfl
              · refine (hgrow.block _ (by simp; omega) (fun e => ag e.symm)).trans ?_
                exact ((alloc2_drew wr _ _).block _ hgl (by simp)).trans HGX.out
              · cases hq
                rcases hat with e | e
                · exact HNE.out _ e
                · show gg ≠ wo.heap.size
                  omega
          · have hp0 : pairIt apart x y = [] := by rw [pairIt, if_neg hyes]
            have HP0 := Lib.hid hp0
            clear hp0
            cases hke : (x.r.key == y.r.key) with
            | false =>
              clear hyes hfar
              go_wp2_with fail
              refine ⟨⟨j + 1, by omega, by go_num, ?_, HB1.out.alloc hsz1 _, (Below.heap_alloc _ _ _ hgl).trans HGX.out, HNE.out⟩, by simp [intOf]; omega⟩
              rw [HRT.out, HP0.out, List.append_nil, HLL.out]
              exact HO1.out.alloc _
            | true =>
              have hfd : decide (max (x.r.at_ - y.r.at_) (y.r.at_ - x.r.at_) ≤ apart) = false := by
                have := beq_iff_eq.1 hke
                rw [← hfar]
                simp only [decide_eq_false_iff_not]
                exact fun h => hyes ⟨this, h⟩
              clear hyes hfar
              go_wp2_with fail
              refine ⟨⟨j + 1, by omega, by go_num, ?_, HB1.out.alloc hsz1 _, (Below.heap_alloc _ _ _ hgl).trans HGX.out, HNE.out⟩, by simp [intOf]; omega⟩
              rw [HRT.out, HP0.out, List.append_nil, HLL.out]
              exact HO1.out.alloc _
        · have hj' : j = m := by omega
          subst hj'
          clear hRb hjl
          have e1 : PP ++ rowIts apart x (b.take j) = pairIts apart (a.take (k + 1)) b := by rw [List.take_of_length_le (by rw [HB.out.len]; exact Nat.le_refl _), pairIts_take apart a b k x HX.out, HP.out]
          have HO2 := HO1.out
          rw [e1] at HO2 ⊢
          go_wp2_with fail
          exact ⟨⟨k + 1, by omega, by go_num, HO2, HB1.out⟩, by simp [intOf]; omega⟩
    · have hk' : k = n := by omega
      subst hk'
      clear hRa hlt
      have e1 : a.take k = a := List.take_of_length_le (by rw [HA.out.len]; exact Nat.le_refl _)
      rw [e1] at HO hpl ⊢
      obtain ⟨_, _, e3, hr3⟩ := HO.out.rd It.vs_length
      cases e3
      have hcp := HO.out.capOf
      have hpl2 : (pairIts apart a b).length ≤ 300 * 300 := Nat.le_trans hpl (Nat.mul_le_mul hn3 hm3)
      have HOf := Lib.hid (Of_any A3 _ cap3 (pairIts apart a b) wr (hr3.low (Nat.zero_le _)) hcp (by omega) (fits_pair apart GA.out GB.out))
      have HSW := Lib.hid hsw
      clear hr3 hcp hpl hpl2 hsw
      generalize hQ : (pairIts apart a b).length = Q at *
      clear hQ
      go_wp2_with (go_at_call 70; (with_reducible refine HOf.out.mono ?_); rintro e w5 ⟨A5, cap5, rfl, hr5, hb5⟩)
      go_ret
      exact ⟨A5, cap5, rfl, hr5.low HSW.out, HBr.out.trans (hb5.mono HSW.out)⟩

theorem bagOr_long (L : List It) : longR (canon L) = (bagOr L, errOr L) := by
  unfold longR bagOr errOr
  cases bagB (canon L) <;> rfl
/-- What a function of the reference that hands back a bag leaves. -/
def RetRef (w : World) (p : List It × Int) (e : Ending) (w' : World) : Prop :=
  (∃ A n cap, e = .returned (.tuple #[.slice A n cap, .int .i64 p.2]) ∧ Rd It.vs 4 w' 0 A n p.1) ∧ Below w.heap.size w w'
set_option maxRecDepth 100000 in
set_option maxHeartbeats 2000000 in
theorem PairR_any (A B : Option Addr) (n m capA capB : Nat) (a b : List It) (apart : Int) (w : World) (hA : Rd It.vs 4 w 0 A n a) (hB : Rd It.vs 4 w 0 B m b) :
    Calls Tryz.prog 12 #[.slice A n capA, .slice B m capB, .int .i64 apart] w (RetRef w (pairR a b apart)) := by
  have Q1 := Lib.hid (Good_any A n capA a w hA)
  have HA := Lib.hid hA
  have HB := Lib.hid hB
  clear hA hB
  cases ga : bagB a with
  | false =>
    have e1 : pairR a b apart = ([], 2) := by simp [pairR, ga]
    rw [e1]
    have GA := Lib.hid ga
    clear ga e1
    go_enter Tryz.func12, Tryz.ntmps12
    go_wp2_with (go_at_call 44; (with_reducible refine Q1.out.mono ?_); rintro e w1 ⟨rfl, hb1⟩; rw [GA.out]; have HB1 := Lib.hid hb1; clear hb1)
    go_ret2
    exact ⟨⟨_, _, _, rfl, Rd.nil _ _ _⟩, HB1.out⟩
  | true =>
    cases gb : bagB b with
    | false =>
      have e1 : pairR a b apart = ([], 2) := by simp [pairR, gb]
      rw [e1]
      have GA := Lib.hid ga
      have GB := Lib.hid gb
      clear ga gb e1
      go_enter Tryz.func12, Tryz.ntmps12
      go_wp2_with fail
      (with_reducible refine Q1.out.mono ?_)
      rintro e w1 ⟨rfl, hb1⟩
      rw [GA.out]
      have Q2 := Lib.hid (Good_any B m capB b w1 (HB.out.below hb1))
      have HB1 := Lib.hid hb1
      clear hb1
      go_wp2_with (go_at_call 44; (with_reducible refine Q2.out.mono ?_); rintro e w2 ⟨rfl, hb2⟩; rw [GB.out]; have HB2 := Lib.hid hb2; clear hb2)
      go_ret2
      exact ⟨⟨_, _, _, rfl, Rd.nil _ _ _⟩, bchain HB1.out HB2.out⟩
    | true =>
      by_cases hap : 0 ≤ apart
      · have e1 : pairR a b apart = (bagOr (pairIts apart a b), errOr (pairIts apart a b)) := by simp [pairR, ga, gb, hap]
        rw [e1]
        have GA := Lib.hid ga
        have GB := Lib.hid gb
        have hd : decide (apart < 0) = false := by simpa using hap
        clear ga gb e1 hap
        go_enter Tryz.func12, Tryz.ntmps12
        go_wp2_with fail
        (with_reducible refine Q1.out.mono ?_)
        rintro e w1 ⟨rfl, hb1⟩
        rw [GA.out]
        have Q2 := Lib.hid (Good_any B m capB b w1 (HB.out.below hb1))
        have HB1 := Lib.hid hb1
        clear hb1
        go_wp2_with (go_at_call 44; (with_reducible refine Q2.out.mono ?_); rintro e w2 ⟨rfl, hb2⟩; rw [GB.out]; have HB2 := Lib.hid (bchain HB1.out hb2); have HP := Lib.hid (Product_any A B n m capA capB a b apart w2 (HA.out.below HB2.out) (HB.out.below HB2.out) GA.out GB.out); clear hb2)
        (with_reducible refine HP.out.mono ?_)
        rintro e w3 ⟨A3, cap3, rfl, hr3, hb3⟩
        have HL := Lib.hid (long_any A3 _ cap3 _ w3 (hr3.low (Nat.zero_le _)))
        have HB3 := Lib.hid (bchain HB2.out hb3)
        rw [bagOr_long] at HL
        clear hr3 hb3 HP
        generalize (canon (pairIts apart a b)).length = q at *
        go_wp2_with (go_at_call 51; (with_reducible refine HL.out.mono ?_); rintro e w4 ⟨⟨A4, n4, cap4, rfl, hr4⟩, hb4⟩)
        go_ret2
        exact ⟨⟨_, _, _, rfl, hr4⟩, bchain HB3.out hb4⟩
      · have e1 : pairR a b apart = ([], 2) := by simp [pairR, hap]
        rw [e1]
        have GA := Lib.hid ga
        have GB := Lib.hid gb
        have hd : decide (apart < 0) = true := by simp; omega
        clear ga gb e1 hap
        go_enter Tryz.func12, Tryz.ntmps12
        go_wp2_with fail
        (with_reducible refine Q1.out.mono ?_)
        rintro e w1 ⟨rfl, hb1⟩
        rw [GA.out]
        have Q2 := Lib.hid (Good_any B m capB b w1 (HB.out.below hb1))
        have HB1 := Lib.hid hb1
        clear hb1
        go_wp2_with (go_at_call 44; (with_reducible refine Q2.out.mono ?_); rintro e w2 ⟨rfl, hb2⟩; rw [GB.out]; have HB2 := Lib.hid (bchain HB1.out hb2); clear hb2)
        go_ret2
        exact ⟨⟨_, _, _, rfl, Rd.nil _ _ _⟩, HB2.out⟩
end Go.Proofs.Bg
