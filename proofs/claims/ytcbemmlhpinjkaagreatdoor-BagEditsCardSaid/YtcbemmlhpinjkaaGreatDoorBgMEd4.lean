/- Texts of our own, merged: BgProd BgApp2 BgApp3 BgKeysE BgWithout BgAlg BgSplit BgLeastP BgIsEdit BgNewsR BgNewR BgSumsR. -/
import Derived.StillTactics
import Derived.Deep.RegionHeld3
import Derived.Deep.AppendLies
import Derived.Test.YtcbemmlhpinjkaaGreatDoorBgMEd3
import Derived.Deep.RegionWith
import Derived.BigQuiet
import Derived.Test.YtcbemmlhpinjkaaGreatDoorWLast
import Derived.Test.YtcbemmlhpinjkaaGreatDoorBgMEd1
import Derived.Test.YtcbemmlhpinjkaaGreatDoorBgMEd2

section
/- The reference: Product, Pair. -/
namespace Go.Proofs.Bg
open Go.RowKit

theorem Own.capOf {α : Type} {enc : α → List Value} {sz : Nat} {T : TypeId} {base n cap : Nat} {A : Option Addr} {w : World} {l : List α} (h : Own enc sz T base w (.slice A n cap) l) : n ≤ cap := by
  rcases h.2 with ⟨e, _⟩ | ⟨g, cap', cur, e, _, _, h1, _⟩
  · cases e; exact Nat.le_refl _
  · cases e; exact h1
theorem own_it {base : Nat} {w : World} {v : Value} {L : List It} {e : It} {n : Nat} {xs : List Value} (h : w.ownsRow base 40 4 v n xs) (hn : n = L.length + 1) (hx : xs = L.flatMap It.vs ++ e.vs) : Own It.vs 4 40 base w v (L ++ [e]) := by
  unfold Own
  rw [List.length_append, List.flatMap_append]
  subst hn hx
  simpa using h
theorem alloc2_drew (w : World) (o o' : Obj) : w.grownBy (((w.alloc o).alloc o').drew) none := ⟨rfl, rfl, rfl, (alloc2_none w o o').size, (alloc2_none w o o').block⟩
theorem new2 (w : World) (o : Obj) (cs : Array Value) (T : TypeId) : (((w.alloc o).alloc (.cells cs T)).drew).heap[w.heap.size + 1]? = some (.cells cs T) := by
  have := new_block (w.alloc o) cs T
  have e : (w.alloc o).heap.size = w.heap.size + 1 := by simp
  rw [e] at this
  exact this
/-- What the loops hold. -/
def ProdIn (w2 : World) (gx : Nat) (x : It) (L : List It) (v : Value) (wr : World) : Prop :=
  Own It.vs 4 40 w2.heap.size wr v L ∧ Below w2.heap.size w2 wr ∧ wr.heap[gx]? = some (.cells #[.int .i64 x.r.at_, .int .i64 x.r.key, .int .i64 x.r.val, .int .i64 x.n] 40) ∧ (∀ k, v.ownBlock = some k → k ≠ gx)

set_option maxRecDepth 100000 in
set_option maxHeartbeats 8000000 in
theorem Product_any (A B : Option Addr) (n m capA capB : Nat) (a b : List It) (apart : Int) (w2 : World) (hA : Rd It.vs 4 w2 0 A n a) (hB : Rd It.vs 4 w2 0 B m b) (ha : bagB a = true) (hb : bagB b = true) :
    Calls Tryz.prog 52 #[.slice A n capA, .slice B m capB, .int .i64 apart] w2 fun e w' => ∃ A' cap', e = .returned (.slice A' (canon (pairIts apart a b)).length cap') ∧ Rd It.vs 4 w' w2.heap.size A' (canon (pairIts apart a b)).length (canon (pairIts apart a b)) ∧ Below w2.heap.size w2 w' := by
  have HA := Lib.hid hA
  have HB := Lib.hid hB
  have GA := Lib.hid ha
  have GB := Lib.hid hb
  have hle := hA.le
  have hle2 := hB.le
  have hn3 : n ≤ 300 := by rw [← hA.len]; exact ((bagB_spec a).1 ha).2.2
  have hm3 : m ≤ 300 := by rw [← hB.len]; exact ((bagB_spec b).1 hb).2.2
  obtain ⟨i0, hi0, hz0, hz1, hz2⟩ := info_parts infoIt
  clear hA hB ha hb
  go_enter Tryz.func52, Tryz.ntmps52
  go_wp2_with fail
  go_loopw [7, 9, 11, 12, 15] (fun v _ _ _ i wr => ∃ k : Nat, k ≤ n ∧ i = .int .i64 k ∧ Own It.vs 4 40 w2.heap.size wr v (pairIts apart (a.take k) b) ∧ Below w2.heap.size w2 wr) (fun _ _ _ _ i _ => n - (intOf i).toNat)
  case atStart => exact ⟨0, by omega, rfl, Own.nil _ _ _ _ _, Below.refl _ _⟩
  case round =>
    obtain ⟨k, hk, rfl, hown, hBr⟩ := hrel
    obtain ⟨A3, cap3, rfl⟩ := hown.shape
    have hRa := HA.out.below hBr
    have HBr := Lib.hid hBr
    have HO := Lib.hid hown
    have hsw := hBr.size
    have hpl : (pairIts apart (a.take k) b).length ≤ k * m := by
      have h1 := pairIts_length apart (a.take k) b
      have h2 : (a.take k).length ≤ k := by rw [List.length_take]; omega
      rw [HB.out.len] at h1
      exact Nat.le_trans h1 (Nat.mul_le_mul_right m h2)
    clear hBr hown
    by_cases hlt : k < n
    · obtain ⟨bb, off, x, rfl, _, hx, c0, c1, c2, c3⟩ := hRa.it_at hlt
      have HX := Lib.hid hx
      have hxi := (itB_spec x).1 (((bagB_spec a).1 GA.out).1 x (List.mem_of_getElem? hx))
      obtain ⟨⟨x1, x2, x3, x4, x5, x6⟩, _, x8, x9⟩ := hxi
      clear hx hRa
      generalize hP : pairIts apart (a.take k) b = PP at *
      have HP := Lib.hid hP
      clear hP
      generalize hpn : PP.length = pn at *
      have HPN := Lib.hid hpn
      clear hpn
      go_wp2_with fail
      obtain ⟨wo, rfl⟩ : ∃ wo : World, wo = wr := ⟨_, rfl⟩
      go_loopw [7, 11, 12, 21] (fun v _ _ i wi => ∃ j : Nat, j ≤ m ∧ i = .int .i64 j ∧ ProdIn w2 wo.heap.size x (PP ++ rowIts apart x (b.take j)) v wi) (fun _ _ _ i _ => m - (intOf i).toNat)
      case atStart => exact ⟨0, by omega, rfl, by simpa [rowIts, HPN.out] using HO.out.alloc _, HBr.out.alloc hsw _, new_block _ _ _, fun q hq => by have := (HO.out.blk q hq).2; omega⟩
      case round =>
        obtain ⟨j, hj, rfl, hown, hB1, hgx, hne⟩ := hrel
        obtain ⟨A4, cap4, rfl⟩ := hown.shape
        have hgl : wo.heap.size < wr.heap.size := (Array.getElem?_eq_some_iff.1 hgx).1
        have hRb := HB.out.below hB1
        have hsz1 := hB1.size
        have HO1 := Lib.hid hown
        have HB1 := Lib.hid hB1
        have HGX := Lib.hid hgx
        have HNE := Lib.hid hne
        have hll : (PP ++ rowIts apart x (b.take j)).length + 1 ≤ 100000 := by
          have h1 := rowIts_length apart x (b.take j)
          have h2 : (b.take j).length ≤ j := by rw [List.length_take]; omega
          have h3 : k * m ≤ 300 * 300 := Nat.mul_le_mul (by omega) hm3
          rw [List.length_append, HPN.out]
          omega
        clear hown hB1 hgx hne
        by_cases hjl : j < m
        · obtain ⟨b2, off2, y, rfl, _, hy, d0, d1, d2, d3⟩ := hRb.it_at hjl
          have HY := Lib.hid hy
          have f0 := cell_at_block (off := 0) HGX.out rfl
          have f1 := cell_at_block (off := 1) HGX.out rfl
          have f2 := cell_at_block (off := 2) HGX.out rfl
          have f3 := cell_at_block (off := 3) HGX.out rfl
          have hyi := (itB_spec y).1 (((bagB_spec b).1 GB.out).1 y (List.mem_of_getElem? hy))
          obtain ⟨⟨y1, y2, y3, y4, y5, y6⟩, _, y8, y9⟩ := hyi
          have hrt := rowIts_take apart x b j y hy
          have HRT := Lib.hid hrt
          clear hy hRb hrt
          generalize hLL : PP ++ rowIts apart x (b.take j) = LL at *
          have HLL := Lib.hid hLL
          clear hLL
          have hfar : max x.r.at_ y.r.at_ - min x.r.at_ y.r.at_ = max (x.r.at_ - y.r.at_) (y.r.at_ - x.r.at_) := by omega
          have hw1 : IntKind.i64.wrap (x.r.at_ - y.r.at_) = x.r.at_ - y.r.at_ := IntWalk.i64_in _ (by omega)
          have hw2 : IntKind.i64.wrap (y.r.at_ - x.r.at_) = y.r.at_ - x.r.at_ := IntWalk.i64_in _ (by omega)
          by_cases hyes : x.r.key = y.r.key ∧ max x.r.at_ y.r.at_ - min x.r.at_ y.r.at_ ≤ apart
          · have hp1 : pairIt apart x y = [⟨⟨max x.r.at_ y.r.at_, x.r.key, clampI (x.r.val + y.r.val)⟩, x.n * y.n⟩] := by rw [pairIt, if_pos hyes]
            have HP1 := Lib.hid hp1
            have hke : (x.r.key == y.r.key) = true := by simpa using hyes.1
            have hfd : decide (max (x.r.at_ - y.r.at_) (y.r.at_ - x.r.at_) ≤ apart) = true := by rw [← hfar]; simpa using hyes.2
            have hm := mul_bd (a := x.n) (b := y.n) (A := 1000000) (B := 1000000) (by omega) (by omega) (by omega) (by omega) (by omega)
            have hw3 : IntKind.i64.wrap (x.n * y.n) = x.n * y.n := IntWalk.i64_in _ (by omega)
            have hw4 : IntKind.i64.wrap (x.r.val + y.r.val) = x.r.val + y.r.val := IntWalk.i64_in _ (by omega)
            clear hp1 hyes hfar hm
            have hy0 := new_block wr #[.int .i64 y.r.at_, .int .i64 y.r.key, .int .i64 y.r.val, .int .i64 y.n] 40
            have g0 := cell_at_block (off := 0) hy0 rfl
            have g1 := cell_at_block (off := 1) hy0 rfl
            have g2 := cell_at_block (off := 2) hy0 rfl
            have g3 := cell_at_block (off := 3) hy0 rfl
            clear hy0
            have hownR : (wr.alloc (.cells #[.int .i64 y.r.at_, .int .i64 y.r.key, .int .i64 y.r.val, .int .i64 y.n] 40)).ownsRow w2.heap.size 40 4 (.slice A4 LL.length cap4) LL.length (LL.flatMap It.vs) := HO1.out.alloc _
            have ag : (Value.slice A4 LL.length cap4).ownBlock ≠ some wo.heap.size := fun e => HNE.out _ e rfl
            have ak : (Value.slice A4 LL.length cap4).ownBlock ≠ some wr.heap.size := fun e => by have := (HO1.out.blk _ e).2; omega
            obtain ⟨K1, hK1⟩ : ∃ K1, clampI (x.r.val + y.r.val) = K1 := ⟨_, rfl⟩
            have HC := Lib.hid (clampR_any (x.r.val + y.r.val))
            rw [hK1] at HC
            have HK1 := Lib.hid hK1
            clear hK1 c0 c1 c2 c3
            go_wp2_with fail
            go_region_held3 (fun w' => w'.cell? ⟨wo.heap.size, 0, none⟩ = some (.int .i64 x.r.at_) ∧ w'.cell? ⟨wo.heap.size, 1, none⟩ = some (.int .i64 x.r.key) ∧ w'.cell? ⟨wo.heap.size, 2, none⟩ = some (.int .i64 x.r.val) ∧ w'.cell? ⟨wo.heap.size, 3, none⟩ = some (.int .i64 x.n) ∧ w'.cell? ⟨wr.heap.size, 0, none⟩ = some (.int .i64 y.r.at_) ∧ w'.cell? ⟨wr.heap.size, 1, none⟩ = some (.int .i64 y.r.key) ∧ w'.cell? ⟨wr.heap.size, 2, none⟩ = some (.int .i64 y.r.val) ∧ w'.cell? ⟨wr.heap.size, 3, none⟩ = some (.int .i64 y.n))
              (first
                | go_keep
                | (go_split_ands
                   refine ⟨?_, ?_, ?_, ?_, ?_, ?_, ?_, ?_⟩
                   · (rw [hgrow.cell_far _ (by simp; omega) (Ne.symm ag)]; assumption)
                   · (rw [hgrow.cell_far _ (by simp; omega) (Ne.symm ag)]; assumption)
                   · (rw [hgrow.cell_far _ (by simp; omega) (Ne.symm ag)]; assumption)
                   · (rw [hgrow.cell_far _ (by simp; omega) (Ne.symm ag)]; assumption)
                   · (rw [hgrow.cell_far _ (by simp; omega) (Ne.symm ak)]; assumption)
                   · (rw [hgrow.cell_far _ (by simp; omega) (Ne.symm ak)]; assumption)
                   · (rw [hgrow.cell_far _ (by simp; omega) (Ne.symm ak)]; assumption)
                   · (rw [hgrow.cell_far _ (by simp; omega) (Ne.symm ak)]; assumption)))
              (first
                | (go_at_call 97; (with_reducible refine (HC.out _).mono ?_); rintro e w' ⟨rfl, rfl⟩)
                | ((refine step_append_lies _ (by rfl) _ _ _ (by rfl) w2.heap.size 40 i0 _ 4 32 Tryz.underlying22 hi0 hz0 hz1 hz2 rfl (by omega) (.slice A4 LL.length cap4) LL.length (LL.flatMap It.vs) (by rfl) ((World.ownsRow.alloc hownR _).drew)
                        ⟨wr.heap.size + 1, 0, none⟩ 1 1 [.int .i64 (max x.r.at_ y.r.at_), .int .i64 x.r.key, .int .i64 K1, .int .i64 (x.n * y.n)] (by rfl) (by rfl) (World.news_of_block (cs := #[.int .i64 (max x.r.at_ y.r.at_), .int .i64 x.r.key, .int .i64 K1, .int .i64 (x.n * y.n)]) (t := 40) (fr := (0, 0)) (new2 _ _ _ _)) (by simp [Value.oneCell'])
                        (by omega) (by unfold maxLen; omega) (by omega) (by simp; omega) (wr.heap.size + 2) (by simp) ?_; intro gg cap w1 hown1 hgrow hat hlt)))
            all_goals
              go_wp2_with fail
              refine ⟨⟨j + 1, by omega, by go_num, ?_, below_far HB1.out (alloc2_drew _ _ _) hgrow (fun q hq => (HO1.out.blk q hq).1), ?_, fun q hq => ?_⟩, by simp [intOf]; omega⟩
              · rw [HRT.out, HP1.out, ← List.append_assoc, HLL.out, HK1.out]
                exact own_it (e := ⟨⟨max x.r.at_ y.r.at_, x.r.key, K1⟩, x.n * y.n⟩) hown1 rfl rfl
              · refine (hgrow.block _ (by simp; omega) (fun e => ag e.symm)).trans ?_
                exact ((alloc2_drew wr _ _).block _ hgl (by simp)).trans HGX.out
              · cases hq
                rcases hat with e | e
                · exact HNE.out _ e
                · show gg ≠ wo.heap.size
                  omega
          · have hp0 : pairIt apart x y = [] := by rw [pairIt, if_neg hyes]
            have HP0 := Lib.hid hp0
            clear hp0
            cases hke : (x.r.key == y.r.key) with
            | false =>
              clear hyes hfar
              go_wp2_with fail
              refine ⟨⟨j + 1, by omega, by go_num, ?_, HB1.out.alloc hsz1 _, (Below.heap_alloc _ _ _ hgl).trans HGX.out, HNE.out⟩, by simp [intOf]; omega⟩
              rw [HRT.out, HP0.out, List.append_nil, HLL.out]
              exact HO1.out.alloc _
            | true =>
              have hfd : decide (max (x.r.at_ - y.r.at_) (y.r.at_ - x.r.at_) ≤ apart) = false := by
                have := beq_iff_eq.1 hke
                rw [← hfar]
                simp only [decide_eq_false_iff_not]
                exact fun h => hyes ⟨this, h⟩
              clear hyes hfar
              go_wp2_with fail
              refine ⟨⟨j + 1, by omega, by go_num, ?_, HB1.out.alloc hsz1 _, (Below.heap_alloc _ _ _ hgl).trans HGX.out, HNE.out⟩, by simp [intOf]; omega⟩
              rw [HRT.out, HP0.out, List.append_nil, HLL.out]
              exact HO1.out.alloc _
        · have hj' : j = m := by omega
          subst hj'
          clear hRb hjl
          have e1 : PP ++ rowIts apart x (b.take j) = pairIts apart (a.take (k + 1)) b := by rw [List.take_of_length_le (by rw [HB.out.len]; exact Nat.le_refl _), pairIts_take apart a b k x HX.out, HP.out]
          have HO2 := HO1.out
          rw [e1] at HO2 ⊢
          go_wp2_with fail
          exact ⟨⟨k + 1, by omega, by go_num, HO2, HB1.out⟩, by simp [intOf]; omega⟩
    · have hk' : k = n := by omega
      subst hk'
      clear hRa hlt
      have e1 : a.take k = a := List.take_of_length_le (by rw [HA.out.len]; exact Nat.le_refl _)
      rw [e1] at HO hpl ⊢
      obtain ⟨_, _, e3, hr3⟩ := HO.out.rd It.vs_length
      cases e3
      have hcp := HO.out.capOf
      have hpl2 : (pairIts apart a b).length ≤ 300 * 300 := Nat.le_trans hpl (Nat.mul_le_mul hn3 hm3)
      have HOf := Lib.hid (Of_any A3 _ cap3 (pairIts apart a b) wr (hr3.low (Nat.zero_le _)) hcp (by omega) (fits_pair apart GA.out GB.out))
      have HSW := Lib.hid hsw
      clear hr3 hcp hpl hpl2 hsw
      generalize hQ : (pairIts apart a b).length = Q at *
      clear hQ
      go_wp2_with (go_at_call 70; (with_reducible refine HOf.out.mono ?_); rintro e w5 ⟨A5, cap5, rfl, hr5, hb5⟩)
      go_ret
      exact ⟨A5, cap5, rfl, hr5.low HSW.out, HBr.out.trans (hb5.mono HSW.out)⟩

theorem bagOr_long (L : List It) : longR (canon L) = (bagOr L, errOr L) := by
  unfold longR bagOr errOr
  cases bagB (canon L) <;> rfl
/-- What a function of the reference that hands back a bag leaves. -/
def RetRef (w : World) (p : List It × Int) (e : Ending) (w' : World) : Prop :=
  (∃ A n cap, e = .returned (.tuple #[.slice A n cap, .int .i64 p.2]) ∧ Rd It.vs 4 w' 0 A n p.1) ∧ Below w.heap.size w w'
set_option maxRecDepth 100000 in
set_option maxHeartbeats 2000000 in
theorem PairR_any (A B : Option Addr) (n m capA capB : Nat) (a b : List It) (apart : Int) (w : World) (hA : Rd It.vs 4 w 0 A n a) (hB : Rd It.vs 4 w 0 B m b) :
    Calls Tryz.prog 12 #[.slice A n capA, .slice B m capB, .int .i64 apart] w (RetRef w (pairR a b apart)) := by
  have Q1 := Lib.hid (Good_any A n capA a w hA)
  have HA := Lib.hid hA
  have HB := Lib.hid hB
  clear hA hB
  cases ga : bagB a with
  | false =>
    have e1 : pairR a b apart = ([], 2) := by simp [pairR, ga]
    rw [e1]
    have GA := Lib.hid ga
    clear ga e1
    go_enter Tryz.func12, Tryz.ntmps12
    go_wp2_with (go_at_call 44; (with_reducible refine Q1.out.mono ?_); rintro e w1 ⟨rfl, hb1⟩; rw [GA.out]; have HB1 := Lib.hid hb1; clear hb1)
    go_ret2
    exact ⟨⟨_, _, _, rfl, Rd.nil _ _ _⟩, HB1.out⟩
  | true =>
    cases gb : bagB b with
    | false =>
      have e1 : pairR a b apart = ([], 2) := by simp [pairR, gb]
      rw [e1]
      have GA := Lib.hid ga
      have GB := Lib.hid gb
      clear ga gb e1
      go_enter Tryz.func12, Tryz.ntmps12
      go_wp2_with fail
      (with_reducible refine Q1.out.mono ?_)
      rintro e w1 ⟨rfl, hb1⟩
      rw [GA.out]
      have Q2 := Lib.hid (Good_any B m capB b w1 (HB.out.below hb1))
      have HB1 := Lib.hid hb1
      clear hb1
      go_wp2_with (go_at_call 44; (with_reducible refine Q2.out.mono ?_); rintro e w2 ⟨rfl, hb2⟩; rw [GB.out]; have HB2 := Lib.hid hb2; clear hb2)
      go_ret2
      exact ⟨⟨_, _, _, rfl, Rd.nil _ _ _⟩, bchain HB1.out HB2.out⟩
    | true =>
      by_cases hap : 0 ≤ apart
      · have e1 : pairR a b apart = (bagOr (pairIts apart a b), errOr (pairIts apart a b)) := by simp [pairR, ga, gb, hap]
        rw [e1]
        have GA := Lib.hid ga
        have GB := Lib.hid gb
        have hd : decide (apart < 0) = false := by simpa using hap
        clear ga gb e1 hap
        go_enter Tryz.func12, Tryz.ntmps12
        go_wp2_with fail
        (with_reducible refine Q1.out.mono ?_)
        rintro e w1 ⟨rfl, hb1⟩
        rw [GA.out]
        have Q2 := Lib.hid (Good_any B m capB b w1 (HB.out.below hb1))
        have HB1 := Lib.hid hb1
        clear hb1
        go_wp2_with (go_at_call 44; (with_reducible refine Q2.out.mono ?_); rintro e w2 ⟨rfl, hb2⟩; rw [GB.out]; have HB2 := Lib.hid (bchain HB1.out hb2); have HP := Lib.hid (Product_any A B n m capA capB a b apart w2 (HA.out.below HB2.out) (HB.out.below HB2.out) GA.out GB.out); clear hb2)
        (with_reducible refine HP.out.mono ?_)
        rintro e w3 ⟨A3, cap3, rfl, hr3, hb3⟩
        have HL := Lib.hid (long_any A3 _ cap3 _ w3 (hr3.low (Nat.zero_le _)))
        have HB3 := Lib.hid (bchain HB2.out hb3)
        rw [bagOr_long] at HL
        clear hr3 hb3 HP
        generalize (canon (pairIts apart a b)).length = q at *
        go_wp2_with (go_at_call 51; (with_reducible refine HL.out.mono ?_); rintro e w4 ⟨⟨A4, n4, cap4, rfl, hr4⟩, hb4⟩)
        go_ret2
        exact ⟨⟨_, _, _, rfl, hr4⟩, bchain HB3.out hb4⟩
      · have e1 : pairR a b apart = ([], 2) := by simp [pairR, hap]
        rw [e1]
        have GA := Lib.hid ga
        have GB := Lib.hid gb
        have hd : decide (apart < 0) = true := by simp; omega
        clear ga gb e1 hap
        go_enter Tryz.func12, Tryz.ntmps12
        go_wp2_with fail
        (with_reducible refine Q1.out.mono ?_)
        rintro e w1 ⟨rfl, hb1⟩
        rw [GA.out]
        have Q2 := Lib.hid (Good_any B m capB b w1 (HB.out.below hb1))
        have HB1 := Lib.hid hb1
        clear hb1
        go_wp2_with (go_at_call 44; (with_reducible refine Q2.out.mono ?_); rintro e w2 ⟨rfl, hb2⟩; rw [GB.out]; have HB2 := Lib.hid (bchain HB1.out hb2); clear hb2)
        go_ret2
        exact ⟨⟨_, _, _, rfl, Rd.nil _ _ _⟩, HB2.out⟩
end Go.Proofs.Bg
end

section
/- Plain words: append of a slice to a list of the call's own; the two slices' types may differ by name. -/
namespace Go.Proofs.Bg
open Go.RowKit

theorem run_append2 {P : Program} {w : World} {t t2 ty e e2 : TypeId} (ht : P.underlying t = some (.slice e)) (ht2 : P.underlying t2 = some (.slice e2)) (v x : Value) :
    (Builtin.append_ #[t, t2] ty #[v, x]).run P w = (Builtin.append_ #[t, t] ty #[v, x]).run P w := by
  cases v <;> simp [Builtin.append_, run_underlying ht, run_underlying ht2, sizeOf, Result.andThen]
theorem run_append_none {P : Program} {w : World} {t ty e : TypeId} {i : TypeInfo} (ht : P.underlying t = some (.slice e)) (hi : P.info? e = some i) (A : Option Addr) (n cap c : Nat) (hc : n ≤ cap) :
    (Builtin.append_ #[t, t] ty #[.slice A n cap, .slice none 0 c]).run P w = .ok (.slice A n cap) w := by
  cases A with
  | none => simp [Builtin.append_, run_underlying ht, sizeOf, typeInfo, hi, Builtin.lenOf, Builtin.firstCells, loadCells, loadCellsFrom, Result.andThen, hc]
  | some a => simp [Builtin.append_, run_underlying ht, sizeOf, typeInfo, hi, Builtin.lenOf, Builtin.firstCells, loadCells, loadCellsFrom, storeCells, Result.andThen, hc]

/-- 'append(s, y...)', y any slice that reads as a list. -/
theorem wpList_appRd {P : Program} {w : World} {ops : Array Oper} {rest : List Oper} {o : Oper} {a : Act} {Q : Exit → Act → World → Prop} {α : Type} (enc : α → List Value) (sz : Nat) (hse : ∀ x, (enc x).length = sz) (h0 : 0 < sz) (hone : ∀ x, ∀ u ∈ enc x, u.oneCell' = true)
    (e e2 : TypeId) (z : Value) (bytes : Nat) (hinf : (P.info? e).map (fun i => (i.zero, i.size, i.bytes)) = some (some z, sz, bytes)) (hzs : z.cells.size = sz)
    (hgd : o.guard = none) (s x : Operand) (t t2 : TypeId) (ho : o.op = .call { callee := .builtin .append, args := #[s, x], argTypes := #[t, t2] }) (ht : P.underlying t = some (.slice e)) (ht2 : P.underlying t2 = some (.slice e2)) (base : Nat) (v : Value) (l : List α) (hs : a.eval s = v) (hown : Own enc sz e base w v l)
    (lo n c : Nat) (A : Option Addr) (y : List α) (hx : a.eval x = .slice A n c) (hy : Rd enc sz w lo A n y)
    (hbytes : (l.length + n) * bytes ≤ 140737488355328) (h63 : l.length + n ≤ maxLen) (hbase : base ≤ w.heap.size)
    (h : ∀ v' w', Own enc sz e base w' v' (l ++ y) → w.grownBy w' v.ownBlock → (v'.ownBlock = v.ownBlock ∨ v'.ownBlock = some w.heap.size) → wpList P ops Q rest (a.put o.dst v') w') : wpList P ops Q (o :: rest) a w := by
  obtain ⟨i, hi, hz0, hz1, hz2⟩ := info_parts hinf
  have hn := hy.len
  have main : ∃ v' w', (Builtin.append_ #[t, t] o.type #[v, .slice A n c]).run P w = .ok v' w' ∧ Own enc sz e base w' v' (l ++ y) ∧ w.grownBy w' v.ownBlock ∧ (v'.ownBlock = v.ownBlock ∨ v'.ownBlock = some w.heap.size) := by
    cases A with
    | none =>
      have hn0 : n = 0 := by
        cases n with
        | zero => rfl
        | succ k => obtain ⟨b, off, e, _⟩ := hy.2.2 (by omega); cases e
      subst hn0
      have hl0 : y = [] := List.length_eq_zero_iff.1 hn
      subst hl0
      obtain ⟨A1, c1, rfl⟩ := hown.shape
      exact ⟨_, w, run_append_none ht hi A1 l.length c1 c hown.capOf, by simpa using hown, World.grownBy.refl _ _, .inl rfl⟩
    | some ad =>
      have hnews : ∀ j u, (y.flatMap enc)[j]? = some u → w.cell? (ad.add j) = some u := by
        intro j u hu
        have hlen := flat_length hse y
        have hj : j < y.length * sz := by rw [← hlen]; exact (List.getElem?_eq_some_iff.1 hu).1
        have hpos : 0 < n := by
          rw [← hn]
          rcases Nat.eq_zero_or_pos y.length with h | h
          · rw [h] at hj; omega
          · exact h
        obtain ⟨b, off, e', _, hc⟩ := hy.2.2 hpos
        cases e'
        have e1 : (⟨b, off, none⟩ : Addr).add j = ⟨b, off + j, none⟩ := by unfold Addr.add; split <;> simp_all
        have hd : j / sz < y.length := (Nat.div_lt_iff_lt_mul h0).2 hj
        have hx : y[j / sz]? = some y[j / sz] := List.getElem?_eq_getElem hd
        have hm : j % sz < (enc y[j / sz]).length := by rw [hse]; exact Nat.mod_lt _ h0
        have hv : (enc y[j / sz])[j % sz]? = some ((enc y[j / sz])[j % sz]'hm) := List.getElem?_eq_getElem hm
        have hf := flat_at hse y _ _ hx _ _ hv
        have hjj : j / sz * sz + j % sz = j := by rw [Nat.mul_comm]; exact Nat.div_add_mod j sz
        rw [hjj, hu] at hf
        cases hf
        have := hc _ _ hx _ _ hv
        have e2 : off + j / sz * sz + j % sz = off + j := by omega
        rw [e2] at this
        rw [e1]
        exact this
      obtain ⟨v', w', hr, h2, h3, _, h5⟩ := run_append_own_at (P := P) w base t o.type e i z sz bytes ht hi hz0 hz1 hz2 hzs h0 v l.length (l.flatMap enc) hown ad n c (y.flatMap enc) (by rw [flat_length hse, hn]) hnews (fun u hu => by
        obtain ⟨q, _, hq⟩ := List.mem_flatMap.1 hu
        exact hone q u hq) h63 hbytes hbase
      refine ⟨v', w', hr, ?_, h3, h5⟩
      unfold Own
      rw [List.length_append, List.flatMap_append, hn]
      exact h2
  refine wpList_plain hgd fun K hK => ?_
  obtain ⟨v', w', hr, h2, h3, h5⟩ := main
  unfold Oper.wp execOp
  simp only [ho, resolve, invoke, builtin, Sem.run_bind, Sem.run_pure, Result.andThen_ok, List.map_toArray, List.map_cons, List.map_nil, hs, hx, run_append2 ht ht2, hr]
  exact hK _ _ (h v' w' h2 h3 h5)
theorem It.one (x : It) : ∀ u ∈ x.vs, u.oneCell' = true := by simp [It.vs, Value.oneCell']
theorem iv_one (x : Int) : ∀ u ∈ iv x, u.oneCell' = true := by simp [iv, Value.oneCell']
theorem bv_one' (x : Int) : ∀ u ∈ [Value.int .u8 x], u.oneCell' = true := by simp [Value.oneCell']
end Go.Proofs.Bg
end

section
/- Plain words: append, and what a region that draws its order asks of it. -/
namespace Go.Proofs.Bg
open Go.RowKit Go.Proofs.YtcbemmlhpinjkaaGreatDoorW.PrintLast

theorem run_appRd {P : Program} {w : World} {α : Type} (enc : α → List Value) (sz : Nat) (hse : ∀ x, (enc x).length = sz) (h0 : 0 < sz) (hone : ∀ x, ∀ u ∈ enc x, u.oneCell' = true)
    (e e2 : TypeId) (z : Value) (bytes : Nat) (hinf : (P.info? e).map (fun i => (i.zero, i.size, i.bytes)) = some (some z, sz, bytes)) (hzs : z.cells.size = sz)
    (t t2 ty : TypeId) (ht : P.underlying t = some (.slice e)) (ht2 : P.underlying t2 = some (.slice e2)) (base : Nat) (v : Value) (l : List α) (hown : Own enc sz e base w v l)
    (lo n c : Nat) (A : Option Addr) (y : List α) (hy : Rd enc sz w lo A n y)
    (hbytes : (l.length + n) * bytes ≤ 140737488355328) (h63 : l.length + n ≤ maxLen) (hbase : base ≤ w.heap.size) :
    ∃ v' w', (Builtin.append_ #[t, t2] ty #[v, .slice A n c]).run P w = .ok v' w' ∧ Own enc sz e base w' v' (l ++ y) ∧ w.grownBy w' v.ownBlock ∧ (v'.ownBlock = v.ownBlock ∨ v'.ownBlock = some w.heap.size) := by
  obtain ⟨i, hi, hz0, hz1, hz2⟩ := info_parts hinf
  have hn := hy.len
  rw [run_append2 ht ht2]
  cases A with
  | none =>
    have hn0 : n = 0 := by
      cases n with
      | zero => rfl
      | succ k => obtain ⟨b, off, e, _⟩ := hy.2.2 (by omega); cases e
    subst hn0
    have hl0 : y = [] := List.length_eq_zero_iff.1 hn
    subst hl0
    obtain ⟨A1, c1, rfl⟩ := hown.shape
    exact ⟨_, w, run_append_none ht hi A1 l.length c1 c hown.capOf, by simpa using hown, World.grownBy.refl _ _, .inl rfl⟩
  | some ad =>
    have hnews : ∀ j u, (y.flatMap enc)[j]? = some u → w.cell? (ad.add j) = some u := by
      intro j u hu
      have hlen := flat_length hse y
      have hj : j < y.length * sz := by rw [← hlen]; exact (List.getElem?_eq_some_iff.1 hu).1
      have hpos : 0 < n := by
        rw [← hn]
        rcases Nat.eq_zero_or_pos y.length with h | h
        · rw [h] at hj; omega
        · exact h
      obtain ⟨b, off, e', _, hc⟩ := hy.2.2 hpos
      cases e'
      have e1 : (⟨b, off, none⟩ : Addr).add j = ⟨b, off + j, none⟩ := by unfold Addr.add; split <;> simp_all
      have hd : j / sz < y.length := (Nat.div_lt_iff_lt_mul h0).2 hj
      have hx : y[j / sz]? = some y[j / sz] := List.getElem?_eq_getElem hd
      have hm : j % sz < (enc y[j / sz]).length := by rw [hse]; exact Nat.mod_lt _ h0
      have hv : (enc y[j / sz])[j % sz]? = some ((enc y[j / sz])[j % sz]'hm) := List.getElem?_eq_getElem hm
      have hf := flat_at hse y _ _ hx _ _ hv
      have hjj : j / sz * sz + j % sz = j := by rw [Nat.mul_comm]; exact Nat.div_add_mod j sz
      rw [hjj, hu] at hf
      cases hf
      have := hc _ _ hx _ _ hv
      have e2 : off + j / sz * sz + j % sz = off + j := by omega
      rw [e2] at this
      rw [e1]
      exact this
    obtain ⟨v', w', hr, h2, h3, _, h5⟩ := run_append_own_at (P := P) w base t ty e i z sz bytes ht hi hz0 hz1 hz2 hzs h0 v l.length (l.flatMap enc) hown ad n c (y.flatMap enc) (by rw [flat_length hse, hn]) hnews (fun u hu => by
      obtain ⟨q, _, hq⟩ := List.mem_flatMap.1 hu
      exact hone q u hq) h63 hbytes hbase
    refine ⟨v', w', hr, ?_, h3, h5⟩
    unfold Own
    rw [List.length_append, List.flatMap_append, hn]
    exact h2
theorem exec_append {P : Program} {w w' : World} {ev : Operand → Value} {o : Oper} {s x : Operand} {t t2 : TypeId} {v xv v' : Value} (ho : o.op = .call { callee := .builtin .append, args := #[s, x], argTypes := #[t, t2] }) (hs : ev s = v) (hx : ev x = xv) (hr : (Builtin.append_ #[t, t2] o.type #[v, xv]).run P w = .ok v' w') :
    (execOp ev o).run P w = .ok (.value v') w' := by
  unfold execOp
  simp only [ho, resolve, invoke, builtin, Sem.run_bind, Sem.run_pure, Result.andThen_ok, List.map_toArray, List.map_cons, List.map_nil, hs, hx, hr]
/-- 'append(s, y...)' in a region that draws its order. -/
theorem step_appRd {P : Program} {w : World} {ops : Array Oper} {Q : Exit → Act → World → Prop} {α : Type} (enc : α → List Value) (sz : Nat) (hse : ∀ x, (enc x).length = sz) (h0 : 0 < sz) (hone : ∀ x, ∀ u ∈ enc x, u.oneCell' = true)
    (e e2 : TypeId) (z : Value) (bytes : Nat) (hinf : (P.info? e).map (fun i => (i.zero, i.size, i.bytes)) = some (some z, sz, bytes)) (hzs : z.cells.size = sz)
    {oi : Oper} {N : Option Tmp} {a : Act} {K : Act → World → Prop} (hw : Region.wanted oi (yielded ops a.tmps) = true) (hN : oi.dst = N) (s x : Operand) (t t2 : TypeId) (ho : oi.op = .call { callee := .builtin .append, args := #[s, x], argTypes := #[t, t2] })
    (ht : P.underlying t = some (.slice e)) (ht2 : P.underlying t2 = some (.slice e2)) (base : Nat) (v : Value) (l : List α) (hs : a.eval s = v) (hown : Own enc sz e base w v l)
    (lo n c : Nat) (A : Option Addr) (y : List α) (hx : a.eval x = .slice A n c) (hy : Rd enc sz w lo A n y)
    (hbytes : (l.length + n) * bytes ≤ 140737488355328) (h63 : l.length + n ≤ maxLen) (hbase : base ≤ w.heap.size)
    (h : ∀ v' w', Own enc sz e base w' v' (l ++ y) → w.grownBy w' v.ownBlock → (v'.ownBlock = v.ownBlock ∨ v'.ownBlock = some w.heap.size) → K (a.put N v') w') :
    if Region.wanted oi (yielded ops a.tmps) = true then Oper.wp P oi a w K Q else K (a.put N undef) w := by
  obtain ⟨v', w', hr, h2, h3, h4⟩ := run_appRd enc sz hse h0 hone e e2 z bytes hinf hzs t t2 oi.type ht ht2 base v l hown lo n c A y hy hbytes h63 hbase
  exact value_ hw hN (exec_append ho hs hx hr) (h v' w' h2 h3 h4)

/-! ### windows of any list -/
theorem Rd.takeA {α : Type} {enc : α → List Value} {sz : Nat} {w : World} {lo n : Nat} {A : Option Addr} {l : List α} (h : Rd enc sz w lo A n l) (k : Nat) (hk : k ≤ n) : Rd enc sz w lo A k (l.take k) := by
  refine ⟨by rw [List.length_take, h.len]; omega, Nat.le_trans hk h.le, fun h0 => ?_⟩
  obtain ⟨b, off, rfl, hlo, hc⟩ := h.2.2 (by omega)
  refine ⟨b, off, rfl, hlo, fun i x hx j v hv => hc i x ?_ j v hv⟩
  rw [List.getElem?_take] at hx
  split at hx
  · exact hx
  · cases hx
theorem Rd.dropA {α : Type} {enc : α → List Value} {sz : Nat} {w : World} {lo n b off o' : Nat} {l : List α} (h : Rd enc sz w lo (some ⟨b, off, none⟩) n l) (k : Nat) (hk : k ≤ n) (ho : k < n → o' = off + k * sz) : Rd enc sz w lo (some ⟨b, o', none⟩) (n - k) (l.drop k) := by
  refine ⟨by rw [List.length_drop, h.len], by have := h.le; omega, fun h0 => ?_⟩
  obtain ⟨b', off', e, hlo, hc⟩ := h.2.2 (by omega)
  cases e
  rw [ho (by omega)]
  refine ⟨b, off + k * sz, rfl, hlo, fun i x hx j v hv => ?_⟩
  rw [List.getElem?_drop] at hx
  have := hc (k + i) x hx j v hv
  have e : off + k * sz + i * sz + j = off + (k + i) * sz + j := by rw [Nat.add_mul]; omega
  rw [e]
  exact this
theorem rd_one {α : Type} {enc : α → List Value} {sz : Nat} {w : World} {g : Nat} {T : TypeId} (x : α) (h : w.heap[g]? = some (.cells (enc x).toArray T)) : Rd enc sz w 0 (some ⟨g, 0, none⟩) 1 [x] := by
  refine ⟨rfl, by omega, fun _ => ⟨g, 0, rfl, Nat.zero_le _, fun i y hy j v hv => ?_⟩⟩
  cases i with
  | zero =>
    cases hy
    exact cell_at_block h (by simpa using hv)
  | succ i => simp at hy
end Go.Proofs.Bg
end

section
/- The contract of the reference's keys. -/
namespace Go.Proofs.Bg
open Go.RowKit Go.Proofs.YtcbemmlhpinjkaaGreatDoorW.PrintLast

theorem grown_cell {W w1 : World} {b o : Nat} {v : Value} (hg : W.grownBy w1 none) (h : W.cell? ⟨b, o, none⟩ = some v) : w1.cell? ⟨b, o, none⟩ = some v :=
  (World.cell?_of_block (hg.block b (World.block_lt_of_cell? W _ h) (by simp))).trans h
theorem _root_.Go.RowKit.Below.drewN_left {B n : Nat} {w W : World} (h : Below B (w.drewN n) W) : Below B w W := ⟨h.os, h.tape, h.output, h.size, h.block⟩
theorem below_new_drewN (w : World) (n : Nat) (o : Obj) : Below w.heap.size w ((w.drewN n).alloc o) := by
  have h := below_new (w.drewN n) o
  exact ⟨h.os, h.tape, h.output, h.size, h.block⟩
theorem below_of_none {W w1 : World} (hg : W.grownBy w1 none) : Below W.heap.size W w1 := (Below.refl _ _).grown hg (Nat.le_refl _) (fun k e => by cases e)

/-! ### the plain law of an insertion -/
theorem ins_incr {ks : List Int} {j : Nat} {z : Int} (h : IncrI ks) (h1 : ∀ (i : Nat) (y : Int), i < j → ks[i]? = some y → y < z) (h2 : ∀ y ∈ ks.drop j, z < y) : IncrI ((ks.take j ++ [z]) ++ ks.drop j) := by
  have h1' : ∀ y ∈ ks.take j, y < z := fun y hy => by
    obtain ⟨i, hi⟩ := List.mem_iff_getElem?.1 hy
    rw [List.getElem?_take] at hi
    split at hi
    · exact h1 i y (by assumption) hi
    · cases hi
  have h0 := h
  rw [← List.take_append_drop j ks] at h0
  unfold IncrI at *
  rw [List.pairwise_append] at h0
  rw [List.append_assoc, List.pairwise_append]
  refine ⟨h0.1, ?_, fun a ha b hb => ?_⟩
  · rw [List.singleton_append, List.pairwise_cons]
    exact ⟨h2, h0.2.1⟩
  · rcases List.mem_append.1 hb with hb | hb
    · rw [List.mem_singleton.1 hb]; exact h1' a ha
    · exact h0.2.2 a ha b hb
theorem ins_mem {ks : List Int} {j : Nat} {z y : Int} : y ∈ (ks.take j ++ [z]) ++ ks.drop j ↔ y = z ∨ y ∈ ks := by
  have e : y ∈ ks ↔ y ∈ ks.take j ∨ y ∈ ks.drop j := by
    rw [← List.mem_append, List.take_append_drop]
  rw [e]
  simp only [List.mem_append, List.mem_singleton]
  constructor
  · rintro ((h | h) | h) <;> simp [h]
  · rintro (h | h | h) <;> simp [h]
theorem drop_gt {ks : List Int} {j : Nat} {y z : Int} (h : IncrI ks) (hy : ks[j]? = some y) (hz : z < y) : ∀ u ∈ ks.drop j, z < u := by
  have hj := (List.getElem?_eq_some_iff.1 hy)
  obtain ⟨hj1, hj2⟩ := hj
  rw [List.drop_eq_getElem_cons hj1, hj2]
  intro u hu
  rcases List.mem_cons.1 hu with e | hu
  · omega
  · have h0 := h
    rw [← List.take_append_drop j ks, List.drop_eq_getElem_cons hj1, hj2] at h0
    unfold IncrI at h0
    rw [List.pairwise_append, List.pairwise_cons] at h0
    have := h0.2.1.1 u hu
    omega
theorem keys_take {l : List It} {k : Nat} {x : It} (h : l[k]? = some x) (z : Int) : z ∈ (l.take (k + 1)).map (·.r.key) ↔ z = x.r.key ∨ z ∈ (l.take k).map (·.r.key) := by
  rw [List.take_add_one, h]
  simp only [Option.toList_some, List.map_append, List.map_cons, List.map_nil, List.mem_append, List.mem_singleton]
  exact Or.comm

/-- What the loops of keys hold. -/
def KRel (w : World) (l : List It) (k : Nat) (v : Value) (wr : World) : Prop :=
  ∃ ks, IncrI ks ∧ (∀ z, z ∈ ks ↔ z ∈ (l.take k).map (·.r.key)) ∧ ks.length ≤ k ∧ Own iv 1 3 w.heap.size wr v ks ∧ Below w.heap.size w wr
def KIn (w : World) (gx : Nat) (x : It) (v : Value) (ks : List Int) (j : Nat) (wi : World) : Prop :=
  (∀ (i : Nat) (y : Int), i < j → ks[i]? = some y → y < x.r.key) ∧ Own iv 1 3 w.heap.size wi v ks ∧ Below w.heap.size w wi ∧ wi.heap[gx]? = some (.cells #[.int .i64 x.r.at_, .int .i64 x.r.key, .int .i64 x.r.val, .int .i64 x.n] 40)

set_option maxRecDepth 100000 in
set_option maxHeartbeats 8000000 in
theorem keysE_any (A : Option Addr) (n cap : Nat) (l : List It) (w : World) (hR : Rd It.vs 4 w 0 A n l) (hn : n ≤ 700) :
    Calls Tryz.prog 109 #[.slice A n cap] w fun e w' => ∃ A' q cap', e = .returned (.slice A' q cap') ∧ Rd iv 1 w' w.heap.size A' q (keysL l) ∧ Below w.heap.size w w' := by
  have HR := Lib.hid hR
  clear hR
  go_enter Tryz.func109, Tryz.ntmps109
  go_wp2_with fail
  go_loopw [3, 5, 6, 9] (fun v _ _ i wr => ∃ k : Nat, k ≤ n ∧ i = .int .i64 k ∧ KRel w l k v wr) (fun _ _ _ i _ => n - (intOf i).toNat)
  case atStart => exact ⟨0, by omega, rfl, [], by simp [IncrI], by simp, Nat.le_refl _, Own.nil _ _ _ _ _, Below.refl _ _⟩
  case round =>
    obtain ⟨k, hk, rfl, ks, hinc, hmem, hkl, hown, hBr⟩ := hrel
    obtain ⟨A3, cap3, rfl⟩ := hown.shape
    have hRk := HR.out.below hBr
    have HBr := Lib.hid hBr
    have HIN := Lib.hid hinc
    have HME := Lib.hid hmem
    have HOW := Lib.hid hown
    have hsz0 := hBr.size
    clear hBr hinc hmem hown
    by_cases hlt : k < n
    · obtain ⟨b, off, x, rfl, _, hx, c0, c1, c2, c3⟩ := hRk.it_at hlt
      have HX := Lib.hid hx
      clear hx hRk
      generalize hq : ks.length = q at *
      have HQ := Lib.hid hq
      clear hq
      go_wp2_with fail
      obtain ⟨wo, rfl⟩ : ∃ wo : World, wo = wr := ⟨_, rfl⟩
      go_loopw [6] (fun i wi => ∃ j : Nat, j ≤ q ∧ i = .int .i64 j ∧ KIn w wo.heap.size x (.slice A3 q cap3) ks j wi) (fun i _ => q - (intOf i).toNat)
      case atStart => exact ⟨0, by omega, rfl, fun i y hi => absurd hi (by omega), HOW.out.alloc _, HBr.out.alloc hsz0 _, new_block _ _ _⟩
      case round =>
        obtain ⟨j, hj, rfl, hall, hown, hB1, hgx⟩ := hrel
        obtain ⟨wi, rfl⟩ : ∃ wi : World, wi = wr := ⟨_, rfl⟩
        have HAL := Lib.hid hall
        have HO1 := Lib.hid hown
        have HB1 := Lib.hid hB1
        have HGX := Lib.hid hgx
        have hsz1 := hB1.size
        have hcp := hown.capOf
        have f1 := cell_at_block (off := 1) hgx rfl
        have hr1 := hown.rdOf iv_length
        rw [HQ.out] at hr1
        generalize wo.heap.size = gx at *
        have HRT := Lib.hid ((hr1.low (Nat.zero_le _)).takeA j hj)
        have HR1 := Lib.hid (hr1.low (Nat.zero_le _))
        clear hall hown hB1 hgx hr1
        have hi0 : (0 : Int) ≤ j := by omega
        have hi1 : (j : Int) ≤ q := by omega
        have hi2 : (j : Int) ≤ cap3 := by omega
        have hi3 : (j : Int).toNat = j := by omega
        by_cases hjq : j < q
        · obtain ⟨g, rfl⟩ : ∃ g, A3 = some ⟨g, 0, none⟩ := by
            rcases HO1.out.2 with ⟨_, e0⟩ | ⟨g, cap, cur, e, _⟩
            · have := HQ.out; omega
            · cases e; exact ⟨g, rfl⟩
          obtain ⟨_, _, y, e9, _, hy, d0⟩ := HR1.out.int_at hjq
          cases e9
          rw [Nat.zero_add] at d0
          have HY := Lib.hid hy
          have hi4 : (j : Int) < q := by omega
          have hcn : cap3 ≠ j := by omega
          have hjeq : ((j : Int) == (q : Int)) = false := by simp; omega
          clear hy
          by_cases hyk : y < x.r.key
          · have hd : decide (y < x.r.key) = true := by simpa using hyk
            have HYK := Lib.hid hyk
            clear hyk
            go_wp2_with fail
            go_quiet (fail)
            go_wp2_with fail
            refine ⟨⟨j + 1, by omega, by go_num, fun i u hi hu => ?_, HO1.out, below_drewN HB1.out _, HGX.out⟩, by simp [intOf]; omega⟩
            rcases Nat.lt_or_ge i j with h | h
            · exact HAL.out i u h hu
            · have : i = j := by omega
              subst this
              rw [HY.out] at hu
              cases hu
              exact HYK.out
          · have hd : decide (y < x.r.key) = false := by simpa using hyk
            by_cases he : y = x.r.key
            · have hne : (y != x.r.key) = false := by simp [he]
              have HE := Lib.hid he
              clear hyk he
              go_wp2_with fail
              go_quiet (fail)
              go_wp2_with fail
              go_quiet (fail)
              go_wp2_with fail
              refine ⟨⟨k + 1, by omega, by go_num, ks, HIN.out, fun z => ?_, by have := HQ.out; omega, HO1.out, below_drewN HB1.out _⟩, by simp [intOf]; omega⟩
              rw [HME.out, keys_take HX.out]
              constructor
              · exact .inr
              · rintro (h | h)
                · rw [h, ← HE.out, ← HME.out]
                  exact List.mem_of_getElem? HY.out
                · exact h
            · have hne : (y != x.r.key) = true := by simpa using he
              have HGT := Lib.hid (drop_gt HIN.out HY.out (show x.r.key < y by omega))
              have HRD := Lib.hid (HR1.out.dropA (o' := j) j hj (fun _ => by omega))
              clear hyk he
              go_wp2_with fail
              go_quiet (fail)
              go_wp2_with fail
              go_quiet (fail)
              go_wp2_with fail
              refine start_ (n := 14) (S := fun w' => w'.cell? ⟨gx, 1, none⟩ = some (.int .i64 x.r.key)) (ds := []) #[false, false, false, false, false, false, false, false, false, false, false, false, false, false] (by kernel_rfl) rfl rfl f1 (fun hHeld => ?_)
              refine pure_ (i := 0) (N := (some 43)) (v := ?_) (a' := ?_) #[true, false, false, false, false, false, false, false, false, false, false, false, false, false] rfl rfl (by kernel_rfl) (fun _ _ _ h => h) (Or.inl ⟨by rfl, ?_⟩) ?_ ?_
              rotate_left
              · intro w'
                go_simp
                with_reducible rfl
              rotate_left
              · simp only [Act.put, List.setIfInBounds_toArray, List.set_cons_zero, List.set_cons_succ]
                rfl
              refine pure_ (i := 1) (N := (some 44)) (v := ?_) (a' := ?_) #[true, true, false, false, false, false, false, false, false, false, false, false, false, false] rfl rfl (by kernel_rfl) (fun _ _ _ h => h) (Or.inl ⟨by rfl, ?_⟩) ?_ ?_
              rotate_left
              · intro w'
                go_simp
                with_reducible rfl
              rotate_left
              · simp only [Act.put, List.setIfInBounds_toArray, List.set_cons_zero, List.set_cons_succ]
                rfl
              refine pure_ (i := 2) (N := (some 45)) (v := ?_) (a' := ?_) #[true, true, true, false, false, false, false, false, false, false, false, false, false, false] rfl rfl (by kernel_rfl) (fun _ _ _ h => h) (Or.inl ⟨by rfl, ?_⟩) ?_ ?_
              rotate_left
              · intro w'
                go_simp
                with_reducible rfl
              rotate_left
              · simp only [Act.put, List.setIfInBounds_toArray, List.set_cons_zero, List.set_cons_succ]
                rfl
              refine pure_ (i := 4) (N := (some 47)) (v := ?_) (a' := ?_) #[true, true, true, false, true, false, false, false, false, false, false, false, false, false] rfl rfl (by kernel_rfl) (fun _ _ _ h => h) (Or.inl ⟨by rfl, ?_⟩) ?_ ?_
              rotate_left
              · intro w'
                go_simp
                with_reducible rfl
              rotate_left
              · simp only [Act.put, List.setIfInBounds_toArray, List.set_cons_zero, List.set_cons_succ]
                rfl
              refine pure_ (i := 5) (N := (some 48)) (v := ?_) (a' := ?_) #[true, true, true, false, true, true, false, false, false, false, false, false, false, false] rfl rfl (by kernel_rfl) (fun _ _ _ h => h) (Or.inl ⟨by rfl, ?_⟩) ?_ ?_
              rotate_left
              · intro w'
                go_simp
                with_reducible rfl
              rotate_left
              · simp only [Act.put, List.setIfInBounds_toArray, List.set_cons_zero, List.set_cons_succ]
                rfl
              refine take_ (i := 6) (N := (some 49)) (v := ?_) (a' := ?_) #[true, true, true, false, true, true, true, false, false, false, false, false, false, false] rfl rfl (by kernel_rfl) (fun _ _ _ h => h) (Or.inl ⟨by rfl, ?_⟩) hHeld ?_ ?_
              rotate_left
              · rintro w' s0
                go_simp
                with_reducible rfl
              rotate_left
              · simp only [Act.put, List.setIfInBounds_toArray, List.set_cons_zero, List.set_cons_succ]
                rfl
              refine pure_ (i := 9) (N := (some 52)) (v := ?_) (a' := ?_) #[true, true, true, false, true, true, true, false, false, true, false, false, false, false] rfl rfl (by kernel_rfl) (fun _ _ _ h => h) (Or.inl ⟨by rfl, ?_⟩) ?_ ?_
              rotate_left
              · intro w'
                go_simp
                with_reducible rfl
              rotate_left
              · simp only [Act.put, List.setIfInBounds_toArray, List.set_cons_zero, List.set_cons_succ]
                rfl
              refine pure_ (i := 10) (N := (some 53)) (v := ?_) (a' := ?_) #[true, true, true, false, true, true, true, false, false, true, true, false, false, false] rfl rfl (by kernel_rfl) (fun _ _ _ h => h) (Or.inl ⟨by rfl, ?_⟩) ?_ ?_
              rotate_left
              · intro w'
                go_simp
                with_reducible rfl
              rotate_left
              · simp only [Act.put, List.setIfInBounds_toArray, List.set_cons_zero, List.set_cons_succ]
                rfl
              refine pure_ (i := 11) (N := (some 54)) (v := ?_) (a' := ?_) #[true, true, true, false, true, true, true, false, false, true, true, true, false, false] rfl rfl (by kernel_rfl) (fun _ _ _ h => h) (Or.inl ⟨by rfl, ?_⟩) ?_ ?_
              rotate_left
              · intro w'
                go_simp
                with_reducible rfl
              rotate_left
              · simp only [Act.put, List.setIfInBounds_toArray, List.set_cons_zero, List.set_cons_succ]
                rfl
              refine join_ (σ := Value × Nat) 3 #[true, true, true, true, true, true, true, true, false, true, true, true, false, false] (fun s_ => [(46, s_.1), (50, .slice (some ⟨s_.2, 0, none⟩) 1 1)]) (fun s_ w' => Own iv 1 3 wi.heap.size w' s_.1 (ks.take j) ∧ w'.heap[s_.2]? = some (.cells #[.int .i64 x.r.key] 3) ∧ wi.grownBy w' none ∧ s_.1.ownBlock ≠ some s_.2 ∧ w'.cell? ⟨gx, 1, none⟩ = some (.int .i64 x.r.key)) ?_ ?_
              rotate_left
              · intro hCont
                refine two_ (i := 3) (j := 7) (Ni := (some 46)) (Nj := (some 50)) #[true, true, true, true, true, true, true, false, false, true, true, true, false, false] #[true, true, true, false, true, true, true, true, false, true, true, true, false, false] rfl rfl rfl rfl (by kernel_rfl) (by decide) (by decide) (fun K hK => ?_) (fun K hK => ?_)
                · refine step_appRd iv 1 iv_length (by decide) iv_one 3 3 _ 8 infoInt rfl rfl rfl _ _ _ _ rfl Tryz.underlying52 Tryz.underlying52 wi.heap.size (.slice none 0 0) [] rfl (Own.nil _ _ _ _ _) 0 j cap3 (some ⟨g, 0, none⟩) (ks.take j) rfl HRT.out (by simp <;> omega) (by unfold maxLen; simp <;> omega) (Nat.le_refl _) (fun v1 w1 hown1 hg1 hl1 => ?_)
                  rw [List.nil_append] at hown1
                  have hgw : wi.grownBy w1 none := ⟨hg1.os, hg1.tape, hg1.output, hg1.size, hg1.block⟩
                  have hS1 := grown_cell hgw f1
                  refine hK.out _ _ hS1 (fun hHeld => ?_)
                  clear hK K
                  refine norm_ (a' := ?_) ?_ ?_
                  rotate_left
                  · show Act.put _ (some 46) _ = _
                    simp only [Act.put, List.setIfInBounds_toArray, List.set_cons_zero, List.set_cons_succ]
                    rfl
                  refine one_ (i := 7) (N := (some 50)) #[true, true, true, true, true, true, true, true, false, true, true, true, false, false] rfl rfl (by kernel_rfl) (by decide) (fun K hK => ?_)
                  refine value_ (w1 := ?_) (v := ?_) (by rfl) rfl ?_ ?_
                  rotate_left 2
                  · go_simp
                    constructor
                    · rfl
                    · rfl
                  refine hK.out _ _ (keep_cell (Below.refl _ _) hS1) (fun hHeld => ?_)
                  clear hK K
                  refine norm_ (a' := ?_) ?_ ?_
                  rotate_left
                  · show Act.put _ (some 50) _ = _
                    simp only [Act.put, List.setIfInBounds_toArray, List.set_cons_zero, List.set_cons_succ]
                    rfl
                  exact norm_ (by simp only [putAll, Act.put, List.setIfInBounds_toArray, List.set_cons_zero, List.set_cons_succ]) (hCont (v1, w1.heap.size) _ ⟨hown1.alloc _, new_block w1 _ _, grownBy_none_then hgw (alloc_none _ _), fun e => by have := (hown1.blk _ e).2; omega, keep_cell (Below.refl _ _) hS1⟩)
                · refine value_ (w1 := ?_) (v := ?_) (by rfl) rfl ?_ ?_
                  rotate_left 2
                  · go_simp
                    constructor
                    · rfl
                    · rfl
                  refine hK.out _ _ (keep_cell (Below.refl _ _) f1) (fun hHeld => ?_)
                  clear hK K
                  refine norm_ (a' := ?_) ?_ ?_
                  rotate_left
                  · show Act.put _ (some 50) _ = _
                    simp only [Act.put, List.setIfInBounds_toArray, List.set_cons_zero, List.set_cons_succ]
                    rfl
                  refine one_ (i := 3) (N := (some 46)) #[true, true, true, true, true, true, true, true, false, true, true, true, false, false] rfl rfl (by kernel_rfl) (by decide) (fun K hK => ?_)
                  refine step_appRd iv 1 iv_length (by decide) iv_one 3 3 _ 8 infoInt rfl rfl rfl _ _ _ _ rfl Tryz.underlying52 Tryz.underlying52 wi.heap.size (.slice none 0 0) [] rfl (Own.nil _ _ _ _ _) 0 j cap3 (some ⟨g, 0, none⟩) (ks.take j) rfl (HRT.out.below (below_new_drewN _ _ _)) (by simp <;> omega) (by unfold maxLen; simp <;> omega) (by simp) (fun v1 w1 hown1 hg1 hl1 => ?_)
                  rw [List.nil_append] at hown1
                  have hgw : (wi.alloc (.cells #[.int .i64 x.r.key] 3)).grownBy w1 none := ⟨hg1.os, hg1.tape, hg1.output, hg1.size, hg1.block⟩
                  have hS1 := grown_cell hgw (keep_cell (Below.refl _ _) f1)
                  refine hK.out _ _ hS1 (fun hHeld => ?_)
                  clear hK K
                  refine norm_ (a' := ?_) ?_ ?_
                  rotate_left
                  · show Act.put _ (some 46) _ = _
                    simp only [Act.put, List.setIfInBounds_toArray, List.set_cons_zero, List.set_cons_succ]
                    rfl
                  exact norm_ (by simp only [putAll, Act.put, List.setIfInBounds_toArray, List.set_cons_zero, List.set_cons_succ]) (hCont (v1, wi.heap.size) _ ⟨hown1, (hgw.block wi.heap.size (by simp) (by simp)).trans (new_block wi _ _), grownBy_none_then (alloc_none _ _) hgw, fun e => (by rcases hl1 with h | h; exact absurd (h.symm.trans e) (by simp [Value.ownBlock]); have := Option.some.inj (h.symm.trans e); simp at this), hS1⟩)
              rintro ⟨v46, g50⟩ w5 ⟨hO, hG, hgr, hne, hS5⟩
              have hB5 : Below wi.heap.size wi w5 := below_of_none hgr
              have hHeld := hS5
              dsimp only at hO hG hne hS5
              refine norm_ (a' := ?_) ?_ ?_
              rotate_left
              · simp only [putAll, Act.put, List.setIfInBounds_toArray, List.set_cons_zero, List.set_cons_succ]
                rfl
              refine one_ (i := 8) (N := (some 51)) #[true, true, true, true, true, true, true, true, true, true, true, true, false, false] rfl rfl (by kernel_rfl) (by decide) (fun K hK => ?_)
              refine step_appRd iv 1 iv_length (by decide) iv_one 3 3 _ 8 infoInt rfl rfl rfl _ _ _ _ rfl Tryz.underlying52 Tryz.underlying52 wi.heap.size v46 (ks.take j) rfl hO 0 1 1 (some ⟨g50, 0, none⟩) [x.r.key] rfl (rd_one x.r.key hG) (by rw [List.length_take]; omega) (by rw [List.length_take]; unfold maxLen; omega) hgr.size (fun v6 w6 hown6 hg6 _ => ?_)
              have hB6 : Below wi.heap.size wi w6 := hB5.grown hg6 hB5.size (fun g e => (hO.blk g e).1)
              refine hK.out _ _ (hB6.cell (World.block_lt_of_cell? wi _ f1) |>.trans f1) (fun hHeld => ?_)
              clear hK K
              refine norm_ (a' := ?_) ?_ ?_
              rotate_left
              · show Act.put _ (some 51) _ = _
                simp only [Act.put, List.setIfInBounds_toArray, List.set_cons_zero, List.set_cons_succ]
                rfl
              refine one_ (i := 12) (N := (some 55)) #[true, true, true, true, true, true, true, true, true, true, true, true, true, false] rfl rfl (by kernel_rfl) (by decide) (fun K hK => ?_)
              refine step_appRd iv 1 iv_length (by decide) iv_one 3 3 _ 8 infoInt rfl rfl rfl _ _ _ _ rfl Tryz.underlying52 Tryz.underlying52 wi.heap.size v6 (ks.take j ++ [x.r.key]) rfl hown6 0 (q - j) (cap3 - j) (some ⟨g, j, none⟩) (ks.drop j) rfl (HRD.out.below hB6) (by simp <;> omega) (by unfold maxLen; simp <;> omega) hB6.size (fun v7 w7 hown7 hg7 _ => ?_)
              have hB7 : Below wi.heap.size wi w7 := hB6.grown hg7 hB6.size (fun g e => (hown6.blk g e).1)
              refine hK.out _ _ (hB7.cell (World.block_lt_of_cell? wi _ f1) |>.trans f1) (fun hHeld => ?_)
              clear hK K
              refine norm_ (a' := ?_) ?_ ?_
              rotate_left
              · show Act.put _ (some 55) _ = _
                simp only [Act.put, List.setIfInBounds_toArray, List.set_cons_zero, List.set_cons_succ]
                rfl
              refine pure_ (i := 13) (N := (some 3)) (v := ?_) (a' := ?_) #[true, true, true, true, true, true, true, true, true, true, true, true, true, true] rfl rfl (by kernel_rfl) (fun _ _ _ h => h) (Or.inl ⟨by rfl, ?_⟩) ?_ ?_
              rotate_left
              · intro w'
                go_simp
                with_reducible rfl
              rotate_left
              · simp only [Act.put, List.setIfInBounds_toArray, List.set_cons_zero, List.set_cons_succ]
                rfl
              refine done_ (by kernel_rfl) ?_
              have HO7 := Lib.hid (hown7.low hsz1)
              have HB7 := Lib.hid (HB1.out.trans (hB7.mono hsz1))
              clear hown7 hB7 hg7 hown6 hg6 hB6 hO hG hgr hne hS5 hB5 hHeld f1
              go_wp2_with fail
              refine ⟨⟨k + 1, by omega, by go_num, _, ins_incr HIN.out HAL.out HGT.out, fun z => ?_, ?_, HO7.out, HB7.out⟩, by simp [intOf]; omega⟩
              · rw [ins_mem, keys_take HX.out, HME.out]
              · have := HQ.out
                simp
                omega
        · have hjq' : j = q := by omega
          subst hjq'
          have HGT : Hid (∀ y ∈ ks.drop j, x.r.key < y) := by
            intro y hy
            rw [List.drop_of_length_le (by rw [HQ.out]; exact Nat.le_refl _)] at hy
            cases hy
          clear hjq
          cases A3 with
          | none =>
            have hj0 : j = 0 := by
              rcases HO1.out.2 with ⟨_, e0⟩ | ⟨g, cap, cur, e, _⟩
              · have := HQ.out; omega
              · cases e
            subst hj0
            have hc0 : cap3 = 0 := by
              rcases HO1.out.2 with ⟨e, e0⟩ | ⟨g, cap, cur, e, _⟩
              · cases e; rfl
              · cases e
            subst hc0
            have hRD : (Rd iv 1 wi 0 none 0 (ks.drop 0)) := by
              have h := HR1.out
              simpa using h
            have HRD := Lib.hid hRD
            clear hRD
            go_wp2_with fail
            go_quiet (fail)
            go_wp2_with fail
            go_quiet (fail)
            go_wp2_with fail
            refine start_ (n := 14) (S := fun w' => w'.cell? ⟨gx, 1, none⟩ = some (.int .i64 x.r.key)) (ds := []) #[false, false, false, false, false, false, false, false, false, false, false, false, false, false] (by kernel_rfl) rfl rfl f1 (fun hHeld => ?_)
            refine pure_ (i := 0) (N := (some 43)) (v := ?_) (a' := ?_) #[true, false, false, false, false, false, false, false, false, false, false, false, false, false] rfl rfl (by kernel_rfl) (fun _ _ _ h => h) (Or.inl ⟨by rfl, ?_⟩) ?_ ?_
            rotate_left
            · intro w'
              go_simp
              with_reducible rfl
            rotate_left
            · simp only [Act.put, List.setIfInBounds_toArray, List.set_cons_zero, List.set_cons_succ]
              rfl
            refine pure_ (i := 1) (N := (some 44)) (v := ?_) (a' := ?_) #[true, true, false, false, false, false, false, false, false, false, false, false, false, false] rfl rfl (by kernel_rfl) (fun _ _ _ h => h) (Or.inl ⟨by rfl, ?_⟩) ?_ ?_
            rotate_left
            · intro w'
              go_simp
              with_reducible rfl
            rotate_left
            · simp only [Act.put, List.setIfInBounds_toArray, List.set_cons_zero, List.set_cons_succ]
              rfl
            refine pure_ (i := 2) (N := (some 45)) (v := ?_) (a' := ?_) #[true, true, true, false, false, false, false, false, false, false, false, false, false, false] rfl rfl (by kernel_rfl) (fun _ _ _ h => h) (Or.inl ⟨by rfl, ?_⟩) ?_ ?_
            rotate_left
            · intro w'
              go_simp
              with_reducible rfl
            rotate_left
            · simp only [Act.put, List.setIfInBounds_toArray, List.set_cons_zero, List.set_cons_succ]
              rfl
            refine pure_ (i := 4) (N := (some 47)) (v := ?_) (a' := ?_) #[true, true, true, false, true, false, false, false, false, false, false, false, false, false] rfl rfl (by kernel_rfl) (fun _ _ _ h => h) (Or.inl ⟨by rfl, ?_⟩) ?_ ?_
            rotate_left
            · intro w'
              go_simp
              with_reducible rfl
            rotate_left
            · simp only [Act.put, List.setIfInBounds_toArray, List.set_cons_zero, List.set_cons_succ]
              rfl
            refine pure_ (i := 5) (N := (some 48)) (v := ?_) (a' := ?_) #[true, true, true, false, true, true, false, false, false, false, false, false, false, false] rfl rfl (by kernel_rfl) (fun _ _ _ h => h) (Or.inl ⟨by rfl, ?_⟩) ?_ ?_
            rotate_left
            · intro w'
              go_simp
              with_reducible rfl
            rotate_left
            · simp only [Act.put, List.setIfInBounds_toArray, List.set_cons_zero, List.set_cons_succ]
              rfl
            refine take_ (i := 6) (N := (some 49)) (v := ?_) (a' := ?_) #[true, true, true, false, true, true, true, false, false, false, false, false, false, false] rfl rfl (by kernel_rfl) (fun _ _ _ h => h) (Or.inl ⟨by rfl, ?_⟩) hHeld ?_ ?_
            rotate_left
            · rintro w' s0
              go_simp
              with_reducible rfl
            rotate_left
            · simp only [Act.put, List.setIfInBounds_toArray, List.set_cons_zero, List.set_cons_succ]
              rfl
            refine pure_ (i := 9) (N := (some 52)) (v := ?_) (a' := ?_) #[true, true, true, false, true, true, true, false, false, true, false, false, false, false] rfl rfl (by kernel_rfl) (fun _ _ _ h => h) (Or.inl ⟨by rfl, ?_⟩) ?_ ?_
            rotate_left
            · intro w'
              go_simp
              with_reducible rfl
            rotate_left
            · simp only [Act.put, List.setIfInBounds_toArray, List.set_cons_zero, List.set_cons_succ]
              rfl
            refine pure_ (i := 10) (N := (some 53)) (v := ?_) (a' := ?_) #[true, true, true, false, true, true, true, false, false, true, true, false, false, false] rfl rfl (by kernel_rfl) (fun _ _ _ h => h) (Or.inl ⟨by rfl, ?_⟩) ?_ ?_
            rotate_left
            · intro w'
              go_simp
              with_reducible rfl
            rotate_left
            · simp only [Act.put, List.setIfInBounds_toArray, List.set_cons_zero, List.set_cons_succ]
              rfl
            refine pure_ (i := 11) (N := (some 54)) (v := ?_) (a' := ?_) #[true, true, true, false, true, true, true, false, false, true, true, true, false, false] rfl rfl (by kernel_rfl) (fun _ _ _ h => h) (Or.inl ⟨by rfl, ?_⟩) ?_ ?_
            rotate_left
            · intro w'
              go_simp
              with_reducible rfl
            rotate_left
            · simp only [Act.put, List.setIfInBounds_toArray, List.set_cons_zero, List.set_cons_succ]
              rfl
            refine join_ (σ := Value × Nat) 3 #[true, true, true, true, true, true, true, true, false, true, true, true, false, false] (fun s_ => [(46, s_.1), (50, .slice (some ⟨s_.2, 0, none⟩) 1 1)]) (fun s_ w' => Own iv 1 3 wi.heap.size w' s_.1 (ks.take 0) ∧ w'.heap[s_.2]? = some (.cells #[.int .i64 x.r.key] 3) ∧ wi.grownBy w' none ∧ s_.1.ownBlock ≠ some s_.2 ∧ w'.cell? ⟨gx, 1, none⟩ = some (.int .i64 x.r.key)) ?_ ?_
            rotate_left
            · intro hCont
              refine two_ (i := 3) (j := 7) (Ni := (some 46)) (Nj := (some 50)) #[true, true, true, true, true, true, true, false, false, true, true, true, false, false] #[true, true, true, false, true, true, true, true, false, true, true, true, false, false] rfl rfl rfl rfl (by kernel_rfl) (by decide) (by decide) (fun K hK => ?_) (fun K hK => ?_)
              · refine step_appRd iv 1 iv_length (by decide) iv_one 3 3 _ 8 infoInt rfl rfl rfl _ _ _ _ rfl Tryz.underlying52 Tryz.underlying52 wi.heap.size (.slice none 0 0) [] rfl (Own.nil _ _ _ _ _) 0 0 0 (none) (ks.take 0) rfl HRT.out (by simp <;> omega) (by unfold maxLen; simp <;> omega) (Nat.le_refl _) (fun v1 w1 hown1 hg1 hl1 => ?_)
                rw [List.nil_append] at hown1
                have hgw : wi.grownBy w1 none := ⟨hg1.os, hg1.tape, hg1.output, hg1.size, hg1.block⟩
                have hS1 := grown_cell hgw f1
                refine hK.out _ _ hS1 (fun hHeld => ?_)
                clear hK K
                refine norm_ (a' := ?_) ?_ ?_
                rotate_left
                · show Act.put _ (some 46) _ = _
                  simp only [Act.put, List.setIfInBounds_toArray, List.set_cons_zero, List.set_cons_succ]
                  rfl
                refine one_ (i := 7) (N := (some 50)) #[true, true, true, true, true, true, true, true, false, true, true, true, false, false] rfl rfl (by kernel_rfl) (by decide) (fun K hK => ?_)
                refine value_ (w1 := ?_) (v := ?_) (by rfl) rfl ?_ ?_
                rotate_left 2
                · go_simp
                  constructor
                  · rfl
                  · rfl
                refine hK.out _ _ (keep_cell (Below.refl _ _) hS1) (fun hHeld => ?_)
                clear hK K
                refine norm_ (a' := ?_) ?_ ?_
                rotate_left
                · show Act.put _ (some 50) _ = _
                  simp only [Act.put, List.setIfInBounds_toArray, List.set_cons_zero, List.set_cons_succ]
                  rfl
                exact norm_ (by simp only [putAll, Act.put, List.setIfInBounds_toArray, List.set_cons_zero, List.set_cons_succ]) (hCont (v1, w1.heap.size) _ ⟨hown1.alloc _, new_block w1 _ _, grownBy_none_then hgw (alloc_none _ _), fun e => by have := (hown1.blk _ e).2; omega, keep_cell (Below.refl _ _) hS1⟩)
              · refine value_ (w1 := ?_) (v := ?_) (by rfl) rfl ?_ ?_
                rotate_left 2
                · go_simp
                  constructor
                  · rfl
                  · rfl
                refine hK.out _ _ (keep_cell (Below.refl _ _) f1) (fun hHeld => ?_)
                clear hK K
                refine norm_ (a' := ?_) ?_ ?_
                rotate_left
                · show Act.put _ (some 50) _ = _
                  simp only [Act.put, List.setIfInBounds_toArray, List.set_cons_zero, List.set_cons_succ]
                  rfl
                refine one_ (i := 3) (N := (some 46)) #[true, true, true, true, true, true, true, true, false, true, true, true, false, false] rfl rfl (by kernel_rfl) (by decide) (fun K hK => ?_)
                refine step_appRd iv 1 iv_length (by decide) iv_one 3 3 _ 8 infoInt rfl rfl rfl _ _ _ _ rfl Tryz.underlying52 Tryz.underlying52 wi.heap.size (.slice none 0 0) [] rfl (Own.nil _ _ _ _ _) 0 0 0 (none) (ks.take 0) rfl (HRT.out.below (below_new_drewN _ _ _)) (by simp <;> omega) (by unfold maxLen; simp <;> omega) (by simp) (fun v1 w1 hown1 hg1 hl1 => ?_)
                rw [List.nil_append] at hown1
                have hgw : (wi.alloc (.cells #[.int .i64 x.r.key] 3)).grownBy w1 none := ⟨hg1.os, hg1.tape, hg1.output, hg1.size, hg1.block⟩
                have hS1 := grown_cell hgw (keep_cell (Below.refl _ _) f1)
                refine hK.out _ _ hS1 (fun hHeld => ?_)
                clear hK K
                refine norm_ (a' := ?_) ?_ ?_
                rotate_left
                · show Act.put _ (some 46) _ = _
                  simp only [Act.put, List.setIfInBounds_toArray, List.set_cons_zero, List.set_cons_succ]
                  rfl
                exact norm_ (by simp only [putAll, Act.put, List.setIfInBounds_toArray, List.set_cons_zero, List.set_cons_succ]) (hCont (v1, wi.heap.size) _ ⟨hown1, (hgw.block wi.heap.size (by simp) (by simp)).trans (new_block wi _ _), grownBy_none_then (alloc_none _ _) hgw, fun e => (by rcases hl1 with h | h; exact absurd (h.symm.trans e) (by simp [Value.ownBlock]); have := Option.some.inj (h.symm.trans e); simp at this), hS1⟩)
            rintro ⟨v46, g50⟩ w5 ⟨hO, hG, hgr, hne, hS5⟩
            have hB5 : Below wi.heap.size wi w5 := below_of_none hgr
            have hHeld := hS5
            dsimp only at hO hG hne hS5
            refine norm_ (a' := ?_) ?_ ?_
            rotate_left
            · simp only [putAll, Act.put, List.setIfInBounds_toArray, List.set_cons_zero, List.set_cons_succ]
              rfl
            refine one_ (i := 8) (N := (some 51)) #[true, true, true, true, true, true, true, true, true, true, true, true, false, false] rfl rfl (by kernel_rfl) (by decide) (fun K hK => ?_)
            refine step_appRd iv 1 iv_length (by decide) iv_one 3 3 _ 8 infoInt rfl rfl rfl _ _ _ _ rfl Tryz.underlying52 Tryz.underlying52 wi.heap.size v46 (ks.take 0) rfl hO 0 1 1 (some ⟨g50, 0, none⟩) [x.r.key] rfl (rd_one x.r.key hG) (by rw [List.length_take]; omega) (by rw [List.length_take]; unfold maxLen; omega) hgr.size (fun v6 w6 hown6 hg6 _ => ?_)
            have hB6 : Below wi.heap.size wi w6 := hB5.grown hg6 hB5.size (fun g e => (hO.blk g e).1)
            refine hK.out _ _ (hB6.cell (World.block_lt_of_cell? wi _ f1) |>.trans f1) (fun hHeld => ?_)
            clear hK K
            refine norm_ (a' := ?_) ?_ ?_
            rotate_left
            · show Act.put _ (some 51) _ = _
              simp only [Act.put, List.setIfInBounds_toArray, List.set_cons_zero, List.set_cons_succ]
              rfl
            refine one_ (i := 12) (N := (some 55)) #[true, true, true, true, true, true, true, true, true, true, true, true, true, false] rfl rfl (by kernel_rfl) (by decide) (fun K hK => ?_)
            refine step_appRd iv 1 iv_length (by decide) iv_one 3 3 _ 8 infoInt rfl rfl rfl _ _ _ _ rfl Tryz.underlying52 Tryz.underlying52 wi.heap.size v6 (ks.take 0 ++ [x.r.key]) rfl hown6 0 0 0 (none) (ks.drop 0) rfl (HRD.out.below hB6) (by simp <;> omega) (by unfold maxLen; simp <;> omega) hB6.size (fun v7 w7 hown7 hg7 _ => ?_)
            have hB7 : Below wi.heap.size wi w7 := hB6.grown hg7 hB6.size (fun g e => (hown6.blk g e).1)
            refine hK.out _ _ (hB7.cell (World.block_lt_of_cell? wi _ f1) |>.trans f1) (fun hHeld => ?_)
            clear hK K
            refine norm_ (a' := ?_) ?_ ?_
            rotate_left
            · show Act.put _ (some 55) _ = _
              simp only [Act.put, List.setIfInBounds_toArray, List.set_cons_zero, List.set_cons_succ]
              rfl
            refine pure_ (i := 13) (N := (some 3)) (v := ?_) (a' := ?_) #[true, true, true, true, true, true, true, true, true, true, true, true, true, true] rfl rfl (by kernel_rfl) (fun _ _ _ h => h) (Or.inl ⟨by rfl, ?_⟩) ?_ ?_
            rotate_left
            · intro w'
              go_simp
              with_reducible rfl
            rotate_left
            · simp only [Act.put, List.setIfInBounds_toArray, List.set_cons_zero, List.set_cons_succ]
              rfl
            refine done_ (by kernel_rfl) ?_
            have HO7 := Lib.hid (hown7.low hsz1)
            have HB7 := Lib.hid (HB1.out.trans (hB7.mono hsz1))
            clear hown7 hB7 hg7 hown6 hg6 hB6 hO hG hgr hne hS5 hB5 hHeld f1
            go_wp2_with fail
            refine ⟨⟨k + 1, by omega, by go_num, _, ins_incr HIN.out HAL.out HGT.out, fun z => ?_, ?_, HO7.out, HB7.out⟩, by simp [intOf]; omega⟩
            · rw [ins_mem, keys_take HX.out, HME.out]
            · have := HQ.out
              simp
              omega
          | some ad =>
            obtain ⟨g, rfl⟩ : ∃ g, ad = ⟨g, 0, none⟩ := by
              rcases HO1.out.2 with ⟨e, _⟩ | ⟨g, cap, cur, e, _⟩
              · cases e
              · cases e; exact ⟨g, rfl⟩
            by_cases hcn : cap3 = j
            · subst hcn
              have hRD : (Rd iv 1 wi 0 (some ⟨g, 0, none⟩) 0 (ks.drop cap3)) := by
                have h := HR1.out.dropA (o' := 0) cap3 (Nat.le_refl _) (fun h => absurd h (by omega))
                simpa using h
              have HRD := Lib.hid hRD
              clear hRD
              go_wp2_with fail
              go_quiet (fail)
              go_wp2_with fail
              go_quiet (fail)
              go_wp2_with fail
              refine start_ (n := 14) (S := fun w' => w'.cell? ⟨gx, 1, none⟩ = some (.int .i64 x.r.key)) (ds := []) #[false, false, false, false, false, false, false, false, false, false, false, false, false, false] (by kernel_rfl) rfl rfl f1 (fun hHeld => ?_)
              refine pure_ (i := 0) (N := (some 43)) (v := ?_) (a' := ?_) #[true, false, false, false, false, false, false, false, false, false, false, false, false, false] rfl rfl (by kernel_rfl) (fun _ _ _ h => h) (Or.inl ⟨by rfl, ?_⟩) ?_ ?_
              rotate_left
              · intro w'
                go_simp
                with_reducible rfl
              rotate_left
              · simp only [Act.put, List.setIfInBounds_toArray, List.set_cons_zero, List.set_cons_succ]
                rfl
              refine pure_ (i := 1) (N := (some 44)) (v := ?_) (a' := ?_) #[true, true, false, false, false, false, false, false, false, false, false, false, false, false] rfl rfl (by kernel_rfl) (fun _ _ _ h => h) (Or.inl ⟨by rfl, ?_⟩) ?_ ?_
              rotate_left
              · intro w'
                go_simp
                with_reducible rfl
              rotate_left
              · simp only [Act.put, List.setIfInBounds_toArray, List.set_cons_zero, List.set_cons_succ]
                rfl
              refine pure_ (i := 2) (N := (some 45)) (v := ?_) (a' := ?_) #[true, true, true, false, false, false, false, false, false, false, false, false, false, false] rfl rfl (by kernel_rfl) (fun _ _ _ h => h) (Or.inl ⟨by rfl, ?_⟩) ?_ ?_
              rotate_left
              · intro w'
                go_simp
                with_reducible rfl
              rotate_left
              · simp only [Act.put, List.setIfInBounds_toArray, List.set_cons_zero, List.set_cons_succ]
                rfl
              refine pure_ (i := 4) (N := (some 47)) (v := ?_) (a' := ?_) #[true, true, true, false, true, false, false, false, false, false, false, false, false, false] rfl rfl (by kernel_rfl) (fun _ _ _ h => h) (Or.inl ⟨by rfl, ?_⟩) ?_ ?_
              rotate_left
              · intro w'
                go_simp
                with_reducible rfl
              rotate_left
              · simp only [Act.put, List.setIfInBounds_toArray, List.set_cons_zero, List.set_cons_succ]
                rfl
              refine pure_ (i := 5) (N := (some 48)) (v := ?_) (a' := ?_) #[true, true, true, false, true, true, false, false, false, false, false, false, false, false] rfl rfl (by kernel_rfl) (fun _ _ _ h => h) (Or.inl ⟨by rfl, ?_⟩) ?_ ?_
              rotate_left
              · intro w'
                go_simp
                with_reducible rfl
              rotate_left
              · simp only [Act.put, List.setIfInBounds_toArray, List.set_cons_zero, List.set_cons_succ]
                rfl
              refine take_ (i := 6) (N := (some 49)) (v := ?_) (a' := ?_) #[true, true, true, false, true, true, true, false, false, false, false, false, false, false] rfl rfl (by kernel_rfl) (fun _ _ _ h => h) (Or.inl ⟨by rfl, ?_⟩) hHeld ?_ ?_
              rotate_left
              · rintro w' s0
                go_simp
                with_reducible rfl
              rotate_left
              · simp only [Act.put, List.setIfInBounds_toArray, List.set_cons_zero, List.set_cons_succ]
                rfl
              refine pure_ (i := 9) (N := (some 52)) (v := ?_) (a' := ?_) #[true, true, true, false, true, true, true, false, false, true, false, false, false, false] rfl rfl (by kernel_rfl) (fun _ _ _ h => h) (Or.inl ⟨by rfl, ?_⟩) ?_ ?_
              rotate_left
              · intro w'
                go_simp
                with_reducible rfl
              rotate_left
              · simp only [Act.put, List.setIfInBounds_toArray, List.set_cons_zero, List.set_cons_succ]
                rfl
              refine pure_ (i := 10) (N := (some 53)) (v := ?_) (a' := ?_) #[true, true, true, false, true, true, true, false, false, true, true, false, false, false] rfl rfl (by kernel_rfl) (fun _ _ _ h => h) (Or.inl ⟨by rfl, ?_⟩) ?_ ?_
              rotate_left
              · intro w'
                go_simp
                with_reducible rfl
              rotate_left
              · simp only [Act.put, List.setIfInBounds_toArray, List.set_cons_zero, List.set_cons_succ]
                rfl
              refine pure_ (i := 11) (N := (some 54)) (v := ?_) (a' := ?_) #[true, true, true, false, true, true, true, false, false, true, true, true, false, false] rfl rfl (by kernel_rfl) (fun _ _ _ h => h) (Or.inl ⟨by rfl, ?_⟩) ?_ ?_
              rotate_left
              · intro w'
                go_simp
                with_reducible rfl
              rotate_left
              · simp only [Act.put, List.setIfInBounds_toArray, List.set_cons_zero, List.set_cons_succ]
                rfl
              refine join_ (σ := Value × Nat) 3 #[true, true, true, true, true, true, true, true, false, true, true, true, false, false] (fun s_ => [(46, s_.1), (50, .slice (some ⟨s_.2, 0, none⟩) 1 1)]) (fun s_ w' => Own iv 1 3 wi.heap.size w' s_.1 (ks.take cap3) ∧ w'.heap[s_.2]? = some (.cells #[.int .i64 x.r.key] 3) ∧ wi.grownBy w' none ∧ s_.1.ownBlock ≠ some s_.2 ∧ w'.cell? ⟨gx, 1, none⟩ = some (.int .i64 x.r.key)) ?_ ?_
              rotate_left
              · intro hCont
                refine two_ (i := 3) (j := 7) (Ni := (some 46)) (Nj := (some 50)) #[true, true, true, true, true, true, true, false, false, true, true, true, false, false] #[true, true, true, false, true, true, true, true, false, true, true, true, false, false] rfl rfl rfl rfl (by kernel_rfl) (by decide) (by decide) (fun K hK => ?_) (fun K hK => ?_)
                · refine step_appRd iv 1 iv_length (by decide) iv_one 3 3 _ 8 infoInt rfl rfl rfl _ _ _ _ rfl Tryz.underlying52 Tryz.underlying52 wi.heap.size (.slice none 0 0) [] rfl (Own.nil _ _ _ _ _) 0 cap3 cap3 (some ⟨g, 0, none⟩) (ks.take cap3) rfl HRT.out (by simp <;> omega) (by unfold maxLen; simp <;> omega) (Nat.le_refl _) (fun v1 w1 hown1 hg1 hl1 => ?_)
                  rw [List.nil_append] at hown1
                  have hgw : wi.grownBy w1 none := ⟨hg1.os, hg1.tape, hg1.output, hg1.size, hg1.block⟩
                  have hS1 := grown_cell hgw f1
                  refine hK.out _ _ hS1 (fun hHeld => ?_)
                  clear hK K
                  refine norm_ (a' := ?_) ?_ ?_
                  rotate_left
                  · show Act.put _ (some 46) _ = _
                    simp only [Act.put, List.setIfInBounds_toArray, List.set_cons_zero, List.set_cons_succ]
                    rfl
                  refine one_ (i := 7) (N := (some 50)) #[true, true, true, true, true, true, true, true, false, true, true, true, false, false] rfl rfl (by kernel_rfl) (by decide) (fun K hK => ?_)
                  refine value_ (w1 := ?_) (v := ?_) (by rfl) rfl ?_ ?_
                  rotate_left 2
                  · go_simp
                    constructor
                    · rfl
                    · rfl
                  refine hK.out _ _ (keep_cell (Below.refl _ _) hS1) (fun hHeld => ?_)
                  clear hK K
                  refine norm_ (a' := ?_) ?_ ?_
                  rotate_left
                  · show Act.put _ (some 50) _ = _
                    simp only [Act.put, List.setIfInBounds_toArray, List.set_cons_zero, List.set_cons_succ]
                    rfl
                  exact norm_ (by simp only [putAll, Act.put, List.setIfInBounds_toArray, List.set_cons_zero, List.set_cons_succ]) (hCont (v1, w1.heap.size) _ ⟨hown1.alloc _, new_block w1 _ _, grownBy_none_then hgw (alloc_none _ _), fun e => by have := (hown1.blk _ e).2; omega, keep_cell (Below.refl _ _) hS1⟩)
                · refine value_ (w1 := ?_) (v := ?_) (by rfl) rfl ?_ ?_
                  rotate_left 2
                  · go_simp
                    constructor
                    · rfl
                    · rfl
                  refine hK.out _ _ (keep_cell (Below.refl _ _) f1) (fun hHeld => ?_)
                  clear hK K
                  refine norm_ (a' := ?_) ?_ ?_
                  rotate_left
                  · show Act.put _ (some 50) _ = _
                    simp only [Act.put, List.setIfInBounds_toArray, List.set_cons_zero, List.set_cons_succ]
                    rfl
                  refine one_ (i := 3) (N := (some 46)) #[true, true, true, true, true, true, true, true, false, true, true, true, false, false] rfl rfl (by kernel_rfl) (by decide) (fun K hK => ?_)
                  refine step_appRd iv 1 iv_length (by decide) iv_one 3 3 _ 8 infoInt rfl rfl rfl _ _ _ _ rfl Tryz.underlying52 Tryz.underlying52 wi.heap.size (.slice none 0 0) [] rfl (Own.nil _ _ _ _ _) 0 cap3 cap3 (some ⟨g, 0, none⟩) (ks.take cap3) rfl (HRT.out.below (below_new_drewN _ _ _)) (by simp <;> omega) (by unfold maxLen; simp <;> omega) (by simp) (fun v1 w1 hown1 hg1 hl1 => ?_)
                  rw [List.nil_append] at hown1
                  have hgw : (wi.alloc (.cells #[.int .i64 x.r.key] 3)).grownBy w1 none := ⟨hg1.os, hg1.tape, hg1.output, hg1.size, hg1.block⟩
                  have hS1 := grown_cell hgw (keep_cell (Below.refl _ _) f1)
                  refine hK.out _ _ hS1 (fun hHeld => ?_)
                  clear hK K
                  refine norm_ (a' := ?_) ?_ ?_
                  rotate_left
                  · show Act.put _ (some 46) _ = _
                    simp only [Act.put, List.setIfInBounds_toArray, List.set_cons_zero, List.set_cons_succ]
                    rfl
                  exact norm_ (by simp only [putAll, Act.put, List.setIfInBounds_toArray, List.set_cons_zero, List.set_cons_succ]) (hCont (v1, wi.heap.size) _ ⟨hown1, (hgw.block wi.heap.size (by simp) (by simp)).trans (new_block wi _ _), grownBy_none_then (alloc_none _ _) hgw, fun e => (by rcases hl1 with h | h; exact absurd (h.symm.trans e) (by simp [Value.ownBlock]); have := Option.some.inj (h.symm.trans e); simp at this), hS1⟩)
              rintro ⟨v46, g50⟩ w5 ⟨hO, hG, hgr, hne, hS5⟩
              have hB5 : Below wi.heap.size wi w5 := below_of_none hgr
              have hHeld := hS5
              dsimp only at hO hG hne hS5
              refine norm_ (a' := ?_) ?_ ?_
              rotate_left
              · simp only [putAll, Act.put, List.setIfInBounds_toArray, List.set_cons_zero, List.set_cons_succ]
                rfl
              refine one_ (i := 8) (N := (some 51)) #[true, true, true, true, true, true, true, true, true, true, true, true, false, false] rfl rfl (by kernel_rfl) (by decide) (fun K hK => ?_)
              refine step_appRd iv 1 iv_length (by decide) iv_one 3 3 _ 8 infoInt rfl rfl rfl _ _ _ _ rfl Tryz.underlying52 Tryz.underlying52 wi.heap.size v46 (ks.take cap3) rfl hO 0 1 1 (some ⟨g50, 0, none⟩) [x.r.key] rfl (rd_one x.r.key hG) (by rw [List.length_take]; omega) (by rw [List.length_take]; unfold maxLen; omega) hgr.size (fun v6 w6 hown6 hg6 _ => ?_)
              have hB6 : Below wi.heap.size wi w6 := hB5.grown hg6 hB5.size (fun g e => (hO.blk g e).1)
              refine hK.out _ _ (hB6.cell (World.block_lt_of_cell? wi _ f1) |>.trans f1) (fun hHeld => ?_)
              clear hK K
              refine norm_ (a' := ?_) ?_ ?_
              rotate_left
              · show Act.put _ (some 51) _ = _
                simp only [Act.put, List.setIfInBounds_toArray, List.set_cons_zero, List.set_cons_succ]
                rfl
              refine one_ (i := 12) (N := (some 55)) #[true, true, true, true, true, true, true, true, true, true, true, true, true, false] rfl rfl (by kernel_rfl) (by decide) (fun K hK => ?_)
              refine step_appRd iv 1 iv_length (by decide) iv_one 3 3 _ 8 infoInt rfl rfl rfl _ _ _ _ rfl Tryz.underlying52 Tryz.underlying52 wi.heap.size v6 (ks.take cap3 ++ [x.r.key]) rfl hown6 0 0 0 (some ⟨g, 0, none⟩) (ks.drop cap3) rfl (HRD.out.below hB6) (by simp <;> omega) (by unfold maxLen; simp <;> omega) hB6.size (fun v7 w7 hown7 hg7 _ => ?_)
              have hB7 : Below wi.heap.size wi w7 := hB6.grown hg7 hB6.size (fun g e => (hown6.blk g e).1)
              refine hK.out _ _ (hB7.cell (World.block_lt_of_cell? wi _ f1) |>.trans f1) (fun hHeld => ?_)
              clear hK K
              refine norm_ (a' := ?_) ?_ ?_
              rotate_left
              · show Act.put _ (some 55) _ = _
                simp only [Act.put, List.setIfInBounds_toArray, List.set_cons_zero, List.set_cons_succ]
                rfl
              refine pure_ (i := 13) (N := (some 3)) (v := ?_) (a' := ?_) #[true, true, true, true, true, true, true, true, true, true, true, true, true, true] rfl rfl (by kernel_rfl) (fun _ _ _ h => h) (Or.inl ⟨by rfl, ?_⟩) ?_ ?_
              rotate_left
              · intro w'
                go_simp
                with_reducible rfl
              rotate_left
              · simp only [Act.put, List.setIfInBounds_toArray, List.set_cons_zero, List.set_cons_succ]
                rfl
              refine done_ (by kernel_rfl) ?_
              have HO7 := Lib.hid (hown7.low hsz1)
              have HB7 := Lib.hid (HB1.out.trans (hB7.mono hsz1))
              clear hown7 hB7 hg7 hown6 hg6 hB6 hO hG hgr hne hS5 hB5 hHeld f1
              go_wp2_with fail
              refine ⟨⟨k + 1, by omega, by go_num, _, ins_incr HIN.out HAL.out HGT.out, fun z => ?_, ?_, HO7.out, HB7.out⟩, by simp [intOf]; omega⟩
              · rw [ins_mem, keys_take HX.out, HME.out]
              · have := HQ.out
                simp
                omega
            · have hRD : (Rd iv 1 wi 0 (some ⟨g, j, none⟩) 0 (ks.drop j)) := by
                have h := HR1.out.dropA (o' := j) j (Nat.le_refl _) (fun h => absurd h (by omega))
                simpa using h
              have HRD := Lib.hid hRD
              clear hRD
              go_wp2_with fail
              go_quiet (fail)
              go_wp2_with fail
              go_quiet (fail)
              go_wp2_with fail
              refine start_ (n := 14) (S := fun w' => w'.cell? ⟨gx, 1, none⟩ = some (.int .i64 x.r.key)) (ds := []) #[false, false, false, false, false, false, false, false, false, false, false, false, false, false] (by kernel_rfl) rfl rfl f1 (fun hHeld => ?_)
              refine pure_ (i := 0) (N := (some 43)) (v := ?_) (a' := ?_) #[true, false, false, false, false, false, false, false, false, false, false, false, false, false] rfl rfl (by kernel_rfl) (fun _ _ _ h => h) (Or.inl ⟨by rfl, ?_⟩) ?_ ?_
              rotate_left
              · intro w'
                go_simp
                with_reducible rfl
              rotate_left
              · simp only [Act.put, List.setIfInBounds_toArray, List.set_cons_zero, List.set_cons_succ]
                rfl
              refine pure_ (i := 1) (N := (some 44)) (v := ?_) (a' := ?_) #[true, true, false, false, false, false, false, false, false, false, false, false, false, false] rfl rfl (by kernel_rfl) (fun _ _ _ h => h) (Or.inl ⟨by rfl, ?_⟩) ?_ ?_
              rotate_left
              · intro w'
                go_simp
                with_reducible rfl
              rotate_left
              · simp only [Act.put, List.setIfInBounds_toArray, List.set_cons_zero, List.set_cons_succ]
                rfl
              refine pure_ (i := 2) (N := (some 45)) (v := ?_) (a' := ?_) #[true, true, true, false, false, false, false, false, false, false, false, false, false, false] rfl rfl (by kernel_rfl) (fun _ _ _ h => h) (Or.inl ⟨by rfl, ?_⟩) ?_ ?_
              rotate_left
              · intro w'
                go_simp
                with_reducible rfl
              rotate_left
              · simp only [Act.put, List.setIfInBounds_toArray, List.set_cons_zero, List.set_cons_succ]
                rfl
              refine pure_ (i := 4) (N := (some 47)) (v := ?_) (a' := ?_) #[true, true, true, false, true, false, false, false, false, false, false, false, false, false] rfl rfl (by kernel_rfl) (fun _ _ _ h => h) (Or.inl ⟨by rfl, ?_⟩) ?_ ?_
              rotate_left
              · intro w'
                go_simp
                with_reducible rfl
              rotate_left
              · simp only [Act.put, List.setIfInBounds_toArray, List.set_cons_zero, List.set_cons_succ]
                rfl
              refine pure_ (i := 5) (N := (some 48)) (v := ?_) (a' := ?_) #[true, true, true, false, true, true, false, false, false, false, false, false, false, false] rfl rfl (by kernel_rfl) (fun _ _ _ h => h) (Or.inl ⟨by rfl, ?_⟩) ?_ ?_
              rotate_left
              · intro w'
                go_simp
                with_reducible rfl
              rotate_left
              · simp only [Act.put, List.setIfInBounds_toArray, List.set_cons_zero, List.set_cons_succ]
                rfl
              refine take_ (i := 6) (N := (some 49)) (v := ?_) (a' := ?_) #[true, true, true, false, true, true, true, false, false, false, false, false, false, false] rfl rfl (by kernel_rfl) (fun _ _ _ h => h) (Or.inl ⟨by rfl, ?_⟩) hHeld ?_ ?_
              rotate_left
              · rintro w' s0
                go_simp
                with_reducible rfl
              rotate_left
              · simp only [Act.put, List.setIfInBounds_toArray, List.set_cons_zero, List.set_cons_succ]
                rfl
              refine pure_ (i := 9) (N := (some 52)) (v := ?_) (a' := ?_) #[true, true, true, false, true, true, true, false, false, true, false, false, false, false] rfl rfl (by kernel_rfl) (fun _ _ _ h => h) (Or.inl ⟨by rfl, ?_⟩) ?_ ?_
              rotate_left
              · intro w'
                go_simp
                with_reducible rfl
              rotate_left
              · simp only [Act.put, List.setIfInBounds_toArray, List.set_cons_zero, List.set_cons_succ]
                rfl
              refine pure_ (i := 10) (N := (some 53)) (v := ?_) (a' := ?_) #[true, true, true, false, true, true, true, false, false, true, true, false, false, false] rfl rfl (by kernel_rfl) (fun _ _ _ h => h) (Or.inl ⟨by rfl, ?_⟩) ?_ ?_
              rotate_left
              · intro w'
                go_simp
                with_reducible rfl
              rotate_left
              · simp only [Act.put, List.setIfInBounds_toArray, List.set_cons_zero, List.set_cons_succ]
                rfl
              refine pure_ (i := 11) (N := (some 54)) (v := ?_) (a' := ?_) #[true, true, true, false, true, true, true, false, false, true, true, true, false, false] rfl rfl (by kernel_rfl) (fun _ _ _ h => h) (Or.inl ⟨by rfl, ?_⟩) ?_ ?_
              rotate_left
              · intro w'
                go_simp
                with_reducible rfl
              rotate_left
              · simp only [Act.put, List.setIfInBounds_toArray, List.set_cons_zero, List.set_cons_succ]
                rfl
              refine join_ (σ := Value × Nat) 3 #[true, true, true, true, true, true, true, true, false, true, true, true, false, false] (fun s_ => [(46, s_.1), (50, .slice (some ⟨s_.2, 0, none⟩) 1 1)]) (fun s_ w' => Own iv 1 3 wi.heap.size w' s_.1 (ks.take j) ∧ w'.heap[s_.2]? = some (.cells #[.int .i64 x.r.key] 3) ∧ wi.grownBy w' none ∧ s_.1.ownBlock ≠ some s_.2 ∧ w'.cell? ⟨gx, 1, none⟩ = some (.int .i64 x.r.key)) ?_ ?_
              rotate_left
              · intro hCont
                refine two_ (i := 3) (j := 7) (Ni := (some 46)) (Nj := (some 50)) #[true, true, true, true, true, true, true, false, false, true, true, true, false, false] #[true, true, true, false, true, true, true, true, false, true, true, true, false, false] rfl rfl rfl rfl (by kernel_rfl) (by decide) (by decide) (fun K hK => ?_) (fun K hK => ?_)
                · refine step_appRd iv 1 iv_length (by decide) iv_one 3 3 _ 8 infoInt rfl rfl rfl _ _ _ _ rfl Tryz.underlying52 Tryz.underlying52 wi.heap.size (.slice none 0 0) [] rfl (Own.nil _ _ _ _ _) 0 j cap3 (some ⟨g, 0, none⟩) (ks.take j) rfl HRT.out (by simp <;> omega) (by unfold maxLen; simp <;> omega) (Nat.le_refl _) (fun v1 w1 hown1 hg1 hl1 => ?_)
                  rw [List.nil_append] at hown1
                  have hgw : wi.grownBy w1 none := ⟨hg1.os, hg1.tape, hg1.output, hg1.size, hg1.block⟩
                  have hS1 := grown_cell hgw f1
                  refine hK.out _ _ hS1 (fun hHeld => ?_)
                  clear hK K
                  refine norm_ (a' := ?_) ?_ ?_
                  rotate_left
                  · show Act.put _ (some 46) _ = _
                    simp only [Act.put, List.setIfInBounds_toArray, List.set_cons_zero, List.set_cons_succ]
                    rfl
                  refine one_ (i := 7) (N := (some 50)) #[true, true, true, true, true, true, true, true, false, true, true, true, false, false] rfl rfl (by kernel_rfl) (by decide) (fun K hK => ?_)
                  refine value_ (w1 := ?_) (v := ?_) (by rfl) rfl ?_ ?_
                  rotate_left 2
                  · go_simp
                    constructor
                    · rfl
                    · rfl
                  refine hK.out _ _ (keep_cell (Below.refl _ _) hS1) (fun hHeld => ?_)
                  clear hK K
                  refine norm_ (a' := ?_) ?_ ?_
                  rotate_left
                  · show Act.put _ (some 50) _ = _
                    simp only [Act.put, List.setIfInBounds_toArray, List.set_cons_zero, List.set_cons_succ]
                    rfl
                  exact norm_ (by simp only [putAll, Act.put, List.setIfInBounds_toArray, List.set_cons_zero, List.set_cons_succ]) (hCont (v1, w1.heap.size) _ ⟨hown1.alloc _, new_block w1 _ _, grownBy_none_then hgw (alloc_none _ _), fun e => by have := (hown1.blk _ e).2; omega, keep_cell (Below.refl _ _) hS1⟩)
                · refine value_ (w1 := ?_) (v := ?_) (by rfl) rfl ?_ ?_
                  rotate_left 2
                  · go_simp
                    constructor
                    · rfl
                    · rfl
                  refine hK.out _ _ (keep_cell (Below.refl _ _) f1) (fun hHeld => ?_)
                  clear hK K
                  refine norm_ (a' := ?_) ?_ ?_
                  rotate_left
                  · show Act.put _ (some 50) _ = _
                    simp only [Act.put, List.setIfInBounds_toArray, List.set_cons_zero, List.set_cons_succ]
                    rfl
                  refine one_ (i := 3) (N := (some 46)) #[true, true, true, true, true, true, true, true, false, true, true, true, false, false] rfl rfl (by kernel_rfl) (by decide) (fun K hK => ?_)
                  refine step_appRd iv 1 iv_length (by decide) iv_one 3 3 _ 8 infoInt rfl rfl rfl _ _ _ _ rfl Tryz.underlying52 Tryz.underlying52 wi.heap.size (.slice none 0 0) [] rfl (Own.nil _ _ _ _ _) 0 j cap3 (some ⟨g, 0, none⟩) (ks.take j) rfl (HRT.out.below (below_new_drewN _ _ _)) (by simp <;> omega) (by unfold maxLen; simp <;> omega) (by simp) (fun v1 w1 hown1 hg1 hl1 => ?_)
                  rw [List.nil_append] at hown1
                  have hgw : (wi.alloc (.cells #[.int .i64 x.r.key] 3)).grownBy w1 none := ⟨hg1.os, hg1.tape, hg1.output, hg1.size, hg1.block⟩
                  have hS1 := grown_cell hgw (keep_cell (Below.refl _ _) f1)
                  refine hK.out _ _ hS1 (fun hHeld => ?_)
                  clear hK K
                  refine norm_ (a' := ?_) ?_ ?_
                  rotate_left
                  · show Act.put _ (some 46) _ = _
                    simp only [Act.put, List.setIfInBounds_toArray, List.set_cons_zero, List.set_cons_succ]
                    rfl
                  exact norm_ (by simp only [putAll, Act.put, List.setIfInBounds_toArray, List.set_cons_zero, List.set_cons_succ]) (hCont (v1, wi.heap.size) _ ⟨hown1, (hgw.block wi.heap.size (by simp) (by simp)).trans (new_block wi _ _), grownBy_none_then (alloc_none _ _) hgw, fun e => (by rcases hl1 with h | h; exact absurd (h.symm.trans e) (by simp [Value.ownBlock]); have := Option.some.inj (h.symm.trans e); simp at this), hS1⟩)
              rintro ⟨v46, g50⟩ w5 ⟨hO, hG, hgr, hne, hS5⟩
              have hB5 : Below wi.heap.size wi w5 := below_of_none hgr
              have hHeld := hS5
              dsimp only at hO hG hne hS5
              refine norm_ (a' := ?_) ?_ ?_
              rotate_left
              · simp only [putAll, Act.put, List.setIfInBounds_toArray, List.set_cons_zero, List.set_cons_succ]
                rfl
              refine one_ (i := 8) (N := (some 51)) #[true, true, true, true, true, true, true, true, true, true, true, true, false, false] rfl rfl (by kernel_rfl) (by decide) (fun K hK => ?_)
              refine step_appRd iv 1 iv_length (by decide) iv_one 3 3 _ 8 infoInt rfl rfl rfl _ _ _ _ rfl Tryz.underlying52 Tryz.underlying52 wi.heap.size v46 (ks.take j) rfl hO 0 1 1 (some ⟨g50, 0, none⟩) [x.r.key] rfl (rd_one x.r.key hG) (by rw [List.length_take]; omega) (by rw [List.length_take]; unfold maxLen; omega) hgr.size (fun v6 w6 hown6 hg6 _ => ?_)
              have hB6 : Below wi.heap.size wi w6 := hB5.grown hg6 hB5.size (fun g e => (hO.blk g e).1)
              refine hK.out _ _ (hB6.cell (World.block_lt_of_cell? wi _ f1) |>.trans f1) (fun hHeld => ?_)
              clear hK K
              refine norm_ (a' := ?_) ?_ ?_
              rotate_left
              · show Act.put _ (some 51) _ = _
                simp only [Act.put, List.setIfInBounds_toArray, List.set_cons_zero, List.set_cons_succ]
                rfl
              refine one_ (i := 12) (N := (some 55)) #[true, true, true, true, true, true, true, true, true, true, true, true, true, false] rfl rfl (by kernel_rfl) (by decide) (fun K hK => ?_)
              refine step_appRd iv 1 iv_length (by decide) iv_one 3 3 _ 8 infoInt rfl rfl rfl _ _ _ _ rfl Tryz.underlying52 Tryz.underlying52 wi.heap.size v6 (ks.take j ++ [x.r.key]) rfl hown6 0 0 (cap3 - j) (some ⟨g, j, none⟩) (ks.drop j) rfl (HRD.out.below hB6) (by simp <;> omega) (by unfold maxLen; simp <;> omega) hB6.size (fun v7 w7 hown7 hg7 _ => ?_)
              have hB7 : Below wi.heap.size wi w7 := hB6.grown hg7 hB6.size (fun g e => (hown6.blk g e).1)
              refine hK.out _ _ (hB7.cell (World.block_lt_of_cell? wi _ f1) |>.trans f1) (fun hHeld => ?_)
              clear hK K
              refine norm_ (a' := ?_) ?_ ?_
              rotate_left
              · show Act.put _ (some 55) _ = _
                simp only [Act.put, List.setIfInBounds_toArray, List.set_cons_zero, List.set_cons_succ]
                rfl
              refine pure_ (i := 13) (N := (some 3)) (v := ?_) (a' := ?_) #[true, true, true, true, true, true, true, true, true, true, true, true, true, true] rfl rfl (by kernel_rfl) (fun _ _ _ h => h) (Or.inl ⟨by rfl, ?_⟩) ?_ ?_
              rotate_left
              · intro w'
                go_simp
                with_reducible rfl
              rotate_left
              · simp only [Act.put, List.setIfInBounds_toArray, List.set_cons_zero, List.set_cons_succ]
                rfl
              refine done_ (by kernel_rfl) ?_
              have HO7 := Lib.hid (hown7.low hsz1)
              have HB7 := Lib.hid (HB1.out.trans (hB7.mono hsz1))
              clear hown7 hB7 hg7 hown6 hg6 hB6 hO hG hgr hne hS5 hB5 hHeld f1
              go_wp2_with fail
              refine ⟨⟨k + 1, by omega, by go_num, _, ins_incr HIN.out HAL.out HGT.out, fun z => ?_, ?_, HO7.out, HB7.out⟩, by simp [intOf]; omega⟩
              · rw [ins_mem, keys_take HX.out, HME.out]
              · have := HQ.out
                simp
                omega
    · have hk' : k = n := by omega
      subst hk'
      clear hRk hlt
      have et : l.take k = l := List.take_of_length_le (by rw [HR.out.len]; exact Nat.le_refl _)
      have hks : ks = keysL l := incrI_uniq HIN.out (keysL_incr l) (fun z => by rw [HME.out, et, keysL_mem])
      have hr1 := HOW.out.rdOf iv_length
      rw [hks] at hr1
      have HR1 := Lib.hid hr1
      have HE : Hid (ks.length = (keysL l).length) := by show _ = _; rw [hks]
      clear et hks hr1
      go_wp2_with fail
      go_ret
      rw [HE.out]
      exact ⟨_, _, _, rfl, HR1.out, HBr.out⟩
end Go.Proofs.Bg
end

section
/- The contract of the reference's without. -/
namespace Go.Proofs.Bg
open Go.RowKit

theorem grown_of_below {w w' : World} (hb : Below w.heap.size w w') : w.grownBy w' none := ⟨hb.os, hb.tape, hb.output, hb.size, fun i hi _ => hb.block i hi⟩
theorem Win.below {b : Nat} {w w' : World} {A : Option Addr} {cap : Nat} {l : List It} (h : Win b w A cap l) (hb : Below w.heap.size w w') : Win b w' A cap l := h.kept (grown_of_below hb) (fun _ e => by cases e)
theorem Win.any {w : World} {A : Option Addr} {cap : Nat} {l : List It} (h : ∃ b, Win b w A cap l) : Rd It.vs 4 w 0 A l.length l := h.elim fun _ h => h.rd

set_option maxRecDepth 100000 in
set_option maxHeartbeats 2000000 in
theorem without_any (b : Nat) (A : Option Addr) (cap : Nat) (x : It) (r : List It) (k : Int) (w : World) (h : Win b w A cap (x :: r)) (hk : -9223372036854775808 ≤ x.n - k ∧ x.n - k ≤ 9223372036854775807) (hl : r.length ≤ 1000000) :
    Calls Tryz.prog 110 #[.slice A (r.length + 1) cap, .int .i64 k] w fun e w' => ∃ A' cap', e = .returned (.slice A' (lessL (x :: r) k).length cap') ∧ (∃ b', Win b' w' A' cap' (lessL (x :: r) k)) ∧ Below w.heap.size w w' := by
  have HW := Lib.hid h
  obtain ⟨off, c, rfl, hc, hle, hb, c0, c1, c2, c3⟩ := h.head
  have hw : IntKind.i64.wrap (x.n - k) = x.n - k := IntWalk.i64_in _ hk
  clear h hb hk
  by_cases he : x.n = k
  · have hq : (x.n == k) = true := by simpa using he
    have e1 : lessL (x :: r) k = r := by simp [lessL, he]
    rw [e1]
    clear e1 he
    by_cases hc1 : cap = 1
    · have hc2 : Hid (cap = 1) := hc1
      go_enter Tryz.func110, Tryz.ntmps110
      go_wp2
      go_ret
      have t := HW.out.tail (o' := off) (fun h => by have := hc2.out; omega)
      have e : cap - 1 = 0 := by have := hc2.out; omega
      rw [e] at t
      exact ⟨_, _, rfl, ⟨_, t⟩, Below.refl _ _⟩
    · go_enter Tryz.func110, Tryz.ntmps110
      go_wp2
      go_ret
      exact ⟨_, _, rfl, ⟨_, HW.out.tail (fun h => rfl)⟩, Below.refl _ _⟩
  · have hq : (x.n == k) = false := by simpa using he
    have e1 : lessL (x :: r) k = ⟨x.r, x.n - k⟩ :: r := by simp [lessL, he]
    rw [e1]
    clear e1 he
    go_enter Tryz.func110, Tryz.ntmps110
    go_wp2_with (at_builtin; go_loud (refine wpList_appRd It.vs 4 It.vs_length (by decide) It.one 40 40 _ 32 infoIt rfl rfl _ _ _ _ rfl Tryz.underlying22 Tryz.underlying22 w.heap.size (.slice none 0 0) [] rfl (Own.nil _ _ _ _ _) 0 (r.length + 1) cap (some ⟨b, off, none⟩) (x :: r) rfl HW.out.rd (by simp; omega) (by unfold maxLen; simp; omega) (Nat.le_refl _) (fun v1 w1 hown1 hg1 _ => ?_)); rw [List.nil_append] at hown1; obtain ⟨g, c1', rfl⟩ : ∃ g c1, v1 = .slice (some ⟨g, 0, none⟩) (r.length + 1) c1 := (by
      rcases hown1.2 with ⟨_, e0⟩ | ⟨g, cap, cur, e, _⟩
      · simp at e0
      · exact ⟨g, cap, e⟩); have hwin := Own.win hown1 0; have HW1 : Hid (Win g w1 (some ⟨g, 0, none⟩) c1' (x :: r)) := hwin; have HB1 : Hid (Below w.heap.size w w1) := (Below.refl _ _).grown hg1 (Nat.le_refl _) (fun k e => by cases e); have HGE : Hid (w.heap.size ≤ g) := (hown1.blk g rfl).1; obtain ⟨off2, c2', e2, hc2, hle2, hb2, d0, d1, d2, d3⟩ := HW1.out.head; cases e2; have z3 := free_at_block (off := 3) hb2; simp only [Nat.zero_add] at d1 d2 d3; clear hown1 hg1 hwin hb2)
    go_ret
    have S := HW1.out.setHead (x.n - k)
    exact ⟨_, _, rfl, ⟨_, S.1⟩, HB1.out.grown S.2 HB1.out.size (fun q e => by cases e; exact HGE.out)⟩
end Go.Proofs.Bg
end

section
/- Plain law: sums of bags are a group; products of sums are sums of products. No program, no memory. -/
namespace Go.Proofs.Bg

/-- A number for each record, added over a list of items. -/
def linS (G : Rc → Int) : List It → Int
  | [] => 0
  | x :: r => x.n * G x.r + linS G r
theorem linS_append (G : Rc → Int) (a b : List It) : linS G (a ++ b) = linS G a + linS G b := by
  induction a with
  | nil => simp [linS]
  | cons x r ih => simp only [List.cons_append, linS, ih]; omega
theorem linS_ins (G : Rc → Int) (x : It) (m : List It) : linS G (insIt x m) = x.n * G x.r + linS G m := by
  induction m with
  | nil => rfl
  | cons y r ih =>
    rw [insIt]
    split
    · rfl
    · split
      · rename_i h
        simp only [linS, h]
        rw [Int.add_mul]
        omega
      · simp only [linS, ih]
        omega
theorem linS_gather (G : Rc → Int) (l : List It) : linS G (gather l) = linS G l := by
  induction l with
  | nil => rfl
  | cons x r ih => rw [gather, linS_ins, ih, linS]
theorem linS_filter (G : Rc → Int) (l : List It) : linS G (l.filter (fun x => x.n != 0)) = linS G l := by
  induction l with
  | nil => rfl
  | cons x r ih =>
    rw [List.filter_cons]
    split
    · rw [linS, linS, ih]
    · rename_i h
      have : x.n = 0 := by simpa using h
      rw [ih, linS, this]
      omega
theorem linS_canon (G : Rc → Int) (l : List It) : linS G (canon l) = linS G l := by rw [canon, linS_filter, linS_gather]

theorem canon_id {a : List It} (h : bagB a = true) : canon a = a := by
  have hs := (bagB_spec a).1 h
  exact (IsBag.eq ⟨hs.2.1, fun x hx => by have := (itB_spec x).1 (hs.1 x hx); omega, fun _ => rfl⟩).symm
theorem canon_comm (a b : List It) : canon (a ++ b) = canon (b ++ a) := canon_eq fun k => by rw [sumN_append, sumN_append]; omega
theorem canon_left (a b : List It) : canon (canon a ++ b) = canon (a ++ b) := canon_eq fun k => by rw [sumN_append, sumN_append, (canon_is a).sums]
theorem canon_right (a b : List It) : canon (a ++ canon b) = canon (a ++ b) := canon_eq fun k => by rw [sumN_append, sumN_append, (canon_is b).sums]
theorem sumN_neg (a : List It) (k : Rc) : sumN (a.map negIt) k = - sumN a k := by
  induction a with
  | nil => rfl
  | cons x r ih => simp only [List.map_cons, sumN, ih, negIt]; split <;> omega
theorem canon_minus (a : List It) : canon (a ++ a.map negIt) = [] := by
  have : canon (a ++ a.map negIt) = canon [] := canon_eq fun k => by rw [sumN_append, sumN_neg, sumN]; omega
  exact this
theorem bagOr_congr {a b : List It} (h : canon a = canon b) : bagOr a = bagOr b ∧ errOr a = errOr b := by
  unfold bagOr errOr
  rw [h]
  exact ⟨rfl, rfl⟩

theorem addR_comm (a b : List It) : addR a b = addR b a := by
  unfold addR
  obtain ⟨h1, h2⟩ := bagOr_congr (canon_comm a b)
  rw [h1, h2, Bool.and_comm]
theorem addR_err {a b : List It} (ha : bagB a = true) (hb : bagB b = true) : (addR a b).2 = 0 ∨ (addR a b).2 = 3 := by
  simp only [addR, ha, hb, errOr]
  simp
theorem bagB_nil : bagB [] = true := by decide
theorem addR_nil {a : List It} (ha : bagB a = true) : addR a [] = (a, 0) := by
  simp [addR, ha, bagB_nil, bagOr, errOr, canon_id ha]
theorem addR_neg {a : List It} (ha : bagB a = true) : addR a (a.map negIt) = ([], 0) := by
  simp [addR, ha, bagB_neg ha, bagOr, errOr, canon_minus, bagB_nil]

/-- What is there, and the contrary of what is missing. -/
def isL (b : List It) : List It := b.filter (fun x => decide (0 < x.n))
def notL (b : List It) : List It := (b.filter (fun x => !decide (0 < x.n))).map negIt
theorem bagB_filter {a : List It} (p : It → Bool) (h : bagB a = true) : bagB (a.filter p) = true := by
  rw [bagB_spec] at h ⊢
  exact ⟨fun x hx => h.1 x (List.mem_filter.1 hx).1, incr_filter p h.2.1, Nat.le_trans (List.length_filter_le _ _) h.2.2⟩
theorem bagB_isL {a : List It} (h : bagB a = true) : bagB (isL a) = true := bagB_filter _ h
theorem bagB_notL {a : List It} (h : bagB a = true) : bagB (notL a) = true := bagB_neg (bagB_filter _ h)
theorem negIt_negIt (x : It) : negIt (negIt x) = x := by cases x; simp [negIt]
theorem map_neg_neg (l : List It) : (l.map negIt).map negIt = l := by
  rw [List.map_map]
  conv => rhs; rw [← List.map_id l]
  exact List.map_congr_left (fun x _ => negIt_negIt x)
theorem sumN_filter_add (p : It → Bool) (l : List It) (k : Rc) : sumN (l.filter p) k + sumN (l.filter (fun x => !p x)) k = sumN l k := by
  induction l with
  | nil => rfl
  | cons x r ih =>
    cases h : p x <;> simp [h, sumN] <;> omega
theorem addR_split {a : List It} (ha : bagB a = true) : addR (isL a) ((notL a).map negIt) = (a, 0) := by
  have h1 : canon (isL a ++ (notL a).map negIt) = a := by
    rw [notL, map_neg_neg, isL]
    exact (canon_eq (l' := a) fun k => by rw [sumN_append, sumN_filter_add]).trans (canon_id ha)
  simp only [addR, bagB_isL ha, bagB_neg (bagB_notL ha), bagOr, errOr, h1, ha]
  rfl
theorem whole_isL {a : List It} : (isL a).all (fun x => !decide (x.n < 0)) = true := by
  rw [List.all_eq_true]
  intro x hx
  have := (List.mem_filter.1 hx).2
  simp at this ⊢
  omega
theorem whole_notL {a : List It} : (notL a).all (fun x => !decide (x.n < 0)) = true := by
  rw [List.all_eq_true]
  intro x hx
  obtain ⟨y, hy, rfl⟩ := List.mem_map.1 hx
  have := (List.mem_filter.1 hy).2
  simp [negIt] at this ⊢
  omega
theorem addR_ok {a b : List It} (h : (addR a b).2 = 0) : bagB a = true ∧ bagB b = true ∧ bagB (canon (a ++ b)) = true ∧ (addR a b).1 = canon (a ++ b) := by
  unfold addR errOr bagOr at *
  cases ha : bagB a <;> cases hb : bagB b <;> cases hc : bagB (canon (a ++ b)) <;> simp_all
theorem addR_assoc {a b c : List It} (h1 : (addR a b).2 = 0) (h2 : (addR b c).2 = 0) : addR (addR a b).1 c = addR a (addR b c).1 := by
  obtain ⟨ha, hb, hab, e1⟩ := addR_ok h1
  obtain ⟨_, hc, hbc, e2⟩ := addR_ok h2
  have e : canon (canon (a ++ b) ++ c) = canon (a ++ canon (b ++ c)) := by rw [canon_left, canon_right, List.append_assoc]
  obtain ⟨g1, g2⟩ := bagOr_congr e
  rw [e1, e2]
  simp only [addR, ha, hc, hab, hbc, g1, g2]

/-! ### products -/
/-- What an item with the record r, once, gives with the item y, at the record k. -/
def oneP (apart : Int) (k : Rc) (r : Rc) (y : It) : Int :=
  if r.key = y.r.key ∧ max r.at_ y.r.at_ - min r.at_ y.r.at_ ≤ apart then (if (⟨max r.at_ y.r.at_, r.key, clampI (r.val + y.r.val)⟩ : Rc) = k then y.n else 0) else 0
def rowP (apart : Int) (k : Rc) (c : List It) (r : Rc) : Int := (c.map (oneP apart k r)).sum
theorem pairIt_sum (apart : Int) (k : Rc) (x y : It) : sumN (pairIt apart x y) k = x.n * oneP apart k x.r y := by
  unfold pairIt oneP
  split
  · simp only [sumN]
    split <;> simp
  · simp [sumN]
theorem rowIts_sum (apart : Int) (k : Rc) (x : It) (c : List It) : sumN (rowIts apart x c) k = x.n * rowP apart k c x.r := by
  unfold rowIts rowP
  induction c with
  | nil => simp [sumN]
  | cons y r ih => rw [List.flatMap_cons, sumN_append, ih, pairIt_sum, List.map_cons, List.sum_cons, Int.mul_add]
theorem pairIts_lin (apart : Int) (k : Rc) (a c : List It) : sumN (pairIts apart a c) k = linS (rowP apart k c) a := by
  unfold pairIts
  induction a with
  | nil => rfl
  | cons x r ih => rw [List.flatMap_cons, sumN_append, ih, rowIts_sum, linS]
theorem oneP_comm (apart : Int) (k : Rc) (x y : It) : x.n * oneP apart k x.r y = y.n * oneP apart k y.r x := by
  unfold oneP
  have e1 : max x.r.at_ y.r.at_ = max y.r.at_ x.r.at_ := by omega
  have e2 : min x.r.at_ y.r.at_ = min y.r.at_ x.r.at_ := by omega
  have e3 : x.r.val + y.r.val = y.r.val + x.r.val := by omega
  by_cases hk : x.r.key = y.r.key
  · simp only [hk, true_and]
    rw [e1, e2, e3]
    split
    · split
      · exact Int.mul_comm _ _
      · simp
    · simp
  · have hk' : ¬ y.r.key = x.r.key := fun e => hk e.symm
    simp [hk, hk']
theorem sum_comm2 (f : It → It → Int) (a c : List It) : (a.map (fun x => (c.map (f x)).sum)).sum = (c.map (fun y => (a.map (fun x => f x y)).sum)).sum := by
  induction a with
  | nil =>
    induction c with
    | nil => rfl
    | cons y r ih => simp only [List.map_nil, List.sum_nil, List.map_cons, List.sum_cons] at ih ⊢; omega
  | cons x r ih =>
    rw [List.map_cons, List.sum_cons, ih]
    clear ih
    induction c with
    | nil => rfl
    | cons y s ih =>
      simp only [List.map_cons, List.sum_cons] at ih ⊢
      omega
theorem mul_sum (n : Int) (l : List Int) : n * l.sum = (l.map (fun z => n * z)).sum := by
  induction l with
  | nil => simp
  | cons x r ih => rw [List.sum_cons, Int.mul_add, ih, List.map_cons, List.sum_cons]
theorem linS_rowP (apart : Int) (k : Rc) (a c : List It) : linS (rowP apart k c) a = (a.map (fun x => (c.map (fun y => x.n * oneP apart k x.r y)).sum)).sum := by
  induction a with
  | nil => rfl
  | cons x r ih =>
    rw [linS, ih, List.map_cons, List.sum_cons, rowP, mul_sum, List.map_map]
    rfl
theorem pairIts_comm (apart : Int) (a c : List It) : canon (pairIts apart a c) = canon (pairIts apart c a) := canon_eq fun k => by
  rw [pairIts_lin, pairIts_lin, linS_rowP, linS_rowP, sum_comm2]
  congr 1
  refine List.map_congr_left fun y _ => ?_
  congr 1
  exact List.map_congr_left fun x _ => oneP_comm apart k x y
theorem pairR_comm (apart : Int) (a c : List It) : pairR a c apart = pairR c a apart := by
  obtain ⟨h1, h2⟩ := bagOr_congr (pairIts_comm apart a c)
  unfold pairR
  rw [h1, h2, Bool.and_comm (bagB a)]
theorem pairR_ok {a c : List It} {apart : Int} (h : (pairR a c apart).2 = 0) : bagB a = true ∧ bagB c = true ∧ 0 ≤ apart ∧ bagB (canon (pairIts apart a c)) = true ∧ (pairR a c apart).1 = canon (pairIts apart a c) := by
  unfold pairR errOr bagOr at *
  by_cases h0 : 0 ≤ apart
  · cases ha : bagB a <;> cases hb : bagB c <;> cases hc : bagB (canon (pairIts apart a c)) <;> simp_all
  · simp [h0] at h
theorem pairIts_nil (apart : Int) (a : List It) : pairIts apart a [] = [] := by
  unfold pairIts rowIts
  simp
theorem pairR_nil {a : List It} {apart : Int} (ha : bagB a = true) (h0 : 0 ≤ apart) : pairR a [] apart = ([], 0) := by
  have e : canon [] = [] := rfl
  simp [pairR, ha, bagB_nil, h0, pairIts_nil, bagOr, errOr, e]
theorem pairIts_two (apart : Int) (a b c : List It) : canon (pairIts apart (canon (a ++ b)) c) = canon (canon (pairIts apart a c) ++ canon (pairIts apart b c)) := canon_eq fun k => by
  rw [sumN_append, (canon_is _).sums, (canon_is _).sums, pairIts_lin, pairIts_lin, pairIts_lin, linS_canon, linS_append]
theorem bilinear {a b c : List It} {apart : Int} (h1 : (addR a b).2 = 0) (h2 : (pairR a c apart).2 = 0) (h3 : (pairR b c apart).2 = 0) :
    pairR (addR a b).1 c apart = addR (pairR a c apart).1 (pairR b c apart).1 := by
  obtain ⟨ha, hb, hab, e1⟩ := addR_ok h1
  obtain ⟨_, hc, h0, hac, e2⟩ := pairR_ok h2
  obtain ⟨_, _, _, hbc, e3⟩ := pairR_ok h3
  obtain ⟨g1, g2⟩ := bagOr_congr (pairIts_two apart a b c)
  rw [e1, e2, e3]
  simp only [pairR, addR, hab, hc, h0, hac, hbc, g1, g2]
  rfl
end Go.Proofs.Bg
end

section
/- The contracts of Split, and of the reference's Split. -/
namespace Go.Proofs.Bg
open Go.RowKit

def splitR (b : List It) : (List It × List It) × Int := if bagB b then ((isL b, notL b), 0) else (([], []), 2)
/-- What a function that hands back two bags in new memory leaves. -/
def RetTwo (w : World) (p : (List It × List It) × Int) (e : Ending) (w' : World) : Prop :=
  (∃ A n c B m d, e = .returned (.tuple #[.slice A n c, .slice B m d, .int .i64 p.2]) ∧ Rd It.vs 4 w' w.heap.size A n p.1.1 ∧ Rd It.vs 4 w' w.heap.size B m p.1.2) ∧ Below w.heap.size w w'

/-- Two lists of the call's own, apart from each other. -/
structure Two (w1 : World) (L M : List It) (v u : Value) (wr : World) : Prop where
  a : Own It.vs 4 40 w1.heap.size wr v L
  b : Own It.vs 4 40 w1.heap.size wr u M
  ne : v.ownBlock = none ∨ v.ownBlock ≠ u.ownBlock
  below : Below w1.heap.size w1 wr
theorem Two.swap {w1 wr : World} {L M : List It} {v u : Value} (h : Two w1 L M v u wr) : Two w1 M L u v wr where
  a := h.b
  b := h.a
  ne := by
    rcases h.ne with e | e
    · cases hu : u.ownBlock with
      | none => exact .inl rfl
      | some g => exact .inr (by rw [e]; simp)
    · exact .inr (Ne.symm e)
  below := h.below
theorem Two.start (w1 : World) : Two w1 [] [] (.slice none 0 0) (.slice none 0 0) w1 := ⟨Own.nil _ _ _ _ _, Own.nil _ _ _ _ _, .inl rfl, Below.refl _ _⟩
theorem Two.alloc {w1 wr : World} {L M : List It} {v u : Value} (h : Two w1 L M v u wr) (o : Obj) : Two w1 L M v u (wr.alloc o) := ⟨h.a.alloc o, h.b.alloc o, h.ne, h.below.alloc h.below.size o⟩
/-- Behind an append to the first one. -/
theorem Two.app {w1 W w' : World} {L L' M : List It} {v u v' : Value} (h : Two w1 L M v u W) (ho : Own It.vs 4 40 w1.heap.size w' v' L') (hg : W.grownBy w' v.ownBlock) (hl : v'.ownBlock = v.ownBlock ∨ v'.ownBlock = some W.heap.size) : Two w1 L' M v' u w' where
  a := ho
  b := h.b.grown hg (by
    rcases h.swap.ne with e | e
    · exact .inl e
    · exact .inr e)
  ne := by
    rcases hl with e | e
    · rw [e]; exact h.ne
    · refine .inr fun e2 => ?_
      have := (h.b.blk W.heap.size (by rw [← e2, e])).2
      omega
  below := h.below.grown hg h.below.size (fun k e => (h.a.blk k e).1)
/-- What the loop of Split holds. -/
def isTo (l : List It) (k : Nat) : List It := (l.take k).filter (fun x => decide (0 < x.n))
def noTo (l : List It) (k : Nat) : List It := (l.take k).filter (fun x => !decide (0 < x.n))
theorem isTo_succ {l : List It} {k : Nat} {x : It} (h : l[k]? = some x) : isTo l (k + 1) = isTo l k ++ (if 0 < x.n then [x] else []) ∧ noTo l (k + 1) = noTo l k ++ (if 0 < x.n then [] else [x]) := by
  unfold isTo noTo
  rw [List.take_add_one, h, List.filter_append, List.filter_append]
  by_cases hx : 0 < x.n <;> simp [hx]
theorem isTo_length (l : List It) (k : Nat) : (isTo l k).length ≤ k ∧ (noTo l k).length ≤ k := by
  have h1 := List.length_filter_le (fun x => decide (0 < x.n)) (l.take k)
  have h2 := List.length_filter_le (fun x => !decide (0 < x.n)) (l.take k)
  have h3 := List.length_take_le k l
  exact ⟨by unfold isTo; omega, by unfold noTo; omega⟩

set_option maxRecDepth 100000 in
set_option maxHeartbeats 2000000 in
theorem Split_any (A : Option Addr) (n capA : Nat) (a : List It) (w : World) (hA : Rd It.vs 4 w 0 A n a) :
    Calls Tryz.prog 26 #[.slice A n capA] w (RetTwo w (splitR a)) := by
  have Q1 := Lib.hid (isBag_any A n capA a w hA)
  have HA := Lib.hid hA
  clear hA
  cases ga : bagB a with
  | false =>
    have e1 : splitR a = (([], []), 2) := by simp [splitR, ga]
    rw [e1]
    have GA := Lib.hid ga
    clear ga e1
    go_enter Tryz.func26, Tryz.ntmps26
    go_wp2_with (go_at_call 47; (with_reducible refine Q1.out.mono ?_); rintro e w1 ⟨rfl, hb1⟩; rw [GA.out]; have HB1 := Lib.hid hb1; clear hb1)
    go_ret3
    exact ⟨⟨_, _, _, _, _, _, rfl, Rd.nil _ _ _, Rd.nil _ _ _⟩, HB1.out⟩
  | true =>
    have E1 : Hid (splitR a = ((isL a, notL a), 0)) := by show _ = _; simp [splitR, ga]
    have hsp := (bagB_spec a).1 ga
    have HSP := Lib.hid hsp
    have GA := Lib.hid ga
    have hn3 : n ≤ 300 := by rw [← HA.out.len]; exact hsp.2.2
    clear ga hsp
    go_enter Tryz.func26, Tryz.ntmps26
    go_wp2_with fail
    (with_reducible refine Q1.out.mono ?_)
    rintro e w1 ⟨rfl, hb1⟩
    rw [GA.out]
    have HB1 := Lib.hid hb1
    clear hb1
    go_wp2_with fail
    go_loopw [5, 6, 8, 14] (fun v u _ i wr => ∃ k : Nat, k ≤ n ∧ i = .int .i64 k ∧ Two w1 (isTo a k) (noTo a k) v u wr) (fun _ _ _ i _ => n - (intOf i).toNat)
    case atStart => exact ⟨0, by omega, rfl, Two.start w1⟩
    case round =>
      obtain ⟨k, hk, rfl, hT⟩ := hrel
      obtain ⟨A5, c5, rfl⟩ := hT.a.shape
      obtain ⟨A6, c6, rfl⟩ := hT.b.shape
      have hRk := HA.out.below (bchain HB1.out hT.below)
      have HT := Lib.hid hT
      have hsz := hT.below.size
      have hlen := isTo_length a k
      clear hT
      by_cases hlt : k < n
      · obtain ⟨b, off, x, rfl, _, hx, c0, c1, c2, c3⟩ := hRk.it_at hlt
        have hs := isTo_succ hx
        have hx0 := new_block wr #[.int .i64 x.r.at_, .int .i64 x.r.key, .int .i64 x.r.val, .int .i64 x.n] 40
        have f0 := cell_at_block (off := 0) hx0 rfl
        have f1 := cell_at_block (off := 1) hx0 rfl
        have f2 := cell_at_block (off := 2) hx0 rfl
        have f3 := cell_at_block (off := 3) hx0 rfl
        by_cases hp : 0 < x.n
        · have hd : decide (0 < x.n) = true := by simpa using hp
          rw [if_pos hp, if_pos hp] at hs
          have HS := Lib.hid hs
          generalize isTo a k = I at *
          generalize noTo a k = J at *
          clear hs hp hx hRk hx0
          go_wp2_with (at_builtin; go_loud (refine wpList_app1 It.vs 4 40 _ 32 infoIt rfl (by decide) rfl _ _ _ rfl Tryz.underlying23 w1.heap.size _ I rfl ((HT.out.a.alloc _).alloc _) x _ _ rfl rfl (newAt _ _ _ _ (by simp)) (by simp [It.vs, Value.oneCell']) (by omega) (by unfold maxLen; omega) (by simp; omega) (fun v4 w4 hown4 hg4 hl4 => ?_)))
          exact ⟨⟨k + 1, by omega, by go_num, by rw [HS.out.1, HS.out.2, List.append_nil]; exact ((HT.out.alloc _).alloc _).app hown4 hg4 hl4⟩, by simp [intOf]; omega⟩
        · have hd : decide (0 < x.n) = false := by simpa using hp
          rw [if_neg hp, if_neg hp] at hs
          have HS := Lib.hid hs
          generalize isTo a k = I at *
          generalize noTo a k = J at *
          clear hs hp hx hRk hx0
          go_wp2_with (at_builtin; go_loud (refine wpList_app1 It.vs 4 40 _ 32 infoIt rfl (by decide) rfl _ _ _ rfl Tryz.underlying23 w1.heap.size _ J rfl ((HT.out.b.alloc _).alloc _) x _ _ rfl rfl (newAt _ _ _ _ (by simp)) (by simp [It.vs, Value.oneCell']) (by omega) (by unfold maxLen; omega) (by simp; omega) (fun v4 w4 hown4 hg4 hl4 => ?_)))
          exact ⟨⟨k + 1, by omega, by go_num, by rw [HS.out.1, HS.out.2, List.append_nil]; exact (((HT.out.alloc _).alloc _).swap.app hown4 hg4 hl4).swap⟩, by simp [intOf]; omega⟩
      · have hk' : k = n := by omega
        subst hk'
        have e1 : isTo a k = isL a := by unfold isTo isL; rw [List.take_of_length_le (by rw [HA.out.len]; exact Nat.le_refl _)]
        have hn1 : (noTo a k).map negIt = notL a := by unfold noTo notL; rw [List.take_of_length_le (by rw [HA.out.len]; exact Nat.le_refl _)]
        have hr5 := HT.out.a.rdOf It.vs_length
        have hr6 := HT.out.b.rdOf It.vs_length
        have hmem : ∀ x ∈ noTo a k, -1000000000000000 ≤ x.n ∧ x.n ≤ 1000000000000000 := fun x hx => by
          have := (itB_spec x).1 (HSP.out.1 x (List.mem_of_mem_take (List.mem_filter.1 hx).1))
          omega
        have C1 := Lib.hid (contrary_any A6 _ c6 (noTo a k) wr (hr6.low (Nat.zero_le _)) hmem (by omega))
        have HR5 := Lib.hid hr5
        have H1 := Lib.hid e1
        have H2 := Lib.hid hn1
        clear hRk hlt e1 hn1 hr5 hr6 hmem hlen
        generalize (isTo a k).length = q at *
        generalize (noTo a k).length = p at *
        go_wp2_with (go_at_call 71; (with_reducible refine C1.out.mono ?_); rintro e w3 ⟨A7, c7, rfl, hr7, hb7⟩)
        go_ret3
        rw [E1.out]
        have hb3 := bchain HB1.out HT.out.below
        refine ⟨⟨_, _, _, _, _, _, rfl, ?_, ?_⟩, bchain hb3 hb7⟩
        · have := HR5.out
          rw [H1.out] at this
          exact (this.below hb7).low HB1.out.size
        · rw [H2.out] at hr7
          exact hr7.low hb3.size

set_option maxRecDepth 100000 in
set_option maxHeartbeats 2000000 in
theorem SplitR_any (A : Option Addr) (n capA : Nat) (a : List It) (w : World) (hA : Rd It.vs 4 w 0 A n a) :
    Calls Tryz.prog 29 #[.slice A n capA] w (RetTwo w (splitR a)) := by
  have Q1 := Lib.hid (Good_any A n capA a w hA)
  have HA := Lib.hid hA
  clear hA
  cases ga : bagB a with
  | false =>
    have e1 : splitR a = (([], []), 2) := by simp [splitR, ga]
    rw [e1]
    have GA := Lib.hid ga
    clear ga e1
    go_enter Tryz.func29, Tryz.ntmps29
    go_wp2_with (go_at_call 44; (with_reducible refine Q1.out.mono ?_); rintro e w1 ⟨rfl, hb1⟩; rw [GA.out]; have HB1 := Lib.hid hb1; clear hb1)
    go_ret3
    exact ⟨⟨_, _, _, _, _, _, rfl, Rd.nil _ _ _, Rd.nil _ _ _⟩, HB1.out⟩
  | true =>
    have E1 : Hid (splitR a = ((isL a, notL a), 0)) := by show _ = _; simp [splitR, ga]
    have hsp := (bagB_spec a).1 ga
    have HSP := Lib.hid hsp
    have GA := Lib.hid ga
    have hn3 : n ≤ 300 := by rw [← HA.out.len]; exact hsp.2.2
    clear ga hsp
    go_enter Tryz.func29, Tryz.ntmps29
    go_wp2_with fail
    (with_reducible refine Q1.out.mono ?_)
    rintro e w1 ⟨rfl, hb1⟩
    rw [GA.out]
    have HB1 := Lib.hid hb1
    clear hb1
    go_wp2_with fail
    go_loopw [5, 6, 8, 14] (fun v u _ i wr => ∃ k : Nat, k ≤ n ∧ i = .int .i64 k ∧ Two w1 (isTo a k) ((noTo a k).map negIt) v u wr) (fun _ _ _ i _ => n - (intOf i).toNat)
    case atStart => exact ⟨0, by omega, rfl, Two.start w1⟩
    case round =>
      obtain ⟨k, hk, rfl, hT⟩ := hrel
      obtain ⟨A5, c5, rfl⟩ := hT.a.shape
      obtain ⟨A6, c6, rfl⟩ := hT.b.shape
      have hRk := HA.out.below (bchain HB1.out hT.below)
      have HT := Lib.hid hT
      have hsz := hT.below.size
      have hlen := isTo_length a k
      have hlen2 : ((noTo a k).map negIt).length ≤ k := by rw [List.length_map]; exact hlen.2
      clear hT
      by_cases hlt : k < n
      · obtain ⟨b, off, x, rfl, _, hx, c0, c1, c2, c3⟩ := hRk.it_at hlt
        have hs := isTo_succ hx
        have hxn := (itB_spec x).1 (HSP.out.1 x (List.mem_of_getElem? hx))
        have hw : IntKind.i64.wrap (-x.n) = -x.n := IntWalk.i64_in _ (by omega)
        have hx0 := new_block wr #[.int .i64 x.r.at_, .int .i64 x.r.key, .int .i64 x.r.val, .int .i64 x.n] 40
        have f0 := cell_at_block (off := 0) hx0 rfl
        have f1 := cell_at_block (off := 1) hx0 rfl
        have f2 := cell_at_block (off := 2) hx0 rfl
        have f3 := cell_at_block (off := 3) hx0 rfl
        by_cases hp : 0 < x.n
        · have hd : decide (0 < x.n) = true := by simpa using hp
          rw [if_pos hp, if_pos hp, List.append_nil] at hs
          have HS := Lib.hid hs
          have HJ : Hid ((noTo a (k + 1)).map negIt = (noTo a k).map negIt) := by show _ = _; rw [hs.2]
          generalize isTo a k = I at *
          generalize (noTo a k).map negIt = J at *
          clear hs hp hx hRk hx0 hxn
          go_wp2_with (at_builtin; go_loud (refine wpList_app1 It.vs 4 40 _ 32 infoIt rfl (by decide) rfl _ _ _ rfl Tryz.underlying23 w1.heap.size _ I rfl ((HT.out.a.alloc _).alloc _) x _ _ rfl rfl (newAt _ _ _ _ (by simp)) (by simp [It.vs, Value.oneCell']) (by omega) (by unfold maxLen; omega) (by simp; omega) (fun v4 w4 hown4 hg4 hl4 => ?_)))
          exact ⟨⟨k + 1, by omega, by go_num, by rw [HS.out.1, HJ.out]; exact ((HT.out.alloc _).alloc _).app hown4 hg4 hl4⟩, by simp [intOf]; omega⟩
        · have hd : decide (0 < x.n) = false := by simpa using hp
          rw [if_neg hp, if_neg hp, List.append_nil] at hs
          have HS := Lib.hid hs
          have HJ : Hid ((noTo a (k + 1)).map negIt = (noTo a k).map negIt ++ [⟨x.r, -x.n⟩]) := by show _ = _; rw [hs.2]; simp [negIt]
          generalize isTo a k = I at *
          generalize (noTo a k).map negIt = J at *
          clear hs hp hx hRk hx0 hxn
          go_wp2_with (at_builtin; go_loud (refine wpList_app1 It.vs 4 40 _ 32 infoIt rfl (by decide) rfl _ _ _ rfl Tryz.underlying23 w1.heap.size _ J rfl ((HT.out.b.alloc _).alloc _) ⟨x.r, -x.n⟩ _ _ rfl rfl (newAt _ _ _ _ (by simp)) (by simp [It.vs, Value.oneCell']) (by omega) (by unfold maxLen; omega) (by simp; omega) (fun v4 w4 hown4 hg4 hl4 => ?_)))
          exact ⟨⟨k + 1, by omega, by go_num, by rw [HS.out.1, HJ.out]; exact (((HT.out.alloc _).alloc _).swap.app hown4 hg4 hl4).swap⟩, by simp [intOf]; omega⟩
      · have hk' : k = n := by omega
        subst hk'
        have e1 : isTo a k = isL a := by unfold isTo isL; rw [List.take_of_length_le (by rw [HA.out.len]; exact Nat.le_refl _)]
        have hn1 : (noTo a k).map negIt = notL a := by unfold noTo notL; rw [List.take_of_length_le (by rw [HA.out.len]; exact Nat.le_refl _)]
        have hr5 := HT.out.a.rdOf It.vs_length
        have hr6 := HT.out.b.rdOf It.vs_length
        have HR5 := Lib.hid hr5
        have HR6 := Lib.hid hr6
        have H1 := Lib.hid e1
        have H2 := Lib.hid hn1
        clear hRk hlt hlen hlen2 e1 hn1 hr5 hr6
        generalize (isTo a k).length = q at *
        generalize ((noTo a k).map negIt).length = p at *
        go_wp2_with fail
        go_ret3
        rw [E1.out]
        have hb3 := bchain HB1.out HT.out.below
        refine ⟨⟨_, _, _, _, _, _, rfl, ?_, ?_⟩, hb3⟩
        · have := HR5.out
          rw [H1.out] at this
          exact this.low HB1.out.size
        · have := HR6.out
          rw [H2.out] at this
          exact this.low HB1.out.size
end Go.Proofs.Bg
end

section
/- Plain law: edits lead from one bag to the other one, and none that do so are shorter. No program, no memory. -/
namespace Go.Proofs.Bg

/-! ### what edits add -/
def edIt (x : Ed) : List It := (if x.d = 1 then [] else [⟨x.old, -x.n⟩]) ++ (if x.d = 2 then [] else [⟨x.new, x.n⟩])
def edIts (l : List Ed) : List It := l.flatMap edIt
def edB (x : Ed) : Bool := withinB x.n 1 1000000 && (if x.d = 1 then recB x.new && decide (x.old = zRc) else if x.d = 2 then recB x.old && decide (x.new = zRc) else if x.d = 3 then recB x.old && (recB x.new && (!decide (x.old = x.new) && decide (x.old.key = x.new.key))) else false)
def doR (b : List It) (l : List Ed) : List It × Int := if bagB b && (decide (l.length ≤ 600) && l.all edB) then (bagOr (b ++ edIts l), errOr (b ++ edIts l)) else ([], 2)
def lenE (l : List Ed) : Int := (l.map (·.n)).sum
theorem lenE_append (a b : List Ed) : lenE (a ++ b) = lenE a + lenE b := by simp [lenE]
theorem edIts_append (a b : List Ed) : edIts (a ++ b) = edIts a ++ edIts b := by simp [edIts]
theorem edIts_cons (x : Ed) (r : List Ed) : edIts (x :: r) = edIt x ++ edIts r := by simp [edIts]

/-! ### what is above 0, and below, of a key -/
def posS (k : Int) : List It → Int
  | [] => 0
  | x :: r => (if x.r.key = k then max x.n 0 else 0) + posS k r
def negS (k : Int) : List It → Int
  | [] => 0
  | x :: r => (if x.r.key = k then max (-x.n) 0 else 0) + negS k r
theorem posS_append (k : Int) (a b : List It) : posS k (a ++ b) = posS k a + posS k b := by
  induction a with
  | nil => simp [posS]
  | cons x r ih => simp only [List.cons_append, posS, ih]; omega
theorem negS_append (k : Int) (a b : List It) : negS k (a ++ b) = negS k a + negS k b := by
  induction a with
  | nil => simp [negS]
  | cons x r ih => simp only [List.cons_append, negS, ih]; omega
theorem posS_neg (k : Int) (l : List It) : posS k (l.map negIt) = negS k l := by
  induction l with
  | nil => rfl
  | cons x r ih => simp only [List.map_cons, posS, negS, ih, negIt]
theorem posS_ins (k : Int) (x : It) (m : List It) : posS k (insIt x m) ≤ posS k (x :: m) := by
  induction m with
  | nil => exact Int.le_refl _
  | cons y r ih =>
    rw [insIt]
    split
    · exact Int.le_refl _
    · split
      · rename_i h
        simp only [posS, h]
        split <;> omega
      · simp only [posS] at ih ⊢
        omega
theorem negS_ins (k : Int) (x : It) (m : List It) : negS k (insIt x m) ≤ negS k (x :: m) := by
  induction m with
  | nil => exact Int.le_refl _
  | cons y r ih =>
    rw [insIt]
    split
    · exact Int.le_refl _
    · split
      · rename_i h
        simp only [negS, h]
        split <;> omega
      · simp only [negS] at ih ⊢
        omega
theorem posS_gather (k : Int) (l : List It) : posS k (gather l) ≤ posS k l := by
  induction l with
  | nil => exact Int.le_refl _
  | cons x r ih => rw [gather]; have := posS_ins k x (gather r); simp only [posS] at this ⊢; omega
theorem negS_gather (k : Int) (l : List It) : negS k (gather l) ≤ negS k l := by
  induction l with
  | nil => exact Int.le_refl _
  | cons x r ih => rw [gather]; have := negS_ins k x (gather r); simp only [negS] at this ⊢; omega
theorem posS_filter (k : Int) (l : List It) : posS k (l.filter (fun x => x.n != 0)) = posS k l := by
  induction l with
  | nil => rfl
  | cons x r ih =>
    rw [List.filter_cons]
    split
    · rw [posS, posS, ih]
    · rename_i h
      have : x.n = 0 := by simpa using h
      rw [ih, posS, this]
      split <;> omega
theorem negS_filter (k : Int) (l : List It) : negS k (l.filter (fun x => x.n != 0)) = negS k l := by
  induction l with
  | nil => rfl
  | cons x r ih =>
    rw [List.filter_cons]
    split
    · rw [negS, negS, ih]
    · rename_i h
      have : x.n = 0 := by simpa using h
      rw [ih, negS, this]
      split <;> omega
theorem posS_canon (k : Int) (l : List It) : posS k (canon l) ≤ posS k l := by rw [canon, posS_filter]; exact posS_gather k l
theorem negS_canon (k : Int) (l : List It) : negS k (canon l) ≤ negS k l := by rw [canon, negS_filter]; exact negS_gather k l

/-! ### how long edits are -/
def sumIt : List It → Int
  | [] => 0
  | x :: r => x.n + sumIt r
theorem sumIt_less (x : It) (r : List It) (k : Int) : sumIt (lessL (x :: r) k) = sumIt (x :: r) - k := by
  simp only [lessL]
  split <;> simp only [sumIt] <;> omega
theorem sumIt_pos {l : List It} (h : PosL l) : 0 ≤ sumIt l := by
  induction l with
  | nil => simp [sumIt]
  | cons x r ih =>
    have := h x List.mem_cons_self
    have := ih (fun y hy => h y (List.mem_cons_of_mem _ hy))
    simp only [sumIt]
    omega
theorem lenE_gone (l : List It) : lenE (l.map goneE) = sumIt l := by
  induction l with
  | nil => rfl
  | cons x r ih => simp only [lenE, List.map_cons, List.sum_cons, goneE, sumIt] at ih ⊢; omega
theorem lenE_say (l : List It) : lenE (l.map sayE) = sumIt l := by
  induction l with
  | nil => rfl
  | cons x r ih => simp only [lenE, List.map_cons, List.sum_cons, sayE, sumIt] at ih ⊢; omega
theorem lessL_pos {x : It} {r : List It} {k : Int} (h : PosL (x :: r)) (hk : 0 < k) (hk2 : k ≤ x.n) : PosL (lessL (x :: r) k) := h.less hk hk2
theorem turnF_len : ∀ (f : Nat) (l1 l2 : List It), PosL l1 → PosL l2 → l1.length + l2.length < f → lenE (turnF f l1 l2) = max (sumIt l1) (sumIt l2)
  | 0, _, _, _, _, h => absurd h (by omega)
  | f + 1, [], l2, _, h2, _ => by
    have := sumIt_pos h2
    rw [turnF, lenE_say]
    simp only [sumIt]
    omega
  | f + 1, x :: r, [], h1, _, _ => by
    have := sumIt_pos h1
    rw [turnF, lenE_gone]
    simp only [sumIt] at this ⊢
    omega
  | f + 1, x :: r, y :: s, h1, h2, hf => by
    have hx := h1 x List.mem_cons_self
    have hy := h2 y List.mem_cons_self
    have hm : 0 < min x.n y.n := by omega
    have e1 := lessL_length x r (min x.n y.n)
    have e2 := lessL_length y s (min x.n y.n)
    have ho : x.n = min x.n y.n ∨ y.n = min x.n y.n := by omega
    simp only [List.length_cons] at hf
    have ih := turnF_len f (lessL (x :: r) (min x.n y.n)) (lessL (y :: s) (min x.n y.n)) (lessL_pos h1 hm (by omega)) (lessL_pos h2 hm (by omega)) (by
      split at e1 <;> split at e2 <;> omega)
    rw [sumIt_less, sumIt_less] at ih
    rw [turnF]
    have : lenE (⟨3, x.r, y.r, min x.n y.n⟩ :: turnF f (lessL (x :: r) (min x.n y.n)) (lessL (y :: s) (min x.n y.n))) = min x.n y.n + lenE (turnF f (lessL (x :: r) (min x.n y.n)) (lessL (y :: s) (min x.n y.n))) := by simp [lenE]
    rw [this, ih]
    omega
theorem sumIt_miss (d : List It) (k : Int) : sumIt (missL d k) = negS k d := by
  unfold missL
  induction d with
  | nil => rfl
  | cons x r ih =>
    by_cases hk : x.r.key = k <;> by_cases hn : x.n < 0
    · simp [List.filter_cons, hk, hn, sumIt, negS, negIt, ih]; omega
    · simp [List.filter_cons, hk, hn, negS, ih]; omega
    · simp [List.filter_cons, hk, negS, ih]
    · simp [List.filter_cons, hk, negS, ih]
theorem sumIt_there (d : List It) (k : Int) : sumIt (thereL d k) = posS k d := by
  unfold thereL
  induction d with
  | nil => rfl
  | cons x r ih =>
    by_cases hk : x.r.key = k <;> by_cases hn : x.n < 0
    · simp [List.filter_cons, hk, hn, posS, ih]; omega
    · simp [List.filter_cons, hk, hn, sumIt, posS, ih]; omega
    · simp [List.filter_cons, hk, posS, ih]
    · simp [List.filter_cons, hk, posS, ih]
theorem edKey_len {d : List It} (h : DOk d) (k : Int) : lenE (edKey d k) = max (negS k d) (posS k d) := by
  have p1 : PosL (missL d k) := sideL_pos h k false
  have p2 : PosL (thereL d k) := sideL_pos h k true
  unfold edKey turnL
  rw [turnF_len _ _ _ p1 p2 (by omega), sumIt_miss, sumIt_there]
theorem editsL_len {d : List It} (h : DOk d) : lenE (editsL d) = ((keysL d).map (fun k => max (negS k d) (posS k d))).sum := by
  unfold editsL
  generalize keysL d = ks
  induction ks with
  | nil => rfl
  | cons k r ih => rw [List.flatMap_cons, lenE_append, ih, edKey_len h, List.map_cons, List.sum_cons]

/-! ### none are shorter -/
/-- The key of an edit. -/
def keyE (x : Ed) : Int := if x.d = 1 then x.new.key else x.old.key
theorem edB_spec {x : Ed} (h : edB x = true) : 1 ≤ x.n ∧ x.n ≤ 1000000 ∧ (x.d = 1 ∨ x.d = 2 ∨ (x.d = 3 ∧ x.old.key = x.new.key)) := by
  unfold edB at h
  rw [Bool.and_eq_true] at h
  obtain ⟨h1, h2⟩ := h
  simp [withinB] at h1
  refine ⟨h1.1, h1.2, ?_⟩
  split at h2
  · left; assumption
  · split at h2
    · right; left; assumption
    · split at h2
      · right; right
        simp at h2
        exact ⟨by assumption, h2.2.2.2⟩
      · cases h2
def ofKey (k : Int) (l : List Ed) : Int := (l.map (fun x => if keyE x = k then x.n else 0)).sum
theorem posS_edIt {x : Ed} (h : edB x = true) (k : Int) : posS k (edIt x) ≤ (if keyE x = k then x.n else 0) ∧ negS k (edIt x) ≤ (if keyE x = k then x.n else 0) := by
  obtain ⟨h1, h2, h3⟩ := edB_spec h
  unfold edIt keyE
  rcases h3 with h3 | h3 | ⟨h3, h4⟩
  · simp only [h3, if_pos, List.nil_append, posS, negS]
    constructor
    · simp [posS]; split <;> omega
    · simp [negS]; split <;> omega
  · simp only [h3]
    constructor
    · simp [posS]; split <;> omega
    · simp [negS]; split <;> omega
  · simp only [h3]
    constructor
    · simp [posS, h4]; split <;> omega
    · simp [negS, h4]; split <;> omega
theorem posS_edIts {l : List Ed} (h : ∀ x ∈ l, edB x = true) (k : Int) : posS k (edIts l) ≤ ofKey k l ∧ negS k (edIts l) ≤ ofKey k l := by
  induction l with
  | nil => exact ⟨Int.le_refl _, Int.le_refl _⟩
  | cons x r ih =>
    obtain ⟨i1, i2⟩ := ih (fun y hy => h y (List.mem_cons_of_mem _ hy))
    obtain ⟨j1, j2⟩ := posS_edIt (h x List.mem_cons_self) k
    rw [edIts_cons, posS_append, negS_append]
    simp only [ofKey, List.map_cons, List.sum_cons] at i1 i2 ⊢
    exact ⟨by omega, by omega⟩
theorem ofKey_cons (k : Int) (x : Ed) (l : List Ed) : ofKey k (x :: l) = (if keyE x = k then x.n else 0) + ofKey k l := by simp [ofKey]
theorem sum_one (ks : List Int) (hn : ks.Nodup) (k n : Int) (h : 0 ≤ n) : (ks.map (fun q => if k = q then n else 0)).sum ≤ n := by
  induction ks with
  | nil => simpa using h
  | cons q r ih =>
    obtain ⟨h1, h2⟩ := List.nodup_cons.1 hn
    rw [List.map_cons, List.sum_cons]
    by_cases e : k = q
    · subst e
      have : (r.map (fun q => if k = q then n else 0)).sum = 0 := by
        clear ih hn h2
        induction r with
        | nil => rfl
        | cons z t ih =>
          simp only [List.mem_cons, not_or] at h1
          rw [List.map_cons, List.sum_cons, if_neg h1.1, ih h1.2]
          rfl
      rw [if_pos rfl, this]
      omega
    · rw [if_neg e]
      have := ih h2
      omega
theorem ofKeys_le {l : List Ed} (h : ∀ x ∈ l, edB x = true) (ks : List Int) (hn : ks.Nodup) : (ks.map (fun k => ofKey k l)).sum ≤ lenE l := by
  induction l with
  | nil =>
    have : (ks.map (fun k => ofKey k [])).sum = 0 := by
      clear hn
      induction ks with
      | nil => rfl
      | cons k r ih => rw [List.map_cons, List.sum_cons, ih]; rfl
    rw [this]
    exact Int.le_refl _
  | cons x r ih =>
    have h1 := ih (fun y hy => h y (List.mem_cons_of_mem _ hy))
    have h2 := (edB_spec (h x List.mem_cons_self)).1
    have h3 := sum_one ks hn (keyE x) x.n (by omega)
    have e : (ks.map (fun k => ofKey k (x :: r))).sum = (ks.map (fun q => if keyE x = q then x.n else 0)).sum + (ks.map (fun k => ofKey k r)).sum := by
      clear hn h1 h3 ih
      induction ks with
      | nil => rfl
      | cons k t ih => rw [List.map_cons, List.sum_cons, ih, ofKey_cons, List.map_cons, List.sum_cons, List.map_cons, List.sum_cons]; omega
    have e2 : lenE (x :: r) = x.n + lenE r := by simp [lenE]
    omega
theorem incrI_nodup {l : List Int} (h : IncrI l) : l.Nodup := List.Pairwise.imp (fun {a b} (hab : a < b) => by omega) h
theorem sum_le_sum (ks : List Int) (f g : Int → Int) (h : ∀ k, f k ≤ g k) : (ks.map f).sum ≤ (ks.map g).sum := by
  induction ks with
  | nil => exact Int.le_refl _
  | cons k r ih => rw [List.map_cons, List.sum_cons, List.map_cons, List.sum_cons]; have := h k; omega
theorem least {a : List It} {l : List Ed} (hl : ∀ x ∈ l, edB x = true) (hd : DOk (diffL a (canon (a ++ edIts l)))) : lenE (editsL (diffL a (canon (a ++ edIts l)))) ≤ lenE l := by
  have e : diffL a (canon (a ++ edIts l)) = canon (edIts l) := canon_eq fun k => by
    rw [sumN_append, (canon_is _).sums, sumN_append, sumN_neg]
    omega
  rw [editsL_len hd, e]
  refine Int.le_trans (sum_le_sum _ _ (fun k => ofKey k l) (fun k => ?_)) (ofKeys_le hl _ (incrI_nodup (keysL_incr _)))
  have h1 := posS_canon k (edIts l)
  have h2 := negS_canon k (edIts l)
  obtain ⟨h3, h4⟩ := posS_edIts hl k
  omega

/-! ### they lead there -/
theorem sumN_less (x : It) (r : List It) (k : Int) (z : Rc) : sumN (lessL (x :: r) k) z = sumN (x :: r) z - (if x.r = z then k else 0) := by
  simp only [lessL]
  split <;> simp only [sumN] <;> split <;> omega
theorem gone_sum (l : List It) (z : Rc) : sumN (edIts (l.map goneE)) z = - sumN l z := by
  induction l with
  | nil => rfl
  | cons x r ih =>
    rw [List.map_cons, edIts_cons, sumN_append, ih]
    simp only [edIt, goneE, sumN]
    simp [sumN]
    split <;> omega
theorem say_sum (l : List It) (z : Rc) : sumN (edIts (l.map sayE)) z = sumN l z := by
  induction l with
  | nil => rfl
  | cons x r ih =>
    rw [List.map_cons, edIts_cons, sumN_append, ih]
    simp only [edIt, sayE, sumN]
    simp [sumN]
theorem turnF_sum : ∀ (f : Nat) (l1 l2 : List It) (z : Rc), PosL l1 → PosL l2 → l1.length + l2.length < f → sumN (edIts (turnF f l1 l2)) z = sumN l2 z - sumN l1 z
  | 0, _, _, _, _, _, h => absurd h (by omega)
  | f + 1, [], l2, z, _, h2, _ => by rw [turnF, say_sum]; simp [sumN]
  | f + 1, x :: r, [], z, h1, _, _ => by rw [turnF, gone_sum]; simp [sumN]
  | f + 1, x :: r, y :: s, z, h1, h2, hf => by
    have hx := h1 x List.mem_cons_self
    have hy := h2 y List.mem_cons_self
    have hm : 0 < min x.n y.n := by omega
    have e1 := lessL_length x r (min x.n y.n)
    have e2 := lessL_length y s (min x.n y.n)
    have ho : x.n = min x.n y.n ∨ y.n = min x.n y.n := by omega
    simp only [List.length_cons] at hf
    have ih := turnF_sum f (lessL (x :: r) (min x.n y.n)) (lessL (y :: s) (min x.n y.n)) z (lessL_pos h1 hm (by omega)) (lessL_pos h2 hm (by omega)) (by
      split at e1 <;> split at e2 <;> omega)
    rw [sumN_less, sumN_less] at ih
    rw [turnF, edIts_cons, sumN_append, ih]
    have : sumN (edIt ⟨3, x.r, y.r, min x.n y.n⟩) z = (if y.r = z then min x.n y.n else 0) - (if x.r = z then min x.n y.n else 0) := by
      simp [edIt, sumN]
      split <;> split <;> omega
    rw [this]
    omega
theorem miss_sum (d : List It) (k : Int) (z : Rc) : sumN (missL d k) z = if z.key = k then - sumN (d.filter (fun x => decide (x.n < 0))) z else 0 := by
  unfold missL
  induction d with
  | nil => simp [sumN]
  | cons x r ih =>
    by_cases hk : x.r.key = k <;> by_cases hn : x.n < 0
    · simp only [List.filter_cons, hk, hn, decide_true, Bool.and_self, if_true, List.map_cons, sumN, ih, negIt]
      by_cases hz : x.r = z
      · subst hz; simp [hk]; omega
      · simp [hz]
    · simp [List.filter_cons, hk, hn, ih]
    · simp only [List.filter_cons, hk, hn, decide_false, decide_true, Bool.false_and, if_true, Bool.false_eq_true, if_false, sumN, ih]
      by_cases hz : x.r = z
      · subst hz; simp [hk]
      · simp [hz]
    · simp [List.filter_cons, hk, hn, ih]
theorem there_sum (d : List It) (k : Int) (z : Rc) : sumN (thereL d k) z = if z.key = k then sumN (d.filter (fun x => !decide (x.n < 0))) z else 0 := by
  unfold thereL
  induction d with
  | nil => simp [sumN]
  | cons x r ih =>
    by_cases hk : x.r.key = k <;> by_cases hn : x.n < 0
    · simp [List.filter_cons, hk, hn, ih]
    · simp only [List.filter_cons, hk, hn, decide_true, decide_false, Bool.not_false, Bool.and_self, if_true, sumN, ih]
      by_cases hz : x.r = z
      · subst hz; simp [hk]
      · simp [hz]
    · simp [List.filter_cons, hk, hn, ih]
    · simp only [List.filter_cons, hk, hn, decide_false, Bool.not_false, Bool.false_and, Bool.false_eq_true, if_false, if_true, sumN, ih]
      by_cases hz : x.r = z
      · subst hz; simp [hk]
      · simp [hz]
theorem edKey_sum {d : List It} (h : DOk d) (k : Int) (z : Rc) : sumN (edIts (edKey d k)) z = if z.key = k then sumN d z else 0 := by
  have p1 : PosL (missL d k) := sideL_pos h k false
  have p2 : PosL (thereL d k) := sideL_pos h k true
  unfold edKey turnL
  rw [turnF_sum _ _ _ _ p1 p2 (by omega), miss_sum, there_sum]
  have := sumN_filter_add (fun x => decide (x.n < 0)) d z
  split <;> omega
theorem edits_sum0 {d : List It} (h : DOk d) (z : Rc) : ∀ ks : List Int, ks.Nodup → sumN (edIts (ks.flatMap (edKey d))) z = if z.key ∈ ks then sumN d z else 0
  | [], _ => by simp [edIts, sumN]
  | k :: r, hn => by
    obtain ⟨h1, h2⟩ := List.nodup_cons.1 hn
    rw [List.flatMap_cons, edIts_append, sumN_append, edKey_sum h, edits_sum0 h z r h2]
    by_cases hk : z.key = k
    · subst hk
      simp [h1]
    · simp [hk]
theorem edits_sum {d : List It} (h : DOk d) (z : Rc) : sumN (edIts (editsL d)) z = sumN d z := by
  unfold editsL
  rw [edits_sum0 h z _ (incrI_nodup (keysL_incr d))]
  split
  · rfl
  · rename_i hc
    rw [sumN_none]
    intro hm
    obtain ⟨x, hx, e⟩ := List.mem_map.1 hm
    exact hc ((keysL_mem d z.key).2 (List.mem_map.2 ⟨x, hx, by rw [e]⟩))
theorem edits_lead {a b : List It} (ha : bagB a = true) (hb : bagB b = true) : canon (a ++ edIts (editsL (diffL a b))) = b := by
  have h := diff_ok ha hb
  refine (canon_eq (l' := b) fun k => ?_).trans (canon_id hb)
  rw [sumN_append, edits_sum h, diffL, (canon_is _).sums, sumN_append, sumN_neg]
  omega

/-! ### each of them is one -/
/-- Records that lie in one list lie not in the other one. -/
def Apart (l1 l2 : List It) : Prop := ∀ x ∈ l1, ∀ y ∈ l2, x.r ≠ y.r
theorem less_mem {x : It} {r : List It} {k : Int} {z : It} (h : z ∈ lessL (x :: r) k) : ∃ y ∈ x :: r, y.r = z.r := by
  simp only [lessL] at h
  split at h
  · exact ⟨z, List.mem_cons_of_mem _ h, rfl⟩
  · rcases List.mem_cons.1 h with rfl | h
    · exact ⟨x, List.mem_cons_self, rfl⟩
    · exact ⟨z, List.mem_cons_of_mem _ h, rfl⟩
/-- What is asked of the items of a side. -/
def SideOk (key : Int) (l : List It) : Prop := ∀ x ∈ l, recB x.r = true ∧ x.r.key = key
theorem less_side {x : It} {r : List It} {k key : Int} (h : SideOk key (x :: r)) : SideOk key (lessL (x :: r) k) := fun z hz => by
  obtain ⟨y, hy, e⟩ := less_mem hz
  rw [← e]
  exact h y hy
theorem less_apart {x y : It} {r s : List It} {j k : Int} (h : Apart (x :: r) (y :: s)) : Apart (lessL (x :: r) j) (lessL (y :: s) k) := fun u hu v hv => by
  obtain ⟨u', hu', e1⟩ := less_mem hu
  obtain ⟨v', hv', e2⟩ := less_mem hv
  rw [← e1, ← e2]
  exact h u' hu' v' hv'
/-- An edit as it must be, but for a number that is too great. -/
def edOk (x : Ed) : Prop := 1 ≤ x.n ∧ (x.n ≤ 1000000 → edB x = true)
theorem turnF_ok (key : Int) : ∀ (f : Nat) (l1 l2 : List It), PosL l1 → PosL l2 → SideOk key l1 → SideOk key l2 → Apart l1 l2 → ∀ e ∈ turnF f l1 l2, edOk e
  | 0, _, _, _, _, _, _, _, e, he => by cases he
  | f + 1, [], l2, _, h2, _, s2, _, e, he => by
    rw [turnF] at he
    obtain ⟨x, hx, rfl⟩ := List.mem_map.1 he
    have := h2 x hx
    have := s2 x hx
    refine ⟨by simp only [sayE]; omega, fun hm => ?_⟩
    simp only [sayE] at hm
    have e4 : withinB x.n 1 1000000 = true := by simp [withinB]; omega
    simp [edB, sayE, e4, this.1]
  | f + 1, x :: r, [], h1, _, s1, _, _, e, he => by
    rw [turnF] at he
    obtain ⟨y, hy, rfl⟩ := List.mem_map.1 he
    have := h1 y hy
    have := s1 y hy
    refine ⟨by simp only [goneE]; omega, fun hm => ?_⟩
    simp only [goneE] at hm
    have e4 : withinB y.n 1 1000000 = true := by simp [withinB]; omega
    simp [edB, goneE, e4, this.1]
  | f + 1, x :: r, y :: s, h1, h2, s1, s2, ap, e, he => by
    have hx := h1 x List.mem_cons_self
    have hy := h2 y List.mem_cons_self
    have hm : 0 < min x.n y.n := by omega
    rw [turnF] at he
    rcases List.mem_cons.1 he with rfl | he
    · have a1 := s1 x List.mem_cons_self
      have a2 := s2 y List.mem_cons_self
      have a3 := ap x List.mem_cons_self y List.mem_cons_self
      refine ⟨by simp only; omega, fun hm2 => ?_⟩
      simp only at hm2
      have e2 : decide (x.r = y.r) = false := by simpa using a3
      have e3 : x.r.key = y.r.key := by rw [a1.2, a2.2]
      have e4 : withinB (min x.n y.n) 1 1000000 = true := by simp [withinB]; omega
      simp [edB, a1.1, a2.1, e2, e3, e4]
    · exact turnF_ok key f _ _ (lessL_pos h1 hm (by omega)) (lessL_pos h2 hm (by omega)) (less_side s1) (less_side s2) (less_apart ap) e he
theorem editsL_ok {a b : List It} (ha : bagB a = true) (hb : bagB b = true) : ∀ e ∈ editsL (diffL a b), edOk e := by
  intro e he
  have h := diff_ok ha hb
  have hrec : ∀ x ∈ diffL a b, recB x.r = true := fun x hx => by
    obtain ⟨y, hy, e⟩ := List.mem_map.1 (canon_mem _ _ (List.mem_map.2 ⟨x, hx, rfl⟩))
    rw [← e]
    have : itB y = true := (List.mem_append.1 hy).elim (((bagB_spec _).1 (bagB_neg ha)).1 y) (((bagB_spec b).1 hb).1 y)
    unfold itB at this
    rw [Bool.and_eq_true] at this
    exact this.1
  obtain ⟨k, hk, he⟩ := List.mem_flatMap.1 he
  refine turnF_ok k _ _ _ (sideL_pos h k false) (sideL_pos h k true) (fun x hx => ?_) (fun x hx => ?_) (fun x hx y hy e => ?_) e he
  · obtain ⟨y, hy, rfl⟩ := List.mem_map.1 hx
    obtain ⟨hy, hc⟩ := List.mem_filter.1 hy
    simp at hc
    exact ⟨hrec y hy, hc.1⟩
  · obtain ⟨hy, hc⟩ := List.mem_filter.1 hx
    simp at hc
    exact ⟨hrec x hy, hc.1⟩
  · obtain ⟨z, hz, rfl⟩ := List.mem_map.1 hx
    obtain ⟨hz, hc⟩ := List.mem_filter.1 hz
    obtain ⟨hy, hd⟩ := List.mem_filter.1 hy
    have n1 := sumN_at (canon_is _).incr hz
    have n2 := sumN_at (canon_is _).incr hy
    simp only [negIt] at e
    rw [e] at n1
    simp at hc hd
    omega
theorem bigE_false {l : List Ed} (h : bigE l = false) : ∀ x ∈ l, x.n ≤ 1000000 := by
  unfold bigE at h
  rw [List.any_eq_false] at h
  intro x hx
  have := h x hx
  simp at this
  exact this
theorem editsR_ok {a b : List It} (h : (editsR a b).2 = 0) : bagB a = true ∧ bagB b = true ∧ bigE (editsL (diffL a b)) = false ∧ (editsR a b).1 = editsL (diffL a b) := by
  unfold editsR at *
  cases ha : bagB a <;> cases hb : bagB b <;> cases hc : bigE (editsL (diffL a b)) <;> simp_all
theorem do_edits {a b : List It} (h : (editsR a b).2 = 0) (hl : (editsR a b).1.length ≤ 600) : doR a (editsR a b).1 = (b, 0) := by
  obtain ⟨ha, hb, hg, e⟩ := editsR_ok h
  rw [e] at hl ⊢
  have hall : (editsL (diffL a b)).all edB = true := List.all_eq_true.2 fun x hx => (editsL_ok ha hb x hx).2 (bigE_false hg x hx)
  simp only [doR, ha, hl, hall, decide_true, bagOr, errOr, edits_lead ha hb, hb]
  rfl

/-! ### and back they are as long -/
def flipE (x : Ed) : Ed := ⟨if x.d = 1 then 2 else if x.d = 2 then 1 else x.d, x.new, x.old, x.n⟩
theorem turnF_flip : ∀ (f : Nat) (l1 l2 : List It), turnF f l2 l1 = (turnF f l1 l2).map flipE
  | 0, _, _ => rfl
  | f + 1, [], [] => rfl
  | f + 1, [], y :: s => by
    rw [turnF, turnF, List.map_map]
    exact List.map_congr_left fun x _ => rfl
  | f + 1, x :: r, [] => by
    rw [turnF, turnF, List.map_map]
    exact List.map_congr_left fun x _ => rfl
  | f + 1, x :: r, y :: s => by
    have e : min y.n x.n = min x.n y.n := by omega
    rw [turnF, turnF, List.map_cons, e, turnF_flip f]
    rfl
theorem miss_neg {d : List It} (h : ∀ x ∈ d, x.n ≠ 0) (k : Int) : missL (d.map negIt) k = thereL d k ∧ thereL (d.map negIt) k = missL d k := by
  unfold missL thereL
  induction d with
  | nil => exact ⟨rfl, rfl⟩
  | cons x r ih =>
    obtain ⟨i1, i2⟩ := ih (fun y hy => h y (List.mem_cons_of_mem _ hy))
    have h0 := h x List.mem_cons_self
    by_cases hk : x.r.key = k
    · by_cases hn : x.n < 0
      · have : ¬ 0 < x.n := by omega
        simp [List.filter_cons, negIt, hk, hn, this] at i1 i2 ⊢
        exact ⟨i1, i2⟩
      · have : 0 < x.n := by omega
        simp [List.filter_cons, negIt, hk, hn, this] at i1 i2 ⊢
        exact ⟨i1, i2⟩
    · simp [List.filter_cons, negIt, hk] at i1 i2 ⊢
      exact ⟨i1, i2⟩
theorem diff_back (a b : List It) : diffL b a = (diffL a b).map negIt := by
  have hi := canon_is (a.map negIt ++ b)
  refine (IsBag.eq ⟨?_, fun x hx => ?_, fun k => ?_⟩).symm
  · have e : ((diffL a b).map negIt).map (·.r) = (diffL a b).map (·.r) := by rw [List.map_map]; exact List.map_congr_left fun x _ => rfl
    rw [e]
    exact hi.incr
  · obtain ⟨y, hy, rfl⟩ := List.mem_map.1 hx
    have := hi.not0 y hy
    simp only [negIt]
    omega
  · rw [sumN_neg, diffL, hi.sums, sumN_append, sumN_append, sumN_neg, sumN_neg]
    omega
theorem keysL_neg (d : List It) : keysL (d.map negIt) = keysL d := by
  induction d with
  | nil => rfl
  | cons x r ih => rw [List.map_cons, keysL, keysL, ih]; rfl
theorem edits_back {a b : List It} : editsL (diffL b a) = (editsL (diffL a b)).map flipE := by
  rw [diff_back, editsL, editsL, keysL_neg, List.map_flatMap]
  congr 1
  funext k
  obtain ⟨m1, m2⟩ := miss_neg (fun x hx => (canon_is (a.map negIt ++ b)).not0 x hx) (d := diffL a b) k
  unfold edKey turnL
  rw [m1, m2, turnF_flip, Nat.add_comm (thereL (diffL a b) k).length]
theorem lenE_flip (l : List Ed) : lenE (l.map flipE) = lenE l := by
  unfold lenE
  rw [List.map_map]
  rfl
theorem bigE_flip (l : List Ed) : bigE (l.map flipE) = bigE l := by
  unfold bigE
  rw [List.any_map]
  rfl
theorem edits_back_ok {a b : List It} (h : (editsR a b).2 = 0) : (editsR b a).2 = 0 ∧ lenE (editsR b a).1 = lenE (editsR a b).1 := by
  obtain ⟨ha, hb, hg, e⟩ := editsR_ok h
  have e2 : editsR b a = ((editsL (diffL a b)).map flipE, 0) := by
    unfold editsR
    rw [edits_back, bigE_flip, hg, ha, hb]
    rfl
  rw [e2, e, lenE_flip]
  exact ⟨rfl, rfl⟩
theorem doR_ok {a : List It} {l : List Ed} (h : (doR a l).2 = 0) : bagB a = true ∧ l.length ≤ 600 ∧ (∀ x ∈ l, edB x = true) ∧ bagB (canon (a ++ edIts l)) = true ∧ (doR a l).1 = canon (a ++ edIts l) := by
  unfold doR bagOr errOr at *
  by_cases hl : l.length ≤ 600
  · cases ha : bagB a <;> cases hb : l.all edB <;> cases hc : bagB (canon (a ++ edIts l)) <;> simp_all
  · simp [hl] at h
theorem edits_least {a : List It} {l : List Ed} (h : (doR a l).2 = 0) : (editsR a (doR a l).1).2 = 3 ∨ ((editsR a (doR a l).1).2 = 0 ∧ lenE (editsR a (doR a l).1).1 ≤ lenE l) := by
  obtain ⟨ha, hl, hall, hc, e⟩ := doR_ok h
  rw [e]
  have hL := least hall (diff_ok ha hc)
  unfold editsR
  rw [ha, hc]
  cases hg : bigE (editsL (diffL a (canon (a ++ edIts l))))
  · exact .inr ⟨rfl, hL⟩
  · exact .inl rfl
end Go.Proofs.Bg
end

section
/- The contracts of isEdit, and of the reference's Edit. -/
namespace Go.Proofs.Bg
open Go.RowKit

theorem box8 {w1 : World} {g : Nat} {v0 v1 v2 v3 v4 v5 v6 v7 : Value} {T : TypeId} (h : w1.heap[g]? = some (.cells #[v0, v1, v2, v3, v4, v5, v6, v7] T)) :
    w1.cell? ⟨g, 0, none⟩ = some v0 ∧ w1.cell? ⟨g, 1, none⟩ = some v1 ∧ w1.cell? ⟨g, 2, none⟩ = some v2 ∧ w1.cell? ⟨g, 3, none⟩ = some v3 ∧ w1.cell? ⟨g, 4, none⟩ = some v4 ∧ w1.cell? ⟨g, 5, none⟩ = some v5 ∧ w1.cell? ⟨g, 6, none⟩ = some v6 ∧ w1.cell? ⟨g, 7, none⟩ = some v7 :=
  ⟨cell_at_block h rfl, cell_at_block h rfl, cell_at_block h rfl, cell_at_block h rfl, cell_at_block h rfl, cell_at_block h rfl, cell_at_block h rfl, cell_at_block h rfl⟩
theorem block_keep {w w1 w2 : World} {g : Nat} {o : Obj} (h : w1.heap[g]? = some o) (hb : Below w1.heap.size w1 w2) : w2.heap[g]? = some o := (hb.block g (Array.getElem?_eq_some_iff.1 h).1).trans h

set_option maxRecDepth 100000 in
set_option maxHeartbeats 4000000 in
theorem isEdit_any (d a k v a' k' v' n : Int) (w : World) :
    Calls Tryz.prog 80 #[.agg #[.int .i64 d, .int .i64 a, .int .i64 k, .int .i64 v, .int .i64 a', .int .i64 k', .int .i64 v', .int .i64 n]] w fun e w' => e = .returned (.bool (edB ⟨d, ⟨a, k, v⟩, ⟨a', k', v'⟩, n⟩)) ∧ Below w.heap.size w w' := by
  have HR1 : Hid (∀ w, Calls Tryz.prog 66 #[.agg #[.int .i64 a, .int .i64 k, .int .i64 v]] w fun e w' => e = .returned (.bool (recB ⟨a, k, v⟩)) ∧ Below w.heap.size w w') := fun w => isRec_any ⟨a, k, v⟩ w
  have HR2 : Hid (∀ w, Calls Tryz.prog 66 #[.agg #[.int .i64 a', .int .i64 k', .int .i64 v']] w fun e w' => e = .returned (.bool (recB ⟨a', k', v'⟩)) ∧ Below w.heap.size w w') := fun w => isRec_any ⟨a', k', v'⟩ w
  cases hn : withinB n 1 1000000 with
  | false =>
    have HN := Lib.hid hn
    have EB : Hid (edB ⟨d, ⟨a, k, v⟩, ⟨a', k', v'⟩, n⟩ = false) := by show _ = _; simp [edB, hn]
    have HB := Lib.hid (below_new w (.cells #[.int .i64 d, .int .i64 a, .int .i64 k, .int .i64 v, .int .i64 a', .int .i64 k', .int .i64 v', .int .i64 n] 79))
    have HK := Lib.hid (new_block w #[.int .i64 d, .int .i64 a, .int .i64 k, .int .i64 v, .int .i64 a', .int .i64 k', .int .i64 v', .int .i64 n] 79)
    clear hn
    go_enter Tryz.func80, Tryz.ntmps80
    go_wp2_with ((go_at_call 67; (with_reducible refine (within_any _ _ _ _).mono ?_); rintro e w' ⟨rfl, rfl⟩; rw [HN.out]))
    go_ret
    rw [EB.out]
    exact ⟨rfl, HB.out⟩
  | true =>
    have HN := Lib.hid hn
    by_cases hd : d = 1
    · subst hd
      cases hr : recB ⟨a', k', v'⟩ with
      | false =>
        have H2 := Lib.hid hr
        have EB : Hid (edB ⟨1, ⟨a, k, v⟩, ⟨a', k', v'⟩, n⟩ = false) := by show _ = _; simp [edB, hn, hr]
        have HB := Lib.hid (below_new w (.cells #[.int .i64 1, .int .i64 a, .int .i64 k, .int .i64 v, .int .i64 a', .int .i64 k', .int .i64 v', .int .i64 n] 79))
        have HK := Lib.hid (new_block w #[.int .i64 1, .int .i64 a, .int .i64 k, .int .i64 v, .int .i64 a', .int .i64 k', .int .i64 v', .int .i64 n] 79)
        clear hn hr
        go_enter Tryz.func80, Tryz.ntmps80
        go_wp2_with (first | (go_at_call 67; (with_reducible refine (within_any _ _ _ _).mono ?_); rintro e w' ⟨rfl, rfl⟩; rw [HN.out]) | (go_at_call 66; (with_reducible refine (HR2.out _).mono ?_); rintro e w' ⟨rfl, hb⟩; rw [H2.out]; have hk' := block_keep (w := w) HK.out hb; obtain ⟨c0, c1, c2, c3, c4, c5, c6, c7⟩ := box8 hk'; have HBa := Lib.hid (bchain HB.out hb); clear HK HB; have HK := Lib.hid hk'; have HB := Lib.hid HBa.out; clear hk' hb HBa))
        go_ret
        rw [EB.out]
        exact ⟨rfl, HB.out⟩
      | true =>
        have H2 := Lib.hid hr
        by_cases hz : a = 0
        · subst hz
          by_cases hz : k = 0
          · subst hz
            by_cases hz : v = 0
            · subst hz
              have EB : Hid (edB ⟨1, ⟨0, 0, 0⟩, ⟨a', k', v'⟩, n⟩ = true) := by show _ = _; simp [edB, hn, hr, zRc]
              have HB := Lib.hid (below_new w (.cells #[.int .i64 1, .int .i64 0, .int .i64 0, .int .i64 0, .int .i64 a', .int .i64 k', .int .i64 v', .int .i64 n] 79))
              have HK := Lib.hid (new_block w #[.int .i64 1, .int .i64 0, .int .i64 0, .int .i64 0, .int .i64 a', .int .i64 k', .int .i64 v', .int .i64 n] 79)
              clear hn hr
              go_enter Tryz.func80, Tryz.ntmps80
              go_wp2_with (first | (go_at_call 67; (with_reducible refine (within_any _ _ _ _).mono ?_); rintro e w' ⟨rfl, rfl⟩; rw [HN.out]) | (go_at_call 66; (with_reducible refine (HR2.out _).mono ?_); rintro e w' ⟨rfl, hb⟩; rw [H2.out]; have hk' := block_keep (w := w) HK.out hb; obtain ⟨c0, c1, c2, c3, c4, c5, c6, c7⟩ := box8 hk'; have HBa := Lib.hid (bchain HB.out hb); clear HK HB; have HK := Lib.hid hk'; have HB := Lib.hid HBa.out; clear hk' hb HBa))
              go_ret
              rw [EB.out]
              exact ⟨rfl, HB.out⟩
            · have q : (v == 0) = false := by simpa using hz
              have q1 : (v != 0) = true := by simpa using hz
              have EB : Hid (edB ⟨1, ⟨0, 0, v⟩, ⟨a', k', v'⟩, n⟩ = false) := by show _ = _; simp [edB, hn, hr, zRc, hz]
              have HB := Lib.hid (below_new w (.cells #[.int .i64 1, .int .i64 0, .int .i64 0, .int .i64 v, .int .i64 a', .int .i64 k', .int .i64 v', .int .i64 n] 79))
              have HK := Lib.hid (new_block w #[.int .i64 1, .int .i64 0, .int .i64 0, .int .i64 v, .int .i64 a', .int .i64 k', .int .i64 v', .int .i64 n] 79)
              clear hn hz hr
              go_enter Tryz.func80, Tryz.ntmps80
              go_wp2_with (first | (go_at_call 67; (with_reducible refine (within_any _ _ _ _).mono ?_); rintro e w' ⟨rfl, rfl⟩; rw [HN.out]) | (go_at_call 66; (with_reducible refine (HR2.out _).mono ?_); rintro e w' ⟨rfl, hb⟩; rw [H2.out]; have hk' := block_keep (w := w) HK.out hb; obtain ⟨c0, c1, c2, c3, c4, c5, c6, c7⟩ := box8 hk'; have HBa := Lib.hid (bchain HB.out hb); clear HK HB; have HK := Lib.hid hk'; have HB := Lib.hid HBa.out; clear hk' hb HBa))
              go_ret
              rw [EB.out]
              exact ⟨rfl, HB.out⟩
          · have q : (k == 0) = false := by simpa using hz
            have q1 : (k != 0) = true := by simpa using hz
            have EB : Hid (edB ⟨1, ⟨0, k, v⟩, ⟨a', k', v'⟩, n⟩ = false) := by show _ = _; simp [edB, hn, hr, zRc, hz]
            have HB := Lib.hid (below_new w (.cells #[.int .i64 1, .int .i64 0, .int .i64 k, .int .i64 v, .int .i64 a', .int .i64 k', .int .i64 v', .int .i64 n] 79))
            have HK := Lib.hid (new_block w #[.int .i64 1, .int .i64 0, .int .i64 k, .int .i64 v, .int .i64 a', .int .i64 k', .int .i64 v', .int .i64 n] 79)
            clear hn hz hr
            go_enter Tryz.func80, Tryz.ntmps80
            go_wp2_with (first | (go_at_call 67; (with_reducible refine (within_any _ _ _ _).mono ?_); rintro e w' ⟨rfl, rfl⟩; rw [HN.out]) | (go_at_call 66; (with_reducible refine (HR2.out _).mono ?_); rintro e w' ⟨rfl, hb⟩; rw [H2.out]; have hk' := block_keep (w := w) HK.out hb; obtain ⟨c0, c1, c2, c3, c4, c5, c6, c7⟩ := box8 hk'; have HBa := Lib.hid (bchain HB.out hb); clear HK HB; have HK := Lib.hid hk'; have HB := Lib.hid HBa.out; clear hk' hb HBa))
            go_ret
            rw [EB.out]
            exact ⟨rfl, HB.out⟩
        · have q : (a == 0) = false := by simpa using hz
          have q1 : (a != 0) = true := by simpa using hz
          have EB : Hid (edB ⟨1, ⟨a, k, v⟩, ⟨a', k', v'⟩, n⟩ = false) := by show _ = _; simp [edB, hn, hr, zRc, hz]
          have HB := Lib.hid (below_new w (.cells #[.int .i64 1, .int .i64 a, .int .i64 k, .int .i64 v, .int .i64 a', .int .i64 k', .int .i64 v', .int .i64 n] 79))
          have HK := Lib.hid (new_block w #[.int .i64 1, .int .i64 a, .int .i64 k, .int .i64 v, .int .i64 a', .int .i64 k', .int .i64 v', .int .i64 n] 79)
          clear hn hz hr
          go_enter Tryz.func80, Tryz.ntmps80
          go_wp2_with (first | (go_at_call 67; (with_reducible refine (within_any _ _ _ _).mono ?_); rintro e w' ⟨rfl, rfl⟩; rw [HN.out]) | (go_at_call 66; (with_reducible refine (HR2.out _).mono ?_); rintro e w' ⟨rfl, hb⟩; rw [H2.out]; have hk' := block_keep (w := w) HK.out hb; obtain ⟨c0, c1, c2, c3, c4, c5, c6, c7⟩ := box8 hk'; have HBa := Lib.hid (bchain HB.out hb); clear HK HB; have HK := Lib.hid hk'; have HB := Lib.hid HBa.out; clear hk' hb HBa))
          go_ret
          rw [EB.out]
          exact ⟨rfl, HB.out⟩
    · have q1 : (d == 1) = false := by simpa using hd
      by_cases hd2 : d = 2
      · subst hd2
        clear q1 hd
        cases hr : recB ⟨a, k, v⟩ with
        | false =>
          have H1 := Lib.hid hr
          have EB : Hid (edB ⟨2, ⟨a, k, v⟩, ⟨a', k', v'⟩, n⟩ = false) := by show _ = _; simp [edB, hn, hr]
          have HB := Lib.hid (below_new w (.cells #[.int .i64 2, .int .i64 a, .int .i64 k, .int .i64 v, .int .i64 a', .int .i64 k', .int .i64 v', .int .i64 n] 79))
          have HK := Lib.hid (new_block w #[.int .i64 2, .int .i64 a, .int .i64 k, .int .i64 v, .int .i64 a', .int .i64 k', .int .i64 v', .int .i64 n] 79)
          clear hn hr
          go_enter Tryz.func80, Tryz.ntmps80
          go_wp2_with (first | (go_at_call 67; (with_reducible refine (within_any _ _ _ _).mono ?_); rintro e w' ⟨rfl, rfl⟩; rw [HN.out]) | (go_at_call 66; (with_reducible refine (HR1.out _).mono ?_); rintro e w' ⟨rfl, hb⟩; rw [H1.out]; have hk' := block_keep (w := w) HK.out hb; obtain ⟨c0, c1, c2, c3, c4, c5, c6, c7⟩ := box8 hk'; have HBa := Lib.hid (bchain HB.out hb); clear HK HB; have HK := Lib.hid hk'; have HB := Lib.hid HBa.out; clear hk' hb HBa))
          go_ret
          rw [EB.out]
          exact ⟨rfl, HB.out⟩
        | true =>
          have H1 := Lib.hid hr
          by_cases hz : a' = 0
          · subst hz
            by_cases hz : k' = 0
            · subst hz
              by_cases hz : v' = 0
              · subst hz
                have EB : Hid (edB ⟨2, ⟨a, k, v⟩, ⟨0, 0, 0⟩, n⟩ = true) := by show _ = _; simp [edB, hn, hr, zRc]
                have HB := Lib.hid (below_new w (.cells #[.int .i64 2, .int .i64 a, .int .i64 k, .int .i64 v, .int .i64 0, .int .i64 0, .int .i64 0, .int .i64 n] 79))
                have HK := Lib.hid (new_block w #[.int .i64 2, .int .i64 a, .int .i64 k, .int .i64 v, .int .i64 0, .int .i64 0, .int .i64 0, .int .i64 n] 79)
                clear hn hr
                go_enter Tryz.func80, Tryz.ntmps80
                go_wp2_with (first | (go_at_call 67; (with_reducible refine (within_any _ _ _ _).mono ?_); rintro e w' ⟨rfl, rfl⟩; rw [HN.out]) | (go_at_call 66; (with_reducible refine (HR1.out _).mono ?_); rintro e w' ⟨rfl, hb⟩; rw [H1.out]; have hk' := block_keep (w := w) HK.out hb; obtain ⟨c0, c1, c2, c3, c4, c5, c6, c7⟩ := box8 hk'; have HBa := Lib.hid (bchain HB.out hb); clear HK HB; have HK := Lib.hid hk'; have HB := Lib.hid HBa.out; clear hk' hb HBa))
                go_ret
                rw [EB.out]
                exact ⟨rfl, HB.out⟩
              · have q : (v' == 0) = false := by simpa using hz
                have q1 : (v' != 0) = true := by simpa using hz
                have EB : Hid (edB ⟨2, ⟨a, k, v⟩, ⟨0, 0, v'⟩, n⟩ = false) := by show _ = _; simp [edB, hn, hr, zRc, hz]
                have HB := Lib.hid (below_new w (.cells #[.int .i64 2, .int .i64 a, .int .i64 k, .int .i64 v, .int .i64 0, .int .i64 0, .int .i64 v', .int .i64 n] 79))
                have HK := Lib.hid (new_block w #[.int .i64 2, .int .i64 a, .int .i64 k, .int .i64 v, .int .i64 0, .int .i64 0, .int .i64 v', .int .i64 n] 79)
                clear hn hz hr
                go_enter Tryz.func80, Tryz.ntmps80
                go_wp2_with (first | (go_at_call 67; (with_reducible refine (within_any _ _ _ _).mono ?_); rintro e w' ⟨rfl, rfl⟩; rw [HN.out]) | (go_at_call 66; (with_reducible refine (HR1.out _).mono ?_); rintro e w' ⟨rfl, hb⟩; rw [H1.out]; have hk' := block_keep (w := w) HK.out hb; obtain ⟨c0, c1, c2, c3, c4, c5, c6, c7⟩ := box8 hk'; have HBa := Lib.hid (bchain HB.out hb); clear HK HB; have HK := Lib.hid hk'; have HB := Lib.hid HBa.out; clear hk' hb HBa))
                go_ret
                rw [EB.out]
                exact ⟨rfl, HB.out⟩
            · have q : (k' == 0) = false := by simpa using hz
              have q1 : (k' != 0) = true := by simpa using hz
              have EB : Hid (edB ⟨2, ⟨a, k, v⟩, ⟨0, k', v'⟩, n⟩ = false) := by show _ = _; simp [edB, hn, hr, zRc, hz]
              have HB := Lib.hid (below_new w (.cells #[.int .i64 2, .int .i64 a, .int .i64 k, .int .i64 v, .int .i64 0, .int .i64 k', .int .i64 v', .int .i64 n] 79))
              have HK := Lib.hid (new_block w #[.int .i64 2, .int .i64 a, .int .i64 k, .int .i64 v, .int .i64 0, .int .i64 k', .int .i64 v', .int .i64 n] 79)
              clear hn hz hr
              go_enter Tryz.func80, Tryz.ntmps80
              go_wp2_with (first | (go_at_call 67; (with_reducible refine (within_any _ _ _ _).mono ?_); rintro e w' ⟨rfl, rfl⟩; rw [HN.out]) | (go_at_call 66; (with_reducible refine (HR1.out _).mono ?_); rintro e w' ⟨rfl, hb⟩; rw [H1.out]; have hk' := block_keep (w := w) HK.out hb; obtain ⟨c0, c1, c2, c3, c4, c5, c6, c7⟩ := box8 hk'; have HBa := Lib.hid (bchain HB.out hb); clear HK HB; have HK := Lib.hid hk'; have HB := Lib.hid HBa.out; clear hk' hb HBa))
              go_ret
              rw [EB.out]
              exact ⟨rfl, HB.out⟩
          · have q : (a' == 0) = false := by simpa using hz
            have q1 : (a' != 0) = true := by simpa using hz
            have EB : Hid (edB ⟨2, ⟨a, k, v⟩, ⟨a', k', v'⟩, n⟩ = false) := by show _ = _; simp [edB, hn, hr, zRc, hz]
            have HB := Lib.hid (below_new w (.cells #[.int .i64 2, .int .i64 a, .int .i64 k, .int .i64 v, .int .i64 a', .int .i64 k', .int .i64 v', .int .i64 n] 79))
            have HK := Lib.hid (new_block w #[.int .i64 2, .int .i64 a, .int .i64 k, .int .i64 v, .int .i64 a', .int .i64 k', .int .i64 v', .int .i64 n] 79)
            clear hn hz hr
            go_enter Tryz.func80, Tryz.ntmps80
            go_wp2_with (first | (go_at_call 67; (with_reducible refine (within_any _ _ _ _).mono ?_); rintro e w' ⟨rfl, rfl⟩; rw [HN.out]) | (go_at_call 66; (with_reducible refine (HR1.out _).mono ?_); rintro e w' ⟨rfl, hb⟩; rw [H1.out]; have hk' := block_keep (w := w) HK.out hb; obtain ⟨c0, c1, c2, c3, c4, c5, c6, c7⟩ := box8 hk'; have HBa := Lib.hid (bchain HB.out hb); clear HK HB; have HK := Lib.hid hk'; have HB := Lib.hid HBa.out; clear hk' hb HBa))
            go_ret
            rw [EB.out]
            exact ⟨rfl, HB.out⟩
      · have q2 : (d == 2) = false := by simpa using hd2
        by_cases hd3 : d = 3
        · subst hd3
          clear q1 q2 hd hd2
          cases hr1 : recB ⟨a, k, v⟩ with
          | false =>
            have H1 := Lib.hid hr1
            have EB : Hid (edB ⟨3, ⟨a, k, v⟩, ⟨a', k', v'⟩, n⟩ = false) := by show _ = _; simp [edB, hn, hr1]
            have HB := Lib.hid (below_new w (.cells #[.int .i64 3, .int .i64 a, .int .i64 k, .int .i64 v, .int .i64 a', .int .i64 k', .int .i64 v', .int .i64 n] 79))
            have HK := Lib.hid (new_block w #[.int .i64 3, .int .i64 a, .int .i64 k, .int .i64 v, .int .i64 a', .int .i64 k', .int .i64 v', .int .i64 n] 79)
            clear hn hr1
            go_enter Tryz.func80, Tryz.ntmps80
            go_wp2_with (first | (go_at_call 67; (with_reducible refine (within_any _ _ _ _).mono ?_); rintro e w' ⟨rfl, rfl⟩; rw [HN.out]) | (go_at_call 66; (with_reducible refine (HR1.out _).mono ?_); rintro e w' ⟨rfl, hb⟩; rw [H1.out]; have hk' := block_keep (w := w) HK.out hb; obtain ⟨c0, c1, c2, c3, c4, c5, c6, c7⟩ := box8 hk'; have HBa := Lib.hid (bchain HB.out hb); clear HK HB; have HK := Lib.hid hk'; have HB := Lib.hid HBa.out; clear hk' hb HBa))
            go_ret
            rw [EB.out]
            exact ⟨rfl, HB.out⟩
          | true =>
            have H1 := Lib.hid hr1
            cases hr2 : recB ⟨a', k', v'⟩ with
            | false =>
              have H2 := Lib.hid hr2
              have EB : Hid (edB ⟨3, ⟨a, k, v⟩, ⟨a', k', v'⟩, n⟩ = false) := by show _ = _; simp [edB, hn, hr1, hr2]
              have HB := Lib.hid (below_new w (.cells #[.int .i64 3, .int .i64 a, .int .i64 k, .int .i64 v, .int .i64 a', .int .i64 k', .int .i64 v', .int .i64 n] 79))
              have HK := Lib.hid (new_block w #[.int .i64 3, .int .i64 a, .int .i64 k, .int .i64 v, .int .i64 a', .int .i64 k', .int .i64 v', .int .i64 n] 79)
              clear hn hr1 hr2
              go_enter Tryz.func80, Tryz.ntmps80
              go_wp2_with (first | (go_at_call 67; (with_reducible refine (within_any _ _ _ _).mono ?_); rintro e w' ⟨rfl, rfl⟩; rw [HN.out]) | (go_at_call 66; (with_reducible refine (HR1.out _).mono ?_); rintro e w' ⟨rfl, hb⟩; rw [H1.out]; have hk' := block_keep (w := w) HK.out hb; obtain ⟨c0, c1, c2, c3, c4, c5, c6, c7⟩ := box8 hk'; have HBa := Lib.hid (bchain HB.out hb); clear HK HB; have HK := Lib.hid hk'; have HB := Lib.hid HBa.out; clear hk' hb HBa) | (go_at_call 66; (with_reducible refine (HR2.out _).mono ?_); rintro e w' ⟨rfl, hb⟩; rw [H2.out]; have hk' := block_keep (w := w) HK.out hb; obtain ⟨c0, c1, c2, c3, c4, c5, c6, c7⟩ := box8 hk'; have HBa := Lib.hid (bchain HB.out hb); clear HK HB; have HK := Lib.hid hk'; have HB := Lib.hid HBa.out; clear hk' hb HBa))
              go_ret
              rw [EB.out]
              exact ⟨rfl, HB.out⟩
            | true =>
              have H2 := Lib.hid hr2
              by_cases ha : a = a'
              · subst ha
                by_cases hk : k = k'
                · subst hk
                  by_cases hv : v = v'
                  · subst hv
                    clear HR2 H2
                    have EB : Hid (edB ⟨3, ⟨a, k, v⟩, ⟨a, k, v⟩, n⟩ = false) := by show _ = _; simp [edB, hn]
                    have HB := Lib.hid (below_new w (.cells #[.int .i64 3, .int .i64 a, .int .i64 k, .int .i64 v, .int .i64 a, .int .i64 k, .int .i64 v, .int .i64 n] 79))
                    have HK := Lib.hid (new_block w #[.int .i64 3, .int .i64 a, .int .i64 k, .int .i64 v, .int .i64 a, .int .i64 k, .int .i64 v, .int .i64 n] 79)
                    clear hn hr1 hr2
                    go_enter Tryz.func80, Tryz.ntmps80
                    go_wp2_with (first | (go_at_call 67; (with_reducible refine (within_any _ _ _ _).mono ?_); rintro e w' ⟨rfl, rfl⟩; rw [HN.out]) | (go_at_call 66; (with_reducible refine (HR1.out _).mono ?_); rintro e w' ⟨rfl, hb⟩; rw [H1.out]; have hk' := block_keep (w := w) HK.out hb; obtain ⟨c0, c1, c2, c3, c4, c5, c6, c7⟩ := box8 hk'; have HBa := Lib.hid (bchain HB.out hb); clear HK HB; have HK := Lib.hid hk'; have HB := Lib.hid HBa.out; clear hk' hb HBa))
                    go_ret
                    rw [EB.out]
                    exact ⟨rfl, HB.out⟩
                  · have q3 : (v == v') = false := by simpa using hv
                    have q4 : (v != v') = true := by simpa using hv
                    have EB : Hid (edB ⟨3, ⟨a, k, v⟩, ⟨a, k, v'⟩, n⟩ = true) := by show _ = _; simp [edB, hn, hr1, hr2, hv]
                    have HB := Lib.hid (below_new w (.cells #[.int .i64 3, .int .i64 a, .int .i64 k, .int .i64 v, .int .i64 a, .int .i64 k, .int .i64 v', .int .i64 n] 79))
                    have HK := Lib.hid (new_block w #[.int .i64 3, .int .i64 a, .int .i64 k, .int .i64 v, .int .i64 a, .int .i64 k, .int .i64 v', .int .i64 n] 79)
                    clear hn hr1 hr2 hv
                    go_enter Tryz.func80, Tryz.ntmps80
                    go_wp2_with (first | (go_at_call 67; (with_reducible refine (within_any _ _ _ _).mono ?_); rintro e w' ⟨rfl, rfl⟩; rw [HN.out]) | (go_at_call 66; (with_reducible refine (HR1.out _).mono ?_); rintro e w' ⟨rfl, hb⟩; rw [H1.out]; have hk' := block_keep (w := w) HK.out hb; obtain ⟨c0, c1, c2, c3, c4, c5, c6, c7⟩ := box8 hk'; have HBa := Lib.hid (bchain HB.out hb); clear HK HB; have HK := Lib.hid hk'; have HB := Lib.hid HBa.out; clear hk' hb HBa) | (go_at_call 66; (with_reducible refine (HR2.out _).mono ?_); rintro e w' ⟨rfl, hb⟩; rw [H2.out]; have hk' := block_keep (w := w) HK.out hb; obtain ⟨c0, c1, c2, c3, c4, c5, c6, c7⟩ := box8 hk'; have HBa := Lib.hid (bchain HB.out hb); clear HK HB; have HK := Lib.hid hk'; have HB := Lib.hid HBa.out; clear hk' hb HBa))
                    go_ret
                    rw [EB.out]
                    exact ⟨rfl, HB.out⟩
                · have q3 : (k == k') = false := by simpa using hk
                  have q4 : (k != k') = true := by simpa using hk
                  have EB : Hid (edB ⟨3, ⟨a, k, v⟩, ⟨a, k', v'⟩, n⟩ = false) := by show _ = _; simp [edB, hn, hr1, hr2, hk]
                  have HB := Lib.hid (below_new w (.cells #[.int .i64 3, .int .i64 a, .int .i64 k, .int .i64 v, .int .i64 a, .int .i64 k', .int .i64 v', .int .i64 n] 79))
                  have HK := Lib.hid (new_block w #[.int .i64 3, .int .i64 a, .int .i64 k, .int .i64 v, .int .i64 a, .int .i64 k', .int .i64 v', .int .i64 n] 79)
                  clear hn hr1 hr2 hk
                  go_enter Tryz.func80, Tryz.ntmps80
                  go_wp2_with (first | (go_at_call 67; (with_reducible refine (within_any _ _ _ _).mono ?_); rintro e w' ⟨rfl, rfl⟩; rw [HN.out]) | (go_at_call 66; (with_reducible refine (HR1.out _).mono ?_); rintro e w' ⟨rfl, hb⟩; rw [H1.out]; have hk' := block_keep (w := w) HK.out hb; obtain ⟨c0, c1, c2, c3, c4, c5, c6, c7⟩ := box8 hk'; have HBa := Lib.hid (bchain HB.out hb); clear HK HB; have HK := Lib.hid hk'; have HB := Lib.hid HBa.out; clear hk' hb HBa) | (go_at_call 66; (with_reducible refine (HR2.out _).mono ?_); rintro e w' ⟨rfl, hb⟩; rw [H2.out]; have hk' := block_keep (w := w) HK.out hb; obtain ⟨c0, c1, c2, c3, c4, c5, c6, c7⟩ := box8 hk'; have HBa := Lib.hid (bchain HB.out hb); clear HK HB; have HK := Lib.hid hk'; have HB := Lib.hid HBa.out; clear hk' hb HBa))
                  go_ret
                  rw [EB.out]
                  exact ⟨rfl, HB.out⟩
              · have q3 : (a == a') = false := by simpa using ha
                have q4 : (a != a') = true := by simpa using ha
                by_cases hk : k = k'
                · subst hk
                  have EB : Hid (edB ⟨3, ⟨a, k, v⟩, ⟨a', k, v'⟩, n⟩ = true) := by show _ = _; simp [edB, hn, hr1, hr2, ha]
                  have HB := Lib.hid (below_new w (.cells #[.int .i64 3, .int .i64 a, .int .i64 k, .int .i64 v, .int .i64 a', .int .i64 k, .int .i64 v', .int .i64 n] 79))
                  have HK := Lib.hid (new_block w #[.int .i64 3, .int .i64 a, .int .i64 k, .int .i64 v, .int .i64 a', .int .i64 k, .int .i64 v', .int .i64 n] 79)
                  clear hn hr1 hr2 ha
                  go_enter Tryz.func80, Tryz.ntmps80
                  go_wp2_with (first | (go_at_call 67; (with_reducible refine (within_any _ _ _ _).mono ?_); rintro e w' ⟨rfl, rfl⟩; rw [HN.out]) | (go_at_call 66; (with_reducible refine (HR1.out _).mono ?_); rintro e w' ⟨rfl, hb⟩; rw [H1.out]; have hk' := block_keep (w := w) HK.out hb; obtain ⟨c0, c1, c2, c3, c4, c5, c6, c7⟩ := box8 hk'; have HBa := Lib.hid (bchain HB.out hb); clear HK HB; have HK := Lib.hid hk'; have HB := Lib.hid HBa.out; clear hk' hb HBa) | (go_at_call 66; (with_reducible refine (HR2.out _).mono ?_); rintro e w' ⟨rfl, hb⟩; rw [H2.out]; have hk' := block_keep (w := w) HK.out hb; obtain ⟨c0, c1, c2, c3, c4, c5, c6, c7⟩ := box8 hk'; have HBa := Lib.hid (bchain HB.out hb); clear HK HB; have HK := Lib.hid hk'; have HB := Lib.hid HBa.out; clear hk' hb HBa))
                  go_ret
                  rw [EB.out]
                  exact ⟨rfl, HB.out⟩
                · have q5 : (k == k') = false := by simpa using hk
                  have q6 : (k != k') = true := by simpa using hk
                  have EB : Hid (edB ⟨3, ⟨a, k, v⟩, ⟨a', k', v'⟩, n⟩ = false) := by show _ = _; simp [edB, hn, hr1, hr2, hk]
                  have HB := Lib.hid (below_new w (.cells #[.int .i64 3, .int .i64 a, .int .i64 k, .int .i64 v, .int .i64 a', .int .i64 k', .int .i64 v', .int .i64 n] 79))
                  have HK := Lib.hid (new_block w #[.int .i64 3, .int .i64 a, .int .i64 k, .int .i64 v, .int .i64 a', .int .i64 k', .int .i64 v', .int .i64 n] 79)
                  clear hn hr1 hr2 ha hk
                  go_enter Tryz.func80, Tryz.ntmps80
                  go_wp2_with (first | (go_at_call 67; (with_reducible refine (within_any _ _ _ _).mono ?_); rintro e w' ⟨rfl, rfl⟩; rw [HN.out]) | (go_at_call 66; (with_reducible refine (HR1.out _).mono ?_); rintro e w' ⟨rfl, hb⟩; rw [H1.out]; have hk' := block_keep (w := w) HK.out hb; obtain ⟨c0, c1, c2, c3, c4, c5, c6, c7⟩ := box8 hk'; have HBa := Lib.hid (bchain HB.out hb); clear HK HB; have HK := Lib.hid hk'; have HB := Lib.hid HBa.out; clear hk' hb HBa) | (go_at_call 66; (with_reducible refine (HR2.out _).mono ?_); rintro e w' ⟨rfl, hb⟩; rw [H2.out]; have hk' := block_keep (w := w) HK.out hb; obtain ⟨c0, c1, c2, c3, c4, c5, c6, c7⟩ := box8 hk'; have HBa := Lib.hid (bchain HB.out hb); clear HK HB; have HK := Lib.hid hk'; have HB := Lib.hid HBa.out; clear hk' hb HBa))
                  go_ret
                  rw [EB.out]
                  exact ⟨rfl, HB.out⟩
        · have q3 : (d == 3) = false := by simpa using hd3
          have EB : Hid (edB ⟨d, ⟨a, k, v⟩, ⟨a', k', v'⟩, n⟩ = false) := by show _ = _; simp [edB, hd, hd2, hd3]
          have HB := Lib.hid (below_new w (.cells #[.int .i64 d, .int .i64 a, .int .i64 k, .int .i64 v, .int .i64 a', .int .i64 k', .int .i64 v', .int .i64 n] 79))
          have HK := Lib.hid (new_block w #[.int .i64 d, .int .i64 a, .int .i64 k, .int .i64 v, .int .i64 a', .int .i64 k', .int .i64 v', .int .i64 n] 79)
          clear hn hd hd2 hd3
          go_enter Tryz.func80, Tryz.ntmps80
          go_wp2_with ((go_at_call 67; (with_reducible refine (within_any _ _ _ _).mono ?_); rintro e w' ⟨rfl, rfl⟩; rw [HN.out]))
          go_ret
          rw [EB.out]
          exact ⟨rfl, HB.out⟩

set_option maxRecDepth 100000 in
set_option maxHeartbeats 4000000 in
theorem Edit_any (d a k v a' k' v' n : Int) (w : World) :
    Calls Tryz.prog 81 #[.agg #[.int .i64 d, .int .i64 a, .int .i64 k, .int .i64 v, .int .i64 a', .int .i64 k', .int .i64 v', .int .i64 n]] w fun e w' => e = .returned (.bool (edB ⟨d, ⟨a, k, v⟩, ⟨a', k', v'⟩, n⟩)) ∧ Below w.heap.size w w' := by
  have HR1 : Hid (∀ w, Calls Tryz.prog 69 #[.agg #[.int .i64 a, .int .i64 k, .int .i64 v]] w fun e w' => e = .returned (.bool (recB ⟨a, k, v⟩)) ∧ Below w.heap.size w w') := fun w => Rec_any ⟨a, k, v⟩ w
  have HR2 : Hid (∀ w, Calls Tryz.prog 69 #[.agg #[.int .i64 a', .int .i64 k', .int .i64 v']] w fun e w' => e = .returned (.bool (recB ⟨a', k', v'⟩)) ∧ Below w.heap.size w w') := fun w => Rec_any ⟨a', k', v'⟩ w
  by_cases hlo : n < 1
  · have hlod : decide (n < 1) = true := by simpa using hlo
    have EB : Hid (edB ⟨d, ⟨a, k, v⟩, ⟨a', k', v'⟩, n⟩ = false) := by show _ = _; have h0 : withinB n 1 1000000 = false := (by simp [withinB]; omega); simp [edB, h0]
    have HB := Lib.hid (below_new w (.cells #[.int .i64 d, .int .i64 a, .int .i64 k, .int .i64 v, .int .i64 a', .int .i64 k', .int .i64 v', .int .i64 n] 79))
    have HK := Lib.hid (new_block w #[.int .i64 d, .int .i64 a, .int .i64 k, .int .i64 v, .int .i64 a', .int .i64 k', .int .i64 v', .int .i64 n] 79)
    clear hlo
    go_enter Tryz.func81, Tryz.ntmps81
    go_wp2_with fail
    go_ret
    rw [EB.out]
    exact ⟨rfl, HB.out⟩
  · have hlod : decide (n < 1) = false := by simpa using hlo
    by_cases hhi : 1000000 < n
    · have hhid : decide (1000000 < n) = true := by simpa using hhi
      have EB : Hid (edB ⟨d, ⟨a, k, v⟩, ⟨a', k', v'⟩, n⟩ = false) := by show _ = _; have h0 : withinB n 1 1000000 = false := (by simp [withinB]; omega); simp [edB, h0]
      have HB := Lib.hid (below_new w (.cells #[.int .i64 d, .int .i64 a, .int .i64 k, .int .i64 v, .int .i64 a', .int .i64 k', .int .i64 v', .int .i64 n] 79))
      have HK := Lib.hid (new_block w #[.int .i64 d, .int .i64 a, .int .i64 k, .int .i64 v, .int .i64 a', .int .i64 k', .int .i64 v', .int .i64 n] 79)
      clear hlo hhi
      go_enter Tryz.func81, Tryz.ntmps81
      go_wp2_with fail
      go_ret
      rw [EB.out]
      exact ⟨rfl, HB.out⟩
    · have hhid : decide (1000000 < n) = false := by simpa using hhi
      have hn : withinB n 1 1000000 = true := by simp [withinB]; omega
      clear hlo hhi
      by_cases hd : d = 1
      · subst hd
        by_cases hz : a = 0
        · subst hz
          by_cases hz : k = 0
          · subst hz
            by_cases hz : v = 0
            · subst hz
              cases hr : recB ⟨a', k', v'⟩ with
              | false =>
                have H2 := Lib.hid hr
                have EB : Hid (edB ⟨1, ⟨0, 0, 0⟩, ⟨a', k', v'⟩, n⟩ = false) := by show _ = _; simp [edB, hn, hr, zRc]
                have HB := Lib.hid (below_new w (.cells #[.int .i64 1, .int .i64 0, .int .i64 0, .int .i64 0, .int .i64 a', .int .i64 k', .int .i64 v', .int .i64 n] 79))
                have HK := Lib.hid (new_block w #[.int .i64 1, .int .i64 0, .int .i64 0, .int .i64 0, .int .i64 a', .int .i64 k', .int .i64 v', .int .i64 n] 79)
                clear hn hr
                go_enter Tryz.func81, Tryz.ntmps81
                go_wp2_with ((go_at_call 69; (with_reducible refine (HR2.out _).mono ?_); rintro e w' ⟨rfl, hb⟩; rw [H2.out]; have hk' := block_keep (w := w) HK.out hb; obtain ⟨c0, c1, c2, c3, c4, c5, c6, c7⟩ := box8 hk'; have HBa := Lib.hid (bchain HB.out hb); clear HK HB; have HK := Lib.hid hk'; have HB := Lib.hid HBa.out; clear hk' hb HBa))
                go_ret
                rw [EB.out]
                exact ⟨rfl, HB.out⟩
              | true =>
                have H2 := Lib.hid hr
                have EB : Hid (edB ⟨1, ⟨0, 0, 0⟩, ⟨a', k', v'⟩, n⟩ = true) := by show _ = _; simp [edB, hn, hr, zRc]
                have HB := Lib.hid (below_new w (.cells #[.int .i64 1, .int .i64 0, .int .i64 0, .int .i64 0, .int .i64 a', .int .i64 k', .int .i64 v', .int .i64 n] 79))
                have HK := Lib.hid (new_block w #[.int .i64 1, .int .i64 0, .int .i64 0, .int .i64 0, .int .i64 a', .int .i64 k', .int .i64 v', .int .i64 n] 79)
                clear hn hr
                go_enter Tryz.func81, Tryz.ntmps81
                go_wp2_with ((go_at_call 69; (with_reducible refine (HR2.out _).mono ?_); rintro e w' ⟨rfl, hb⟩; rw [H2.out]; have hk' := block_keep (w := w) HK.out hb; obtain ⟨c0, c1, c2, c3, c4, c5, c6, c7⟩ := box8 hk'; have HBa := Lib.hid (bchain HB.out hb); clear HK HB; have HK := Lib.hid hk'; have HB := Lib.hid HBa.out; clear hk' hb HBa))
                go_ret
                rw [EB.out]
                exact ⟨rfl, HB.out⟩
            · have q : (v == 0) = false := by simpa using hz
              have q1 : (v != 0) = true := by simpa using hz
              have EB : Hid (edB ⟨1, ⟨0, 0, v⟩, ⟨a', k', v'⟩, n⟩ = false) := by show _ = _; simp [edB, hn, zRc, hz]
              have HB := Lib.hid (below_new w (.cells #[.int .i64 1, .int .i64 0, .int .i64 0, .int .i64 v, .int .i64 a', .int .i64 k', .int .i64 v', .int .i64 n] 79))
              have HK := Lib.hid (new_block w #[.int .i64 1, .int .i64 0, .int .i64 0, .int .i64 v, .int .i64 a', .int .i64 k', .int .i64 v', .int .i64 n] 79)
              clear hn hz
              go_enter Tryz.func81, Tryz.ntmps81
              go_wp2_with fail
              go_ret
              rw [EB.out]
              exact ⟨rfl, HB.out⟩
          · have q : (k == 0) = false := by simpa using hz
            have q1 : (k != 0) = true := by simpa using hz
            have EB : Hid (edB ⟨1, ⟨0, k, v⟩, ⟨a', k', v'⟩, n⟩ = false) := by show _ = _; simp [edB, hn, zRc, hz]
            have HB := Lib.hid (below_new w (.cells #[.int .i64 1, .int .i64 0, .int .i64 k, .int .i64 v, .int .i64 a', .int .i64 k', .int .i64 v', .int .i64 n] 79))
            have HK := Lib.hid (new_block w #[.int .i64 1, .int .i64 0, .int .i64 k, .int .i64 v, .int .i64 a', .int .i64 k', .int .i64 v', .int .i64 n] 79)
            clear hn hz
            go_enter Tryz.func81, Tryz.ntmps81
            go_wp2_with fail
            go_ret
            rw [EB.out]
            exact ⟨rfl, HB.out⟩
        · have q : (a == 0) = false := by simpa using hz
          have q1 : (a != 0) = true := by simpa using hz
          have EB : Hid (edB ⟨1, ⟨a, k, v⟩, ⟨a', k', v'⟩, n⟩ = false) := by show _ = _; simp [edB, hn, zRc, hz]
          have HB := Lib.hid (below_new w (.cells #[.int .i64 1, .int .i64 a, .int .i64 k, .int .i64 v, .int .i64 a', .int .i64 k', .int .i64 v', .int .i64 n] 79))
          have HK := Lib.hid (new_block w #[.int .i64 1, .int .i64 a, .int .i64 k, .int .i64 v, .int .i64 a', .int .i64 k', .int .i64 v', .int .i64 n] 79)
          clear hn hz
          go_enter Tryz.func81, Tryz.ntmps81
          go_wp2_with fail
          go_ret
          rw [EB.out]
          exact ⟨rfl, HB.out⟩
      · have q1 : (d == 1) = false := by simpa using hd
        by_cases hd2 : d = 2
        · subst hd2
          clear q1 hd
          by_cases hz : a' = 0
          · subst hz
            by_cases hz : k' = 0
            · subst hz
              by_cases hz : v' = 0
              · subst hz
                cases hr : recB ⟨a, k, v⟩ with
                | false =>
                  have H1 := Lib.hid hr
                  have EB : Hid (edB ⟨2, ⟨a, k, v⟩, ⟨0, 0, 0⟩, n⟩ = false) := by show _ = _; simp [edB, hn, hr, zRc]
                  have HB := Lib.hid (below_new w (.cells #[.int .i64 2, .int .i64 a, .int .i64 k, .int .i64 v, .int .i64 0, .int .i64 0, .int .i64 0, .int .i64 n] 79))
                  have HK := Lib.hid (new_block w #[.int .i64 2, .int .i64 a, .int .i64 k, .int .i64 v, .int .i64 0, .int .i64 0, .int .i64 0, .int .i64 n] 79)
                  clear hn hr
                  go_enter Tryz.func81, Tryz.ntmps81
                  go_wp2_with ((go_at_call 69; (with_reducible refine (HR1.out _).mono ?_); rintro e w' ⟨rfl, hb⟩; rw [H1.out]; have hk' := block_keep (w := w) HK.out hb; obtain ⟨c0, c1, c2, c3, c4, c5, c6, c7⟩ := box8 hk'; have HBa := Lib.hid (bchain HB.out hb); clear HK HB; have HK := Lib.hid hk'; have HB := Lib.hid HBa.out; clear hk' hb HBa))
                  go_ret
                  rw [EB.out]
                  exact ⟨rfl, HB.out⟩
                | true =>
                  have H1 := Lib.hid hr
                  have EB : Hid (edB ⟨2, ⟨a, k, v⟩, ⟨0, 0, 0⟩, n⟩ = true) := by show _ = _; simp [edB, hn, hr, zRc]
                  have HB := Lib.hid (below_new w (.cells #[.int .i64 2, .int .i64 a, .int .i64 k, .int .i64 v, .int .i64 0, .int .i64 0, .int .i64 0, .int .i64 n] 79))
                  have HK := Lib.hid (new_block w #[.int .i64 2, .int .i64 a, .int .i64 k, .int .i64 v, .int .i64 0, .int .i64 0, .int .i64 0, .int .i64 n] 79)
                  clear hn hr
                  go_enter Tryz.func81, Tryz.ntmps81
                  go_wp2_with ((go_at_call 69; (with_reducible refine (HR1.out _).mono ?_); rintro e w' ⟨rfl, hb⟩; rw [H1.out]; have hk' := block_keep (w := w) HK.out hb; obtain ⟨c0, c1, c2, c3, c4, c5, c6, c7⟩ := box8 hk'; have HBa := Lib.hid (bchain HB.out hb); clear HK HB; have HK := Lib.hid hk'; have HB := Lib.hid HBa.out; clear hk' hb HBa))
                  go_ret
                  rw [EB.out]
                  exact ⟨rfl, HB.out⟩
              · have q : (v' == 0) = false := by simpa using hz
                have q1 : (v' != 0) = true := by simpa using hz
                have EB : Hid (edB ⟨2, ⟨a, k, v⟩, ⟨0, 0, v'⟩, n⟩ = false) := by show _ = _; simp [edB, hn, zRc, hz]
                have HB := Lib.hid (below_new w (.cells #[.int .i64 2, .int .i64 a, .int .i64 k, .int .i64 v, .int .i64 0, .int .i64 0, .int .i64 v', .int .i64 n] 79))
                have HK := Lib.hid (new_block w #[.int .i64 2, .int .i64 a, .int .i64 k, .int .i64 v, .int .i64 0, .int .i64 0, .int .i64 v', .int .i64 n] 79)
                clear hn hz
                go_enter Tryz.func81, Tryz.ntmps81
                go_wp2_with fail
                go_ret
                rw [EB.out]
                exact ⟨rfl, HB.out⟩
            · have q : (k' == 0) = false := by simpa using hz
              have q1 : (k' != 0) = true := by simpa using hz
              have EB : Hid (edB ⟨2, ⟨a, k, v⟩, ⟨0, k', v'⟩, n⟩ = false) := by show _ = _; simp [edB, hn, zRc, hz]
              have HB := Lib.hid (below_new w (.cells #[.int .i64 2, .int .i64 a, .int .i64 k, .int .i64 v, .int .i64 0, .int .i64 k', .int .i64 v', .int .i64 n] 79))
              have HK := Lib.hid (new_block w #[.int .i64 2, .int .i64 a, .int .i64 k, .int .i64 v, .int .i64 0, .int .i64 k', .int .i64 v', .int .i64 n] 79)
              clear hn hz
              go_enter Tryz.func81, Tryz.ntmps81
              go_wp2_with fail
              go_ret
              rw [EB.out]
              exact ⟨rfl, HB.out⟩
          · have q : (a' == 0) = false := by simpa using hz
            have q1 : (a' != 0) = true := by simpa using hz
            have EB : Hid (edB ⟨2, ⟨a, k, v⟩, ⟨a', k', v'⟩, n⟩ = false) := by show _ = _; simp [edB, hn, zRc, hz]
            have HB := Lib.hid (below_new w (.cells #[.int .i64 2, .int .i64 a, .int .i64 k, .int .i64 v, .int .i64 a', .int .i64 k', .int .i64 v', .int .i64 n] 79))
            have HK := Lib.hid (new_block w #[.int .i64 2, .int .i64 a, .int .i64 k, .int .i64 v, .int .i64 a', .int .i64 k', .int .i64 v', .int .i64 n] 79)
            clear hn hz
            go_enter Tryz.func81, Tryz.ntmps81
            go_wp2_with fail
            go_ret
            rw [EB.out]
            exact ⟨rfl, HB.out⟩
        · have q2 : (d == 2) = false := by simpa using hd2
          by_cases hd3 : d = 3
          · subst hd3
            clear q1 q2 hd hd2
            cases hr1 : recB ⟨a, k, v⟩ with
            | false =>
              have H1 := Lib.hid hr1
              have EB : Hid (edB ⟨3, ⟨a, k, v⟩, ⟨a', k', v'⟩, n⟩ = false) := by show _ = _; simp [edB, hn, hr1]
              have HB := Lib.hid (below_new w (.cells #[.int .i64 3, .int .i64 a, .int .i64 k, .int .i64 v, .int .i64 a', .int .i64 k', .int .i64 v', .int .i64 n] 79))
              have HK := Lib.hid (new_block w #[.int .i64 3, .int .i64 a, .int .i64 k, .int .i64 v, .int .i64 a', .int .i64 k', .int .i64 v', .int .i64 n] 79)
              clear hn hr1
              go_enter Tryz.func81, Tryz.ntmps81
              go_wp2_with ((go_at_call 69; (with_reducible refine (HR1.out _).mono ?_); rintro e w' ⟨rfl, hb⟩; rw [H1.out]; have hk' := block_keep (w := w) HK.out hb; obtain ⟨c0, c1, c2, c3, c4, c5, c6, c7⟩ := box8 hk'; have HBa := Lib.hid (bchain HB.out hb); clear HK HB; have HK := Lib.hid hk'; have HB := Lib.hid HBa.out; clear hk' hb HBa))
              go_ret
              rw [EB.out]
              exact ⟨rfl, HB.out⟩
            | true =>
              have H1 := Lib.hid hr1
              cases hr2 : recB ⟨a', k', v'⟩ with
              | false =>
                have H2 := Lib.hid hr2
                have EB : Hid (edB ⟨3, ⟨a, k, v⟩, ⟨a', k', v'⟩, n⟩ = false) := by show _ = _; simp [edB, hn, hr1, hr2]
                have HB := Lib.hid (below_new w (.cells #[.int .i64 3, .int .i64 a, .int .i64 k, .int .i64 v, .int .i64 a', .int .i64 k', .int .i64 v', .int .i64 n] 79))
                have HK := Lib.hid (new_block w #[.int .i64 3, .int .i64 a, .int .i64 k, .int .i64 v, .int .i64 a', .int .i64 k', .int .i64 v', .int .i64 n] 79)
                clear hn hr1 hr2
                go_enter Tryz.func81, Tryz.ntmps81
                go_wp2_with (first | (go_at_call 69; (with_reducible refine (HR1.out _).mono ?_); rintro e w' ⟨rfl, hb⟩; rw [H1.out]; have hk' := block_keep (w := w) HK.out hb; obtain ⟨c0, c1, c2, c3, c4, c5, c6, c7⟩ := box8 hk'; have HBa := Lib.hid (bchain HB.out hb); clear HK HB; have HK := Lib.hid hk'; have HB := Lib.hid HBa.out; clear hk' hb HBa) | (go_at_call 69; (with_reducible refine (HR2.out _).mono ?_); rintro e w' ⟨rfl, hb⟩; rw [H2.out]; have hk' := block_keep (w := w) HK.out hb; obtain ⟨c0, c1, c2, c3, c4, c5, c6, c7⟩ := box8 hk'; have HBa := Lib.hid (bchain HB.out hb); clear HK HB; have HK := Lib.hid hk'; have HB := Lib.hid HBa.out; clear hk' hb HBa))
                go_ret
                rw [EB.out]
                exact ⟨rfl, HB.out⟩
              | true =>
                have H2 := Lib.hid hr2
                by_cases ha : a = a'
                · subst ha
                  by_cases hk : k = k'
                  · subst hk
                    by_cases hv : v = v'
                    · subst hv
                      clear HR2 H2
                      have EB : Hid (edB ⟨3, ⟨a, k, v⟩, ⟨a, k, v⟩, n⟩ = false) := by show _ = _; simp [edB, hn]
                      have HB := Lib.hid (below_new w (.cells #[.int .i64 3, .int .i64 a, .int .i64 k, .int .i64 v, .int .i64 a, .int .i64 k, .int .i64 v, .int .i64 n] 79))
                      have HK := Lib.hid (new_block w #[.int .i64 3, .int .i64 a, .int .i64 k, .int .i64 v, .int .i64 a, .int .i64 k, .int .i64 v, .int .i64 n] 79)
                      clear hn hr1 hr2
                      go_enter Tryz.func81, Tryz.ntmps81
                      go_wp2_with ((go_at_call 69; (with_reducible refine (HR1.out _).mono ?_); rintro e w' ⟨rfl, hb⟩; rw [H1.out]; have hk' := block_keep (w := w) HK.out hb; obtain ⟨c0, c1, c2, c3, c4, c5, c6, c7⟩ := box8 hk'; have HBa := Lib.hid (bchain HB.out hb); clear HK HB; have HK := Lib.hid hk'; have HB := Lib.hid HBa.out; clear hk' hb HBa))
                      go_ret
                      rw [EB.out]
                      exact ⟨rfl, HB.out⟩
                    · have q3 : (v == v') = false := by simpa using hv
                      have q4 : (v != v') = true := by simpa using hv
                      have EB : Hid (edB ⟨3, ⟨a, k, v⟩, ⟨a, k, v'⟩, n⟩ = true) := by show _ = _; simp [edB, hn, hr1, hr2, hv]
                      have HB := Lib.hid (below_new w (.cells #[.int .i64 3, .int .i64 a, .int .i64 k, .int .i64 v, .int .i64 a, .int .i64 k, .int .i64 v', .int .i64 n] 79))
                      have HK := Lib.hid (new_block w #[.int .i64 3, .int .i64 a, .int .i64 k, .int .i64 v, .int .i64 a, .int .i64 k, .int .i64 v', .int .i64 n] 79)
                      clear hn hr1 hr2 hv
                      go_enter Tryz.func81, Tryz.ntmps81
                      go_wp2_with (first | (go_at_call 69; (with_reducible refine (HR1.out _).mono ?_); rintro e w' ⟨rfl, hb⟩; rw [H1.out]; have hk' := block_keep (w := w) HK.out hb; obtain ⟨c0, c1, c2, c3, c4, c5, c6, c7⟩ := box8 hk'; have HBa := Lib.hid (bchain HB.out hb); clear HK HB; have HK := Lib.hid hk'; have HB := Lib.hid HBa.out; clear hk' hb HBa) | (go_at_call 69; (with_reducible refine (HR2.out _).mono ?_); rintro e w' ⟨rfl, hb⟩; rw [H2.out]; have hk' := block_keep (w := w) HK.out hb; obtain ⟨c0, c1, c2, c3, c4, c5, c6, c7⟩ := box8 hk'; have HBa := Lib.hid (bchain HB.out hb); clear HK HB; have HK := Lib.hid hk'; have HB := Lib.hid HBa.out; clear hk' hb HBa))
                      go_ret
                      rw [EB.out]
                      exact ⟨rfl, HB.out⟩
                  · have q3 : (k == k') = false := by simpa using hk
                    have q4 : (k != k') = true := by simpa using hk
                    have EB : Hid (edB ⟨3, ⟨a, k, v⟩, ⟨a, k', v'⟩, n⟩ = false) := by show _ = _; simp [edB, hn, hr1, hr2, hk]
                    have HB := Lib.hid (below_new w (.cells #[.int .i64 3, .int .i64 a, .int .i64 k, .int .i64 v, .int .i64 a, .int .i64 k', .int .i64 v', .int .i64 n] 79))
                    have HK := Lib.hid (new_block w #[.int .i64 3, .int .i64 a, .int .i64 k, .int .i64 v, .int .i64 a, .int .i64 k', .int .i64 v', .int .i64 n] 79)
                    clear hn hr1 hr2 hk
                    go_enter Tryz.func81, Tryz.ntmps81
                    go_wp2_with (first | (go_at_call 69; (with_reducible refine (HR1.out _).mono ?_); rintro e w' ⟨rfl, hb⟩; rw [H1.out]; have hk' := block_keep (w := w) HK.out hb; obtain ⟨c0, c1, c2, c3, c4, c5, c6, c7⟩ := box8 hk'; have HBa := Lib.hid (bchain HB.out hb); clear HK HB; have HK := Lib.hid hk'; have HB := Lib.hid HBa.out; clear hk' hb HBa) | (go_at_call 69; (with_reducible refine (HR2.out _).mono ?_); rintro e w' ⟨rfl, hb⟩; rw [H2.out]; have hk' := block_keep (w := w) HK.out hb; obtain ⟨c0, c1, c2, c3, c4, c5, c6, c7⟩ := box8 hk'; have HBa := Lib.hid (bchain HB.out hb); clear HK HB; have HK := Lib.hid hk'; have HB := Lib.hid HBa.out; clear hk' hb HBa))
                    go_ret
                    rw [EB.out]
                    exact ⟨rfl, HB.out⟩
                · have q3 : (a == a') = false := by simpa using ha
                  have q4 : (a != a') = true := by simpa using ha
                  by_cases hk : k = k'
                  · subst hk
                    have EB : Hid (edB ⟨3, ⟨a, k, v⟩, ⟨a', k, v'⟩, n⟩ = true) := by show _ = _; simp [edB, hn, hr1, hr2, ha]
                    have HB := Lib.hid (below_new w (.cells #[.int .i64 3, .int .i64 a, .int .i64 k, .int .i64 v, .int .i64 a', .int .i64 k, .int .i64 v', .int .i64 n] 79))
                    have HK := Lib.hid (new_block w #[.int .i64 3, .int .i64 a, .int .i64 k, .int .i64 v, .int .i64 a', .int .i64 k, .int .i64 v', .int .i64 n] 79)
                    clear hn hr1 hr2 ha
                    go_enter Tryz.func81, Tryz.ntmps81
                    go_wp2_with (first | (go_at_call 69; (with_reducible refine (HR1.out _).mono ?_); rintro e w' ⟨rfl, hb⟩; rw [H1.out]; have hk' := block_keep (w := w) HK.out hb; obtain ⟨c0, c1, c2, c3, c4, c5, c6, c7⟩ := box8 hk'; have HBa := Lib.hid (bchain HB.out hb); clear HK HB; have HK := Lib.hid hk'; have HB := Lib.hid HBa.out; clear hk' hb HBa) | (go_at_call 69; (with_reducible refine (HR2.out _).mono ?_); rintro e w' ⟨rfl, hb⟩; rw [H2.out]; have hk' := block_keep (w := w) HK.out hb; obtain ⟨c0, c1, c2, c3, c4, c5, c6, c7⟩ := box8 hk'; have HBa := Lib.hid (bchain HB.out hb); clear HK HB; have HK := Lib.hid hk'; have HB := Lib.hid HBa.out; clear hk' hb HBa))
                    go_ret
                    rw [EB.out]
                    exact ⟨rfl, HB.out⟩
                  · have q5 : (k == k') = false := by simpa using hk
                    have q6 : (k != k') = true := by simpa using hk
                    have EB : Hid (edB ⟨3, ⟨a, k, v⟩, ⟨a', k', v'⟩, n⟩ = false) := by show _ = _; simp [edB, hn, hr1, hr2, hk]
                    have HB := Lib.hid (below_new w (.cells #[.int .i64 3, .int .i64 a, .int .i64 k, .int .i64 v, .int .i64 a', .int .i64 k', .int .i64 v', .int .i64 n] 79))
                    have HK := Lib.hid (new_block w #[.int .i64 3, .int .i64 a, .int .i64 k, .int .i64 v, .int .i64 a', .int .i64 k', .int .i64 v', .int .i64 n] 79)
                    clear hn hr1 hr2 ha hk
                    go_enter Tryz.func81, Tryz.ntmps81
                    go_wp2_with (first | (go_at_call 69; (with_reducible refine (HR1.out _).mono ?_); rintro e w' ⟨rfl, hb⟩; rw [H1.out]; have hk' := block_keep (w := w) HK.out hb; obtain ⟨c0, c1, c2, c3, c4, c5, c6, c7⟩ := box8 hk'; have HBa := Lib.hid (bchain HB.out hb); clear HK HB; have HK := Lib.hid hk'; have HB := Lib.hid HBa.out; clear hk' hb HBa) | (go_at_call 69; (with_reducible refine (HR2.out _).mono ?_); rintro e w' ⟨rfl, hb⟩; rw [H2.out]; have hk' := block_keep (w := w) HK.out hb; obtain ⟨c0, c1, c2, c3, c4, c5, c6, c7⟩ := box8 hk'; have HBa := Lib.hid (bchain HB.out hb); clear HK HB; have HK := Lib.hid hk'; have HB := Lib.hid HBa.out; clear hk' hb HBa))
                    go_ret
                    rw [EB.out]
                    exact ⟨rfl, HB.out⟩
          · have q3 : (d == 3) = false := by simpa using hd3
            have EB : Hid (edB ⟨d, ⟨a, k, v⟩, ⟨a', k', v'⟩, n⟩ = false) := by show _ = _; simp [edB, hd, hd2, hd3]
            have HB := Lib.hid (below_new w (.cells #[.int .i64 d, .int .i64 a, .int .i64 k, .int .i64 v, .int .i64 a', .int .i64 k', .int .i64 v', .int .i64 n] 79))
            have HK := Lib.hid (new_block w #[.int .i64 d, .int .i64 a, .int .i64 k, .int .i64 v, .int .i64 a', .int .i64 k', .int .i64 v', .int .i64 n] 79)
            clear hn hd hd2 hd3
            go_enter Tryz.func81, Tryz.ntmps81
            go_wp2_with fail
            go_ret
            rw [EB.out]
            exact ⟨rfl, HB.out⟩
end Go.Proofs.Bg
end

section
/- Copy, Check, and the reference's Check and New. -/
namespace Go.Proofs.Bg
open Go.RowKit

/-- 'append(nil, y...)', y any slice that reads as a list. -/
theorem wpList_copy {P : Program} {w : World} {ops : Array Oper} {rest : List Oper} {o : Oper} {a : Act} {Q : Exit → Act → World → Prop} (e : TypeId) (z : Value) (bytes : Nat) (hinf : (P.info? e).map (fun i => (i.zero, i.size, i.bytes)) = some (some z, 4, bytes)) (hzs : z.cells.size = 4)
    (hgd : o.guard = none) (s x : Operand) (t : TypeId) (ho : o.op = .call { callee := .builtin .append, args := #[s, x], argTypes := #[t, t] }) (ht : P.underlying t = some (.slice e)) (hs : a.eval s = .slice none 0 0)
    (hnil : ∀ c, (Builtin.append_ #[t, t] o.type #[.slice none 0 0, .slice none 0 c]).run P w = .ok (.slice none 0 0) w)
    (lo n c : Nat) (A : Option Addr) (y : List It) (hx : a.eval x = .slice A n c) (hy : Rd It.vs 4 w lo A n y) (hbytes : n * bytes ≤ 140737488355328) (h63 : n ≤ maxLen)
    (h : ∀ v' w', Own It.vs 4 e w.heap.size w' v' y → w.grownBy w' none → wpList P ops Q rest (a.put o.dst v') w') : wpList P ops Q (o :: rest) a w := by
  obtain ⟨i, hi, hz0, hz1, hz2⟩ := info_parts hinf
  have hn := hy.len
  by_cases h0 : n = 0
  · subst h0
    have hl0 : y = [] := List.length_eq_zero_iff.1 hn
    subst hl0
    cases A with
    | none => exact wpList_appNil hgd s x t ho c hs hx (hnil c) (h _ _ (Own.nil _ _ _ _ _) (World.grownBy.refl _ _))
    | some ad =>
      refine wpList_append_own_at w hgd s x t ho w.heap.size e i z 4 bytes ht hi hz0 hz1 hz2 hzs (by omega) _ 0 [] hs (World.ownsRow_nil w w.heap.size e 4) ad 0 c [] hx rfl (by simp) (by simp) (by unfold maxLen; omega) (by omega) (Nat.le_refl _) (fun v4 w4 hown4 hg4 _ _ => h v4 w4 hown4 hg4)
  · obtain ⟨b, off, rfl, _⟩ := hy.2.2 (by omega)
    exact wpList_appW e z bytes hinf hzs hgd s x t ho ht w.heap.size _ [] hs (Own.nil _ _ _ _ _) lo b off n c y hx hy (by simpa using hbytes) (by simpa using h63) (Nat.le_refl _) (fun v4 w4 hown4 hg4 _ => h v4 w4 (by simpa using hown4) hg4)
theorem nilB (w : World) (t : TypeId) (c : Nat) : (Builtin.append_ #[23, 23] t #[.slice none 0 0, .slice none 0 c]).run Tryz.prog w = .ok (.slice none 0 0) w := by kernel_rfl
theorem nilI (w : World) (t : TypeId) (c : Nat) : (Builtin.append_ #[22, 22] t #[.slice none 0 0, .slice none 0 c]).run Tryz.prog w = .ok (.slice none 0 0) w := by kernel_rfl

set_option maxRecDepth 100000 in
theorem Copy_any (A : Option Addr) (n cap : Nat) (l : List It) (w : World) (hR : Rd It.vs 4 w 0 A n l) (hS : n * 32 ≤ 140737488355328) :
    Calls Tryz.prog 19 #[.slice A n cap] w fun e w' => ∃ v, e = .returned v ∧ Own It.vs 4 40 w.heap.size w' v l ∧ Below w.heap.size w w' := by
  have HR := Lib.hid hR
  clear hR
  go_enter Tryz.func19, Tryz.ntmps19
  go_wp2_with (at_builtin; go_loud (refine wpList_copy 40 _ 32 infoIt rfl rfl _ _ _ rfl Tryz.underlying23 rfl (fun c => nilB _ _ c) 0 n cap A l rfl HR.out (by omega) (by unfold maxLen; omega) (fun v4 w4 hown4 hg4 => ?_)))
  go_ret
  exact ⟨_, rfl, hown4, (Below.refl _ _).grown hg4 (Nat.le_refl _) (fun k e => by cases e)⟩

def chk (l : List It) : Int := if bagB l then 0 else 2
theorem Check_any (A : Option Addr) (n cap : Nat) (l : List It) (w : World) (hR : Rd It.vs 4 w 0 A n l) :
    Calls Tryz.prog 21 #[.slice A n cap] w fun e w' => e = .returned (.int .i64 (chk l)) ∧ Below w.heap.size w w' := by
  have HQ := Lib.hid (isBag_any A n cap l w hR)
  clear hR
  unfold chk
  generalize bagB l = q at HQ ⊢
  cases q with
  | true =>
    go_enter Tryz.func21, Tryz.ntmps21
    go_wp2_with (go_at_call 47; (with_reducible refine HQ.out.mono ?_); rintro e w' ⟨rfl, hb⟩; have HB := Lib.hid hb; clear hb)
    go_ret
    exact ⟨rfl, HB.out⟩
  | false =>
    go_enter Tryz.func21, Tryz.ntmps21
    go_wp2_with (go_at_call 47; (with_reducible refine HQ.out.mono ?_); rintro e w' ⟨rfl, hb⟩; have HB := Lib.hid hb; clear hb)
    go_ret
    exact ⟨rfl, HB.out⟩
theorem CheckR_any (A : Option Addr) (n cap : Nat) (l : List It) (w : World) (hR : Rd It.vs 4 w 0 A n l) :
    Calls Tryz.prog 23 #[.slice A n cap] w fun e w' => e = .returned (.int .i64 (chk l)) ∧ Below w.heap.size w w' := by
  have HQ := Lib.hid (Good_any A n cap l w hR)
  clear hR
  unfold chk
  generalize bagB l = q at HQ ⊢
  cases q with
  | true =>
    go_enter Tryz.func23, Tryz.ntmps23
    go_wp2_with (go_at_call 44; (with_reducible refine HQ.out.mono ?_); rintro e w' ⟨rfl, hb⟩; have HB := Lib.hid hb; clear hb)
    go_ret
    exact ⟨rfl, HB.out⟩
  | false =>
    go_enter Tryz.func23, Tryz.ntmps23
    go_wp2_with (go_at_call 44; (with_reducible refine HQ.out.mono ?_); rintro e w' ⟨rfl, hb⟩; have HB := Lib.hid hb; clear hb)
    go_ret
    exact ⟨rfl, HB.out⟩
end Go.Proofs.Bg
end

section
/- The reference's New. -/
namespace Go.Proofs.Bg
open Go.RowKit

theorem longLo_any (lo : Nat) (A : Option Addr) (n cap : Nat) (l : List It) (w : World) (hR : Rd It.vs 4 w lo A n l) :
    Calls Tryz.prog 51 #[.slice A n cap] w fun e w' => (∃ A' n' cap', e = .returned (.tuple #[.slice A' n' cap', .int .i64 (longR l).2]) ∧ Rd It.vs 4 w' lo A' n' (longR l).1) ∧ Below w.heap.size w w' := by
  have HG := Lib.hid (Good_any A n cap l w (hR.low (Nat.zero_le _)))
  have HR := Lib.hid hR
  clear hR
  cases hg : bagB l with
  | true =>
    have e1 : longR l = (l, 0) := by simp [longR, hg]
    rw [e1]
    have HGB := Lib.hid hg
    clear hg e1
    go_enter Tryz.func51, Tryz.ntmps51
    go_wp2_with (go_at_call 44; (with_reducible refine HG.out.mono ?_); rintro e w1 ⟨rfl, hb⟩; rw [HGB.out]; have HB := Lib.hid hb; clear hb)
    go_ret2
    exact ⟨⟨_, _, _, rfl, HR.out.below HB.out⟩, HB.out⟩
  | false =>
    have e1 : longR l = ([], 3) := by simp [longR, hg]
    rw [e1]
    have HGB := Lib.hid hg
    clear hg e1
    go_enter Tryz.func51, Tryz.ntmps51
    go_wp2_with (go_at_call 44; (with_reducible refine HG.out.mono ?_); rintro e w1 ⟨rfl, hb⟩; rw [HGB.out]; have HB := Lib.hid hb; clear hb)
    go_ret2
    exact ⟨⟨_, _, _, rfl, Rd.nil _ _ _⟩, HB.out⟩

/-- What a function of the reference that hands back a bag in new memory leaves. -/
def RetNew (w : World) (p : List It × Int) (e : Ending) (w' : World) : Prop :=
  (∃ A n cap, e = .returned (.tuple #[.slice A n cap, .int .i64 p.2]) ∧ Rd It.vs 4 w' w.heap.size A n p.1) ∧ Below w.heap.size w w'

set_option maxRecDepth 100000 in
set_option maxHeartbeats 4000000 in
theorem NewR_any (A : Option Addr) (n capA : Nat) (l : List It) (w : World) (hR : Rd It.vs 4 w 0 A n l) (hc : n ≤ capA) (hS : n * 32 ≤ 140737488355328) :
    Calls Tryz.prog 22 #[.slice A n capA] w (RetNew w (newR l)) := by
  have hn := hR.le
  have HR := Lib.hid hR
  have HC := Lib.hid hc
  clear hR hc
  go_enter Tryz.func22, Tryz.ntmps22
  go_wp2_with fail
  go_loopw [5, 8] (fun _ i wr => ∃ k : Nat, k ≤ n ∧ i = .int .i64 k ∧ NewRel w l k wr) (fun _ i _ => n - (intOf i).toNat)
  case atStart => exact ⟨0, by omega, rfl, by simp, Below.refl _ _⟩
  case round =>
    obtain ⟨k, hk, rfl, hok, hB⟩ := hrel
    have hRk := HR.out.below hB
    have HB := Lib.hid hB
    have HK := Lib.hid hok
    clear hB hok
    by_cases hlt : k < n
    · obtain ⟨b, off, x, rfl, _, hx, c0, c1, c2, c3⟩ := hRk.it_at hlt
      have HX := Lib.hid hx
      have hno : okN x = false → newR l = ([], 2) := fun h => by
        have : l.all okN = false := List.all_eq_false.2 ⟨x, List.mem_of_getElem? HX.out, by simp [h]⟩
        simp [newR, this]
      have HNO := Lib.hid hno
      clear hx hRk hno
      cases hr : recB x.r with
      | false =>
        have E1 := Lib.hid (HNO.out (by simp [okN, hr]))
        have HRC := Lib.hid hr
        clear hr
        go_wp2_with (go_at_call 69; (with_reducible refine (Rec_any x.r _).mono ?_); rintro e w' ⟨rfl, hb1⟩; rw [HRC.out]; obtain ⟨f0, f1, f2, f3⟩ := box4 hb1; have HB1 := Lib.hid hb1; clear hb1)
        go_ret2
        rw [E1.out]
        exact ⟨⟨none, 0, 0, rfl, Rd.nil _ _ _⟩, below_box HB.out HB.out.size HB1.out⟩
      | true =>
        have HRC := Lib.hid hr
        by_cases hlo : x.n < -1000000
        · have E1 := Lib.hid (HNO.out (by simp [okN, withinB]; omega))
          have hlod : decide (x.n < -1000000) = true := by simpa using hlo
          clear hr hlo
          go_wp2_with (go_at_call 69; (with_reducible refine (Rec_any x.r _).mono ?_); rintro e w' ⟨rfl, hb1⟩; rw [HRC.out]; obtain ⟨f0, f1, f2, f3⟩ := box4 hb1; have HB1 := Lib.hid hb1; clear hb1)
          go_ret2
          rw [E1.out]
          exact ⟨⟨none, 0, 0, rfl, Rd.nil _ _ _⟩, below_box HB.out HB.out.size HB1.out⟩
        · have hlod : decide (x.n < -1000000) = false := by simpa using hlo
          by_cases hhi : 1000000 < x.n
          · have E1 := Lib.hid (HNO.out (by simp [okN, withinB]; omega))
            have hhid : decide (1000000 < x.n) = true := by simpa using hhi
            clear hr hlo hhi
            go_wp2_with (go_at_call 69; (with_reducible refine (Rec_any x.r _).mono ?_); rintro e w' ⟨rfl, hb1⟩; rw [HRC.out]; obtain ⟨f0, f1, f2, f3⟩ := box4 hb1; have HB1 := Lib.hid hb1; clear hb1)
            go_ret2
            rw [E1.out]
            exact ⟨⟨none, 0, 0, rfl, Rd.nil _ _ _⟩, below_box HB.out HB.out.size HB1.out⟩
          · have hhid : decide (1000000 < x.n) = false := by simpa using hhi
            have HXO : Hid (okN x = true) := by show _ = _; simp [okN, hr, withinB]; omega
            clear hr hlo hhi
            go_wp2_with (go_at_call 69; (with_reducible refine (Rec_any x.r _).mono ?_); rintro e w' ⟨rfl, hb1⟩; rw [HRC.out]; obtain ⟨f0, f1, f2, f3⟩ := box4 hb1; have HB1 := Lib.hid hb1; clear hb1)
            refine ⟨⟨k + 1, by omega, by go_num, fun y hy => ?_, below_box HB.out HB.out.size HB1.out⟩, by simp [intOf]; omega⟩
            rw [List.take_add_one, HX.out] at hy
            rcases List.mem_append.1 hy with h | h
            · exact HK.out y h
            · simp at h; rw [h]; exact HXO.out
    · have hk' : k = n := by omega
      subst hk'
      clear hlt
      have hall : ∀ x ∈ l, okN x = true := fun x hx => HK.out x (by rw [List.take_of_length_le (by rw [HR.out.len]; exact Nat.le_refl _)]; exact hx)
      have hll : l.length * 32 ≤ 140737488355328 := by rw [HR.out.len]; exact hS
      have e1 : newR l = longR (canon l) := by rw [bagOr_long]; simp [newR, List.all_eq_true.2 hall]
      have HO := Lib.hid (Of_any A k capA l wr hRk HC.out hS (fits_new hall hll))
      have E1 := Lib.hid e1
      clear hall hll e1 hRk
      go_wp2_with (go_at_call 70; (with_reducible refine HO.out.mono ?_); rintro e w4 ⟨A4, cap4, rfl, hr4, hb4⟩)
      have HL := Lib.hid (longLo_any wr.heap.size A4 _ cap4 _ w4 hr4)
      have HB4 := Lib.hid (bchain HB.out hb4)
      have HSZ := Lib.hid HB.out.size
      clear hr4 hb4 HO
      generalize hq : longR (canon l) = q at *
      generalize (canon l).length = m at *
      clear hq
      go_wp2_with (go_at_call 51; (with_reducible refine HL.out.mono ?_); rintro e w5 ⟨⟨A5, n5, cap5, rfl, hr5⟩, hb5⟩)
      go_ret2
      rw [E1.out]
      exact ⟨⟨_, _, _, rfl, hr5.low HSZ.out⟩, bchain HB4.out hb5⟩
end Go.Proofs.Bg
end

section
/- The reference: Neg, Contrary, Add, Sum. -/
namespace Go.Proofs.Bg
open Go.RowKit

theorem below_row {w W W' : World} {row : Option Nat} (h : Below w.heap.size w W) (hg : W.grownBy W' row) (hr : ∀ g, row = some g → w.heap.size ≤ g) : Below w.heap.size w W' := h.grown hg h.size hr
theorem RetBag.new {w w' : World} {p : List It × Int} {e : Ending} (h : RetBag w p e w') : RetNew w p e w' := by
  obtain ⟨A, cap, he, hr, hb⟩ := h
  exact ⟨⟨A, _, cap, he, hr⟩, hb⟩

set_option maxRecDepth 100000 in
set_option maxHeartbeats 1000000 in
theorem NegR_any (A : Option Addr) (n cap : Nat) (l : List It) (w : World) (hR : Rd It.vs 4 w 0 A n l) (hb : ∀ x ∈ l, -1000000000000000 ≤ x.n ∧ x.n ≤ 1000000000000000) (hlen : n * 32 ≤ 140737488355328) :
    Calls Tryz.prog 73 #[.slice A n cap] w fun e w' => ∃ A' cap', e = .returned (.slice A' n cap') ∧ Rd It.vs 4 w' w.heap.size A' n (l.map negIt) ∧ Below w.heap.size w w' := by
  have HR := Lib.hid hR
  have HBD := Lib.hid hb
  clear hR hb
  go_enter Tryz.func73, Tryz.ntmps73
  go_wp2_with fail
  go_loopw [3, 5, 8] (fun v _ i wr => ∃ k : Nat, k ≤ n ∧ i = .int .i64 k ∧ NegRel w l k v wr) (fun _ _ i _ => n - (intOf i).toNat)
  case atStart => exact ⟨0, by omega, rfl, Own.nil _ _ _ _ _, Below.refl _ _⟩
  case round =>
    obtain ⟨k, hk, rfl, hown, hB⟩ := hrel
    have hRk := HR.out.below hB
    have HB := Lib.hid hB
    have hsz := hB.size
    clear hB
    by_cases hlt : k < n
    · obtain ⟨b, off, x, rfl, _, hx, c0, c1, c2, c3⟩ := hRk.it_at hlt
      have ht : (l.take (k + 1)).map negIt = (l.take k).map negIt ++ [⟨x.r, -x.n⟩] := by rw [List.take_add_one, hx]; simp [negIt]
      obtain ⟨hx1, hx2⟩ := HBD.out x (List.mem_of_getElem? hx)
      have hll : ((l.take k).map negIt).length = k := by rw [List.length_map, List.length_take, HR.out.len]; omega
      generalize (l.take k).map negIt = L at *
      obtain ⟨A3, cap3, rfl⟩ := hown.shape
      have HT := Lib.hid ht
      have HX := Lib.hid hx
      have hw : IntKind.i64.wrap (-x.n) = -x.n := IntWalk.i64_in _ (by omega)
      clear ht hx hRk
      go_wp2_with (at_builtin; refine wpList_app1 It.vs 4 40 _ 32 infoIt rfl (by decide) rfl _ _ _ rfl Tryz.underlying23 w.heap.size _ L rfl ((hown.alloc _).alloc _) ⟨x.r, -x.n⟩ _ _ rfl rfl (newAt _ _ _ _ (by simp)) (by simp [It.vs, Value.oneCell']) (by omega) (by unfold maxLen; omega) (by simp; omega) (fun v4 w4 hown4 hg4 _ => ?_))
      obtain ⟨A4, cap4, rfl⟩ := hown4.shape
      refine ⟨⟨k + 1, by omega, by go_num, ?_, ((HB.out.alloc hsz _).alloc (by simp; omega) _).grown hg4 (by simp; omega) (fun j hj => (hown.blk j hj).1)⟩, by simp [intOf]; omega⟩
      rw [HT.out]
      exact hown4
    · have hk' : k = n := by omega
      subst hk'
      clear hRk hlt
      have hl : (l.take k).map negIt = l.map negIt := by rw [List.take_of_length_le (by rw [HR.out.len]; exact Nat.le_refl _)]
      rw [hl] at hown
      obtain ⟨A5, cap5, he5, hr5⟩ := hown.rd It.vs_length
      have hlen' : (l.map negIt).length = k := by rw [List.length_map, HR.out.len]
      rw [hlen'] at hr5 he5
      subst he5
      clear hl hlen'
      go_wp2_with fail
      go_ret
      exact ⟨A5, cap5, rfl, hr5, HB.out⟩

set_option maxRecDepth 100000 in
set_option maxHeartbeats 1000000 in
theorem Contrary_any (A : Option Addr) (n capA : Nat) (a : List It) (w : World) (hA : Rd It.vs 4 w 0 A n a) :
    Calls Tryz.prog 28 #[.slice A n capA] w (RetNew w (negR a)) := by
  have Q1 := Lib.hid (Good_any A n capA a w hA)
  have HA := Lib.hid hA
  clear hA
  cases ga : bagB a with
  | false =>
    have e1 : negR a = ([], 2) := by simp [negR, ga]
    rw [e1]
    have GA := Lib.hid ga
    clear ga e1
    go_enter Tryz.func28, Tryz.ntmps28
    go_wp2_with (go_at_call 44; (with_reducible refine Q1.out.mono ?_); rintro e w1 ⟨rfl, hb1⟩; rw [GA.out]; have HB1 := Lib.hid hb1; clear hb1)
    go_ret2
    exact ⟨⟨none, 0, 0, rfl, Rd.nil _ _ _⟩, HB1.out⟩
  | true =>
    have e1 : negR a = (a.map negIt, 0) := by simp [negR, ga]
    rw [e1]
    have hsp := (bagB_spec a).1 ga
    have HSP := Lib.hid hsp
    have GA := Lib.hid ga
    have hlen := HA.out.len
    have HLn := Lib.hid hlen
    clear ga e1 hsp hlen
    go_enter Tryz.func28, Tryz.ntmps28
    go_wp2_with fail
    (with_reducible refine Q1.out.mono ?_)
    rintro e w1 ⟨rfl, hb1⟩
    rw [GA.out]
    have HC := Lib.hid (NegR_any A n capA a w1 (HA.out.below hb1) (fun x hx => by have := (itB_spec x).1 (HSP.out.1 x hx); omega) (by have := HSP.out.2.2; have := HLn.out; omega))
    have HB1 := Lib.hid hb1
    clear hb1
    go_wp2_with (go_at_call 73; (with_reducible refine HC.out.mono ?_); rintro e w2 ⟨A2, cap2, rfl, hr2, hb2⟩)
    go_ret2
    exact ⟨⟨A2, n, cap2, rfl, hr2.low HB1.out.size⟩, bchain HB1.out hb2⟩

set_option maxRecDepth 100000 in
set_option maxHeartbeats 2000000 in
theorem AddR_any (A B : Option Addr) (n m capA capB : Nat) (a b : List It) (w : World) (hA : Rd It.vs 4 w 0 A n a) (hB : Rd It.vs 4 w 0 B m b) (hS : (n + m) * 32 ≤ 140737488355328) (hF : Fits (a ++ b)) :
    Calls Tryz.prog 72 #[.slice A n capA, .slice B m capB] w fun e w' => ∃ A' cap', e = .returned (.slice A' (canon (a ++ b)).length cap') ∧ Rd It.vs 4 w' w.heap.size A' (canon (a ++ b)).length (canon (a ++ b)) ∧ Below w.heap.size w w' := by
  have HA := Lib.hid hA
  have HB := Lib.hid hB
  have HS := Lib.hid hS
  have HF := Lib.hid hF
  clear hA hB hS hF
  go_enter Tryz.func72, Tryz.ntmps72
  have HLA : Hid (a.length = n) := HA.out.len
  go_wp2_with (first | (at_builtin; refine wpList_appRd It.vs 4 It.vs_length (by decide) It.one 40 40 _ 32 infoIt rfl rfl _ _ _ _ rfl Tryz.underlying22 Tryz.underlying23 w.heap.size _ [] rfl (Own.nil _ _ _ _ _) 0 n capA A a rfl HA.out (by have := HS.out; simp; omega) (by have := HS.out; unfold maxLen; simp; omega) (Nat.le_refl _) (fun v1 w1 hown1 hg1 _ => ?_); rw [List.nil_append] at hown1; have hb1 : Below w.heap.size w w1 := (Below.refl _ _).grown hg1 (Nat.le_refl _) (fun k e => by cases e); have HB1 := Lib.hid hb1; have HO1 := Lib.hid hown1; clear hown1 hg1 hb1) | (at_builtin; go_loud (refine wpList_appRd It.vs 4 It.vs_length (by decide) It.one 40 40 _ 32 infoIt rfl rfl _ _ _ _ rfl Tryz.underlying22 Tryz.underlying23 w.heap.size _ a rfl HO1.out 0 m capB B b rfl (HB.out.below HB1.out) (by have := HS.out; rw [HLA.out]; exact this) (by have := HS.out; rw [HLA.out]; unfold maxLen; omega) HB1.out.size (fun v2 w2 hown2 hg2 _ => ?_)); have HB2 := Lib.hid (HB1.out.grown hg2 HB1.out.size (fun k e => (HO1.out.blk k e).1)); have HO2 := Lib.hid hown2; obtain ⟨A2, c2, rfl⟩ := hown2.shape; clear hown2 hg2))
  have hown2 := HO2.out
  have hlab : (a ++ b).length = n + m := by rw [List.length_append, HLA.out, HB.out.len]
  have hr2 := hown2.rdOf It.vs_length
  have hcp := hown2.capOf
  rw [List.length_append] at hr2 hcp hlab
  have C1 := Lib.hid (Of_any A2 (a.length + b.length) c2 (a ++ b) w2 (hr2.low (Nat.zero_le _)) hcp (by rw [hlab]; exact HS.out) HF.out)
  clear hown2 hlab hr2 hcp HO2 HO1
  generalize hL : a ++ b = L at *
  have HL := Lib.hid hL
  clear hL
  (with_reducible refine C1.out.mono ?_)
  rintro e w3 ⟨A3, cap3, rfl, hr3, hb3⟩
  have HR3 := Lib.hid hr3
  have HB3 := Lib.hid (bchain HB2.out hb3)
  clear hr3 hb3 C1
  generalize hq : (canon L).length = q at *
  have HQ := Lib.hid hq
  clear hq
  go_wp2_with fail
  go_ret
  rw [HL.out, HQ.out]
  exact ⟨A3, cap3, rfl, HR3.out.low HB2.out.size, HB3.out⟩

set_option maxRecDepth 100000 in
set_option maxHeartbeats 2000000 in
theorem Sum_any (A B : Option Addr) (n m capA capB : Nat) (a b : List It) (w : World) (hA : Rd It.vs 4 w 0 A n a) (hB : Rd It.vs 4 w 0 B m b) :
    Calls Tryz.prog 27 #[.slice A n capA, .slice B m capB] w (RetNew w (addR a b)) := by
  have Q1 := Lib.hid (Good_any A n capA a w hA)
  have HA := Lib.hid hA
  have HB := Lib.hid hB
  clear hA hB
  cases ga : bagB a with
  | false =>
    have e1 : addR a b = ([], 2) := by simp [addR, ga]
    rw [e1]
    have GA := Lib.hid ga
    clear ga e1
    go_enter Tryz.func27, Tryz.ntmps27
    go_wp2_with (go_at_call 44; (with_reducible refine Q1.out.mono ?_); rintro e w1 ⟨rfl, hb1⟩; rw [GA.out]; have HB1 := Lib.hid hb1; clear hb1)
    go_ret2
    exact ⟨⟨_, _, _, rfl, Rd.nil _ _ _⟩, HB1.out⟩
  | true =>
    cases gb : bagB b with
    | false =>
      have e1 : addR a b = ([], 2) := by simp [addR, gb]
      rw [e1]
      have GA := Lib.hid ga
      have GB := Lib.hid gb
      clear ga gb e1
      go_enter Tryz.func27, Tryz.ntmps27
      go_wp2_with fail
      (with_reducible refine Q1.out.mono ?_)
      rintro e w1 ⟨rfl, hb1⟩
      rw [GA.out]
      have Q2 := Lib.hid (Good_any B m capB b w1 (HB.out.below hb1))
      have HB1 := Lib.hid hb1
      clear hb1
      go_wp2_with (go_at_call 44; (with_reducible refine Q2.out.mono ?_); rintro e w2 ⟨rfl, hb2⟩; rw [GB.out]; have HB2 := Lib.hid hb2; clear hb2)
      go_ret2
      exact ⟨⟨_, _, _, rfl, Rd.nil _ _ _⟩, bchain HB1.out HB2.out⟩
    | true =>
      have e1 : addR a b = longR (canon (a ++ b)) := by rw [bagOr_long]; simp [addR, ga, gb]
      rw [e1]
      have GA := Lib.hid ga
      have GB := Lib.hid gb
      have hn3 : n ≤ 300 := by rw [← HA.out.len]; exact ((bagB_spec a).1 ga).2.2
      have hm3 : m ≤ 300 := by rw [← HB.out.len]; exact ((bagB_spec b).1 gb).2.2
      clear ga gb e1
      go_enter Tryz.func27, Tryz.ntmps27
      go_wp2_with fail
      (with_reducible refine Q1.out.mono ?_)
      rintro e w1 ⟨rfl, hb1⟩
      rw [GA.out]
      have Q2 := Lib.hid (Good_any B m capB b w1 (HB.out.below hb1))
      have HB1 := Lib.hid hb1
      clear hb1
      go_wp2_with (go_at_call 44; (with_reducible refine Q2.out.mono ?_); rintro e w2 ⟨rfl, hb2⟩; rw [GB.out]; have HB2 := Lib.hid (bchain HB1.out hb2); have HP := Lib.hid (AddR_any A B n m capA capB a b w2 (HA.out.below HB2.out) (HB.out.below HB2.out) (by omega) (fits_two GA.out GB.out)); clear hb2)
      (with_reducible refine HP.out.mono ?_)
      rintro e w3 ⟨A3, cap3, rfl, hr3, hb3⟩
      have HL := Lib.hid (longLo_any w2.heap.size A3 _ cap3 _ w3 hr3)
      have HB3 := Lib.hid (bchain HB2.out hb3)
      clear hr3 hb3 HP
      generalize hq : longR (canon (a ++ b)) = q at *
      generalize (canon (a ++ b)).length = p at *
      clear hq
      go_wp2_with (go_at_call 51; (with_reducible refine HL.out.mono ?_); rintro e w4 ⟨⟨A4, n4, cap4, rfl, hr4⟩, hb4⟩)
      go_ret2
      exact ⟨⟨_, _, _, rfl, hr4.low HB2.out.size⟩, bchain HB3.out hb4⟩
end Go.Proofs.Bg
end
