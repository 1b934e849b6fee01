/- The reference: Of. -/
import Derived.BigQuiet
import Derived.Test.YtcbemmlhpinjkaaGreatDoorBgSorted
import Derived.Test.YtcbemmlhpinjkaaGreatDoorBgSame
namespace Go.Proofs.Bg
open Go.RowKit

/-- What the first loop has made of some sorted items. -/
structure Mrg (s O : List It) : Prop where
  sums : ∀ r, sumN O r = sumN s r
  incr : Incr (O.map (·.r))
  mem : ∀ y ∈ O, y.r ∈ s.map (·.r)
  len : O.length ≤ s.length
theorem Mrg.nil : Mrg [] [] := ⟨fun _ => rfl, by simp [Incr], (fun _ h => by cases h), Nat.le_refl _⟩
theorem Mrg.new {s O : List It} {x : It} (h : Mrg s O) (hs : SortedL (s ++ [x])) (hne : ∀ p, O.getLast? = some p → p.r ≠ x.r) : Mrg (s ++ [x]) (O ++ [x]) := by
  have hle : ∀ y ∈ O, ¬ rcmp x.r y.r < 0 := fun y hy => by
    obtain ⟨z, hz, e⟩ := List.mem_map.1 (h.mem y hy)
    unfold SortedL at hs
    rw [List.pairwise_append] at hs
    rw [← e]
    exact hs.2.2 z hz x (by simp)
  have hlt : ∀ y ∈ O, rcmp y.r x.r < 0 := fun y hy => by
    rcases rcmp_total y.r x.r with h1 | h1 | h1
    · exact h1
    · exfalso
      obtain ⟨O', p, rfl⟩ : ∃ O' p, O = O' ++ [p] := ⟨O.dropLast, O.getLast (List.ne_nil_of_mem hy), (List.dropLast_concat_getLast _).symm⟩
      have hp := hne p (by simp)
      have hin := h.incr
      unfold Incr at hin
      rw [List.map_append, List.pairwise_append] at hin
      rcases List.mem_append.1 hy with hy' | hy'
      · have h2 := hin.2.2 y.r (List.mem_map.2 ⟨y, hy', rfl⟩) p.r (by simp)
        rw [h1] at h2
        exact hle p (by simp) h2
      · rw [List.mem_singleton.1 hy'] at h1
        exact hp h1
    · exact absurd h1 (hle y hy)
  refine ⟨fun r => by rw [sumN_append, sumN_append, h.sums], ?_, fun y hy => ?_, by simp; exact h.len⟩
  · unfold Incr
    rw [List.map_append, List.pairwise_append]
    exact ⟨h.incr, by simp, fun a ha b hb => by
      obtain ⟨y, hy, rfl⟩ := List.mem_map.1 ha
      simp at hb
      rw [hb]
      exact hlt y hy⟩
  · rcases List.mem_append.1 hy with hy | hy
    · rw [List.map_append]; exact List.mem_append_left _ (h.mem y hy)
    · rw [List.mem_singleton.1 hy]; simp
theorem Mrg.same {s O : List It} {p x : It} (h : Mrg s (O ++ [p])) (he : p.r = x.r) : Mrg (s ++ [x]) (O ++ [⟨p.r, p.n + x.n⟩]) := by
  refine ⟨fun r => ?_, by have := h.incr; simpa using this, fun y hy => ?_, ?_⟩
  · have := h.sums r
    rw [sumN_append] at this ⊢
    rw [sumN_append, ← this]
    simp only [sumN, he]
    split <;> omega
  · rw [List.map_append]
    refine List.mem_append_left _ ?_
    rcases List.mem_append.1 hy with hy | hy
    · exact h.mem y (List.mem_append_left _ hy)
    · rw [List.mem_singleton.1 hy]
      exact h.mem p (by simp)
  · have := h.len
    simp at this ⊢
    omega
theorem Mrg.last {s O : List It} {p : It} (h : Mrg s (O ++ [p])) : p.n = sumN s p.r := by
  rw [← h.sums]
  exact (sumN_at h.incr (by simp)).symm

theorem Own.setLast {base g cap : Nat} {w : World} {O : List It} {p : It} (h : Own It.vs 4 40 base w (.slice (some ⟨g, 0, none⟩) (O ++ [p]).length cap) (O ++ [p])) (m : Int) :
    Own It.vs 4 40 base (w.setCell ⟨g, O.length * 4 + 3, none⟩ (.int .i64 m)) (.slice (some ⟨g, 0, none⟩) (O ++ [p]).length cap) (O ++ [⟨p.r, m⟩]) ∧ w.grownBy (w.setCell ⟨g, O.length * 4 + 3, none⟩ (.int .i64 m)) (some g) := by
  obtain ⟨hlen, hrest⟩ := h
  rcases hrest with ⟨e, _⟩ | ⟨g', cap', cur, e, hb, hblk, h1, h2, h3, h4⟩
  · cases e
  · cases e
    obtain ⟨s1, s2⟩ := setCell_at (off := O.length * 4 + 3) hblk (.int .i64 m)
    refine ⟨⟨flat_length It.vs_length _, .inr ⟨g, cap, _, by simp, hb, s1, by simpa using h1, h2, by simpa using h3, ?_⟩⟩, s2⟩
    have hlO : (O.flatMap It.vs).length = O.length * 4 := flat_length It.vs_length O
    rw [Array.toList_setIfInBounds, List.take_set]
    have e4 : List.take ((O ++ [(⟨p.r, m⟩ : It)]).length * 4) cur.toList = (O ++ [p]).flatMap It.vs := by
      rw [← h4]; simp
    rw [e4, List.flatMap_append, List.flatMap_append, List.set_append]
    rw [if_neg (by omega)]
    congr 1
    have : O.length * 4 + 3 - (O.flatMap It.vs).length = 3 := by omega
    rw [this]
    rfl
-- OF
theorem alloc_drewN_alloc (w : World) (o : Obj) (n : Nat) (o' : Obj) : w.grownBy (((w.alloc o).drewN n).alloc o') none :=
  ⟨rfl, rfl, rfl, by simp; omega, fun i hi _ => by rw [Below.heap_alloc _ _ _ (by simp; omega)]; exact Below.heap_alloc _ _ _ hi⟩
theorem below_far {w2 wr W z : World} {row : Option Nat} (hB : Below w2.heap.size w2 wr) (h0 : wr.grownBy W none) (hg : W.grownBy z row) (hr : ∀ k, row = some k → w2.heap.size ≤ k) : Below w2.heap.size w2 z :=
  (hB.grown h0 hB.size (fun k e => by cases e)).grown hg (Nat.le_trans hB.size h0.size) hr
theorem Own.drewN {α : Type} {enc : α → List Value} {sz : Nat} {T : TypeId} {base : Nat} {w : World} {v : Value} {l : List α} (h : Own enc sz T base w v l) (n : Nat) : Own enc sz T base (w.drewN n) v l := h
theorem Rc.ext3 {a b : Rc} (h0 : a.at_ = b.at_) (h1 : a.key = b.key) (h2 : a.val = b.val) : a = b := by cases a; cases b; simp_all
theorem sorted_prefix {a b : List It} (h : SortedL (a ++ b)) : SortedL a := (List.pairwise_append.1 h).1
theorem Own.lastCells {base g cap : Nat} {w : World} {O : List It} {p : It} (h : Own It.vs 4 40 base w (.slice (some ⟨g, 0, none⟩) (O ++ [p]).length cap) (O ++ [p])) : w.cell? ⟨g, O.length * 4, none⟩ = some (.int .i64 p.r.at_) ∧ w.cell? ⟨g, O.length * 4 + 1, none⟩ = some (.int .i64 p.r.key) ∧ w.cell? ⟨g, O.length * 4 + 2, none⟩ = some (.int .i64 p.r.val) ∧ w.cell? ⟨g, O.length * 4 + 3, none⟩ = some (.int .i64 p.n) ∧ w.frozen? ⟨g, O.length * 4 + 3, none⟩ = false := by
  have hx : (O ++ [p])[O.length]? = some p := by simp
  have hc : ∀ j v, (It.vs p)[j]? = some v → w.cell? ⟨g, O.length * 4 + j, none⟩ = some v := fun j v hv => by
    have hf := flat_at It.vs_length (O ++ [p]) _ _ hx j v hv
    rw [← hf]
    exact World.ownsRow.cellAt h _ (by have := (List.getElem?_eq_some_iff.1 hf).1; rw [flat_length It.vs_length] at this; exact this)
  refine ⟨hc 0 _ rfl, hc 1 _ rfl, hc 2 _ rfl, hc 3 _ rfl, World.ownsRow.frozenAt h _⟩

set_option maxRecDepth 100000 in
set_option maxHeartbeats 8000000 in
theorem Of_any (A : Option Addr) (n cap : Nat) (l : List It) (w : World) (hR : Rd It.vs 4 w 0 A n l) (hc : n ≤ cap) (hS : n * 32 ≤ 140737488355328) (hF : Fits l) :
    Calls Tryz.prog 70 #[.slice A n cap] w fun e w' => ∃ A' cap', e = .returned (.slice A' (canon l).length cap') ∧ Rd It.vs 4 w' w.heap.size A' (canon l).length (canon l) ∧ Below w.heap.size w w' := by
  have C1 := Lib.hid (sorted_any (n + 1) A n cap l w (by omega) hR hc hS)
  have HLN : Hid (l.length = n) := hR.len
  have HF := Lib.hid hF
  clear hR hF hc
  go_enter Tryz.func70, Tryz.ntmps70
  go_wp2_with (go_at_call 104; (with_reducible refine C1.out.mono ?_); rintro e w2 ⟨v1, s, rfl, hos, hps, hss, hb2⟩; obtain ⟨As, cs, rfl⟩ := hos.shape)
  obtain ⟨_, _, es, hrs⟩ := hos.rd It.vs_length
  cases es
  have hsl : s.length = n := by rw [hps.length_eq, HLN.out]
  have HRS := Lib.hid hrs
  have HPS := Lib.hid hps
  have HSS := Lib.hid hss
  have HB2 := Lib.hid hb2
  have HSL := Lib.hid hsl
  have hle := hrs.le
  clear hos hrs hps hss hb2 C1
  generalize hM : s.length = M at *
  have HM := Lib.hid hM
  clear hM
  have hMn : M * 32 ≤ 140737488355328 := by omega
  clear hsl
  go_loopw [3, 5, 6, 13] (fun v _ _ i wr => ∃ k : Nat, k ≤ M ∧ i = .int .i64 k ∧ ∃ O, Mrg (s.take k) O ∧ Own It.vs 4 40 w2.heap.size wr v O ∧ Below w2.heap.size w2 wr) (fun _ _ _ i _ => M - (intOf i).toNat)
  case atStart => exact ⟨0, by omega, rfl, [], Mrg.nil, Own.nil _ _ _ _ _, Below.refl _ _⟩
  case round =>
    obtain ⟨k, hk, rfl, O, hm, hown, hBr⟩ := hrel
    obtain ⟨A3, cap3, rfl⟩ := hown.shape
    have hRk := HRS.out.below hBr
    have HBr := Lib.hid hBr
    have HMG := Lib.hid hm
    have hOl : O.length ≤ k := by have := hm.len; rw [List.length_take] at this; omega
    have hsw := hBr.size
    clear hBr hm
    by_cases hlt : k < M
    · obtain ⟨b, off, x, rfl, _, hx, c0, c1, c2, c3⟩ := hRk.it_at hlt
      have htk : s.take (k + 1) = s.take k ++ [x] := by rw [List.take_add_one, hx]; rfl
      have hsk : SortedL (s.take k ++ [x]) := by
        rw [← htk]
        have := HSS.out
        rw [← List.take_append_drop (k + 1) s] at this
        exact sorted_prefix this
      have hx0 := new_block wr #[.int .i64 x.r.at_, .int .i64 x.r.key, .int .i64 x.r.val, .int .i64 x.n] 40
      have f0 := cell_at_block (off := 0) hx0 rfl
      have f1 := cell_at_block (off := 1) hx0 rfl
      have f2 := cell_at_block (off := 2) hx0 rfl
      have f3 := cell_at_block (off := 3) hx0 rfl
      have HTK := Lib.hid htk
      have HSK := Lib.hid hsk
      have HX := Lib.hid hx
      clear hx0 htk hsk hx hRk
      by_cases hO : O = []
      · have NM := Lib.hid (HMG.out.new HSK.out (fun p hp => by rw [hO] at hp; cases hp))
        have hgd : decide (0 < O.length) = false := by rw [hO]; rfl
        clear hO
        go_wp2_with fail
        go_quiet (fail)
        go_wp2_with (at_builtin; go_loud (refine wpList_app1 It.vs 4 40 _ 32 infoIt rfl (by decide) rfl _ _ _ rfl Tryz.underlying23 w2.heap.size _ O rfl (((hown.alloc _).drewN _).alloc _) x _ _ rfl rfl (newAt _ _ _ _ (by simp)) (by simp [It.vs, Value.oneCell']) (by omega) (by unfold maxLen; omega) (by simp; omega) (fun v6 z6 hown6 hg6 _ => ?_)))
        exact ⟨⟨k + 1, by omega, by go_num, _, by rw [HTK.out]; exact NM.out, hown6, below_far HBr.out (alloc_drewN_alloc _ _ _ _) hg6 (fun j hj => (hown.blk j hj).1)⟩, by simp [intOf]; omega⟩
      · obtain ⟨O', p, rfl⟩ : ∃ O' p, O = O' ++ [p] := ⟨O.dropLast, O.getLast hO, (List.dropLast_concat_getLast _).symm⟩
        clear hO
        obtain ⟨g, rfl⟩ : ∃ g, A3 = some ⟨g, 0, none⟩ := by
          rcases hown.2 with ⟨_, e0⟩ | ⟨g, cap, cur, e, _⟩
          · simp at e0
          · cases e; exact ⟨g, rfl⟩
        obtain ⟨d0, d1, d2, d3, dz⟩ := hown.lastCells
        have hgl := (hown.blk g rfl)
        have q0 := keep_cell (Below.refl _ (wr.alloc (.cells #[.int .i64 x.r.at_, .int .i64 x.r.key, .int .i64 x.r.val, .int .i64 x.n] 40))) d0
        have q1 := keep_cell (Below.refl _ (wr.alloc (.cells #[.int .i64 x.r.at_, .int .i64 x.r.key, .int .i64 x.r.val, .int .i64 x.n] 40))) d1
        have q2 := keep_cell (Below.refl _ (wr.alloc (.cells #[.int .i64 x.r.at_, .int .i64 x.r.key, .int .i64 x.r.val, .int .i64 x.n] 40))) d2
        have q3 := keep_cell (Below.refl _ (wr.alloc (.cells #[.int .i64 x.r.at_, .int .i64 x.r.key, .int .i64 x.r.val, .int .i64 x.n] 40))) d3
        have HOWN := Lib.hid hown
        have hol : (O' ++ [p]).length = O'.length + 1 := by simp
        generalize hON : (O' ++ [p]).length = on at *
        have HON := Lib.hid hON
        clear hON
        have hgd : decide (0 < on) = true := by simp; omega
        have hw : IntKind.i64.wrap ((on : Int) - 1) = O'.length := by rw [hol]; rw [IntWalk.i64_in _ (by omega)]; omega
        have hw0 : (0 : Int) ≤ O'.length := by omega
        have hw1 : (O'.length : Int) < on := by omega
        have hw2 : (O'.length : Int).toNat = O'.length := by omega
        clear hol
        by_cases hpx : p.r = x.r
        · have NM := Lib.hid (HMG.out.same hpx)
          cases x with
          | mk xr xn =>
          change p.r = xr at hpx
          subst hpx
          dsimp only at c0 c1 c2 c3 f0 f1 f2 f3 q0 q1 q2 q3
          have hbd : -9223372036854775808 ≤ p.n + xn ∧ p.n + xn ≤ 9223372036854775807 := by
            have hl := NM.out.last
            simp only at hl
            obtain ⟨B, hB0, hB, hBl⟩ := HF.out.ex
            have hBs : Bdd B (s.take k ++ [⟨p.r, xn⟩]) := fun z hz => hB z (HPS.out.subset (by
              rw [← HTK.out] at hz
              exact List.mem_of_mem_take hz))
            have h3 := sumN_bdd hB0 hBs p.r
            rw [← hl] at h3
            have h4 : B * ((s.take k ++ [(⟨p.r, xn⟩ : It)]).length : Int) ≤ B * (l.length : Int) := Int.mul_le_mul_of_nonneg_left (by rw [← HTK.out, List.length_take]; have := HSL.out; have := HLN.out; omega) hB0
            omega
          have hwn : IntKind.i64.wrap (p.n + xn) = p.n + xn := IntWalk.i64_in _ hbd
          go_wp2_with fail
          have dz' : (wr.alloc (.cells #[.int .i64 p.r.at_, .int .i64 p.r.key, .int .i64 p.r.val, .int .i64 xn] 40)).frozen? ⟨g, O'.length * 4 + 3, none⟩ = false := by
            have hO1 := HOWN.out
            rw [← HON.out] at hO1
            have := World.ownsRow.frozenAt (World.ownsRow.alloc hO1 (.cells #[.int .i64 p.r.at_, .int .i64 p.r.key, .int .i64 p.r.val, .int .i64 xn] 40)) (O'.length * 4 + 3)
            exact this
          go_quiet (fail)
          go_wp2_with fail
          refine wp_region_still_tail 11 (by kernel_rfl) (by kernel_rfl) ?_
          simp only [List.take_succ_cons, List.take_zero, List.drop_succ_cons, List.drop_zero]
          change wpStill _ _ (World.drew _) _ _ _
          repeat still_step
          refine wpStill_nil ?_
          change wpList _ _ _ _ _ (World.drew _)
          go_wp2_with fail
          have hO2 := HOWN.out
          rw [← HON.out] at hO2
          have SL := Own.setLast (w := ((wr.alloc (.cells #[.int .i64 p.r.at_, .int .i64 p.r.key, .int .i64 p.r.val, .int .i64 xn] 40)).drewN nq).drew) (hO2.alloc _) (p.n + xn)
          have s1 := SL.1
          rw [HON.out] at s1
          exact ⟨⟨k + 1, by omega, by go_num, _, by rw [HTK.out]; exact NM.out, s1, below_far (W := ((wr.alloc (.cells #[.int .i64 p.r.at_, .int .i64 p.r.key, .int .i64 p.r.val, .int .i64 xn] 40)).drewN nq).drew) (row := some g) HBr.out ⟨rfl, rfl, rfl, by simp, fun i hi _ => Below.heap_alloc _ _ _ hi⟩ SL.2 (fun j hj => by cases hj; exact hgl.1)⟩, by simp [intOf]; omega⟩
        · have NM := Lib.hid (HMG.out.new HSK.out (fun q hq => by simp at hq; rw [← hq]; exact hpx))
          cases e0 : (p.r.at_ == x.r.at_) with
          | false =>
            clear hpx 
            go_wp2_with fail
            go_quiet (fail)
            go_wp2_with (at_builtin; go_loud (refine wpList_app1 It.vs 4 40 _ 32 infoIt rfl (by decide) rfl _ _ _ rfl Tryz.underlying23 w2.heap.size _ (O' ++ [p]) rfl (((hown.alloc _).drewN _).alloc _) x _ _ rfl rfl (newAt _ _ _ _ (by simp)) (by simp [It.vs, Value.oneCell']) (by rw [HON.out]; omega) (by rw [HON.out]; unfold maxLen; omega) (by simp; omega) (fun v6 z6 hown6 hg6 _ => ?_)))
            exact ⟨⟨k + 1, by omega, by go_num, _, by rw [HTK.out]; exact NM.out, hown6, below_far HBr.out (alloc_drewN_alloc _ _ _ _) hg6 (fun j hj => (hown.blk j hj).1)⟩, by simp [intOf]; omega⟩
          | true =>
            have g0 := beq_iff_eq.1 e0
            rw [← g0] at f0
            cases e1 : (p.r.key == x.r.key) with
            | false =>
              clear hpx e0 g0
              go_wp2_with fail
              go_quiet (fail)
              go_wp2_with (at_builtin; go_loud (refine wpList_app1 It.vs 4 40 _ 32 infoIt rfl (by decide) rfl _ _ _ rfl Tryz.underlying23 w2.heap.size _ (O' ++ [p]) rfl (((hown.alloc _).drewN _).alloc _) x _ _ rfl rfl (newAt _ _ _ _ (by simp)) (by simp [It.vs, Value.oneCell']) (by rw [HON.out]; omega) (by rw [HON.out]; unfold maxLen; omega) (by simp; omega) (fun v6 z6 hown6 hg6 _ => ?_)))
              exact ⟨⟨k + 1, by omega, by go_num, _, by rw [HTK.out]; exact NM.out, hown6, below_far HBr.out (alloc_drewN_alloc _ _ _ _) hg6 (fun j hj => (hown.blk j hj).1)⟩, by simp [intOf]; omega⟩
            | true =>
              have g1 := beq_iff_eq.1 e1
              rw [← g1] at f1
              have e2 : (p.r.val == x.r.val) = false := by
                cases h : (p.r.val == x.r.val) with
                | false => rfl
                | true => exact absurd (Rc.ext3 g0 g1 (beq_iff_eq.1 h)) hpx
              clear hpx e0 g0 e1 g1
              go_wp2_with fail
              go_quiet (fail)
              go_wp2_with (at_builtin; go_loud (refine wpList_app1 It.vs 4 40 _ 32 infoIt rfl (by decide) rfl _ _ _ rfl Tryz.underlying23 w2.heap.size _ (O' ++ [p]) rfl (((hown.alloc _).drewN _).alloc _) x _ _ rfl rfl (newAt _ _ _ _ (by simp)) (by simp [It.vs, Value.oneCell']) (by rw [HON.out]; omega) (by rw [HON.out]; unfold maxLen; omega) (by simp; omega) (fun v6 z6 hown6 hg6 _ => ?_)))
              exact ⟨⟨k + 1, by omega, by go_num, _, by rw [HTK.out]; exact NM.out, hown6, below_far HBr.out (alloc_drewN_alloc _ _ _ _) hg6 (fun j hj => (hown.blk j hj).1)⟩, by simp [intOf]; omega⟩
    · have hk' : k = M := by omega
      subst hk'
      clear hRk hlt
      have HMG2 : Hid (Mrg s O) := by have := HMG.out; rwa [List.take_of_length_le (by rw [HM.out]; exact Nat.le_refl _)] at this
      obtain ⟨_, _, e3, hr3⟩ := hown.rd It.vs_length
      cases e3
      have hle3 := hr3.le
      have HR3 := Lib.hid hr3
      have HFIN : Hid (O.filter (fun x => x.n != 0) = canon l) := IsBag.eq ⟨incr_filter _ HMG2.out.incr, fun x hx => by simpa using (List.mem_filter.1 hx).2, fun r => by rw [filter_sum, HMG2.out.sums, sumN_perm HPS.out]⟩
      have HSZ := Lib.hid hsw
      clear hown hr3 hsw
      generalize hQ : O.length = Q at *
      have HQ := Lib.hid hQ
      clear hQ
      obtain ⟨wo, rfl⟩ : ∃ wo : World, wo = wr := ⟨_, rfl⟩
      go_wp2_with fail
      go_loopw [7, 9, 50] (fun v _ i wi => ∃ j : Nat, j ≤ Q ∧ i = .int .i64 j ∧ Own It.vs 4 40 wo.heap.size wi v ((O.take j).filter (fun x => x.n != 0)) ∧ Below wo.heap.size wo wi) (fun _ _ i _ => Q - (intOf i).toNat)
      case atStart => exact ⟨0, by omega, rfl, by simpa using Own.nil _ _ _ _ _, Below.refl _ _⟩
      case round =>
        obtain ⟨j, hj, rfl, hown, hB⟩ := hrel
        obtain ⟨A5, cap5, rfl⟩ := hown.shape
        have hRj := HR3.out.below hB
        have HBj := Lib.hid hB
        have hsj := hB.size
        clear hB
        by_cases hjl : j < Q
        · obtain ⟨b3, off3, y, rfl, _, hy, d0, d1, d2, d3⟩ := hRj.it_at hjl
          have hft : (O.take (j + 1)).filter (fun x => x.n != 0) = (O.take j).filter (fun x => x.n != 0) ++ (if y.n != 0 then [y] else []) := by
            rw [List.take_add_one, hy, List.filter_append]
            cases h : (y.n != 0) <;> simp [h]
          have hfl : ((O.take j).filter (fun x => x.n != 0)).length ≤ j := Nat.le_trans (List.length_filter_le _ _) (by rw [List.length_take]; omega)
          have HFT := Lib.hid hft
          clear hft hy hRj
          generalize (O.take j).filter (fun x => x.n != 0) = FL at *
          cases hz : (y.n != 0) with
          | false =>
            have HZ := Lib.hid hz
            go_wp2_with fail
            exact ⟨⟨j + 1, by omega, by go_num, by rw [HFT.out, HZ.out]; simpa using hown.alloc _, HBj.out.alloc hsj _⟩, by simp [intOf]; omega⟩
          | true =>
            have HZ := Lib.hid hz
            go_wp2_with (at_builtin; go_loud (refine wpList_app1 It.vs 4 40 _ 32 infoIt rfl (by decide) rfl _ _ _ rfl Tryz.underlying23 wo.heap.size _ FL rfl ((hown.alloc _).alloc _) y _ _ rfl rfl (newAt _ _ _ _ (by simp)) (by simp [It.vs, Value.oneCell']) (by omega) (by unfold maxLen; omega) (by simp; omega) (fun v4 w4 hown4 hg4 _ => ?_)))
            exact ⟨⟨j + 1, by omega, by go_num, by rw [HFT.out, HZ.out]; simpa using hown4, below_far HBj.out (alloc2_none _ _ _) hg4 (fun q hq => (hown.blk q hq).1)⟩, by simp [intOf]; omega⟩
        · have hj' : j = Q := by omega
          subst hj'
          clear hRj hjl
          go_wp2_with fail
          go_ret
          have e1 : O.take j = O := List.take_of_length_le (by rw [HQ.out]; exact Nat.le_refl _)
          rw [e1, HFIN.out] at hown ⊢
          obtain ⟨A7, cap7, e7, hr7⟩ := hown.rd It.vs_length
          cases e7
          exact ⟨_, _, rfl, hr7.low (Nat.le_trans HB2.out.size HSZ.out), HB2.out.trans ((HBr.out.trans (HBj.out.mono HSZ.out)).mono HB2.out.size)⟩
end Go.Proofs.Bg
