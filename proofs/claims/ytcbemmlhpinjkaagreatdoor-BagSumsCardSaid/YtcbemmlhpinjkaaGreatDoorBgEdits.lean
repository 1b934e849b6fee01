/- The contract of Edits. -/
import Derived.Test.YtcbemmlhpinjkaaGreatDoorBgEdMem
namespace Go.Proofs.Bg
open Go.RowKit

def RetEds (w : World) (p : List Ed × Int) (e : Ending) (w' : World) : Prop :=
  ∃ A cap, e = .returned (.tuple #[.slice A p.1.length cap, .int .i64 p.2]) ∧ Rd Ed.vs 8 w' w.heap.size A p.1.length p.1 ∧ Below w.heap.size w w'
theorem keyI (k : Int) (h : I64 k) : ∃ l, keyOf Tryz.prog 3 (ekI k) = some l := by
  obtain ⟨h1, h2⟩ := h
  have e1 : (Lit.int .i64 k).wf = true := WalkArith.wf_i64 ⟨h1, h2⟩
  unfold keyOf
  rw [Tryz.underlying3]
  exact ⟨.int .i64 k, by simp [mapKey, ekI, Tryz.underlying3, e1]⟩
theorem zeroS (u : World) : (zeroValue 102).run Tryz.prog u = .ok (.agg #[nilV, nilV]) u := by kernel_rfl
theorem lookS {w : World} {r : Nat} {kv : List (Int × Sd)} (h : MapS w r kv) {key : Int} (hk : I64 key) : (Instr.lookup 100 (.map (some r)) (.int .i64 key) false).run Tryz.prog w = .ok (.agg #[sv kv key false, sv kv key true]) w := by
  obtain ⟨kl, hkl⟩ := keyI key hk
  refine (h.lookup lawInt ekI_inj Tryz.underlying100 zeroS hkl).trans ?_
  unfold sv
  cases getKV kv key <;> rfl

theorem Rd.ed_at {w : World} {lo n : Nat} {A : Option Addr} {l : List Ed} (h : Rd Ed.vs 8 w lo A n l) {k : Nat} (hk : k < n) : ∃ b off x, A = some ⟨b, off, none⟩ ∧ l[k]? = some x ∧ w.cell? ⟨b, off + k * 8, none⟩ = some (.int .i64 x.d) ∧ w.cell? ⟨b, off + k * 8 + 1, none⟩ = some (.int .i64 x.old.at_) ∧ w.cell? ⟨b, off + k * 8 + 2, none⟩ = some (.int .i64 x.old.key) ∧ w.cell? ⟨b, off + k * 8 + 3, none⟩ = some (.int .i64 x.old.val) ∧ w.cell? ⟨b, off + k * 8 + 4, none⟩ = some (.int .i64 x.new.at_) ∧ w.cell? ⟨b, off + k * 8 + 5, none⟩ = some (.int .i64 x.new.key) ∧ w.cell? ⟨b, off + k * 8 + 6, none⟩ = some (.int .i64 x.new.val) ∧ w.cell? ⟨b, off + k * 8 + 7, none⟩ = some (.int .i64 x.n) := by
  obtain ⟨b, off, x, rfl, _, hx, hc⟩ := h.at_ hk
  exact ⟨b, off, x, rfl, hx, hc 0 _ rfl, hc 1 _ rfl, hc 2 _ rfl, hc 3 _ rfl, hc 4 _ rfl, hc 5 _ rfl, hc 6 _ rfl, hc 7 _ rfl⟩
theorem two_boxes {wr z4 : World} {c1 c2 : Array Value} {T1 T2 : TypeId} {o : Obj} {v : Value} (hv : ∀ g, v.ownBlock = some g → g < wr.heap.size) (hg : (((wr.alloc (.cells c1 T1)).alloc (.cells c2 T2)).alloc o).grownBy z4 v.ownBlock) : z4.heap[wr.heap.size]? = some (.cells c1 T1) ∧ z4.heap[wr.heap.size + 1]? = some (.cells c2 T2) := by
  constructor
  · refine (hg.block _ (by simp; omega) (fun e => by have := hv _ e.symm; omega)).trans ?_
    rw [Below.heap_alloc _ _ _ (by simp; omega), Below.heap_alloc _ _ _ (by simp)]
    exact new_block _ _ _
  · refine (hg.block _ (by simp) (fun e => by have := hv _ e.symm; omega)).trans ?_
    rw [Below.heap_alloc _ _ _ (by simp)]
    have := new_block (wr.alloc (.cells c1 T1)) c2 T2
    simpa using this
theorem alloc3_none (w : World) (o o' o'' : Obj) : w.grownBy (((w.alloc o).alloc o').alloc o'') none := grownBy_none_then (alloc2_none w o o') (alloc_none _ _)
theorem sum_le_mul (l : List Nat) (B : Nat) (h : ∀ x ∈ l, x ≤ B) : l.sum ≤ l.length * B := by
  induction l with
  | nil => simp
  | cons x r ih =>
    have h1 := h x List.mem_cons_self
    have h2 := ih (fun y hy => h y (List.mem_cons_of_mem _ hy))
    rw [List.sum_cons, List.length_cons, Nat.add_mul]
    omega
theorem LRel.turnedOwn {r : Nat} {w0 wa wb : World} {d : List It} {kv : List (Int × Sd)} {A : Option Addr} {n : Nat} {ks : List Int} {j : Nat} {v : Value} {wi w1 : World} {key : Int} {LO : List Ed} (h : LRel r w0 wa wb d kv A n ks j v wi) (F : LFix r w0 wa wb kv) (hb : But2 wi w1 ((sv kv key false).ownBlock.getD wi.heap.size) ((sv kv key true).ownBlock.getD wi.heap.size)) (hLO : (ks.take j).flatMap (edKey d) = LO) : Own Ed.vs 8 79 wb.heap.size w1 v LO := by
  rw [← hLO]
  have ha := F.ab
  refine h.own.same fun g e => hb.block g (h.own.blk g e).2 ?_ ?_
  · have h1 := h.own.blk g e
    cases e2 : (sv kv key false).ownBlock with
    | none => simp; omega
    | some q => have := F.blk _ _ _ e2; simp; omega
  · have h1 := h.own.blk g e
    cases e2 : (sv kv key true).ownBlock with
    | none => simp; omega
    | some q => have := F.blk _ _ _ e2; simp; omega

def OutRel (base : Nat) (w0 : World) (l : List Ed) (v : Value) (wr : World) : Prop := Own Ed.vs 8 79 base wr v l ∧ Below w0.heap.size w0 wr

set_option maxRecDepth 100000 in
set_option maxHeartbeats 2000000 in
theorem Edits_any (A B : Option Addr) (n m capA capB : Nat) (a b : List It) (w : World) (hA : Rd It.vs 4 w 0 A n a) (hB : Rd It.vs 4 w 0 B m b) :
    Calls Tryz.prog 30 #[.slice A n capA, .slice B m capB] w (RetEds w (editsR a b)) := by
  have Q1 := Lib.hid (isBag_any A n capA a w hA)
  have HA := Lib.hid hA
  have HB := Lib.hid hB
  clear hA hB
  cases ga : bagB a with
  | false =>
    have e1 : editsR a b = ([], 2) := by simp [editsR, ga]
    rw [e1]
    have GA := Lib.hid ga
    clear ga e1
    go_enter Tryz.func30, Tryz.ntmps30
    go_wp2_with (go_at_call 47; refine Q1.out.mono ?_; rintro e w1 ⟨rfl, hb1⟩; rw [GA.out]; have HB1 := Lib.hid hb1; clear hb1)
    go_ret2
    exact ⟨none, 0, rfl, Rd.nil _ _ _, HB1.out⟩
  | true =>
    cases gb : bagB b with
    | false =>
      have e1 : editsR a b = ([], 2) := by simp [editsR, gb]
      rw [e1]
      have GA := Lib.hid ga
      have GB := Lib.hid gb
      clear ga gb e1
      go_enter Tryz.func30, Tryz.ntmps30
      go_wp2_with fail
      refine Q1.out.mono ?_
      rintro e w1 ⟨rfl, hb1⟩
      rw [GA.out]
      have Q2 := Lib.hid (isBag_any B m capB b w1 (HB.out.below hb1))
      have HB1 := Lib.hid hb1
      clear hb1
      go_wp2_with (go_at_call 47; refine Q2.out.mono ?_; rintro e w2 ⟨rfl, hb2⟩; rw [GB.out]; have HB2 := Lib.hid hb2; clear hb2)
      go_ret2
      exact ⟨none, 0, rfl, Rd.nil _ _ _, HB1.out.trans (HB2.out.mono HB1.out.size)⟩
    | true =>
      have e1 : editsR a b = (if bigE (editsL (diffL a b)) then ([], 3) else (editsL (diffL a b), 0)) := by simp [editsR, ga, gb]
      have GA := Lib.hid ga
      have GB := Lib.hid gb
      have DK := Lib.hid (diff_ok ga gb)
      have HE : Hid (editsR a b = _) := e1
      generalize editsR a b = RR at HE ⊢
      have hmm := @run_makeMap Tryz.prog
      clear ga gb e1
      go_enter Tryz.func30, Tryz.ntmps30
      go_wp2_with fail
      refine Q1.out.mono ?_
      rintro e w1 ⟨rfl, hb1⟩
      rw [GA.out]
      have Q2 := Lib.hid (isBag_any B m capB b w1 (HB.out.below hb1))
      have HB1 := Lib.hid hb1
      clear hb1
      go_wp2_with (go_at_call 47; refine Q2.out.mono ?_; rintro e w2 ⟨rfl, hb2⟩; rw [GB.out]; have HB2 := Lib.hid (HB1.out.trans (hb2.mono HB1.out.size)); clear hb2)
      -- the map, the contrary
      have hAB := (HA.out.below HB2.out).below (below_new w2 (.map #[] 0))
      have hBB := (HB.out.below HB2.out).below (below_new w2 (.map #[] 0))
      have na : n * 32 ≤ 140737488355328 := by have := ((bagB_spec a).1 GA.out).2.2; have := HA.out.len; omega
      have HCn := Lib.hid (contrary_any A n capA a _ hAB (fun x hx => by have := (itB_spec x).1 (((bagB_spec a).1 GA.out).1 x hx); omega) na)
      have HBB := Lib.hid hBB
      clear hAB hBB na
      go_wp2_with fail
      (with_reducible refine HCn.out.mono ?_)
      rintro e w4 ⟨A4, cap4, rfl, hr4, hb4⟩
      rw [World.size_alloc] at hr4 hb4
      have hM0 : MapS (w2.alloc (.map #[] 0)) w2.heap.size [] := MapIs.made _ _ _ _ _
      have hM4 := hM0.below (hb4.mono (by simp))
      have hB4 : Below w2.heap.size w2 w4 := (below_new w2 (.map #[] 0)).trans (hb4.mono (by simp))
      have hR5 := rdBs2 (capA := cap4) (capB := capB) 23 (hr4.low (Nat.zero_le _)) (HBB.out.below (hb4.mono (by simp)))
      have e2 : allIt [⟨A4, n, cap4, a.map negIt⟩, ⟨B, m, capB, b⟩] = a.map negIt ++ b := by simp [allIt]
      have hF := fits_two (bagB_neg GA.out) GB.out
      have HAd := Lib.hid (added_any w4.heap.size 2 2 _ _ rfl hR5 (by rw [e2]; exact hF) (by omega))
      rw [e2] at HAd
      have hlen : (a.map negIt ++ b).length * 32 ≤ 140737488355328 := by
        have h1 := ((bagB_spec a).1 GA.out).2.2
        have h2 := ((bagB_spec b).1 GB.out).2.2
        rw [List.length_append, List.length_map]; omega
      have HF := Lib.hid hF
      have HLn := Lib.hid hlen
      have HM4 := Lib.hid hM4
      have HB4 := Lib.hid hB4
      clear hr4 hb4 hM0 hM4 hB4 hR5 e2 hF hlen HCn HBB
      go_wp2_with (go_at_call 68; (with_reducible refine HAd.out.mono ?_); rintro e w5 ⟨rfl, hs5, hb5⟩)
      rw [World.size_alloc] at hs5 hb5
      have HI := Lib.hid (items_sum _ _ _ hs5 HF.out.ok HLn.out)
      have HM5 : Hid (MapS w5 w2.heap.size []) := (HM4.out.below (below_new w4 _)).below (hb5.mono (by simp))
      have HB5 : Hid (Below w2.heap.size w2 w5) := (HB4.out.trans ((below_new w4 _).mono HB4.out.size)).trans (hb5.mono (by have := HB4.out.size; simp; omega))
      clear hs5 hb5 HAd HM4 HB4
      go_wp2_with (go_at_call 74; (with_reducible refine HI.out.mono ?_); rintro e w6 ⟨A6, cap6, rfl, hr6, hb6⟩)
      have ed : canon (a.map negIt ++ b) = diffL a b := rfl
      rw [ed] at hr6 ⊢
      have HS6 : Hid (SRel w2.heap.size w2 w6 [] [] w6) := SRel.start (HM5.out.below hb6) (HB5.out.trans (hb6.mono HB5.out.size)) (Nat.le_refl _)
      have hsz6 : w2.heap.size ≤ w5.heap.size := HB5.out.size
      have HR6 : Hid (Rd It.vs 4 w6 w5.heap.size A6 (diffL a b).length (diffL a b)) := hr6
      have HW56 : Hid (w5.heap.size ≤ w6.heap.size) := hb6.size
      have HW25 : Hid (w2.heap.size < w5.heap.size) := HM5.out.lt
      clear ed hr6 hb6 HI HM5 HB5 HF HLn HA HB GA GB hmm hsz6
      generalize diffL a b = d at *
      have hdl := DK.out.len
      generalize hN : d.length = N at *
      have HN := Lib.hid hN
      clear hN
      go_loopw [8, 9, 31] (fun _ _ i wr => ∃ k : Nat, k ≤ N ∧ i = .int .i64 k ∧ ∃ kv, SRel w2.heap.size w2 w6 (d.take k) kv wr) (fun _ _ i _ => N - (intOf i).toNat)
      case atStart => exact ⟨0, by omega, rfl, [], HS6.out⟩
      case round =>
        clear HS6
        obtain ⟨k, hk, rfl, kv, hS⟩ := hrel
        have hRk := hS.rd HR6.out HW25.out
        have HS := Lib.hid hS
        by_cases hlt : k < N
        · obtain ⟨bb, off, x, rfl, _, hx, c0, c1, c2, c3⟩ := hRk.it_at hlt
          obtain ⟨⟨_, hkey, _⟩, hn1, hn2, hn0⟩ := DK.out.ok x (List.mem_of_getElem? hx)
          have ht : d.take (k + 1) = d.take k ++ [x] := by rw [List.take_add_one, hx]; rfl
          have hlk := lookS (hS.map.alloc (.cells #[.int .i64 x.r.at_, .int .i64 x.r.key, .int .i64 x.r.val, .int .i64 x.n] 40)) hkey
          obtain ⟨Am, cm, hem⟩ := (hS.own x.r.key false).shape
          obtain ⟨At, ct, het⟩ := (hS.own x.r.key true).shape
          rw [hem, het] at hlk
          by_cases hneg : x.n < 0
          · have hq : decide (x.n < 0) = true := by simp; omega
            have hbb : (!decide (x.n < 0)) = false := by rw [hq]; rfl
            have hsi : sideI x = negIt x := by rw [sideI, if_pos (by omega)]
            have hown := hS.own x.r.key false
            rw [hem] at hown
            have hll : (sideL (d.take k) x.r.key false).length + 1 ≤ 601 := by
              have := missL_length (d.take k) x.r.key
              have h2 : (d.take k).length ≤ k := by rw [List.length_take]; omega
              show (missL (d.take k) x.r.key).length + 1 ≤ 601
              omega
            have HHEM := Lib.hid hem
            have HHET := Lib.hid het
            have HSI := Lib.hid hsi
            have HBB := Lib.hid hbb
            have HT := Lib.hid ht
            have HOWN := Lib.hid hown
            obtain ⟨kl, hkl⟩ := keyI x.r.key hkey
            have hsw := hS.sz
            have hwn : IntKind.i64.wrap (-x.n) = -x.n := IntWalk.i64_in _ (by omega)
            clear hx ht hRk hS hbb hsi hem het
            generalize hLm : (sideL (d.take k) x.r.key false).length = lm at *
            generalize hLt : (sideL (d.take k) x.r.key true).length = lt at *
            have HLm := Lib.hid hLm
            have HLt := Lib.hid hLt
            clear hLm hLt hown
            have hownV : Own It.vs 4 40 w6.heap.size wr (.slice Am lm cm) (sideL (d.take k) x.r.key false) := HOWN.out
            have hlv : (sideL (d.take k) x.r.key false).length = lm := HLm.out
            generalize hLS : sideL (d.take k) x.r.key false = LS at *
            have HLS := Lib.hid hLS
            clear hLS HOWN
            go_wp2_with (first
              | (at_builtin; go_loud (refine wpList_app1 It.vs 4 40 _ 32 infoIt rfl (by decide) rfl _ _ _ rfl Tryz.underlying23 w6.heap.size _ LS rfl (((hownV.alloc _).alloc _).alloc _) (negIt x) _ _ rfl rfl (newAt _ _ _ _ (by simp)) (by simp [It.vs, negIt, Value.oneCell']) (by omega) (by unfold maxLen; omega) (by simp; omega) (fun v4 z4 hown4 hg4 hloc => ?_); obtain ⟨A9, c9, rfl⟩ := hown4.shape; (generalize hLN : (LS ++ [negIt x]).length = LN at *); have HLN := Lib.hid hLN; clear hLN; obtain ⟨hga, hgb⟩ := two_boxes (fun g e => (hownV.blk g e).2) hg4; have d2 := cell_at_block (off := 1) hga rfl; have d0 := cell_at_block (off := 0) hgb rfl; have d1 := cell_at_block (off := 1) hgb rfl; have f0 := free_at_block (off := 0) hgb; have f1 := free_at_block (off := 1) hgb; have HGB := Lib.hid hgb; have HG4 := Lib.hid hg4; have HOWN4 := Lib.hid hown4; have HLOC := Lib.hid hloc; clear hga hgb hg4 hown4 hloc))
              | (at_mapUpdate; refine wpList_mapUpdate_is rfl _ _ _ _ rfl lawInt Tryz.underlying100 ekI_inj rfl (HS.out.mapAt (key := x.r.key) (b := false) (alloc3_none wr _ _ _) (by rw [HHEM.out]; exact HG4.out) (Nat.le_succ _) (setCell_at HGB.out _).2) x.r.key ⟨.slice A9 LN c9, .slice At lt ct⟩ rfl rfl hkl (fun z6 hM6 hg6 => ?_); have HM6 := Lib.hid hM6; have HG6 := Lib.hid hg6; clear hM6 hg6))
            have G5 := (setCell_at (off := 0) HGB.out (.slice A9 LN c9)).2
            have st := HS.out.step x (v4 := .slice A9 LN c9) (gb := wr.heap.size + 1) (alloc3_none wr _ _ _) (by rw [HBB.out, HLS.out, HSI.out]; exact HOWN4.out) (by rw [HBB.out, HHEM.out]; exact HG4.out) (by rw [HBB.out, HHEM.out]; exact HLOC.out) (Nat.le_succ _) (by simp) G5 (by rw [HBB.out, putSd, HHET.out]; exact HM6.out) HG6.out
            rw [← HT.out] at st
            exact ⟨⟨k + 1, by omega, by go_num, _, st⟩, by simp [intOf]; omega⟩
          · have hq : decide (x.n < 0) = false := by simp; omega
            have hbb : (!decide (x.n < 0)) = true := by rw [hq]; rfl
            have hsi : sideI x = x := by rw [sideI, if_neg (by omega)]
            have hown := hS.own x.r.key true
            rw [het] at hown
            have hll : (sideL (d.take k) x.r.key true).length + 1 ≤ 601 := by
              have := thereL_length (d.take k) x.r.key
              have h2 : (d.take k).length ≤ k := by rw [List.length_take]; omega
              show (thereL (d.take k) x.r.key).length + 1 ≤ 601
              omega
            have HHEM := Lib.hid hem
            have HHET := Lib.hid het
            have HSI := Lib.hid hsi
            have HBB := Lib.hid hbb
            have HT := Lib.hid ht
            have HOWN := Lib.hid hown
            obtain ⟨kl, hkl⟩ := keyI x.r.key hkey
            have hsw := hS.sz
            clear hx ht hRk hS hbb hsi hem het
            generalize hLm : (sideL (d.take k) x.r.key false).length = lm at *
            generalize hLt : (sideL (d.take k) x.r.key true).length = lt at *
            have HLm := Lib.hid hLm
            have HLt := Lib.hid hLt
            clear hLm hLt hown
            have hownV : Own It.vs 4 40 w6.heap.size wr (.slice At lt ct) (sideL (d.take k) x.r.key true) := HOWN.out
            have hlv : (sideL (d.take k) x.r.key true).length = lt := HLt.out
            generalize hLS : sideL (d.take k) x.r.key true = LS at *
            have HLS := Lib.hid hLS
            clear hLS HOWN
            go_wp2_with (first
              | (at_builtin; go_loud (refine wpList_app1 It.vs 4 40 _ 32 infoIt rfl (by decide) rfl _ _ _ rfl Tryz.underlying23 w6.heap.size _ LS rfl (((hownV.alloc _).alloc _).alloc _) (x) _ _ rfl rfl (newAt _ _ _ _ (by simp)) (by simp [It.vs, Value.oneCell']) (by omega) (by unfold maxLen; omega) (by simp; omega) (fun v4 z4 hown4 hg4 hloc => ?_); obtain ⟨A9, c9, rfl⟩ := hown4.shape; (generalize hLN : (LS ++ [x]).length = LN at *); have HLN := Lib.hid hLN; clear hLN; obtain ⟨hga, hgb⟩ := two_boxes (fun g e => (hownV.blk g e).2) hg4; have d2 := cell_at_block (off := 1) hga rfl; have d0 := cell_at_block (off := 0) hgb rfl; have d1 := cell_at_block (off := 1) hgb rfl; have f0 := free_at_block (off := 0) hgb; have f1 := free_at_block (off := 1) hgb; have HGB := Lib.hid hgb; have HG4 := Lib.hid hg4; have HOWN4 := Lib.hid hown4; have HLOC := Lib.hid hloc; clear hga hgb hg4 hown4 hloc))
              | (at_mapUpdate; refine wpList_mapUpdate_is rfl _ _ _ _ rfl lawInt Tryz.underlying100 ekI_inj rfl (HS.out.mapAt (key := x.r.key) (b := true) (alloc3_none wr _ _ _) (by rw [HHET.out]; exact HG4.out) (Nat.le_succ _) (setCell_at HGB.out _).2) x.r.key ⟨.slice Am lm cm, .slice A9 LN c9⟩ rfl rfl hkl (fun z6 hM6 hg6 => ?_); have HM6 := Lib.hid hM6; have HG6 := Lib.hid hg6; clear hM6 hg6))
            have G5 := (setCell_at (off := 1) HGB.out (.slice A9 LN c9)).2
            have st := HS.out.step x (v4 := .slice A9 LN c9) (gb := wr.heap.size + 1) (alloc3_none wr _ _ _) (by rw [HBB.out, HLS.out, HSI.out]; exact HOWN4.out) (by rw [HBB.out, HHET.out]; exact HG4.out) (by rw [HBB.out, HHET.out]; exact HLOC.out) (Nat.le_succ _) (by simp) G5 (by rw [HBB.out, putSd, HHEM.out]; exact HM6.out) HG6.out
            rw [← HT.out] at st
            exact ⟨⟨k + 1, by omega, by go_num, _, st⟩, by simp [intOf]; omega⟩
        · have hk' : k = N := by omega
          subst hk'
          clear hRk hlt hk
          rw [List.take_of_length_le (by rw [HN.out]; exact Nat.le_refl _)] at hS HS
          have hkv : kv.length ≤ 600 := by have := hS.len; have := DK.out.len; omega
          have HK := Lib.hid (keysI_any w2.heap.size kv wr hS.map (by omega))
          clear hS
          go_wp2_with (go_at_call 75; (with_reducible refine HK.out.mono ?_); rintro e w8 ⟨A8, cap8, ks, rfl, hinc, hperm, hr8, hb8⟩)
          have hks : ks = keysL d := incrI_uniq hinc (keysL_incr d) (fun z => by rw [hperm.mem_iff, HS.out.keys, keysL_mem])
          have HF := Lib.hid (HS.out.fix hb8)
          have HL0 := Lib.hid (HS.out.loop hb8 hr8)
          have HKS := Lib.hid hks
          have hnd : ks.Nodup := by rw [hperm.nodup_iff]; exact HS.out.map.nodup
          have HND := Lib.hid hnd
          have hks6 : ks.length ≤ 600 := by rw [hperm.length_eq, List.length_map]; omega
          have HKM : Hid (∀ z ∈ ks, z ∈ d.map (·.r.key)) := fun z hz => (HS.out.keys z).1 (hperm.mem_iff.1 hz)
          have HBB8 : Hid (Below w2.heap.size w2 w8) := HS.out.below.trans (hb8.mono HS.out.below.size)
          have HDIS := Lib.hid HS.out.dis
          have HWW : Hid (w2.heap.size ≤ w8.heap.size) := Nat.le_trans HS.out.below.size hb8.size
          clear hinc hperm hr8 hb8 hks hnd HK HS
          obtain ⟨wo, rfl⟩ : ∃ wo : World, wo = wr := ⟨_, rfl⟩
          generalize hM : ks.length = M at *
          have HM := Lib.hid hM
          clear hM
          go_loopw [10, 12, 69] (fun v _ i wi => ∃ j : Nat, j ≤ M ∧ i = .int .i64 j ∧ LRel w2.heap.size w2 wo w8 d kv A8 M ks j v wi) (fun _ _ i _ => M - (intOf i).toNat)
          case atStart => exact ⟨0, by omega, rfl, HL0.out⟩
          case round =>
            clear HL0
            obtain ⟨j, hj, rfl, hl⟩ := hrel
            have HL := Lib.hid hl
            have hRj := hl.rd
            obtain ⟨A3, cap3, rfl⟩ := hl.own.shape
            by_cases hjl : j < M
            · obtain ⟨bb, off, key, rfl, _, hx, c0⟩ := hRj.int_at hjl
              have HX := Lib.hid hx
              have hkd : key ∈ ks.drop j := by
                have hj' := (List.getElem?_eq_some_iff.1 hx)
                obtain ⟨h1, h2⟩ := hj'
                rw [List.drop_eq_getElem_cons h1, h2]
                exact List.mem_cons_self
              have hkm := HKM.out key (List.mem_of_getElem? hx)
              have hkey : I64 key := by
                obtain ⟨x, hx', rfl⟩ := List.mem_map.1 hkm
                exact (DK.out.ok x hx').1.2.1
              have hlk := lookS hl.map hkey
              have om := hl.sl key hkd false
              have ot := hl.sl key hkd true
              obtain ⟨Am, cm, hem⟩ := om.shape
              obtain ⟨At, ct, het⟩ := ot.shape
              rw [hem] at om
              rw [het] at ot
              rw [hem, het] at hlk
              have HTu := turned_any _ _ Am At cm ct (missL d key) (thereL d key) wr (om.win wr.heap.size) (ot.win wr.heap.size) (sideL_pos DK.out key false) (sideL_pos DK.out key true) (fun h1 h2 => by
                have hd := HDIS.out key false key true (by simp)
                have e1 : ∃ g, (Value.slice Am (sideL d key false).length cm).ownBlock = some g := by
                  rcases om.2 with ⟨_, e0⟩ | ⟨g, cap, cur, e, _⟩
                  · exact absurd (List.length_eq_zero_iff.1 e0) h1
                  · exact ⟨g, by rw [e]; rfl⟩
                obtain ⟨g, hg⟩ := e1
                have e2 : ∃ g, (Value.slice At (sideL d key true).length ct).ownBlock = some g := by
                  rcases ot.2 with ⟨_, e0⟩ | ⟨g, cap, cur, e, _⟩
                  · exact absurd (List.length_eq_zero_iff.1 e0) h2
                  · exact ⟨g, by rw [e]; rfl⟩
                obtain ⟨g2, hg2⟩ := e2
                have := hd g (by rw [hem]; exact hg)
                rw [het, hg2] at this
                rw [hg, hg2]
                simp only [Option.getD_some]
                exact fun e => this (by rw [e])) (by
                have := missL_length d key
                have := thereL_length d key
                have := DK.out.len
                omega)
              have HTU := Lib.hid HTu
              have HEM := Lib.hid hem
              have HET := Lib.hid het
              have hol : ((ks.take j).flatMap (edKey d)).length ≤ 600 * 1200 := by
                rw [List.length_flatMap]
                have h1 : ∀ x ∈ (ks.take j).map (fun k => (edKey d k).length), x ≤ 1200 := fun x hx => by
                  obtain ⟨k, _, rfl⟩ := List.mem_map.1 hx
                  have := edKey_length d k
                  have := DK.out.len
                  omega
                have h2 := sum_le_mul _ 1200 h1
                have h3 : ((ks.take j).map (fun k => (edKey d k).length)).length ≤ 600 := by rw [List.length_map, List.length_take]; omega
                omega
              have hel := edKey_length d key
              have hne := edKey_pos hkm
              have HOUT := Lib.hid hl.own
              have hszi := hl.lo
              clear hl hRj hx hkd hkm hem het om ot HTu
              have HTU2 : Hid (Calls Tryz.prog 78 #[.slice Am (sideL d key false).length cm, .slice At (sideL d key true).length ct] wr fun e w' => ∃ v, e = .returned v ∧ Own Ed.vs 8 79 wr.heap.size w' v (edKey d key) ∧ But2 wr w' ((sv kv key false).ownBlock.getD wr.heap.size) ((sv kv key true).ownBlock.getD wr.heap.size)) := by
                rw [HEM.out, HET.out]
                exact HTU.out
              clear HTU
              generalize (sideL d key false).length = lm at *
              generalize (sideL d key true).length = lt at *
              have hdl := DK.out.len
              generalize hLO : (ks.take j).flatMap (edKey d) = LO at *
              generalize hLK : edKey d key = LK at *
              have HLO := Lib.hid hLO
              have HLK := Lib.hid hLK
              clear hLO hLK
              have hf0 : ∀ (w : World) (A1 A2 : Option Addr) (n1 c1 n2 c2 : Nat), (Instr.field 102 (.agg #[.slice A1 n1 c1, .slice A2 n2 c2]) 0).run Tryz.prog w = .ok (.slice A1 n1 c1) w := fun _ _ _ _ _ _ _ => by kernel_rfl
              have hf1 : ∀ (w : World) (A1 A2 : Option Addr) (n1 c1 n2 c2 : Nat), (Instr.field 102 (.agg #[.slice A1 n1 c1, .slice A2 n2 c2]) 1).run Tryz.prog w = .ok (.slice A2 n2 c2) w := fun _ _ _ _ _ _ _ => by kernel_rfl
              go_wp2_with (first
                | (go_at_call 78; (with_reducible refine HTU2.out.mono ?_); rintro e z1 ⟨vt, rfl, hot, hbt⟩; have HBT := Lib.hid hbt; clear hbt)
                | (at_builtin; refine wpList_appN Ed.vs 8 79 _ 64 infoEd rfl (by decide) rfl _ _ _ rfl Tryz.underlying46 w8.heap.size _ LO rfl (HL.out.turnedOwn HF.out HBT.out HLO.out) wr.heap.size vt LK rfl hot hne (fun q u hu => by simp [Ed.vs] at hu; rcases hu with rfl | rfl | rfl | rfl | rfl | rfl | rfl | rfl <;> rfl) (by omega) (by unfold maxLen; omega) (Nat.le_trans hszi HBT.out.size) (fun v4 z4 hown4 hg4 _ => ?_); have HOWN4 := Lib.hid hown4; have HG4 := Lib.hid hg4; clear hown4 hg4))
              exact ⟨⟨j + 1, by omega, by go_num, HL.out.step HF.out HX.out HND.out HBT.out HG4.out (by rw [HLO.out, HLK.out]; exact HOWN4.out)⟩, by simp [intOf]; omega⟩
            · have hj' : j = M := by omega
              subst hj'
              have hout := hl.own
              have hbel := hl.below
              have hfin : (ks.take j).flatMap (edKey d) = editsL d := by rw [List.take_of_length_le (by rw [HM.out]; exact Nat.le_refl _), HKS.out]; rfl
              have hlo3 := hl.lo
              rw [hfin] at hout ⊢
              have hlen : (editsL d).length ≤ 600 * 1200 := by
                unfold editsL
                rw [List.length_flatMap]
                have h1 : ∀ x ∈ (keysL d).map (fun k => (edKey d k).length), x ≤ 1200 := fun x hx => by
                  obtain ⟨k, _, rfl⟩ := List.mem_map.1 hx
                  have := edKey_length d k
                  have := DK.out.len
                  omega
                have h2 := sum_le_mul _ 1200 h1
                have h3 : ((keysL d).map (fun k => (edKey d k).length)).length ≤ 600 := by have := HM.out; rw [List.length_map, ← HKS.out]; omega
                omega
              have HOUT := Lib.hid hout
              have HBEL := Lib.hid hbel
              have HLO3 := Lib.hid hlo3
              clear hl hout hbel hRj hfin hjl hj HL HF HBB8
              generalize editsL d = E at *
              obtain ⟨A7, cap7, e7, hr7⟩ := HOUT.out.rd Ed.vs_length
              cases e7
              have HR7 := Lib.hid hr7
              have HW28 : Hid (w2.heap.size ≤ w8.heap.size) := HWW.out
              obtain ⟨w9, rfl⟩ : ∃ w9 : World, w9 = wr := ⟨_, rfl⟩
              clear hr7
              generalize hQ : E.length = Q at *
              have HQ := Lib.hid hQ
              clear hQ
              go_wp2_with fail
              go_loopw [14, 87] (fun _ i wi => ∃ q : Nat, q ≤ Q ∧ i = .int .i64 q ∧ bigE (E.take q) = false ∧ Below w9.heap.size w9 wi) (fun _ i _ => Q - (intOf i).toNat)
              case atStart => exact ⟨0, by omega, rfl, rfl, Below.refl _ _⟩
              case round =>
                obtain ⟨q, hq, rfl, hbig, hB9⟩ := hrel
                have hRq := HR7.out.below hB9
                have HB9 := Lib.hid hB9
                have HBIG := Lib.hid hbig
                clear hB9 hbig
                by_cases hql : q < Q
                · obtain ⟨b9, off9, x, rfl, hx, c0, c1, c2, c3, c4, c5, c6, c7⟩ := hRq.ed_at hql
                  have hBT : bigE (E.take (q + 1)) = (bigE (E.take q) || decide (1000000 < x.n)) := by rw [List.take_add_one, hx]; simp [bigE]
                  have hBX : 1000000 < x.n → bigE E = true := fun h => List.any_eq_true.2 ⟨x, List.mem_of_getElem? hx, by simpa using h⟩
                  have HBT := Lib.hid hBT
                  clear hBT hx hRq
                  by_cases hbx : 1000000 < x.n
                  · have hbe := hBX hbx
                    have hgd : decide (1000000 < x.n) = true := by simpa using hbx
                    have HBE := Lib.hid hbe
                    clear hBX hbe hbx
                    go_wp2_with fail
                    go_ret2
                    rw [HE.out, HBE.out]
                    exact ⟨none, 0, rfl, Rd.nil _ _ _, bchain HB2.out (HBEL.out.trans ((HB9.out.mono HBEL.out.size).trans ((below_new _ _).mono (Nat.le_trans HBEL.out.size HB9.out.size))))⟩
                  · have hgd : decide (1000000 < x.n) = false := by simpa using hbx
                    have HGD := Lib.hid hgd
                    clear hBX hbx
                    go_wp2_with fail
                    exact ⟨⟨q + 1, by omega, by go_num, by rw [HBT.out, HBIG.out, HGD.out]; rfl, HB9.out.alloc HB9.out.size _⟩, by simp [intOf]; omega⟩
                · have hq' : q = Q := by omega
                  subst hq'
                  clear hRq hql
                  go_wp2_with fail
                  go_ret2
                  have hbf : bigE E = false := by have := HBIG.out; rwa [List.take_of_length_le (by rw [HQ.out]; exact Nat.le_refl _)] at this
                  rw [HE.out, hbf]
                  refine ⟨A3, cap3, ?_, ?_, bchain HB2.out (HBEL.out.trans (HB9.out.mono HBEL.out.size))⟩
                  · show Ending.returned _ = Ending.returned (.tuple #[.slice A3 E.length cap3, .int .i64 0])
                    rw [HQ.out]
                    rfl
                  · show Rd Ed.vs 8 _ w.heap.size A3 E.length E
                    rw [HQ.out]
                    exact (HR7.out.below HB9.out).low (Nat.le_trans HB2.out.size HW28.out)
end Go.Proofs.Bg
