/- Texts of our own, merged: BgEdits BgRead0 BgText BgTextNum BgItem BgLits BgRecov BgParse BgPrint BgParseAll BgBytes BgPair BgVals BgSame BgKnown BgAlg. -/
import Derived.Test.YtcbemmlhpinjkaaDoorBgMKn1
import Derived.WalkLawsBesides
import Derived.Laws.Rows
import Derived.Tactics2
import Derived.Defers
import Derived.Recover
import Derived.Laws.Pointers
import Derived.Lib.AppendIntMem
import Derived.Lib.ItoaLen
import Derived.Lib.ConvBytes
import Derived.BigQuiet
import Derived.Laws.IdiomStrings

section
/- The contract of Edits. -/
namespace Go.Proofs.Bg
open Go.RowKit

def RetEds (w : World) (p : List Ed × Int) (e : Ending) (w' : World) : Prop :=
  ∃ A cap, e = .returned (.tuple #[.slice A p.1.length cap, .int .i64 p.2]) ∧ Rd Ed.vs 8 w' w.heap.size A p.1.length p.1 ∧ Below w.heap.size w w'
theorem keyI (k : Int) (h : I64 k) : ∃ l, keyOf Tryd.prog 3 (ekI k) = some l := by
  obtain ⟨h1, h2⟩ := h
  have e1 : (Lit.int .i64 k).wf = true := WalkArith.wf_i64 ⟨h1, h2⟩
  unfold keyOf
  rw [Tryd.underlying3]
  exact ⟨.int .i64 k, by simp [mapKey, ekI, Tryd.underlying3, e1]⟩
theorem zeroS (u : World) : (zeroValue 79).run Tryd.prog u = .ok (.agg #[nilV, nilV]) u := by kernel_rfl
theorem lookS {w : World} {r : Nat} {kv : List (Int × Sd)} (h : MapS w r kv) {key : Int} (hk : I64 key) : (Instr.lookup 77 (.map (some r)) (.int .i64 key) false).run Tryd.prog w = .ok (.agg #[sv kv key false, sv kv key true]) w := by
  obtain ⟨kl, hkl⟩ := keyI key hk
  refine (h.lookup lawInt ekI_inj Tryd.underlying77 zeroS hkl).trans ?_
  unfold sv
  cases getKV kv key <;> rfl

theorem Rd.ed_at {w : World} {lo n : Nat} {A : Option Addr} {l : List Ed} (h : Rd Ed.vs 8 w lo A n l) {k : Nat} (hk : k < n) : ∃ b off x, A = some ⟨b, off, none⟩ ∧ l[k]? = some x ∧ w.cell? ⟨b, off + k * 8, none⟩ = some (.int .i64 x.d) ∧ w.cell? ⟨b, off + k * 8 + 1, none⟩ = some (.int .i64 x.old.at_) ∧ w.cell? ⟨b, off + k * 8 + 2, none⟩ = some (.int .i64 x.old.key) ∧ w.cell? ⟨b, off + k * 8 + 3, none⟩ = some (.int .i64 x.old.val) ∧ w.cell? ⟨b, off + k * 8 + 4, none⟩ = some (.int .i64 x.new.at_) ∧ w.cell? ⟨b, off + k * 8 + 5, none⟩ = some (.int .i64 x.new.key) ∧ w.cell? ⟨b, off + k * 8 + 6, none⟩ = some (.int .i64 x.new.val) ∧ w.cell? ⟨b, off + k * 8 + 7, none⟩ = some (.int .i64 x.n) := by
  obtain ⟨b, off, x, rfl, _, hx, hc⟩ := h.at_ hk
  exact ⟨b, off, x, rfl, hx, hc 0 _ rfl, hc 1 _ rfl, hc 2 _ rfl, hc 3 _ rfl, hc 4 _ rfl, hc 5 _ rfl, hc 6 _ rfl, hc 7 _ rfl⟩
theorem two_boxes {wr z4 : World} {c1 c2 : Array Value} {T1 T2 : TypeId} {o : Obj} {v : Value} (hv : ∀ g, v.ownBlock = some g → g < wr.heap.size) (hg : (((wr.alloc (.cells c1 T1)).alloc (.cells c2 T2)).alloc o).grownBy z4 v.ownBlock) : z4.heap[wr.heap.size]? = some (.cells c1 T1) ∧ z4.heap[wr.heap.size + 1]? = some (.cells c2 T2) := by
  constructor
  · refine (hg.block _ (by simp; omega) (fun e => by have := hv _ e.symm; omega)).trans ?_
    rw [Below.heap_alloc _ _ _ (by simp; omega), Below.heap_alloc _ _ _ (by simp)]
    exact new_block _ _ _
  · refine (hg.block _ (by simp) (fun e => by have := hv _ e.symm; omega)).trans ?_
    rw [Below.heap_alloc _ _ _ (by simp)]
    have := new_block (wr.alloc (.cells c1 T1)) c2 T2
    simpa using this
theorem alloc3_none (w : World) (o o' o'' : Obj) : w.grownBy (((w.alloc o).alloc o').alloc o'') none := grownBy_none_then (alloc2_none w o o') (alloc_none _ _)
theorem sum_le_mul (l : List Nat) (B : Nat) (h : ∀ x ∈ l, x ≤ B) : l.sum ≤ l.length * B := by
  induction l with
  | nil => simp
  | cons x r ih =>
    have h1 := h x List.mem_cons_self
    have h2 := ih (fun y hy => h y (List.mem_cons_of_mem _ hy))
    rw [List.sum_cons, List.length_cons, Nat.add_mul]
    omega
theorem LRel.turnedOwn {r : Nat} {w0 wa wb : World} {d : List It} {kv : List (Int × Sd)} {A : Option Addr} {n : Nat} {ks : List Int} {j : Nat} {v : Value} {wi w1 : World} {key : Int} {LO : List Ed} (h : LRel r w0 wa wb d kv A n ks j v wi) (F : LFix r w0 wa wb kv) (hb : But2 wi w1 ((sv kv key false).ownBlock.getD wi.heap.size) ((sv kv key true).ownBlock.getD wi.heap.size)) (hLO : (ks.take j).flatMap (edKey d) = LO) : Own Ed.vs 8 72 wb.heap.size w1 v LO := by
  rw [← hLO]
  have ha := F.ab
  refine h.own.same fun g e => hb.block g (h.own.blk g e).2 ?_ ?_
  · have h1 := h.own.blk g e
    cases e2 : (sv kv key false).ownBlock with
    | none => simp; omega
    | some q => have := F.blk _ _ _ e2; simp; omega
  · have h1 := h.own.blk g e
    cases e2 : (sv kv key true).ownBlock with
    | none => simp; omega
    | some q => have := F.blk _ _ _ e2; simp; omega

def OutRel (base : Nat) (w0 : World) (l : List Ed) (v : Value) (wr : World) : Prop := Own Ed.vs 8 72 base wr v l ∧ Below w0.heap.size w0 wr

set_option maxRecDepth 100000 in
set_option maxHeartbeats 2000000 in
theorem Edits_any (A B : Option Addr) (n m capA capB : Nat) (a b : List It) (w : World) (hA : Rd It.vs 4 w 0 A n a) (hB : Rd It.vs 4 w 0 B m b) :
    Calls Tryd.prog 16 #[.slice A n capA, .slice B m capB] w (RetEds w (editsR a b)) := by
  have Q1 := Lib.hid (isBag_any A n capA a w hA)
  have HA := Lib.hid hA
  have HB := Lib.hid hB
  clear hA hB
  cases ga : bagB a with
  | false =>
    have e1 : editsR a b = ([], 2) := by simp [editsR, ga]
    rw [e1]
    have GA := Lib.hid ga
    clear ga e1
    go_enter Tryd.func16, Tryd.ntmps16
    go_wp2_with (go_at_call 29; refine Q1.out.mono ?_; rintro e w1 ⟨rfl, hb1⟩; rw [GA.out]; have HB1 := Lib.hid hb1; clear hb1)
    go_ret2
    exact ⟨none, 0, rfl, Rd.nil _ _ _, HB1.out⟩
  | true =>
    cases gb : bagB b with
    | false =>
      have e1 : editsR a b = ([], 2) := by simp [editsR, gb]
      rw [e1]
      have GA := Lib.hid ga
      have GB := Lib.hid gb
      clear ga gb e1
      go_enter Tryd.func16, Tryd.ntmps16
      go_wp2_with fail
      refine Q1.out.mono ?_
      rintro e w1 ⟨rfl, hb1⟩
      rw [GA.out]
      have Q2 := Lib.hid (isBag_any B m capB b w1 (HB.out.below hb1))
      have HB1 := Lib.hid hb1
      clear hb1
      go_wp2_with (go_at_call 29; refine Q2.out.mono ?_; rintro e w2 ⟨rfl, hb2⟩; rw [GB.out]; have HB2 := Lib.hid hb2; clear hb2)
      go_ret2
      exact ⟨none, 0, rfl, Rd.nil _ _ _, HB1.out.trans (HB2.out.mono HB1.out.size)⟩
    | true =>
      have e1 : editsR a b = (if bigE (editsL (diffL a b)) then ([], 3) else (editsL (diffL a b), 0)) := by simp [editsR, ga, gb]
      have GA := Lib.hid ga
      have GB := Lib.hid gb
      have DK := Lib.hid (diff_ok ga gb)
      have HE : Hid (editsR a b = _) := e1
      generalize editsR a b = RR at HE ⊢
      have hmm := @run_makeMap Tryd.prog
      clear ga gb e1
      go_enter Tryd.func16, Tryd.ntmps16
      go_wp2_with fail
      refine Q1.out.mono ?_
      rintro e w1 ⟨rfl, hb1⟩
      rw [GA.out]
      have Q2 := Lib.hid (isBag_any B m capB b w1 (HB.out.below hb1))
      have HB1 := Lib.hid hb1
      clear hb1
      go_wp2_with (go_at_call 29; refine Q2.out.mono ?_; rintro e w2 ⟨rfl, hb2⟩; rw [GB.out]; have HB2 := Lib.hid (HB1.out.trans (hb2.mono HB1.out.size)); clear hb2)
      -- the map, the contrary
      have hAB := (HA.out.below HB2.out).below (below_new w2 (.map #[] 0))
      have hBB := (HB.out.below HB2.out).below (below_new w2 (.map #[] 0))
      have na : n * 32 ≤ 140737488355328 := by have := ((bagB_spec a).1 GA.out).2.2; have := HA.out.len; omega
      have HCn := Lib.hid (contrary_any A n capA a _ hAB (fun x hx => by have := (itB_spec x).1 (((bagB_spec a).1 GA.out).1 x hx); omega) na)
      have HBB := Lib.hid hBB
      clear hAB hBB na
      go_wp2_with fail
      (with_reducible refine HCn.out.mono ?_)
      rintro e w4 ⟨A4, cap4, rfl, hr4, hb4⟩
      rw [World.size_alloc] at hr4 hb4
      have hM0 : MapS (w2.alloc (.map #[] 0)) w2.heap.size [] := MapIs.made _ _ _ _ _
      have hM4 := hM0.below (hb4.mono (by simp))
      have hB4 : Below w2.heap.size w2 w4 := (below_new w2 (.map #[] 0)).trans (hb4.mono (by simp))
      have hR5 := rdBs2 (capA := cap4) (capB := capB) 23 (hr4.low (Nat.zero_le _)) (HBB.out.below (hb4.mono (by simp)))
      have e2 : allIt [⟨A4, n, cap4, a.map negIt⟩, ⟨B, m, capB, b⟩] = a.map negIt ++ b := by simp [allIt]
      have hF := fits_two (bagB_neg GA.out) GB.out
      have HAd := Lib.hid (added_any w4.heap.size 2 2 _ _ rfl hR5 (by rw [e2]; exact hF) (by omega))
      rw [e2] at HAd
      have hlen : (a.map negIt ++ b).length * 32 ≤ 140737488355328 := by
        have h1 := ((bagB_spec a).1 GA.out).2.2
        have h2 := ((bagB_spec b).1 GB.out).2.2
        rw [List.length_append, List.length_map]; omega
      have HF := Lib.hid hF
      have HLn := Lib.hid hlen
      have HM4 := Lib.hid hM4
      have HB4 := Lib.hid hB4
      clear hr4 hb4 hM0 hM4 hB4 hR5 e2 hF hlen HCn HBB
      go_wp2_with (go_at_call 30; (with_reducible refine HAd.out.mono ?_); rintro e w5 ⟨rfl, hs5, hb5⟩)
      rw [World.size_alloc] at hs5 hb5
      have HI := Lib.hid (items_sum _ _ _ hs5 HF.out.ok HLn.out)
      have HM5 : Hid (MapS w5 w2.heap.size []) := (HM4.out.below (below_new w4 _)).below (hb5.mono (by simp))
      have HB5 : Hid (Below w2.heap.size w2 w5) := (HB4.out.trans ((below_new w4 _).mono HB4.out.size)).trans (hb5.mono (by have := HB4.out.size; simp; omega))
      clear hs5 hb5 HAd HM4 HB4
      go_wp2_with (go_at_call 42; (with_reducible refine HI.out.mono ?_); rintro e w6 ⟨A6, cap6, rfl, hr6, hb6⟩)
      have ed : canon (a.map negIt ++ b) = diffL a b := rfl
      rw [ed] at hr6 ⊢
      have HS6 : Hid (SRel w2.heap.size w2 w6 [] [] w6) := SRel.start (HM5.out.below hb6) (HB5.out.trans (hb6.mono HB5.out.size)) (Nat.le_refl _)
      have hsz6 : w2.heap.size ≤ w5.heap.size := HB5.out.size
      have HR6 : Hid (Rd It.vs 4 w6 w5.heap.size A6 (diffL a b).length (diffL a b)) := hr6
      have HW56 : Hid (w5.heap.size ≤ w6.heap.size) := hb6.size
      have HW25 : Hid (w2.heap.size < w5.heap.size) := HM5.out.lt
      clear ed hr6 hb6 HI HM5 HB5 HF HLn HA HB GA GB hmm hsz6
      generalize diffL a b = d at *
      have hdl := DK.out.len
      generalize hN : d.length = N at *
      have HN := Lib.hid hN
      clear hN
      go_loopw [8, 9, 31] (fun _ _ i wr => ∃ k : Nat, k ≤ N ∧ i = .int .i64 k ∧ ∃ kv, SRel w2.heap.size w2 w6 (d.take k) kv wr) (fun _ _ i _ => N - (intOf i).toNat)
      case atStart => exact ⟨0, by omega, rfl, [], HS6.out⟩
      case round =>
        clear HS6
        obtain ⟨k, hk, rfl, kv, hS⟩ := hrel
        have hRk := hS.rd HR6.out HW25.out
        have HS := Lib.hid hS
        by_cases hlt : k < N
        · obtain ⟨bb, off, x, rfl, _, hx, c0, c1, c2, c3⟩ := hRk.it_at hlt
          obtain ⟨⟨_, hkey, _⟩, hn1, hn2, hn0⟩ := DK.out.ok x (List.mem_of_getElem? hx)
          have ht : d.take (k + 1) = d.take k ++ [x] := by rw [List.take_add_one, hx]; rfl
          have hlk := lookS (hS.map.alloc (.cells #[.int .i64 x.r.at_, .int .i64 x.r.key, .int .i64 x.r.val, .int .i64 x.n] 33)) hkey
          obtain ⟨Am, cm, hem⟩ := (hS.own x.r.key false).shape
          obtain ⟨At, ct, het⟩ := (hS.own x.r.key true).shape
          rw [hem, het] at hlk
          by_cases hneg : x.n < 0
          · have hq : decide (x.n < 0) = true := by simp; omega
            have hbb : (!decide (x.n < 0)) = false := by rw [hq]; rfl
            have hsi : sideI x = negIt x := by rw [sideI, if_pos (by omega)]
            have hown := hS.own x.r.key false
            rw [hem] at hown
            have hll : (sideL (d.take k) x.r.key false).length + 1 ≤ 601 := by
              have := missL_length (d.take k) x.r.key
              have h2 : (d.take k).length ≤ k := by rw [List.length_take]; omega
              show (missL (d.take k) x.r.key).length + 1 ≤ 601
              omega
            have HHEM := Lib.hid hem
            have HHET := Lib.hid het
            have HSI := Lib.hid hsi
            have HBB := Lib.hid hbb
            have HT := Lib.hid ht
            have HOWN := Lib.hid hown
            obtain ⟨kl, hkl⟩ := keyI x.r.key hkey
            have hsw := hS.sz
            have hwn : IntKind.i64.wrap (-x.n) = -x.n := IntWalk.i64_in _ (by omega)
            clear hx ht hRk hS hbb hsi hem het
            generalize hLm : (sideL (d.take k) x.r.key false).length = lm at *
            generalize hLt : (sideL (d.take k) x.r.key true).length = lt at *
            have HLm := Lib.hid hLm
            have HLt := Lib.hid hLt
            clear hLm hLt hown
            have hownV : Own It.vs 4 33 w6.heap.size wr (.slice Am lm cm) (sideL (d.take k) x.r.key false) := HOWN.out
            have hlv : (sideL (d.take k) x.r.key false).length = lm := HLm.out
            generalize hLS : sideL (d.take k) x.r.key false = LS at *
            have HLS := Lib.hid hLS
            clear hLS HOWN
            go_wp2_with (first
              | (at_builtin; go_loud (refine wpList_app1 It.vs 4 33 _ 32 infoIt rfl (by decide) rfl _ _ _ rfl Tryd.underlying23 w6.heap.size _ LS rfl (((hownV.alloc _).alloc _).alloc _) (negIt x) _ _ rfl rfl (newAt _ _ _ _ (by simp)) (by simp [It.vs, negIt, Value.oneCell']) (by omega) (by unfold maxLen; omega) (by simp; omega) (fun v4 z4 hown4 hg4 hloc => ?_); obtain ⟨A9, c9, rfl⟩ := hown4.shape; (generalize hLN : (LS ++ [negIt x]).length = LN at *); have HLN := Lib.hid hLN; clear hLN; obtain ⟨hga, hgb⟩ := two_boxes (fun g e => (hownV.blk g e).2) hg4; have d2 := cell_at_block (off := 1) hga rfl; have d0 := cell_at_block (off := 0) hgb rfl; have d1 := cell_at_block (off := 1) hgb rfl; have f0 := free_at_block (off := 0) hgb; have f1 := free_at_block (off := 1) hgb; have HGB := Lib.hid hgb; have HG4 := Lib.hid hg4; have HOWN4 := Lib.hid hown4; have HLOC := Lib.hid hloc; clear hga hgb hg4 hown4 hloc))
              | (at_mapUpdate; refine wpList_mapUpdate_is rfl _ _ _ _ rfl lawInt Tryd.underlying77 ekI_inj rfl (HS.out.mapAt (key := x.r.key) (b := false) (alloc3_none wr _ _ _) (by rw [HHEM.out]; exact HG4.out) (Nat.le_succ _) (setCell_at HGB.out _).2) x.r.key ⟨.slice A9 LN c9, .slice At lt ct⟩ rfl rfl hkl (fun z6 hM6 hg6 => ?_); have HM6 := Lib.hid hM6; have HG6 := Lib.hid hg6; clear hM6 hg6))
            have G5 := (setCell_at (off := 0) HGB.out (.slice A9 LN c9)).2
            have st := HS.out.step x (v4 := .slice A9 LN c9) (gb := wr.heap.size + 1) (alloc3_none wr _ _ _) (by rw [HBB.out, HLS.out, HSI.out]; exact HOWN4.out) (by rw [HBB.out, HHEM.out]; exact HG4.out) (by rw [HBB.out, HHEM.out]; exact HLOC.out) (Nat.le_succ _) (by simp) G5 (by rw [HBB.out, putSd, HHET.out]; exact HM6.out) HG6.out
            rw [← HT.out] at st
            exact ⟨⟨k + 1, by omega, by go_num, _, st⟩, by simp [intOf]; omega⟩
          · have hq : decide (x.n < 0) = false := by simp; omega
            have hbb : (!decide (x.n < 0)) = true := by rw [hq]; rfl
            have hsi : sideI x = x := by rw [sideI, if_neg (by omega)]
            have hown := hS.own x.r.key true
            rw [het] at hown
            have hll : (sideL (d.take k) x.r.key true).length + 1 ≤ 601 := by
              have := thereL_length (d.take k) x.r.key
              have h2 : (d.take k).length ≤ k := by rw [List.length_take]; omega
              show (thereL (d.take k) x.r.key).length + 1 ≤ 601
              omega
            have HHEM := Lib.hid hem
            have HHET := Lib.hid het
            have HSI := Lib.hid hsi
            have HBB := Lib.hid hbb
            have HT := Lib.hid ht
            have HOWN := Lib.hid hown
            obtain ⟨kl, hkl⟩ := keyI x.r.key hkey
            have hsw := hS.sz
            clear hx ht hRk hS hbb hsi hem het
            generalize hLm : (sideL (d.take k) x.r.key false).length = lm at *
            generalize hLt : (sideL (d.take k) x.r.key true).length = lt at *
            have HLm := Lib.hid hLm
            have HLt := Lib.hid hLt
            clear hLm hLt hown
            have hownV : Own It.vs 4 33 w6.heap.size wr (.slice At lt ct) (sideL (d.take k) x.r.key true) := HOWN.out
            have hlv : (sideL (d.take k) x.r.key true).length = lt := HLt.out
            generalize hLS : sideL (d.take k) x.r.key true = LS at *
            have HLS := Lib.hid hLS
            clear hLS HOWN
            go_wp2_with (first
              | (at_builtin; go_loud (refine wpList_app1 It.vs 4 33 _ 32 infoIt rfl (by decide) rfl _ _ _ rfl Tryd.underlying23 w6.heap.size _ LS rfl (((hownV.alloc _).alloc _).alloc _) (x) _ _ rfl rfl (newAt _ _ _ _ (by simp)) (by simp [It.vs, Value.oneCell']) (by omega) (by unfold maxLen; omega) (by simp; omega) (fun v4 z4 hown4 hg4 hloc => ?_); obtain ⟨A9, c9, rfl⟩ := hown4.shape; (generalize hLN : (LS ++ [x]).length = LN at *); have HLN := Lib.hid hLN; clear hLN; obtain ⟨hga, hgb⟩ := two_boxes (fun g e => (hownV.blk g e).2) hg4; have d2 := cell_at_block (off := 1) hga rfl; have d0 := cell_at_block (off := 0) hgb rfl; have d1 := cell_at_block (off := 1) hgb rfl; have f0 := free_at_block (off := 0) hgb; have f1 := free_at_block (off := 1) hgb; have HGB := Lib.hid hgb; have HG4 := Lib.hid hg4; have HOWN4 := Lib.hid hown4; have HLOC := Lib.hid hloc; clear hga hgb hg4 hown4 hloc))
              | (at_mapUpdate; refine wpList_mapUpdate_is rfl _ _ _ _ rfl lawInt Tryd.underlying77 ekI_inj rfl (HS.out.mapAt (key := x.r.key) (b := true) (alloc3_none wr _ _ _) (by rw [HHET.out]; exact HG4.out) (Nat.le_succ _) (setCell_at HGB.out _).2) x.r.key ⟨.slice Am lm cm, .slice A9 LN c9⟩ rfl rfl hkl (fun z6 hM6 hg6 => ?_); have HM6 := Lib.hid hM6; have HG6 := Lib.hid hg6; clear hM6 hg6))
            have G5 := (setCell_at (off := 1) HGB.out (.slice A9 LN c9)).2
            have st := HS.out.step x (v4 := .slice A9 LN c9) (gb := wr.heap.size + 1) (alloc3_none wr _ _ _) (by rw [HBB.out, HLS.out, HSI.out]; exact HOWN4.out) (by rw [HBB.out, HHET.out]; exact HG4.out) (by rw [HBB.out, HHET.out]; exact HLOC.out) (Nat.le_succ _) (by simp) G5 (by rw [HBB.out, putSd, HHEM.out]; exact HM6.out) HG6.out
            rw [← HT.out] at st
            exact ⟨⟨k + 1, by omega, by go_num, _, st⟩, by simp [intOf]; omega⟩
        · have hk' : k = N := by omega
          subst hk'
          clear hRk hlt hk
          rw [List.take_of_length_le (by rw [HN.out]; exact Nat.le_refl _)] at hS HS
          have hkv : kv.length ≤ 600 := by have := hS.len; have := DK.out.len; omega
          have HK := Lib.hid (keysI_any w2.heap.size kv wr hS.map (by omega))
          clear hS
          go_wp2_with (go_at_call 43; (with_reducible refine HK.out.mono ?_); rintro e w8 ⟨A8, cap8, ks, rfl, hinc, hperm, hr8, hb8⟩)
          have hks : ks = keysL d := incrI_uniq hinc (keysL_incr d) (fun z => by rw [hperm.mem_iff, HS.out.keys, keysL_mem])
          have HF := Lib.hid (HS.out.fix hb8)
          have HL0 := Lib.hid (HS.out.loop hb8 hr8)
          have HKS := Lib.hid hks
          have hnd : ks.Nodup := by rw [hperm.nodup_iff]; exact HS.out.map.nodup
          have HND := Lib.hid hnd
          have hks6 : ks.length ≤ 600 := by rw [hperm.length_eq, List.length_map]; omega
          have HKM : Hid (∀ z ∈ ks, z ∈ d.map (·.r.key)) := fun z hz => (HS.out.keys z).1 (hperm.mem_iff.1 hz)
          have HBB8 : Hid (Below w2.heap.size w2 w8) := HS.out.below.trans (hb8.mono HS.out.below.size)
          have HDIS := Lib.hid HS.out.dis
          have HWW : Hid (w2.heap.size ≤ w8.heap.size) := Nat.le_trans HS.out.below.size hb8.size
          clear hinc hperm hr8 hb8 hks hnd HK HS
          obtain ⟨wo, rfl⟩ : ∃ wo : World, wo = wr := ⟨_, rfl⟩
          generalize hM : ks.length = M at *
          have HM := Lib.hid hM
          clear hM
          go_loopw [10, 12, 69] (fun v _ i wi => ∃ j : Nat, j ≤ M ∧ i = .int .i64 j ∧ LRel w2.heap.size w2 wo w8 d kv A8 M ks j v wi) (fun _ _ i _ => M - (intOf i).toNat)
          case atStart => exact ⟨0, by omega, rfl, HL0.out⟩
          case round =>
            clear HL0
            obtain ⟨j, hj, rfl, hl⟩ := hrel
            have HL := Lib.hid hl
            have hRj := hl.rd
            obtain ⟨A3, cap3, rfl⟩ := hl.own.shape
            by_cases hjl : j < M
            · obtain ⟨bb, off, key, rfl, _, hx, c0⟩ := hRj.int_at hjl
              have HX := Lib.hid hx
              have hkd : key ∈ ks.drop j := by
                have hj' := (List.getElem?_eq_some_iff.1 hx)
                obtain ⟨h1, h2⟩ := hj'
                rw [List.drop_eq_getElem_cons h1, h2]
                exact List.mem_cons_self
              have hkm := HKM.out key (List.mem_of_getElem? hx)
              have hkey : I64 key := by
                obtain ⟨x, hx', rfl⟩ := List.mem_map.1 hkm
                exact (DK.out.ok x hx').1.2.1
              have hlk := lookS hl.map hkey
              have om := hl.sl key hkd false
              have ot := hl.sl key hkd true
              obtain ⟨Am, cm, hem⟩ := om.shape
              obtain ⟨At, ct, het⟩ := ot.shape
              rw [hem] at om
              rw [het] at ot
              rw [hem, het] at hlk
              have HTu := turned_any _ _ Am At cm ct (missL d key) (thereL d key) wr (om.win wr.heap.size) (ot.win wr.heap.size) (sideL_pos DK.out key false) (sideL_pos DK.out key true) (fun h1 h2 => by
                have hd := HDIS.out key false key true (by simp)
                have e1 : ∃ g, (Value.slice Am (sideL d key false).length cm).ownBlock = some g := by
                  rcases om.2 with ⟨_, e0⟩ | ⟨g, cap, cur, e, _⟩
                  · exact absurd (List.length_eq_zero_iff.1 e0) h1
                  · exact ⟨g, by rw [e]; rfl⟩
                obtain ⟨g, hg⟩ := e1
                have e2 : ∃ g, (Value.slice At (sideL d key true).length ct).ownBlock = some g := by
                  rcases ot.2 with ⟨_, e0⟩ | ⟨g, cap, cur, e, _⟩
                  · exact absurd (List.length_eq_zero_iff.1 e0) h2
                  · exact ⟨g, by rw [e]; rfl⟩
                obtain ⟨g2, hg2⟩ := e2
                have := hd g (by rw [hem]; exact hg)
                rw [het, hg2] at this
                rw [hg, hg2]
                simp only [Option.getD_some]
                exact fun e => this (by rw [e])) (by
                have := missL_length d key
                have := thereL_length d key
                have := DK.out.len
                omega)
              have HTU := Lib.hid HTu
              have HEM := Lib.hid hem
              have HET := Lib.hid het
              have hol : ((ks.take j).flatMap (edKey d)).length ≤ 600 * 1200 := by
                rw [List.length_flatMap]
                have h1 : ∀ x ∈ (ks.take j).map (fun k => (edKey d k).length), x ≤ 1200 := fun x hx => by
                  obtain ⟨k, _, rfl⟩ := List.mem_map.1 hx
                  have := edKey_length d k
                  have := DK.out.len
                  omega
                have h2 := sum_le_mul _ 1200 h1
                have h3 : ((ks.take j).map (fun k => (edKey d k).length)).length ≤ 600 := by rw [List.length_map, List.length_take]; omega
                omega
              have hel := edKey_length d key
              have hne := edKey_pos hkm
              have HOUT := Lib.hid hl.own
              have hszi := hl.lo
              clear hl hRj hx hkd hkm hem het om ot HTu
              have HTU2 : Hid (Calls Tryd.prog 46 #[.slice Am (sideL d key false).length cm, .slice At (sideL d key true).length ct] wr fun e w' => ∃ v, e = .returned v ∧ Own Ed.vs 8 72 wr.heap.size w' v (edKey d key) ∧ But2 wr w' ((sv kv key false).ownBlock.getD wr.heap.size) ((sv kv key true).ownBlock.getD wr.heap.size)) := by
                rw [HEM.out, HET.out]
                exact HTU.out
              clear HTU
              generalize (sideL d key false).length = lm at *
              generalize (sideL d key true).length = lt at *
              have hdl := DK.out.len
              generalize hLO : (ks.take j).flatMap (edKey d) = LO at *
              generalize hLK : edKey d key = LK at *
              have HLO := Lib.hid hLO
              have HLK := Lib.hid hLK
              clear hLO hLK
              have hf0 : ∀ (w : World) (A1 A2 : Option Addr) (n1 c1 n2 c2 : Nat), (Instr.field 79 (.agg #[.slice A1 n1 c1, .slice A2 n2 c2]) 0).run Tryd.prog w = .ok (.slice A1 n1 c1) w := fun _ _ _ _ _ _ _ => by kernel_rfl
              have hf1 : ∀ (w : World) (A1 A2 : Option Addr) (n1 c1 n2 c2 : Nat), (Instr.field 79 (.agg #[.slice A1 n1 c1, .slice A2 n2 c2]) 1).run Tryd.prog w = .ok (.slice A2 n2 c2) w := fun _ _ _ _ _ _ _ => by kernel_rfl
              go_wp2_with (first
                | (go_at_call 46; (with_reducible refine HTU2.out.mono ?_); rintro e z1 ⟨vt, rfl, hot, hbt⟩; have HBT := Lib.hid hbt; clear hbt)
                | (at_builtin; refine wpList_appN Ed.vs 8 72 _ 64 infoEd rfl (by decide) rfl _ _ _ rfl Tryd.underlying40 w8.heap.size _ LO rfl (HL.out.turnedOwn HF.out HBT.out HLO.out) wr.heap.size vt LK rfl hot hne (fun q u hu => by simp [Ed.vs] at hu; rcases hu with rfl | rfl | rfl | rfl | rfl | rfl | rfl | rfl <;> rfl) (by omega) (by unfold maxLen; omega) (Nat.le_trans hszi HBT.out.size) (fun v4 z4 hown4 hg4 _ => ?_); have HOWN4 := Lib.hid hown4; have HG4 := Lib.hid hg4; clear hown4 hg4))
              exact ⟨⟨j + 1, by omega, by go_num, HL.out.step HF.out HX.out HND.out HBT.out HG4.out (by rw [HLO.out, HLK.out]; exact HOWN4.out)⟩, by simp [intOf]; omega⟩
            · have hj' : j = M := by omega
              subst hj'
              have hout := hl.own
              have hbel := hl.below
              have hfin : (ks.take j).flatMap (edKey d) = editsL d := by rw [List.take_of_length_le (by rw [HM.out]; exact Nat.le_refl _), HKS.out]; rfl
              have hlo3 := hl.lo
              rw [hfin] at hout ⊢
              have hlen : (editsL d).length ≤ 600 * 1200 := by
                unfold editsL
                rw [List.length_flatMap]
                have h1 : ∀ x ∈ (keysL d).map (fun k => (edKey d k).length), x ≤ 1200 := fun x hx => by
                  obtain ⟨k, _, rfl⟩ := List.mem_map.1 hx
                  have := edKey_length d k
                  have := DK.out.len
                  omega
                have h2 := sum_le_mul _ 1200 h1
                have h3 : ((keysL d).map (fun k => (edKey d k).length)).length ≤ 600 := by have := HM.out; rw [List.length_map, ← HKS.out]; omega
                omega
              have HOUT := Lib.hid hout
              have HBEL := Lib.hid hbel
              have HLO3 := Lib.hid hlo3
              clear hl hout hbel hRj hfin hjl hj HL HF HBB8
              generalize editsL d = E at *
              obtain ⟨A7, cap7, e7, hr7⟩ := HOUT.out.rd Ed.vs_length
              cases e7
              have HR7 := Lib.hid hr7
              have HW28 : Hid (w2.heap.size ≤ w8.heap.size) := HWW.out
              obtain ⟨w9, rfl⟩ : ∃ w9 : World, w9 = wr := ⟨_, rfl⟩
              clear hr7
              generalize hQ : E.length = Q at *
              have HQ := Lib.hid hQ
              clear hQ
              go_wp2_with fail
              go_loopw [14, 87] (fun _ i wi => ∃ q : Nat, q ≤ Q ∧ i = .int .i64 q ∧ bigE (E.take q) = false ∧ Below w9.heap.size w9 wi) (fun _ i _ => Q - (intOf i).toNat)
              case atStart => exact ⟨0, by omega, rfl, rfl, Below.refl _ _⟩
              case round =>
                obtain ⟨q, hq, rfl, hbig, hB9⟩ := hrel
                have hRq := HR7.out.below hB9
                have HB9 := Lib.hid hB9
                have HBIG := Lib.hid hbig
                clear hB9 hbig
                by_cases hql : q < Q
                · obtain ⟨b9, off9, x, rfl, hx, c0, c1, c2, c3, c4, c5, c6, c7⟩ := hRq.ed_at hql
                  have hBT : bigE (E.take (q + 1)) = (bigE (E.take q) || decide (1000000 < x.n)) := by rw [List.take_add_one, hx]; simp [bigE]
                  have hBX : 1000000 < x.n → bigE E = true := fun h => List.any_eq_true.2 ⟨x, List.mem_of_getElem? hx, by simpa using h⟩
                  have HBT := Lib.hid hBT
                  clear hBT hx hRq
                  by_cases hbx : 1000000 < x.n
                  · have hbe := hBX hbx
                    have hgd : decide (1000000 < x.n) = true := by simpa using hbx
                    have HBE := Lib.hid hbe
                    clear hBX hbe hbx
                    go_wp2_with fail
                    go_ret2
                    rw [HE.out, HBE.out]
                    exact ⟨none, 0, rfl, Rd.nil _ _ _, bchain HB2.out (HBEL.out.trans ((HB9.out.mono HBEL.out.size).trans ((below_new _ _).mono (Nat.le_trans HBEL.out.size HB9.out.size))))⟩
                  · have hgd : decide (1000000 < x.n) = false := by simpa using hbx
                    have HGD := Lib.hid hgd
                    clear hBX hbx
                    go_wp2_with fail
                    exact ⟨⟨q + 1, by omega, by go_num, by rw [HBT.out, HBIG.out, HGD.out]; rfl, HB9.out.alloc HB9.out.size _⟩, by simp [intOf]; omega⟩
                · have hq' : q = Q := by omega
                  subst hq'
                  clear hRq hql
                  go_wp2_with fail
                  go_ret2
                  have hbf : bigE E = false := by have := HBIG.out; rwa [List.take_of_length_le (by rw [HQ.out]; exact Nat.le_refl _)] at this
                  rw [HE.out, hbf]
                  refine ⟨A3, cap3, ?_, ?_, bchain HB2.out (HBEL.out.trans (HB9.out.mono HBEL.out.size))⟩
                  · show Ending.returned _ = Ending.returned (.tuple #[.slice A3 E.length cap3, .int .i64 0])
                    rw [HQ.out]
                    rfl
                  · show Rd Ed.vs 8 _ w.heap.size A3 E.length E
                    rw [HQ.out]
                    exact (HR7.out.below HB9.out).low (Nat.le_trans HB2.out.size HW28.out)
end Go.Proofs.Bg
end

section
/- The contracts of need, left.done, left.next. -/
namespace Go.Proofs.Bg
open Go.RowKit

/-- What gives up: the panic's chain. -/
def wrongChain : List PanicEntry := [{ v := .iface 113 (.agg #[]), recovered := false }]

theorem need_yes (w : World) : Calls Tryd.prog 58 #[.bool true] w fun e w' => e = .returned (.tuple #[]) ∧ w = w' := by
  go_enter Tryd.func58, Tryd.ntmps58
  go_wp2
  go_end0
  exact ⟨rfl, rfl⟩
theorem need_no (w : World) : Calls Tryd.prog 58 #[.bool false] w fun e w' => e = .panicked wrongChain ∧ w = w' := by
  go_enter Tryd.func58, Tryd.ntmps58
  go_wp2
  exact ⟨rfl, rfl, rfl⟩

/-- What is left to read lies behind block tb. -/
def LeftIs (w : World) (tb : Nat) (T : TypeId) (rest : List Int) : Prop :=
  ∃ A cap, w.heap[tb]? = some (.cells #[.slice A rest.length cap] T) ∧ Rd bv 1 w 0 A rest.length rest ∧ (0 < rest.length → ∀ b off, A = some ⟨b, off, none⟩ → b < tb) ∧ rest.length ≤ cap ∧ ∀ x ∈ rest, 0 ≤ x ∧ x ≤ 255

theorem done_any (tb : Nat) (T : TypeId) (rest : List Int) (w : World) (h : LeftIs w tb T rest) : Calls Tryd.prog 53 #[.pointer (some ⟨tb, 0, none⟩)] w fun e w' => e = .returned (.bool (rest.isEmpty)) ∧ w = w' := by
  obtain ⟨A, cap, hb, hr, _⟩ := h
  have c0 := cell_at_block (off := 0) hb rfl
  have hle := hr.le
  clear hb hr
  cases rest with
  | nil =>
    go_enter Tryd.func53, Tryd.ntmps53
    go_wp2
    go_ret
    exact ⟨rfl, rfl⟩
  | cons x r =>
    have hx : (((r.length + 1 : Nat) : Int) == 0) = false := by simp; omega
    go_enter Tryd.func53, Tryd.ntmps53
    go_wp2
    go_ret
    exact ⟨ret_bool (by simp; omega), rfl⟩

theorem next_no (tb : Nat) (T : TypeId) (w : World) (h : LeftIs w tb T []) : Calls Tryd.prog 71 #[.pointer (some ⟨tb, 0, none⟩)] w fun e w' => e = .panicked wrongChain ∧ w = w' := by
  have hd := done_any tb T [] w h
  have HD := Lib.hid hd
  clear hd h
  go_enter Tryd.func71, Tryd.ntmps71
  go_wp2_with (first | (go_at_call 53; (with_reducible refine HD.out.mono ?_); rintro e w' ⟨rfl, rfl⟩) | (go_at_call 58; (with_reducible refine (need_no _).mono ?_); rintro e w' ⟨rfl, rfl⟩))
  exact ⟨rfl, rfl, rfl⟩

theorem LeftIs.tail {w w' : World} {tb b off : Nat} {T : TypeId} {x : Int} {r : List Int} {cap : Nat} (h : LeftIs w tb T (x :: r)) (hb : w.heap[tb]? = some (.cells #[.slice (some ⟨b, off, none⟩) (r.length + 1) cap] T)) (o' : Nat) (ho : 0 < r.length → o' = off + 1)
    (hb' : w'.heap[tb]? = some (.cells #[.slice (some ⟨b, o', none⟩) r.length (cap - 1)] T)) (hg : w.grownBy w' (some tb)) : LeftIs w' tb T r := by
  obtain ⟨A, cap0, hb0, hr, hne, hc, hx⟩ := h
  rw [hb] at hb0
  simp only [List.length_cons, Option.some.injEq, Obj.cells.injEq, and_true, Array.mk.injEq, List.cons.injEq, Value.slice.injEq, true_and] at hb0
  obtain ⟨rfl, rfl⟩ := hb0
  have hlt0 := hne (by simp) b off rfl
  have hbt : b ≠ tb := Nat.ne_of_lt hlt0
  refine ⟨_, _, hb', ⟨rfl, by have := hr.le; simp at this; omega, fun hn => ⟨b, o', rfl, Nat.zero_le _, fun i y hy j v hv => ?_⟩⟩, fun _ b1 o1 e => by cases e; exact hlt0, by simp at hc; omega, fun y hy => hx y (List.mem_cons_of_mem _ hy)⟩
  obtain ⟨b2, off2, e2, _, hcell⟩ := hr.2.2 (by simp)
  cases e2
  have h1 := hcell (i + 1) y (by simpa using hy) j v hv
  rw [ho hn]
  have hlt : b < w.heap.size := World.block_lt_of_cell? w _ h1
  have e3 : off + 1 + i * 1 + j = off + (i + 1) * 1 + j := by omega
  rw [e3]
  exact (World.cell?_of_block (w := w) (a := ⟨b, off + (i + 1) * 1 + j, none⟩) (hg.block b hlt (fun e => hbt (Option.some.inj e)))).trans h1

theorem LeftIs.later {w w' : World} {tb : Nat} {T : TypeId} {rest : List Int} {row : Option Nat} (h : LeftIs w tb T rest) (hg : w.grownBy w' row) (hr : ∀ x, row = some x → tb < x) : LeftIs w' tb T rest := by
  obtain ⟨A, cap, hb, hd, hn, hc, hbd⟩ := h
  have hlt : tb < w.heap.size := (Array.getElem?_eq_some_iff.1 hb).1
  refine ⟨A, cap, (hg.block tb hlt (fun e => by have := hr tb e.symm; omega)).trans hb, ⟨hd.1, hd.2.1, fun h0 => ?_⟩, hn, hc, hbd⟩
  obtain ⟨b2, off, rfl, hlo, hcell⟩ := hd.2.2 h0
  have hb2 := hn h0 b2 off rfl
  refine ⟨b2, off, rfl, hlo, fun i y hy j v hv => ?_⟩
  have h1 := hcell i y hy j v hv
  exact (World.cell?_of_block (w := w) (a := ⟨b2, off + i * 1 + j, none⟩) (hg.block b2 (by omega) (fun e => by have := hr b2 e.symm; omega))).trans h1
theorem LeftIs.lt {w : World} {tb : Nat} {T : TypeId} {rest : List Int} (h : LeftIs w tb T rest) : tb < w.heap.size := by
  obtain ⟨A, cap, hb, _⟩ := h
  exact (Array.getElem?_eq_some_iff.1 hb).1

theorem next_yes (tb : Nat) (T : TypeId) (x : Int) (r : List Int) (w : World) (h : LeftIs w tb T (x :: r)) : Calls Tryd.prog 71 #[.pointer (some ⟨tb, 0, none⟩)] w fun e w' => e = .returned (.int .u8 x) ∧ LeftIs w' tb T r ∧ w.grownBy w' (some tb) := by
  have hd := done_any tb T (x :: r) w h
  have HD := Lib.hid hd
  have HL := Lib.hid h
  clear hd
  obtain ⟨A, cap, hb, hr, hne, hcap, _⟩ := h
  have c0 := cell_at_block (off := 0) hb rfl
  have g0 := free_at_block (off := 0) hb
  have hle := hr.le
  obtain ⟨b, off, y, rfl, _, hy, hcl⟩ := hr.at_ (k := 0) (by simp)
  cases hy
  have d0 := hcl 0 _ rfl
  simp only [Nat.zero_mul, Nat.add_zero] at d0
  have hlt0 := hne (by simp) b off rfl
  have hbt : b ≠ tb := Nat.ne_of_lt hlt0
  have HB := Lib.hid hb
  have HNE := Lib.hid hne
  simp only [List.length_cons] at c0 hle hcap
  clear hb hne hr hcl
  by_cases hc1 : cap = 1
  · have hc2 : Hid (cap = 1) := hc1
    go_enter Tryd.func71, Tryd.ntmps71
    go_wp2_with (first | (go_at_call 53; (with_reducible refine HD.out.mono ?_); rintro e w' ⟨rfl, rfl⟩) | (go_at_call 58; (with_reducible refine (need_yes _).mono ?_); rintro e w' ⟨rfl, rfl⟩))
    have S := setCell_at (off := 0) HB.out (.slice (some ⟨b, off, none⟩) r.length (cap - 1))
    go_ret
    have e1 : cap - 1 = 0 := by have := hc2.out; omega
    rw [e1] at S
    exact ⟨rfl, HL.out.tail HB.out off (fun h => by have := hc2.out; omega) (by rw [e1]; exact S.1) S.2, S.2⟩
  · go_enter Tryd.func71, Tryd.ntmps71
    go_wp2_with (first | (go_at_call 53; (with_reducible refine HD.out.mono ?_); rintro e w' ⟨rfl, rfl⟩) | (go_at_call 58; (with_reducible refine (need_yes _).mono ?_); rintro e w' ⟨rfl, rfl⟩))
    have S := setCell_at (off := 0) HB.out (.slice (some ⟨b, off + 1, none⟩) r.length (cap - 1))
    go_ret
    exact ⟨rfl, HL.out.tail HB.out (off + 1) (fun _ => rfl) S.1 S.2, S.2⟩
end Go.Proofs.Bg
end

section
/- The contracts of text.sign, text.digit, text.number, text.item. -/
namespace Go.Proofs.Bg
open Go.RowKit

def isDig (x : Int) : Bool := withinB x 48 57
def pDigit : List Int → Bool
  | [] => false
  | x :: _ => isDig x
def pSign (c : Int) : List Int → Option (List Int)
  | [] => none
  | x :: r => if x = c then some r else none
def pLoop : List Int → Int → Option (Int × List Int)
  | [], n => some (n, [])
  | x :: r, n => if (decide (0 < n) && isDig x) = true then (if 10 * n + (x - 48) ≤ 1000000000 then pLoop r (10 * n + (x - 48)) else none) else some (n, x :: r)
def pAbs : List Int → Option (Int × List Int)
  | [] => none
  | x :: r => if isDig x = true then pLoop r (x - 48) else none
def pNum : List Int → Option (Int × List Int)
  | [] => none
  | x :: r => if x = 45 then (match pAbs r with | some (n, r') => if 0 < n then some (-n, r') else none | none => none) else pAbs (x :: r)
def pItem (s : List Int) : Option (It × List Int) :=
  match pNum s with
  | none => none
  | some (a, s1) => match pSign 32 s1 with
    | none => none
    | some s2 => match pNum s2 with
      | none => none
      | some (k, s3) => match pSign 32 s3 with
        | none => none
        | some s4 => match pNum s4 with
          | none => none
          | some (v, s5) => match pSign 32 s5 with
            | none => none
            | some s6 => match pNum s6 with
              | none => none
              | some (n, s7) => some (⟨⟨a, k, v⟩, n⟩, s7)

/-- What a reading leaves: the value, what is left, and only the reader has turned; or it has given up. -/
def Reads (tb : Nat) (T : TypeId) (w : World) (p : Option (Value × List Int)) (e : Ending) (w' : World) : Prop :=
  match p with
  | some (v, r) => e = .returned v ∧ LeftIs w' tb T r ∧ w.grownBy w' (some tb)
  | none => e = .panicked wrongChain ∧ w.grownBy w' (some tb)

theorem sign_any (tb : Nat) (c : Int) (s : List Int) (w : World) (h : LeftIs w tb 91 s) :
    Calls Tryd.prog 54 #[.pointer (some ⟨tb, 0, none⟩), .int .u8 c] w (Reads tb 91 w ((pSign c s).map fun r => (.tuple #[], r))) := by
  cases s with
  | nil =>
    have HN := Lib.hid (next_no tb _ w h)
    clear h
    go_enter Tryd.func54, Tryd.ntmps54
    go_wp2_with (go_at_call 71; (with_reducible refine HN.out.mono ?_); rintro e w' ⟨rfl, rfl⟩)
    exact ⟨rfl, rfl, World.grownBy.refl _ _⟩
  | cons x r =>
    have HN := Lib.hid (next_yes tb _ x r w h)
    clear h
    by_cases hc : x = c
    · have e1 : (pSign c (x :: r)).map (fun r => (Value.tuple #[], r)) = some (.tuple #[], r) := by simp [pSign, hc]
      rw [e1]
      have hx : (x == c) = true := by simpa using hc
      have HC : Hid (x = c) := hc
      clear hc e1
      go_enter Tryd.func54, Tryd.ntmps54
      go_wp2_with (first | (go_at_call 71; (with_reducible refine HN.out.mono ?_); rintro e w' ⟨rfl, hl, hg⟩; have HL := Lib.hid hl; have HG := Lib.hid hg; clear hl hg) | (go_at_call 58; (with_reducible refine (need_yes _).mono ?_); rintro e w' ⟨rfl, rfl⟩))
      go_end0
      exact ⟨rfl, HL.out, HG.out⟩
    · have e1 : (pSign c (x :: r)).map (fun r => (Value.tuple #[], r)) = none := by simp [pSign, hc]
      rw [e1]
      have hx : (x == c) = false := by simpa using hc
      clear hc e1
      go_enter Tryd.func54, Tryd.ntmps54
      go_wp2_with (first | (go_at_call 71; (with_reducible refine HN.out.mono ?_); rintro e w' ⟨rfl, hl, hg⟩; have HL := Lib.hid hl; have HG := Lib.hid hg; clear hl hg) | (go_at_call 58; (with_reducible refine (need_no _).mono ?_); rintro e w' ⟨rfl, rfl⟩))
      exact ⟨rfl, rfl, HG.out⟩

theorem LeftIs.head {w : World} {tb : Nat} {T : TypeId} {x : Int} {r : List Int} (h : LeftIs w tb T (x :: r)) : ∃ b off cap, w.cell? ⟨tb, 0, none⟩ = some (.slice (some ⟨b, off, none⟩) (r.length + 1) cap) ∧ w.cell? ⟨b, off, none⟩ = some (.int .u8 x) ∧ 0 ≤ x ∧ x ≤ 255 := by
  obtain ⟨A, cap, hb, hr, _, _, hx⟩ := h
  obtain ⟨b, off, y, rfl, _, hy, hcl⟩ := hr.at_ (k := 0) (by simp)
  cases hy
  have d0 := hcl 0 _ rfl
  simp only [Nat.zero_mul, Nat.add_zero] at d0
  exact ⟨b, off, cap, cell_at_block hb rfl, d0, hx x List.mem_cons_self⟩

theorem digit_any (tb : Nat) (s : List Int) (w : World) (h : LeftIs w tb 91 s) :
    Calls Tryd.prog 80 #[.pointer (some ⟨tb, 0, none⟩)] w fun e w' => e = .returned (.bool (pDigit s)) ∧ w = w' := by
  have HD := Lib.hid (done_any tb _ s w h)
  cases s with
  | nil =>
    clear h
    go_enter Tryd.func80, Tryd.ntmps80
    go_wp2_with (go_at_call 53; (with_reducible refine HD.out.mono ?_); rintro e w' ⟨rfl, rfl⟩)
    go_ret
    exact ⟨rfl, rfl⟩
  | cons x r =>
    obtain ⟨b, off, cap, c0, d0, hx0, hx1⟩ := h.head
    have HW := Lib.hid (within_any x 48 57 w)
    have e1 : pDigit (x :: r) = withinB x 48 57 := rfl
    rw [e1]
    generalize withinB x 48 57 = q at HW ⊢
    clear h e1
    go_enter Tryd.func80, Tryd.ntmps80
    go_wp2_with (first | (go_at_call 53; (with_reducible refine HD.out.mono ?_); rintro e w' ⟨rfl, rfl⟩) | (go_at_call 61; (with_reducible refine HW.out.mono ?_); rintro e w' ⟨rfl, rfl⟩))
    go_ret
    exact ⟨rfl, rfl⟩
end Go.Proofs.Bg
end

section
/- The contract of text.number. -/
namespace Go.Proofs.Bg
open Go.RowKit

def finM (minus : Bool) : Option (Int × List Int) → Option (Value × List Int)
  | none => none
  | some (n, r) => if minus then (if 0 < n then some (.int .i64 (-n), r) else none) else some (.int .i64 n, r)
def leftLen (tb : Nat) (w : World) : Nat := match w.cell? ⟨tb, 0, none⟩ with | some (.slice _ n _) => n | _ => 0
theorem LeftIs.len_of {w : World} {tb : Nat} {T : TypeId} {s : List Int} (h : LeftIs w tb T s) : leftLen tb w = s.length := by
  obtain ⟨A, cap, hb, _⟩ := h
  have c0 : w.cell? ⟨tb, 0, none⟩ = some (.slice A s.length cap) := cell_at_block hb rfl
  rw [leftLen, c0]
theorem pAbs_no {s : List Int} (h : pDigit s = false) : pAbs s = none := by
  cases s with
  | nil => rfl
  | cons x r => rw [pAbs, if_neg (by simpa [pDigit] using h)]
theorem pDigit_yes {s : List Int} (h : pDigit s = true) : ∃ y r, s = y :: r ∧ isDig y = true := by
  cases s with
  | nil => cases h
  | cons x r => exact ⟨x, r, rfl, h⟩
theorem isDig_bd {y : Int} (h : isDig y = true) : 48 ≤ y ∧ y ≤ 57 := by simpa [isDig, withinB] using h
theorem pLoop_end {s : List Int} (n : Int) (h : pDigit s = false) : pLoop s n = some (n, s) := by
  cases s with
  | nil => rfl
  | cons x r =>
    have : isDig x = false := h
    rw [pLoop, if_neg (by simp [this])]
theorem pLoop_zero (n : Int) (s : List Int) (h : ¬ 0 < n) : pLoop s n = some (n, s) := by
  cases s with
  | nil => rfl
  | cons x r => rw [pLoop, if_neg (by simp [h])]
/-- What the loop holds. -/
def NumL (tb : Nat) (w : World) (R : Option (Int × List Int)) (n : Int) (rest : List Int) (wr : World) : Prop :=
  LeftIs wr tb 91 rest ∧ w.grownBy wr (some tb) ∧ pLoop rest n = R ∧ 0 ≤ n ∧ n ≤ 1000000000

set_option maxRecDepth 100000 in
set_option maxHeartbeats 2000000 in
theorem number_any (tb : Nat) (s : List Int) (w : World) (h : LeftIs w tb 91 s) :
    Calls Tryd.prog 72 #[.pointer (some ⟨tb, 0, none⟩)] w (Reads tb 91 w ((pNum s).map fun p => (.int .i64 p.1, p.2))) := by
  have HDn := Lib.hid (done_any tb _ s w h)
  have HLA0 := Lib.hid h
  by_cases hm : ∃ s1, s = 45 :: s1
  · obtain ⟨s1, rfl⟩ := hm
    obtain ⟨b, off, cap, c0, d0, hx0, hx1⟩ := h.head
    obtain ⟨s, hs⟩ : ∃ s, s = 45 :: s1 := ⟨_, rfl⟩
    rw [← hs]
    have HF : Hid ((pNum s).map (fun p => (Value.int .i64 p.1, p.2)) = finM true (pAbs s1)) := by
      show _ = _
      rw [hs, pNum, if_pos rfl]
      cases pAbs s1 with
      | none => rfl
      | some p =>
        obtain ⟨n, r⟩ := p
        by_cases hn : 0 < n <;> simp [finM, hn]
    have HN := Lib.hid (next_yes tb _ 45 s1 w h)
    clear h hs
    go_enter Tryd.func72, Tryd.ntmps72
    go_wp2_with (first | (go_at_call 53; (with_reducible refine HDn.out.mono ?_); rintro e w' ⟨rfl, rfl⟩) | (go_at_call 71; (with_reducible refine HN.out.mono ?_); rintro e w' ⟨rfl, hl, hg⟩; have HLA := Lib.hid hl; have HGA := Lib.hid hg; clear hl hg))
    clear c0 d0 HN HLA0 HDn
    have HD := Lib.hid (digit_any tb s1 _ HLA.out)
    cases hdg : pDigit s1 with
    | false =>
      have HDE := Lib.hid hdg
      have hz : finM true (pAbs s1) = none := by rw [pAbs_no hdg]; rfl
      have HZ := Lib.hid hz
      clear hdg hz
      go_wp2_with (first | (go_at_call 80; (with_reducible refine HD.out.mono ?_); rintro e w' ⟨rfl, rfl⟩; rw [HDE.out]) | (go_at_call 58; (with_reducible refine (need_no _).mono ?_); rintro e w' ⟨rfl, rfl⟩))
      refine ⟨rfl, ?_⟩
      show Reads tb _ w _ _ _
      rw [HF.out, HZ.out]
      exact ⟨rfl, HGA.out⟩
    | true =>
      have HDE := Lib.hid hdg
      obtain ⟨y, r1, rfl, hy⟩ := pDigit_yes hdg
      obtain ⟨hy1, hy2⟩ := isDig_bd hy
      have HR : Hid ((pNum s).map (fun p => (Value.int .i64 p.1, p.2)) = finM true (pLoop r1 (y - 48))) := by rw [HF.out, pAbs, if_pos hy]; rfl
      have HN := Lib.hid (next_yes tb _ y r1 _ HLA.out)
      have hw8 : IntKind.u8.wrap (y - 48) = y - 48 := IntWalk.u8_in _ (by omega)
      clear hdg hy HF
      go_wp2_with (first | (go_at_call 80; (with_reducible refine HD.out.mono ?_); rintro e w' ⟨rfl, rfl⟩; rw [HDE.out]) | (go_at_call 58; (with_reducible refine (need_yes _).mono ?_); rintro e w' ⟨rfl, rfl⟩) | (go_at_call 71; (with_reducible refine HN.out.mono ?_); rintro e w' ⟨rfl, hl, hg⟩; have HL := Lib.hid hl; have HG := Lib.hid hg; clear hl hg))
      have HG2 : Hid (w.grownBy w' (some tb)) := HGA.out.then_ HG.out (fun _ e => .inr e)
      obtain ⟨R, hR⟩ : ∃ R, pLoop r1 (y - 48) = R := ⟨_, rfl⟩
      rw [hR] at HR
      have HRel0 : Hid (NumL tb w R (y - 48) r1 w') := ⟨HL.out, HG2.out, hR, by omega, by omega⟩
      clear hR HN HD HDE hw8 HG HL HG2 HLA HGA
      go_loopw [4] (fun v wr => ∃ n rest, v = .int .i64 n ∧ NumL tb w R n rest wr) (fun _ wr => leftLen tb wr)
      case atStart => exact ⟨_, _, rfl, HRel0.out⟩
      case round =>
        clear HRel0
        obtain ⟨n, rest, rfl, hl, hg, hR, hn0, hn1⟩ := hrel
        have HL := Lib.hid hl
        have HG := Lib.hid hg
        have HRR := Lib.hid hR
        have HD := Lib.hid (digit_any tb rest _ hl)
        clear hl hg hR
        by_cases hnp : 0 < n
        · cases hdg : pDigit rest with
          | false =>
            have hfin : finM true R = some (.int .i64 (-n), rest) := by rw [← HRR.out, pLoop_end n hdg]; simp [finM, hnp]
            have HDE := Lib.hid hdg
            clear hdg
            have HFin := Lib.hid hfin
            clear hfin
            have hwn : IntKind.i64.wrap (-n) = -n := IntWalk.i64_in _ (by omega)
            have hgd : decide (0 < n) = true := by simpa using hnp
            go_wp2_with (first | (go_at_call 80; (with_reducible refine HD.out.mono ?_); rintro e w' ⟨rfl, rfl⟩; rw [HDE.out]) | (go_at_call 58; (with_reducible refine (need_yes _).mono ?_); rintro e w' ⟨rfl, rfl⟩))
            go_ret
            show Reads tb _ w _ _ _
            rw [HR.out, HFin.out]
            exact ⟨rfl, HL.out, HG.out⟩
          | true =>
            have HDE := Lib.hid hdg
            obtain ⟨z, r2, rfl, hz⟩ := pDigit_yes hdg
            obtain ⟨hz1, hz2⟩ := isDig_bd hz
            have HN := Lib.hid (next_yes tb _ z r2 _ HL.out)
            have hw8 : IntKind.u8.wrap (z - 48) = z - 48 := IntWalk.u8_in _ (by omega)
            have hgd : decide (0 < n) = true := by simpa using hnp
            have HLw := Lib.hid HL.out.len_of
            by_cases hbig : 10 * n + (z - 48) ≤ 1000000000
            · have hstep : pLoop (z :: r2) n = pLoop r2 (10 * n + (z - 48)) := by rw [pLoop, if_pos (by simp [hnp, hz]), if_pos hbig]
              have HST := Lib.hid hstep
              have hgb : decide (10 * n + (z - 48) ≤ 1000000000) = true := by simpa using hbig
              clear hstep hz hdg
              go_wp2_with (first | (go_at_call 80; (with_reducible refine HD.out.mono ?_); rintro e w' ⟨rfl, rfl⟩; rw [HDE.out]) | (go_at_call 58; (with_reducible refine (need_yes _).mono ?_); rintro e w' ⟨rfl, rfl⟩) | (go_at_call 71; (with_reducible refine HN.out.mono ?_); rintro e w' ⟨rfl, hl, hg⟩; have HL2 := Lib.hid hl; have HG2 := Lib.hid hg; clear hl hg))
              exact ⟨⟨_, r2, rfl, HL2.out, HG.out.then_ HG2.out (fun _ e => .inr e), by rw [← HRR.out, HST.out], by omega, by omega⟩, by rw [HL2.out.len_of, HLw.out]; simp⟩
            · have hfin : finM true R = none := by rw [← HRR.out, pLoop, if_pos (by simp [hnp, hz]), if_neg hbig]; rfl
              have hgb : decide (10 * n + (z - 48) ≤ 1000000000) = false := by simpa using hbig
              have HFin := Lib.hid hfin
              clear hfin hz hdg
              go_wp2_with (first | (go_at_call 80; (with_reducible refine HD.out.mono ?_); rintro e w' ⟨rfl, rfl⟩; rw [HDE.out]) | (go_at_call 58; (with_reducible refine (need_no _).mono ?_); rintro e w' ⟨rfl, rfl⟩) | (go_at_call 71; (with_reducible refine HN.out.mono ?_); rintro e w' ⟨rfl, hl, hg⟩; have HL2 := Lib.hid hl; have HG2 := Lib.hid hg; clear hl hg))
              refine ⟨rfl, ?_⟩
              show Reads tb _ w _ _ _
              rw [HR.out, HFin.out]
              exact ⟨rfl, HG.out.then_ HG2.out (fun _ e => .inr e)⟩
        · have hfin : finM true R = none := by rw [← HRR.out, pLoop_zero n rest hnp]; simp [finM, hnp]
          have HFin := Lib.hid hfin
          clear hfin
          have hgd : decide (0 < n) = false := by simp; omega
          go_wp2_with (first | (go_at_call 80; (with_reducible refine HD.out.mono ?_); rintro e w' ⟨rfl, rfl⟩; rw [HDE.out]) | (go_at_call 58; (with_reducible refine (need_no _).mono ?_); rintro e w' ⟨rfl, rfl⟩))
          refine ⟨rfl, ?_⟩
          show Reads tb _ w _ _ _
          rw [HR.out, HFin.out]
          exact ⟨rfl, HG.out⟩
  · obtain ⟨s1, hs1⟩ : ∃ s1, s1 = s := ⟨_, rfl⟩
    have HF : Hid ((pNum s).map (fun p => (Value.int .i64 p.1, p.2)) = finM false (pAbs s1)) := by
      show _ = _
      have e1 : pNum s = pAbs s1 := by
        subst hs1
        cases s1 with
        | nil => rfl
        | cons x r => rw [pNum, if_neg (fun e => hm ⟨r, by rw [e]⟩)]
      rw [e1]
      cases pAbs s1 with
      | none => rfl
      | some p => rfl
    have HLA : Hid (LeftIs w tb 91 s1) := by rw [hs1]; exact h
    have HGA : Hid (w.grownBy w (some tb)) := World.grownBy.refl _ _
    have hmin : ∃ q : Bool, True := ⟨true, trivial⟩
    clear hmin
    cases s with
    | nil =>
      obtain ⟨s, hs⟩ : ∃ s, s = ([] : List Int) := ⟨_, rfl⟩
      rw [← hs] at HF ⊢
      clear h hm hs1 hs HLA0
      go_enter Tryd.func72, Tryd.ntmps72
      go_wp2_with (go_at_call 53; (with_reducible refine HDn.out.mono ?_); rintro e w' ⟨rfl, rfl⟩)
      clear HDn
      have HD := Lib.hid (digit_any tb s1 _ HLA.out)
      cases hdg : pDigit s1 with
      | false =>
        have HDE := Lib.hid hdg
        have hz : finM false (pAbs s1) = none := by rw [pAbs_no hdg]; rfl
        have HZ := Lib.hid hz
        clear hdg hz
        go_wp2_with (first | (go_at_call 80; (with_reducible refine HD.out.mono ?_); rintro e w' ⟨rfl, rfl⟩; rw [HDE.out]) | (go_at_call 58; (with_reducible refine (need_no _).mono ?_); rintro e w' ⟨rfl, rfl⟩))
        refine ⟨rfl, ?_⟩
        show Reads tb _ w _ _ _
        rw [HF.out, HZ.out]
        exact ⟨rfl, HGA.out⟩
      | true =>
        have HDE := Lib.hid hdg
        obtain ⟨y, r1, rfl, hy⟩ := pDigit_yes hdg
        obtain ⟨hy1, hy2⟩ := isDig_bd hy
        have HR : Hid ((pNum s).map (fun p => (Value.int .i64 p.1, p.2)) = finM false (pLoop r1 (y - 48))) := by rw [HF.out, pAbs, if_pos hy]; rfl
        have HN := Lib.hid (next_yes tb _ y r1 _ HLA.out)
        have hw8 : IntKind.u8.wrap (y - 48) = y - 48 := IntWalk.u8_in _ (by omega)
        clear hdg hy HF
        go_wp2_with (first | (go_at_call 80; (with_reducible refine HD.out.mono ?_); rintro e w' ⟨rfl, rfl⟩; rw [HDE.out]) | (go_at_call 58; (with_reducible refine (need_yes _).mono ?_); rintro e w' ⟨rfl, rfl⟩) | (go_at_call 71; (with_reducible refine HN.out.mono ?_); rintro e w' ⟨rfl, hl, hg⟩; have HL := Lib.hid hl; have HG := Lib.hid hg; clear hl hg))
        have HG2 : Hid (w.grownBy w' (some tb)) := HGA.out.then_ HG.out (fun _ e => .inr e)
        obtain ⟨R, hR⟩ : ∃ R, pLoop r1 (y - 48) = R := ⟨_, rfl⟩
        rw [hR] at HR
        have HRel0 : Hid (NumL tb w R (y - 48) r1 w') := ⟨HL.out, HG2.out, hR, by omega, by omega⟩
        clear hR HN HD HDE hw8 HG HL HG2 HLA HGA
        go_loopw [4] (fun v wr => ∃ n rest, v = .int .i64 n ∧ NumL tb w R n rest wr) (fun _ wr => leftLen tb wr)
        case atStart => exact ⟨_, _, rfl, HRel0.out⟩
        case round =>
          clear HRel0
          obtain ⟨n, rest, rfl, hl, hg, hR, hn0, hn1⟩ := hrel
          have HL := Lib.hid hl
          have HG := Lib.hid hg
          have HRR := Lib.hid hR
          have HD := Lib.hid (digit_any tb rest _ hl)
          clear hl hg hR
          by_cases hnp : 0 < n
          · cases hdg : pDigit rest with
            | false =>
              have hfin : finM false R = some (.int .i64 n, rest) := by rw [← HRR.out, pLoop_end n hdg]; simp [finM]
              have HDE := Lib.hid hdg
              clear hdg
              have HFin := Lib.hid hfin
              clear hfin
              have hgd : decide (0 < n) = true := by simp; omega
              go_wp2_with (go_at_call 80; (with_reducible refine HD.out.mono ?_); rintro e w' ⟨rfl, rfl⟩; rw [HDE.out])
              go_ret
              show Reads tb _ w _ _ _
              rw [HR.out, HFin.out]
              exact ⟨rfl, HL.out, HG.out⟩
            | true =>
              have HDE := Lib.hid hdg
              obtain ⟨z, r2, rfl, hz⟩ := pDigit_yes hdg
              obtain ⟨hz1, hz2⟩ := isDig_bd hz
              have HN := Lib.hid (next_yes tb _ z r2 _ HL.out)
              have hw8 : IntKind.u8.wrap (z - 48) = z - 48 := IntWalk.u8_in _ (by omega)
              have hgd : decide (0 < n) = true := by simpa using hnp
              have HLw := Lib.hid HL.out.len_of
              by_cases hbig : 10 * n + (z - 48) ≤ 1000000000
              · have hstep : pLoop (z :: r2) n = pLoop r2 (10 * n + (z - 48)) := by rw [pLoop, if_pos (by simp [hnp, hz]), if_pos hbig]
                have HST := Lib.hid hstep
                have hgb : decide (10 * n + (z - 48) ≤ 1000000000) = true := by simpa using hbig
                clear hstep hz hdg
                go_wp2_with (first | (go_at_call 80; (with_reducible refine HD.out.mono ?_); rintro e w' ⟨rfl, rfl⟩; rw [HDE.out]) | (go_at_call 58; (with_reducible refine (need_yes _).mono ?_); rintro e w' ⟨rfl, rfl⟩) | (go_at_call 71; (with_reducible refine HN.out.mono ?_); rintro e w' ⟨rfl, hl, hg⟩; have HL2 := Lib.hid hl; have HG2 := Lib.hid hg; clear hl hg))
                exact ⟨⟨_, r2, rfl, HL2.out, HG.out.then_ HG2.out (fun _ e => .inr e), by rw [← HRR.out, HST.out], by omega, by omega⟩, by rw [HL2.out.len_of, HLw.out]; simp⟩
              · have hfin : finM false R = none := by rw [← HRR.out, pLoop, if_pos (by simp [hnp, hz]), if_neg hbig]; rfl
                have hgb : decide (10 * n + (z - 48) ≤ 1000000000) = false := by simpa using hbig
                have HFin := Lib.hid hfin
                clear hfin hz hdg
                go_wp2_with (first | (go_at_call 80; (with_reducible refine HD.out.mono ?_); rintro e w' ⟨rfl, rfl⟩; rw [HDE.out]) | (go_at_call 58; (with_reducible refine (need_no _).mono ?_); rintro e w' ⟨rfl, rfl⟩) | (go_at_call 71; (with_reducible refine HN.out.mono ?_); rintro e w' ⟨rfl, hl, hg⟩; have HL2 := Lib.hid hl; have HG2 := Lib.hid hg; clear hl hg))
                refine ⟨rfl, ?_⟩
                show Reads tb _ w _ _ _
                rw [HR.out, HFin.out]
                exact ⟨rfl, HG.out.then_ HG2.out (fun _ e => .inr e)⟩
          · have hfin : finM false R = some (.int .i64 n, rest) := by rw [← HRR.out, pLoop_zero n rest hnp]; simp [finM]
            have HFin := Lib.hid hfin
            clear hfin
            have hgd : decide (0 < n) = false := by simp; omega
            go_wp2_with (go_at_call 80; (with_reducible refine HD.out.mono ?_); rintro e w' ⟨rfl, rfl⟩; rw [HDE.out])
            go_ret
            show Reads tb _ w _ _ _
            rw [HR.out, HFin.out]
            exact ⟨rfl, HL.out, HG.out⟩
    | cons x r =>
      obtain ⟨b, off, cap, c0, d0, hx0, hx1⟩ := h.head
      have hx : (x == 45) = false := by simpa using (fun e => hm ⟨r, by rw [e]⟩ : ¬ x = 45)
      obtain ⟨s, hs⟩ : ∃ s, s = x :: r := ⟨_, rfl⟩
      rw [← hs] at HF ⊢
      clear h hm hs1 hs HLA0
      go_enter Tryd.func72, Tryd.ntmps72
      go_wp2_with (go_at_call 53; (with_reducible refine HDn.out.mono ?_); rintro e w' ⟨rfl, rfl⟩)
      clear HDn c0 d0
      have HD := Lib.hid (digit_any tb s1 _ HLA.out)
      cases hdg : pDigit s1 with
      | false =>
        have HDE := Lib.hid hdg
        have hz : finM false (pAbs s1) = none := by rw [pAbs_no hdg]; rfl
        have HZ := Lib.hid hz
        clear hdg hz
        go_wp2_with (first | (go_at_call 80; (with_reducible refine HD.out.mono ?_); rintro e w' ⟨rfl, rfl⟩; rw [HDE.out]) | (go_at_call 58; (with_reducible refine (need_no _).mono ?_); rintro e w' ⟨rfl, rfl⟩))
        refine ⟨rfl, ?_⟩
        show Reads tb _ w _ _ _
        rw [HF.out, HZ.out]
        exact ⟨rfl, HGA.out⟩
      | true =>
        have HDE := Lib.hid hdg
        obtain ⟨y, r1, rfl, hy⟩ := pDigit_yes hdg
        obtain ⟨hy1, hy2⟩ := isDig_bd hy
        have HR : Hid ((pNum s).map (fun p => (Value.int .i64 p.1, p.2)) = finM false (pLoop r1 (y - 48))) := by rw [HF.out, pAbs, if_pos hy]; rfl
        have HN := Lib.hid (next_yes tb _ y r1 _ HLA.out)
        have hw8 : IntKind.u8.wrap (y - 48) = y - 48 := IntWalk.u8_in _ (by omega)
        clear hdg hy HF
        go_wp2_with (first | (go_at_call 80; (with_reducible refine HD.out.mono ?_); rintro e w' ⟨rfl, rfl⟩; rw [HDE.out]) | (go_at_call 58; (with_reducible refine (need_yes _).mono ?_); rintro e w' ⟨rfl, rfl⟩) | (go_at_call 71; (with_reducible refine HN.out.mono ?_); rintro e w' ⟨rfl, hl, hg⟩; have HL := Lib.hid hl; have HG := Lib.hid hg; clear hl hg))
        have HG2 : Hid (w.grownBy w' (some tb)) := HGA.out.then_ HG.out (fun _ e => .inr e)
        obtain ⟨R, hR⟩ : ∃ R, pLoop r1 (y - 48) = R := ⟨_, rfl⟩
        rw [hR] at HR
        have HRel0 : Hid (NumL tb w R (y - 48) r1 w') := ⟨HL.out, HG2.out, hR, by omega, by omega⟩
        clear hR HN HD HDE hw8 HG HL HG2 HLA HGA
        go_loopw [4] (fun v wr => ∃ n rest, v = .int .i64 n ∧ NumL tb w R n rest wr) (fun _ wr => leftLen tb wr)
        case atStart => exact ⟨_, _, rfl, HRel0.out⟩
        case round =>
          clear HRel0
          obtain ⟨n, rest, rfl, hl, hg, hR, hn0, hn1⟩ := hrel
          have HL := Lib.hid hl
          have HG := Lib.hid hg
          have HRR := Lib.hid hR
          have HD := Lib.hid (digit_any tb rest _ hl)
          clear hl hg hR
          by_cases hnp : 0 < n
          · cases hdg : pDigit rest with
            | false =>
              have hfin : finM false R = some (.int .i64 n, rest) := by rw [← HRR.out, pLoop_end n hdg]; simp [finM]
              have HDE := Lib.hid hdg
              clear hdg
              have HFin := Lib.hid hfin
              clear hfin
              have hgd : decide (0 < n) = true := by simp; omega
              go_wp2_with (go_at_call 80; (with_reducible refine HD.out.mono ?_); rintro e w' ⟨rfl, rfl⟩; rw [HDE.out])
              go_ret
              show Reads tb _ w _ _ _
              rw [HR.out, HFin.out]
              exact ⟨rfl, HL.out, HG.out⟩
            | true =>
              have HDE := Lib.hid hdg
              obtain ⟨z, r2, rfl, hz⟩ := pDigit_yes hdg
              obtain ⟨hz1, hz2⟩ := isDig_bd hz
              have HN := Lib.hid (next_yes tb _ z r2 _ HL.out)
              have hw8 : IntKind.u8.wrap (z - 48) = z - 48 := IntWalk.u8_in _ (by omega)
              have hgd : decide (0 < n) = true := by simpa using hnp
              have HLw := Lib.hid HL.out.len_of
              by_cases hbig : 10 * n + (z - 48) ≤ 1000000000
              · have hstep : pLoop (z :: r2) n = pLoop r2 (10 * n + (z - 48)) := by rw [pLoop, if_pos (by simp [hnp, hz]), if_pos hbig]
                have HST := Lib.hid hstep
                have hgb : decide (10 * n + (z - 48) ≤ 1000000000) = true := by simpa using hbig
                clear hstep hz hdg
                go_wp2_with (first | (go_at_call 80; (with_reducible refine HD.out.mono ?_); rintro e w' ⟨rfl, rfl⟩; rw [HDE.out]) | (go_at_call 58; (with_reducible refine (need_yes _).mono ?_); rintro e w' ⟨rfl, rfl⟩) | (go_at_call 71; (with_reducible refine HN.out.mono ?_); rintro e w' ⟨rfl, hl, hg⟩; have HL2 := Lib.hid hl; have HG2 := Lib.hid hg; clear hl hg))
                exact ⟨⟨_, r2, rfl, HL2.out, HG.out.then_ HG2.out (fun _ e => .inr e), by rw [← HRR.out, HST.out], by omega, by omega⟩, by rw [HL2.out.len_of, HLw.out]; simp⟩
              · have hfin : finM false R = none := by rw [← HRR.out, pLoop, if_pos (by simp [hnp, hz]), if_neg hbig]; rfl
                have hgb : decide (10 * n + (z - 48) ≤ 1000000000) = false := by simpa using hbig
                have HFin := Lib.hid hfin
                clear hfin hz hdg
                go_wp2_with (first | (go_at_call 80; (with_reducible refine HD.out.mono ?_); rintro e w' ⟨rfl, rfl⟩; rw [HDE.out]) | (go_at_call 58; (with_reducible refine (need_no _).mono ?_); rintro e w' ⟨rfl, rfl⟩) | (go_at_call 71; (with_reducible refine HN.out.mono ?_); rintro e w' ⟨rfl, hl, hg⟩; have HL2 := Lib.hid hl; have HG2 := Lib.hid hg; clear hl hg))
                refine ⟨rfl, ?_⟩
                show Reads tb _ w _ _ _
                rw [HR.out, HFin.out]
                exact ⟨rfl, HG.out.then_ HG2.out (fun _ e => .inr e)⟩
          · have hfin : finM false R = some (.int .i64 n, rest) := by rw [← HRR.out, pLoop_zero n rest hnp]; simp [finM]
            have HFin := Lib.hid hfin
            clear hfin
            have hgd : decide (0 < n) = false := by simp; omega
            go_wp2_with (go_at_call 80; (with_reducible refine HD.out.mono ?_); rintro e w' ⟨rfl, rfl⟩; rw [HDE.out])
            go_ret
            show Reads tb _ w _ _ _
            rw [HR.out, HFin.out]
            exact ⟨rfl, HL.out, HG.out⟩
end Go.Proofs.Bg
end

section
/- The contract of text.item. -/
namespace Go.Proofs.Bg
open Go.RowKit

def itV (x : It) : Value := .agg x.vs.toArray
theorem LeftIs.grown {w w' : World} {tb xb : Nat} {T T' : TypeId} {rest : List Int} {a b c d : Int} (h : LeftIs w tb T rest) (hg : w.grownBy w' (some xb)) (hne : xb ≠ tb) (hx : w.heap[xb]? = some (.cells #[.int .i64 a, .int .i64 b, .int .i64 c, .int .i64 d] T')) : LeftIs w' tb T rest := by
  obtain ⟨A, cap, hb, hr, hn, hc, hbd⟩ := h
  have hlt : tb < w.heap.size := (Array.getElem?_eq_some_iff.1 hb).1
  refine ⟨A, cap, (hg.block tb hlt (fun e => hne (Option.some.inj e).symm)).trans hb, ⟨hr.1, hr.2.1, fun h0 => ?_⟩, hn, hc, hbd⟩
  obtain ⟨b2, off, rfl, hlo, hcell⟩ := hr.2.2 h0
  refine ⟨b2, off, rfl, hlo, fun i y hy j v hv => ?_⟩
  have h1 := hcell i y hy j v hv
  have hlt2 : b2 < w.heap.size := World.block_lt_of_cell? w _ h1
  have hne2 : xb ≠ b2 := by
    rintro rfl
    have e : j = 0 ∧ v = .int .u8 y := by
      cases j with
      | zero => exact ⟨rfl, by cases hv; rfl⟩
      | succ j => cases hv
    obtain ⟨rfl, rfl⟩ := e
    simp only [World.cell?, hx] at h1
    generalize off + i * 1 + 0 = q at h1
    rcases q with _ | _ | _ | _ | q <;> simp at h1
  exact (World.cell?_of_block (w := w) (a := ⟨b2, off + i * 1 + j, none⟩) (hg.block b2 hlt2 (fun e => hne2 (Option.some.inj e).symm))).trans h1

structure ItSt (tb rb xb : Nat) (w0 w : World) (a b c d : Int) (rest : List Int) : Prop where
  left : LeftIs w tb 91 rest
  hx : w.heap[xb]? = some (.cells #[.int .i64 a, .int .i64 b, .int .i64 c, .int .i64 d] 33)
  hr : w.heap[rb]? = some (.cells #[.int .i64 0, .int .i64 0, .int .i64 0, .int .i64 0] 33)
  g : w0.grownBy w (some tb)
  nx : xb ≠ tb
  nr : rb ≠ tb
  xr : xb ≠ rb
  lox : w0.heap.size ≤ xb
  lor : w0.heap.size ≤ rb
theorem World.grownBy.fresh {a b' c : World} {row : Option Nat} {x : Nat} (h : a.grownBy b' row) (k : b'.grownBy c (some x)) (hx : a.heap.size ≤ x) : a.grownBy c row :=
  ⟨k.os.trans h.os, k.tape.trans h.tape, k.output.trans h.output, Nat.le_trans h.size k.size, fun i hi hne => (k.block i (Nat.lt_of_lt_of_le hi h.size) (fun e => by have := Option.some.inj e; omega)).trans (h.block i hi hne)⟩
theorem ItSt.turn {tb rb xb : Nat} {w0 w w' : World} {a b c d : Int} {rest r : List Int} (h : ItSt tb rb xb w0 w a b c d rest) (hl : LeftIs w' tb 91 r) (hg : w.grownBy w' (some tb)) : ItSt tb rb xb w0 w' a b c d r where
  left := hl
  hx := (hg.block xb (Array.getElem?_eq_some_iff.1 h.hx).1 (fun e => h.nx (Option.some.inj e))).trans h.hx
  hr := (hg.block rb (Array.getElem?_eq_some_iff.1 h.hr).1 (fun e => h.nr (Option.some.inj e))).trans h.hr
  g := h.g.then_ hg (fun _ e => .inr e)
  nx := h.nx
  nr := h.nr
  xr := h.xr
  lox := h.lox
  lor := h.lor
theorem ItSt.set {tb rb xb : Nat} {w0 w : World} {a b c d a' b' c' d' : Int} {rest : List Int} (h : ItSt tb rb xb w0 w a b c d rest) (j : Nat) (v : Int) (hc : (#[.int .i64 a, .int .i64 b, .int .i64 c, .int .i64 d] : Array Value).setIfInBounds j (.int .i64 v) = #[.int .i64 a', .int .i64 b', .int .i64 c', .int .i64 d']) : ItSt tb rb xb w0 (w.setCell ⟨xb, j, none⟩ (.int .i64 v)) a' b' c' d' rest := by
  obtain ⟨s1, s2⟩ := setCell_at (off := j) h.hx (.int .i64 v)
  rw [hc] at s1
  exact ⟨h.left.grown s2 h.nx h.hx, s1, (s2.block rb (Array.getElem?_eq_some_iff.1 h.hr).1 (fun e => h.xr (Option.some.inj e).symm)).trans h.hr, World.grownBy.fresh h.g s2 h.lox, h.nx, h.nr, h.xr, h.lox, h.lor⟩
theorem ItSt.start {tb : Nat} {w : World} {s : List Int} (h : LeftIs w tb 91 s) : ItSt tb w.heap.size (w.heap.size + 1) w ((w.alloc (.cells #[.int .i64 0, .int .i64 0, .int .i64 0, .int .i64 0] 33)).alloc (.cells #[.int .i64 0, .int .i64 0, .int .i64 0, .int .i64 0] 33)) 0 0 0 0 s := by
  have htb : tb < w.heap.size := by obtain ⟨_, _, hb, _⟩ := h; exact (Array.getElem?_eq_some_iff.1 hb).1
  have hB : Below w.heap.size w ((w.alloc (.cells #[.int .i64 0, .int .i64 0, .int .i64 0, .int .i64 0] 33)).alloc (.cells #[.int .i64 0, .int .i64 0, .int .i64 0, .int .i64 0] 33)) := ((Below.refl _ _).alloc (Nat.le_refl _) _).alloc (by simp) _
  refine ⟨?_, ?_, ?_, ⟨hB.os, hB.tape, hB.output, hB.size, fun i hi _ => hB.block i hi⟩, by omega, by omega, by omega, by omega, by omega⟩
  · obtain ⟨A, cap, hb, hr, hn, hc, hbd⟩ := h
    exact ⟨A, cap, (hB.block tb htb).trans hb, hr.below hB, hn, hc, hbd⟩
  · have := new_block (w.alloc (.cells #[.int .i64 0, .int .i64 0, .int .i64 0, .int .i64 0] 33)) #[.int .i64 0, .int .i64 0, .int .i64 0, .int .i64 0] 33
    simpa using this
  · rw [Below.heap_alloc _ _ _ (by simp)]
    exact new_block _ _ _

theorem number_yes {tb : Nat} {s r : List Int} {a : Int} (w : World) (h : LeftIs w tb 91 s) (hp : pNum s = some (a, r)) : Calls Tryd.prog 72 #[.pointer (some ⟨tb, 0, none⟩)] w fun e w' => e = .returned (.int .i64 a) ∧ LeftIs w' tb 91 r ∧ w.grownBy w' (some tb) := by
  have := number_any tb s w h
  rw [hp] at this
  exact this
theorem number_no {tb : Nat} {s : List Int} (w : World) (h : LeftIs w tb 91 s) (hp : pNum s = none) : Calls Tryd.prog 72 #[.pointer (some ⟨tb, 0, none⟩)] w fun e w' => e = .panicked wrongChain ∧ w.grownBy w' (some tb) := by
  have := number_any tb s w h
  rw [hp] at this
  exact this
theorem sign_yes {tb : Nat} {s r : List Int} {c : Int} (w : World) (h : LeftIs w tb 91 s) (hp : pSign c s = some r) : Calls Tryd.prog 54 #[.pointer (some ⟨tb, 0, none⟩), .int .u8 c] w fun e w' => e = .returned (.tuple #[]) ∧ LeftIs w' tb 91 r ∧ w.grownBy w' (some tb) := by
  have := sign_any tb c s w h
  rw [hp] at this
  exact this
theorem sign_no {tb : Nat} {s : List Int} {c : Int} (w : World) (h : LeftIs w tb 91 s) (hp : pSign c s = none) : Calls Tryd.prog 54 #[.pointer (some ⟨tb, 0, none⟩), .int .u8 c] w fun e w' => e = .panicked wrongChain ∧ w.grownBy w' (some tb) := by
  have := sign_any tb c s w h
  rw [hp] at this
  exact this

theorem set4 {w : World} {g : Nat} {a0 b0 c0 d0 : Value} {T : TypeId} (h : w.heap[g]? = some (.cells #[a0, b0, c0, d0] T)) (a b c d : Value) :
    ((((w.setCell ⟨g, 0, none⟩ a).setCell ⟨g, 1, none⟩ b).setCell ⟨g, 2, none⟩ c).setCell ⟨g, 3, none⟩ d).heap[g]? = some (.cells #[a, b, c, d] T) ∧ w.grownBy ((((w.setCell ⟨g, 0, none⟩ a).setCell ⟨g, 1, none⟩ b).setCell ⟨g, 2, none⟩ c).setCell ⟨g, 3, none⟩ d) (some g) := by
  obtain ⟨h1, g1⟩ := setCell_at (off := 0) h a
  obtain ⟨h2, g2⟩ := setCell_at (off := 1) h1 b
  obtain ⟨h3, g3⟩ := setCell_at (off := 2) h2 c
  obtain ⟨h4, g4⟩ := setCell_at (off := 3) h3 d
  exact ⟨h4, ((g1.then_ g2 (fun j e => .inr e)).then_ g3 (fun j e => .inr e)).then_ g4 (fun j e => .inr e)⟩
theorem ItSt.fin {tb rb xb : Nat} {w0 w : World} {a b c d : Int} {rest : List Int} (h : ItSt tb rb xb w0 w a b c d rest) (p q r t : Value) : LeftIs ((((w.setCell ⟨rb, 0, none⟩ p).setCell ⟨rb, 1, none⟩ q).setCell ⟨rb, 2, none⟩ r).setCell ⟨rb, 3, none⟩ t) tb 91 rest ∧ w0.grownBy ((((w.setCell ⟨rb, 0, none⟩ p).setCell ⟨rb, 1, none⟩ q).setCell ⟨rb, 2, none⟩ r).setCell ⟨rb, 3, none⟩ t) (some tb) := by
  obtain ⟨h4, g4⟩ := set4 h.hr p q r t
  exact ⟨h.left.grown g4 h.nr h.hr, World.grownBy.fresh h.g g4 h.lor⟩

set_option maxRecDepth 100000 in
set_option maxHeartbeats 2000000 in
theorem item_any (tb : Nat) (s : List Int) (w : World) (h : LeftIs w tb 91 s) :
    Calls Tryd.prog 55 #[.pointer (some ⟨tb, 0, none⟩)] w (Reads tb 91 w ((pItem s).map fun p => (itV p.1, p.2))) := by
  have ST0 := Lib.hid (ItSt.start h)
  go_enter Tryd.func55, Tryd.ntmps55
  cases hp0 : pNum s with
  | none =>
    have HF : Hid (pItem s = none) := by show _ = _; simp [pItem, hp0]
    have C := Lib.hid (number_no _ ST0.out.left hp0)
    go_wp2_with (go_at_call 72; (with_reducible refine C.out.mono ?_); rintro e w1 ⟨rfl, hg⟩; have HG := Lib.hid hg; clear hg)
    refine ⟨rfl, ?_⟩
    show Reads tb _ w _ _ _
    rw [HF.out]
    exact ⟨rfl, ST0.out.g.then_ HG.out (fun _ e => .inr e)⟩
  | some p0 =>
    obtain ⟨va, s1⟩ := p0
    have C := Lib.hid (number_yes _ ST0.out.left hp0)
    go_wp2_with fail
    (with_reducible refine C.out.mono ?_)
    rintro e w1 ⟨rfl, hl, hg⟩
    have tt := ST0.out.turn hl hg
    have ST1 := Lib.hid (tt.set 0 va (a' := va) (b' := 0) (c' := 0) (d' := 0) rfl)
    have f0 := free_at_block (off := 0) tt.hx
    have c0_0 := cell_at_block (off := 0) tt.hx rfl
    have c0_1 := cell_at_block (off := 1) tt.hx rfl
    have c0_2 := cell_at_block (off := 2) tt.hx rfl
    have c0_3 := cell_at_block (off := 3) tt.hx rfl
    clear hl hg C tt
    cases hp1 : pSign 32 s1 with
    | none =>
      have HF : Hid (pItem s = none) := by show _ = _; simp [pItem, hp0, hp1]
      have C := Lib.hid (sign_no _ ST1.out.left hp1)
      go_wp2_with (go_at_call 54; (with_reducible refine C.out.mono ?_); rintro e w2 ⟨rfl, hg⟩; have HG := Lib.hid hg; clear hg)
      refine ⟨rfl, ?_⟩
      show Reads tb _ w _ _ _
      rw [HF.out]
      exact ⟨rfl, ST1.out.g.then_ HG.out (fun _ e => .inr e)⟩
    | some p1 =>
      obtain ⟨s2, hs2⟩ : ∃ s2, s2 = p1 := ⟨_, rfl⟩
      rw [← hs2] at hp1
      have C := Lib.hid (sign_yes _ ST1.out.left hp1)
      go_wp2_with fail
      (with_reducible refine C.out.mono ?_)
      rintro e w2 ⟨rfl, hl, hg⟩
      have ST2 := Lib.hid (ST1.out.turn hl hg)
      clear hl hg C
      cases hp2 : pNum s2 with
      | none =>
        have HF : Hid (pItem s = none) := by show _ = _; simp [pItem, hp0, hp1, hp2]
        have C := Lib.hid (number_no _ ST2.out.left hp2)
        go_wp2_with (go_at_call 72; (with_reducible refine C.out.mono ?_); rintro e w3 ⟨rfl, hg⟩; have HG := Lib.hid hg; clear hg)
        refine ⟨rfl, ?_⟩
        show Reads tb _ w _ _ _
        rw [HF.out]
        exact ⟨rfl, ST2.out.g.then_ HG.out (fun _ e => .inr e)⟩
      | some p2 =>
        obtain ⟨vk, s3⟩ := p2
        have C := Lib.hid (number_yes _ ST2.out.left hp2)
        go_wp2_with fail
        (with_reducible refine C.out.mono ?_)
        rintro e w3 ⟨rfl, hl, hg⟩
        have tt := ST2.out.turn hl hg
        have ST3 := Lib.hid (tt.set 1 vk (a' := va) (b' := vk) (c' := 0) (d' := 0) rfl)
        have f2 := free_at_block (off := 1) tt.hx
        have c2_0 := cell_at_block (off := 0) tt.hx rfl
        have c2_1 := cell_at_block (off := 1) tt.hx rfl
        have c2_2 := cell_at_block (off := 2) tt.hx rfl
        have c2_3 := cell_at_block (off := 3) tt.hx rfl
        clear hl hg C tt
        cases hp3 : pSign 32 s3 with
        | none =>
          have HF : Hid (pItem s = none) := by show _ = _; simp [pItem, hp0, hp1, hp2, hp3]
          have C := Lib.hid (sign_no _ ST3.out.left hp3)
          go_wp2_with (go_at_call 54; (with_reducible refine C.out.mono ?_); rintro e w4 ⟨rfl, hg⟩; have HG := Lib.hid hg; clear hg)
          refine ⟨rfl, ?_⟩
          show Reads tb _ w _ _ _
          rw [HF.out]
          exact ⟨rfl, ST3.out.g.then_ HG.out (fun _ e => .inr e)⟩
        | some p3 =>
          obtain ⟨s4, hs4⟩ : ∃ s4, s4 = p3 := ⟨_, rfl⟩
          rw [← hs4] at hp3
          have C := Lib.hid (sign_yes _ ST3.out.left hp3)
          go_wp2_with fail
          (with_reducible refine C.out.mono ?_)
          rintro e w4 ⟨rfl, hl, hg⟩
          have ST4 := Lib.hid (ST3.out.turn hl hg)
          clear hl hg C
          cases hp4 : pNum s4 with
          | none =>
            have HF : Hid (pItem s = none) := by show _ = _; simp [pItem, hp0, hp1, hp2, hp3, hp4]
            have C := Lib.hid (number_no _ ST4.out.left hp4)
            go_wp2_with (go_at_call 72; (with_reducible refine C.out.mono ?_); rintro e w5 ⟨rfl, hg⟩; have HG := Lib.hid hg; clear hg)
            refine ⟨rfl, ?_⟩
            show Reads tb _ w _ _ _
            rw [HF.out]
            exact ⟨rfl, ST4.out.g.then_ HG.out (fun _ e => .inr e)⟩
          | some p4 =>
            obtain ⟨vv, s5⟩ := p4
            have C := Lib.hid (number_yes _ ST4.out.left hp4)
            go_wp2_with fail
            (with_reducible refine C.out.mono ?_)
            rintro e w5 ⟨rfl, hl, hg⟩
            have tt := ST4.out.turn hl hg
            have ST5 := Lib.hid (tt.set 2 vv (a' := va) (b' := vk) (c' := vv) (d' := 0) rfl)
            have f4 := free_at_block (off := 2) tt.hx
            have c4_0 := cell_at_block (off := 0) tt.hx rfl
            have c4_1 := cell_at_block (off := 1) tt.hx rfl
            have c4_2 := cell_at_block (off := 2) tt.hx rfl
            have c4_3 := cell_at_block (off := 3) tt.hx rfl
            clear hl hg C tt
            cases hp5 : pSign 32 s5 with
            | none =>
              have HF : Hid (pItem s = none) := by show _ = _; simp [pItem, hp0, hp1, hp2, hp3, hp4, hp5]
              have C := Lib.hid (sign_no _ ST5.out.left hp5)
              go_wp2_with (go_at_call 54; (with_reducible refine C.out.mono ?_); rintro e w6 ⟨rfl, hg⟩; have HG := Lib.hid hg; clear hg)
              refine ⟨rfl, ?_⟩
              show Reads tb _ w _ _ _
              rw [HF.out]
              exact ⟨rfl, ST5.out.g.then_ HG.out (fun _ e => .inr e)⟩
            | some p5 =>
              obtain ⟨s6, hs6⟩ : ∃ s6, s6 = p5 := ⟨_, rfl⟩
              rw [← hs6] at hp5
              have C := Lib.hid (sign_yes _ ST5.out.left hp5)
              go_wp2_with fail
              (with_reducible refine C.out.mono ?_)
              rintro e w6 ⟨rfl, hl, hg⟩
              have ST6 := Lib.hid (ST5.out.turn hl hg)
              clear hl hg C
              cases hp6 : pNum s6 with
              | none =>
                have HF : Hid (pItem s = none) := by show _ = _; simp [pItem, hp0, hp1, hp2, hp3, hp4, hp5, hp6]
                have C := Lib.hid (number_no _ ST6.out.left hp6)
                go_wp2_with (go_at_call 72; (with_reducible refine C.out.mono ?_); rintro e w7 ⟨rfl, hg⟩; have HG := Lib.hid hg; clear hg)
                refine ⟨rfl, ?_⟩
                show Reads tb _ w _ _ _
                rw [HF.out]
                exact ⟨rfl, ST6.out.g.then_ HG.out (fun _ e => .inr e)⟩
              | some p6 =>
                obtain ⟨vn, s7⟩ := p6
                have C := Lib.hid (number_yes _ ST6.out.left hp6)
                go_wp2_with fail
                (with_reducible refine C.out.mono ?_)
                rintro e w7 ⟨rfl, hl, hg⟩
                have tt := ST6.out.turn hl hg
                have ST7 := Lib.hid (tt.set 3 vn (a' := va) (b' := vk) (c' := vv) (d' := vn) rfl)
                have f6 := free_at_block (off := 3) tt.hx
                have c6_0 := cell_at_block (off := 0) tt.hx rfl
                have c6_1 := cell_at_block (off := 1) tt.hx rfl
                have c6_2 := cell_at_block (off := 2) tt.hx rfl
                have c6_3 := cell_at_block (off := 3) tt.hx rfl
                have d0 := cell_at_block (off := 0) tt.hr rfl
                have e0 := free_at_block (off := 0) tt.hr
                have d1 := cell_at_block (off := 1) tt.hr rfl
                have e1 := free_at_block (off := 1) tt.hr
                have d2 := cell_at_block (off := 2) tt.hr rfl
                have e2 := free_at_block (off := 2) tt.hr
                have d3 := cell_at_block (off := 3) tt.hr rfl
                have e3 := free_at_block (off := 3) tt.hr
                clear hl hg C tt
                have HF : Hid (pItem s = some (⟨⟨va, vk, vv⟩, vn⟩, s7)) := by show _ = _; simp [pItem, hp0, hp1, hp2, hp3, hp4, hp5, hp6]
                go_wp2_with fail
                refine bodyPost_ret (results_cell_row rfl _ _ w.heap.size 33 #[.int .i64 va, .int .i64 vk, .int .i64 vv, .int .i64 vn] (0, 0) _ rfl (set4 ST7.out.hr _ _ _ _).1 Tryd.underlying33 rfl (by kernel_rfl)) rfl ?_
                show Reads tb _ w _ _ _
                rw [HF.out]
                exact ⟨rfl, ST7.out.fin _ _ _ _⟩
end Go.Proofs.Bg
end

section
/- The law's own small functions: rec, item, B, C. -/
namespace Go.Proofs.Bg
open Go.RowKit

theorem rec_any (a k v : Int) (w : World) : Calls Tryd.prog 36 #[.int .i64 a, .int .i64 k, .int .i64 v] w fun e w' => e = .returned (.agg #[.int .i64 a, .int .i64 k, .int .i64 v]) ∧ Below w.heap.size w w' := by
  go_enter Tryd.func36, Tryd.ntmps36
  go_wp2_with fail
  refine bodyPost_ret (results_cell_row rfl _ _ w.heap.size 31 #[.int .i64 a, .int .i64 k, .int .i64 v] (0, 0) _ rfl (new_block w _ _) Tryd.underlying31 rfl (by kernel_rfl)) rfl ?_
  exact ⟨rfl, below_new w _⟩

theorem lit_any (a k v n : Int) (w : World) : Calls Tryd.prog 27 #[.int .i64 a, .int .i64 k, .int .i64 v, .int .i64 n] w fun e w' => e = .returned (.agg #[.int .i64 a, .int .i64 k, .int .i64 v, .int .i64 n]) ∧ Below w.heap.size w w' := by
  have HR := Lib.hid (rec_any a k v (w.alloc (.cells #[.int .i64 0, .int .i64 0, .int .i64 0, .int .i64 0] 33)))
  go_enter Tryd.func27, Tryd.ntmps27
  go_wp2_with (go_at_call 36; (with_reducible refine HR.out.mono ?_); rintro e w1 ⟨rfl, hb⟩; have hbk := keep_new hb; have c0 := cell_at_block (off := 0) hbk rfl; have c1 := cell_at_block (off := 1) hbk rfl; have c2 := cell_at_block (off := 2) hbk rfl; have c3 := cell_at_block (off := 3) hbk rfl; have f0 := free_at_block (off := 0) hbk; have f1 := free_at_block (off := 1) hbk; have f2 := free_at_block (off := 2) hbk; have f3 := free_at_block (off := 3) hbk; have HB := Lib.hid hb; have H0 := Lib.hid hbk; clear hb hbk)
  have S := set4 H0.out (.int .i64 a) (.int .i64 k) (.int .i64 v) (.int .i64 n)
  refine bodyPost_ret (results_cell_row rfl _ _ w.heap.size 33 #[.int .i64 a, .int .i64 k, .int .i64 v, .int .i64 n] (0, 0) _ rfl S.1 Tryd.underlying33 rfl (by kernel_rfl)) rfl ?_
  have hB := below_box (Below.refl w.heap.size w) (Nat.le_refl _) HB.out
  exact ⟨rfl, hB.grown S.2 hB.size (fun q hq => by cases hq; exact Nat.le_refl _)⟩

/-- A list that lies in a block of its own reads as itself. -/
theorem rd_cells {α : Type} {enc : α → List Value} {sz : Nat} (hs : ∀ x, (enc x).length = sz) {w : World} {g : Nat} {T : TypeId} (l : List α) {c : Array Value} (h : w.heap[g]? = some (.cells c T)) (hc : c = (l.flatMap enc).toArray) (hl : l.length ≤ 9223372036854775807) : Rd enc sz w 0 (some ⟨g, 0, none⟩) l.length l := by
  refine ⟨rfl, hl, fun _ => ⟨g, 0, rfl, Nat.zero_le _, fun i x hx j v hv => ?_⟩⟩
  refine cell_at_block h ?_
  rw [hc]
  have := flat_at hs l i x hx j v hv
  simpa using this
def bL : List It := [⟨⟨1, 2, 3⟩, 1⟩, ⟨⟨1, 2, 5⟩, -2⟩, ⟨⟨4, 0, 0⟩, 1⟩]
def cL : List It := [⟨⟨1, 2, 3⟩, -1⟩, ⟨⟨2, 2, 7⟩, 3⟩]

theorem B_any (w : World) : Calls Tryd.prog 24 #[] w fun e w' => ∃ A cap, e = .returned (.slice A 3 cap) ∧ Rd It.vs 4 w' 0 A 3 bL ∧ Below w.heap.size w w' := by
  go_enter Tryd.func24, Tryd.ntmps24
  go_wp2_with fail
  (with_reducible refine (lit_any _ _ _ _ _).mono ?_)
  rintro e w1 ⟨rfl, hb1⟩
  have H1 := Lib.hid hb1
  clear hb1
  go_wp2_with fail
  (with_reducible refine (lit_any _ _ _ _ _).mono ?_)
  rintro e w2 ⟨rfl, hb2⟩
  have H2 := Lib.hid (bchain H1.out hb2)
  clear hb2
  go_wp2_with fail
  (with_reducible refine (lit_any _ _ _ _ _).mono ?_)
  rintro e w3 ⟨rfl, hb3⟩
  have H3 := Lib.hid (bchain H2.out hb3)
  clear hb3
  go_wp2_with fail
  go_ret
  exact ⟨_, _, rfl, rd_cells It.vs_length bL (new_block w3 _ _) rfl (by decide), bchain H3.out (below_new _ _)⟩
theorem C_any (w : World) : Calls Tryd.prog 28 #[] w fun e w' => ∃ A cap, e = .returned (.slice A 2 cap) ∧ Rd It.vs 4 w' 0 A 2 cL ∧ Below w.heap.size w w' := by
  go_enter Tryd.func28, Tryd.ntmps28
  go_wp2_with fail
  (with_reducible refine (lit_any _ _ _ _ _).mono ?_)
  rintro e w1 ⟨rfl, hb1⟩
  have H1 := Lib.hid hb1
  clear hb1
  go_wp2_with fail
  (with_reducible refine (lit_any _ _ _ _ _).mono ?_)
  rintro e w2 ⟨rfl, hb2⟩
  have H2 := Lib.hid (bchain H1.out hb2)
  clear hb2
  go_wp2_with fail
  go_ret
  exact ⟨_, _, rfl, rd_cells It.vs_length cL (new_block w2 _ _) rfl (by decide), bchain H2.out (below_new _ _)⟩
end Go.Proofs.Bg
end

section
/- The deferred closure of read, and read. -/
namespace Go.Proofs.Bg
open Go.RowKit

def wrongTaken : List PanicEntry := [{ v := .iface 113 (.agg #[]), recovered := true }]

set_option maxRecDepth 100000 in
theorem catch_wrong (rb eb : Nat) (v0 v1 : Value) (w : World) (hr : w.heap[rb]? = some (.cells #[v0] 23)) (he : w.heap[eb]? = some (.cells #[v1] 24)) (hne : eb ≠ rb) :
    CallsD Tryd.prog 70 #[.pointer (some ⟨rb, 0, none⟩), .pointer (some ⟨eb, 0, none⟩)] (.panicking wrongChain) w fun e u' w' =>
      e = .returned (.tuple #[]) ∧ u' = .panicking wrongTaken ∧ w' = ((w.alloc (.cells #[] 113)).setCell ⟨rb, 0, none⟩ (.slice none 0 0)).setCell ⟨eb, 0, none⟩ (.int .i64 4) := by
  have hr' : (w.alloc (.cells #[] 113)).heap[rb]? = some (.cells #[v0] 23) := by
    rw [Below.heap_alloc _ _ _ (Array.getElem?_eq_some_iff.1 hr).1]; exact hr
  have he' : (w.alloc (.cells #[] 113)).heap[eb]? = some (.cells #[v1] 24) := by
    rw [Below.heap_alloc _ _ _ (Array.getElem?_eq_some_iff.1 he).1]; exact he
  have c0 := cell_at_block (off := 0) hr' rfl
  have c1 := cell_at_block (off := 0) he' rfl
  have f0 := free_at_block (off := 0) hr'
  have f1 := free_at_block (off := 0) he'
  clear hr he hr' he'
  refine callsD_of_wpS Tryd.func70 rfl fun c₀ cs hu => ?_
  apply wpS_seq
  apply wpS_region
  simp [wpOpsS, go_sem, recoverD, hu, Tryd.ntmps70, Exit.thenS, wrongChain]
  refine wpS_of_wp ?_
  have hta : ∀ w, (Instr.typeAssert (.iface 113 (.agg #[])) 20 113 true).run Tryd.prog w = .ok (.tuple #[.agg #[], .bool true]) w := fun _ => by kernel_rfl
  simp only [Array.replicate_succ, Array.replicate_zero, List.push_toArray, List.append_toArray, List.nil_append, List.cons_append, List.setIfInBounds_toArray, List.set_cons_zero, List.set_cons_succ]
  go_wp2
  simp [bodyPostS, results, Tryd.results70, wrongTaken]

theorem catch_none (rb eb : Nat) (w : World) :
    CallsD Tryd.prog 70 #[.pointer (some ⟨rb, 0, none⟩), .pointer (some ⟨eb, 0, none⟩)] .returning w fun e u' w' => e = .returned (.tuple #[]) ∧ u' = .returning ∧ w' = w := by
  refine callsD_of_wpS Tryd.func70 rfl fun c₀ cs hu => ?_
  apply wpS_seq
  apply wpS_region
  simp [wpOpsS, go_sem, recoverD, hu, Tryd.ntmps70, Exit.thenS]
  refine wpS_of_wp ?_
  simp only [Array.replicate_succ, Array.replicate_zero, List.push_toArray, List.append_toArray, List.nil_append, List.cons_append, List.setIfInBounds_toArray, List.set_cons_zero, List.set_cons_succ]
  go_wp2
  cases c₀
  simp_all [bodyPostS, results, Tryd.results70]

/-- What the function that reads leaves. -/
def BagOut (base tb : Nat) (w : World) (p : Option (List It)) (e : Ending) (w' : World) : Prop :=
  match p with
  | some l => ∃ v, e = .returned v ∧ Own It.vs 4 33 base w' v l ∧ w.grownBy w' (some tb)
  | none => e = .panicked wrongChain ∧ w.grownBy w' (some tb)
def readB (p : Option (List It)) : List It × Int := match p with | some l => if bagB l = true then (l, 0) else ([], 4) | none => ([], 4)
/-- What read leaves. -/
def RetRead (tb : Nat) (w : World) (r : List It × Int) (e : Ending) (w' : World) : Prop :=
  w.grownBy w' (some tb) ∧ ∃ A cap, e = .returned (.tuple #[.slice A r.1.length cap, .int .i64 r.2]) ∧ Rd It.vs 4 w' w.heap.size A r.1.length r.1

/-- The two boxes of read. -/
structure RdSt (tb : Nat) (w w' : World) (v e : Value) : Prop where
  hr : w'.heap[w.heap.size]? = some (.cells #[v] 23)
  he : w'.heap[w.heap.size + 1]? = some (.cells #[e] 24)
  g : w.grownBy w' (some tb)
theorem RdSt.start (tb : Nat) (w : World) : RdSt tb w ((w.alloc (.cells #[.slice none 0 0] 23)).alloc (.cells #[.int .i64 0] 24)) (.slice none 0 0) (.int .i64 0) := by
  have hB : Below w.heap.size w ((w.alloc (.cells #[.slice none 0 0] 23)).alloc (.cells #[.int .i64 0] 24)) := ((Below.refl _ _).alloc (Nat.le_refl _) _).alloc (by simp) _
  refine ⟨?_, ?_, ⟨hB.os, hB.tape, hB.output, hB.size, fun i hi _ => hB.block i hi⟩⟩
  · rw [Below.heap_alloc _ _ _ (by simp)]
    exact new_block _ _ _
  · have := new_block (w.alloc (.cells #[.slice none 0 0] 23)) #[.int .i64 0] 24
    simpa using this
theorem RdSt.turn {tb : Nat} {w w' w2 : World} {v e : Value} (h : RdSt tb w w' v e) (hg : w'.grownBy w2 (some tb)) (htb : tb < w.heap.size) : RdSt tb w w2 v e where
  hr := (hg.block _ (Array.getElem?_eq_some_iff.1 h.hr).1 (fun e => by have := Option.some.inj e; omega)).trans h.hr
  he := (hg.block _ (Array.getElem?_eq_some_iff.1 h.he).1 (fun e => by have := Option.some.inj e; omega)).trans h.he
  g := h.g.then_ hg (fun _ e => .inr e)
theorem RdSt.below {tb : Nat} {w w' w2 : World} {v e : Value} (h : RdSt tb w w' v e) (hb : Below w'.heap.size w' w2) (htb : tb < w.heap.size) : RdSt tb w w2 v e := h.turn ⟨hb.os, hb.tape, hb.output, hb.size, fun i hi _ => hb.block i hi⟩ htb
theorem RdSt.setR {tb : Nat} {w w' : World} {v e : Value} (h : RdSt tb w w' v e) (x : Value) : RdSt tb w (w'.setCell ⟨w.heap.size, 0, none⟩ x) x e := by
  obtain ⟨s1, s2⟩ := setCell_at (off := 0) h.hr x
  exact ⟨s1, (s2.block _ (Array.getElem?_eq_some_iff.1 h.he).1 (fun e => by have := Option.some.inj e; omega)).trans h.he, World.grownBy.fresh h.g s2 (Nat.le_refl _)⟩
theorem RdSt.setE {tb : Nat} {w w' : World} {v e : Value} (h : RdSt tb w w' v e) (x : Value) : RdSt tb w (w'.setCell ⟨w.heap.size + 1, 0, none⟩ x) v x := by
  obtain ⟨s1, s2⟩ := setCell_at (off := 0) h.he x
  exact ⟨(s2.block _ (Array.getElem?_eq_some_iff.1 h.hr).1 (fun e => by have := Option.some.inj e; omega)).trans h.hr, s1, World.grownBy.fresh h.g s2 (by omega)⟩
theorem RdSt.out {tb : Nat} {w w' : World} (h : RdSt tb w w' (.slice none 0 0) (.int .i64 4)) : RetRead tb w ([], 4) (.returned (.tuple #[.slice none 0 0, .int .i64 4])) w' := ⟨h.g, none, 0, rfl, Rd.nil _ _ _⟩

theorem Own.rdOf {α : Type} {enc : α → List Value} {sz : Nat} {T : TypeId} {base n cap : Nat} {A : Option Addr} {w : World} {l : List α} (hs : ∀ x, (enc x).length = sz) (h : Own enc sz T base w (.slice A n cap) l) : Rd enc sz w base A l.length l := by
  obtain ⟨A', cap', e, hr⟩ := h.rd hs
  cases e
  exact hr
theorem RdSt.ownR {tb : Nat} {w w' : World} {v0 e v x : Value} {l : List It} (h : RdSt tb w w' v0 e) (ho : Own It.vs 4 33 (w.heap.size + 2) w' v l) : Own It.vs 4 33 (w.heap.size + 2) (w'.setCell ⟨w.heap.size, 0, none⟩ x) v l :=
  ho.grown (setCell_at (off := 0) h.hr x).2 (.inr (fun e => by have := (ho.blk _ e).1; omega))
theorem RdSt.ownE {tb : Nat} {w w' : World} {v0 e v x : Value} {l : List It} (h : RdSt tb w w' v0 e) (ho : Own It.vs 4 33 (w.heap.size + 2) w' v l) : Own It.vs 4 33 (w.heap.size + 2) (w'.setCell ⟨w.heap.size + 1, 0, none⟩ x) v l :=
  ho.grown (setCell_at (off := 0) h.he x).2 (.inr (fun e => by have := (ho.blk _ e).1; omega))
theorem RdSt.done {tb : Nat} {w w' : World} {A : Option Addr} {n cap : Nat} {l : List It} (h : RdSt tb w w' (.slice A n cap) (.int .i64 0)) (ho : Own It.vs 4 33 (w.heap.size + 2) w' (.slice A n cap) l) : RetRead tb w (l, 0) (.returned (.tuple #[.slice A n cap, .int .i64 0])) w' := by
  obtain ⟨A', cap', e, hr⟩ := ho.rd It.vs_length
  cases e
  exact ⟨h.g, _, _, rfl, hr.low (by omega)⟩

set_option maxRecDepth 100000 in
theorem read_parse (cap : Array Value) (tb : Nat) (p : Option (List It)) (w : World) (htb : tb < w.heap.size)
    (hc : Calls Tryd.prog 52 cap ((w.alloc (.cells #[.slice none 0 0] 23)).alloc (.cells #[.int .i64 0] 24)) (BagOut (w.heap.size + 2) tb ((w.alloc (.cells #[.slice none 0 0] 23)).alloc (.cells #[.int .i64 0] 24)) p)) :
    Calls Tryd.prog 51 #[.func (.func 52) #[] cap] w (RetRead tb w (readB p)) := by
  have hmf : ∀ (fn : Fn) (first cap : Array Value) (w : World), (Instr.makeFunc fn first cap).run Tryd.prog w = .ok (.func fn first cap) w := fun _ _ _ _ => rfl
  have HC := Lib.hid hc
  have ST := Lib.hid (RdSt.start tb w)
  have HT := Lib.hid htb
  clear hc htb
  cases p with
  | none =>
    go_enter_defers Tryd.func51, Tryd.ntmps51
    go_wp2_with (go_at_call 52; (with_reducible refine HC.out.mono ?_); rintro e w1 ⟨rfl, hg⟩; have HG := Lib.hid hg; clear hg)
    have S1 := ST.out.turn HG.out HT.out
    have S2 := ((S1.below ((Below.refl _ _).alloc (Nat.le_refl _) (.cells #[] 113)) HT.out).setR (.slice none 0 0)).setE (.int .i64 4)
    refine leaves_cons (f := 70) (args := #[.pointer (some ⟨w.heap.size, 0, none⟩), .pointer (some ⟨w.heap.size + 1, 0, none⟩)]) (by simp) (by simp [go_sem]) ?_
    refine (catch_wrong w.heap.size (w.heap.size + 1) _ _ _ S1.hr S1.he (by omega)).mono ?_
    rintro e u' w2 ⟨rfl, rfl, rfl⟩
    generalize ((World.setCell (World.setCell _ _ _) _ _) : World) = W at S2 ⊢
    have cr := cell_at_block (off := 0) S2.hr rfl
    have ce := cell_at_block (off := 0) S2.he rfl
    simp [Leaves, settle, wrongTaken, results, Tryd.results51, go_sem, cr, ce]
    exact S2.out
  | some l =>
    cases hb : bagB l with
    | true =>
      have e1 : readB (some l) = (l, 0) := by simp [readB, hb]
      rw [e1]
      have HB := Lib.hid hb
      clear hb e1
      go_enter_defers Tryd.func51, Tryd.ntmps51
      go_wp2_with (first | (go_at_call 52; (with_reducible refine HC.out.mono ?_); rintro e w1 ⟨v, rfl, hown, hg⟩; obtain ⟨A1, cap1, rfl⟩ := hown.shape; have S1 := ST.out.turn hg HT.out; have Q := isBag_any A1 l.length cap1 l _ (((S1.ownR (x := .slice A1 l.length cap1) hown).rdOf It.vs_length).low (Nat.zero_le _)); have HQ := Lib.hid Q; have HO := Lib.hid (S1.ownR (x := .slice A1 l.length cap1) hown); have HS1 := Lib.hid S1; have S1' := S1.setR (.slice A1 l.length cap1); have HS1' := Lib.hid S1'; have cr := cell_at_block (off := 0) S1.hr rfl; have fr := free_at_block (off := 0) S1.hr; clear hg hown S1 S1' Q) | (go_at_call 29; (with_reducible refine HQ.out.mono ?_); rintro e w2 ⟨rfl, hb2⟩; rw [HB.out]; have S2 := HS1'.out.below hb2 HT.out; have HO2 := Lib.hid (HO.out.below hb2); have cr2 := cell_at_block (off := 0) S2.hr rfl; have ce2 := cell_at_block (off := 0) S2.he rfl; have fr2 := free_at_block (off := 0) S2.hr; have fe2 := free_at_block (off := 0) S2.he; have HS2 := Lib.hid S2; clear S2 hb2) | (go_at_call 58; (with_reducible refine (need_yes _).mono ?_); rintro e w' ⟨rfl, rfl⟩))
      refine leaves_cons (f := 70) (args := #[.pointer (some ⟨w.heap.size, 0, none⟩), .pointer (some ⟨w.heap.size + 1, 0, none⟩)]) (by simp) (by simp [go_sem]) ?_
      refine (catch_none w.heap.size (w.heap.size + 1) _).mono ?_
      rintro e u' w3 ⟨rfl, rfl, rfl⟩
      have S3 := (HS2.out.setR (.slice A1 l.length cap1)).setE (.int .i64 0)
      have O3 := (HS2.out.setR (.slice A1 l.length cap1)).ownE (x := .int .i64 0) (HS2.out.ownR (x := .slice A1 l.length cap1) HO2.out)
      generalize ((World.setCell (World.setCell _ _ _) _ _) : World) = W at S3 O3 ⊢
      have cr := cell_at_block (off := 0) S3.hr rfl
      have ce := cell_at_block (off := 0) S3.he rfl
      simp [Leaves, settle, results, Tryd.results51, go_sem, cr, ce]
      exact S3.done O3
    | false =>
      have e1 : readB (some l) = ([], 4) := by simp [readB, hb]
      rw [e1]
      have HB := Lib.hid hb
      clear hb e1
      go_enter_defers Tryd.func51, Tryd.ntmps51
      go_wp2_with (first | (go_at_call 52; (with_reducible refine HC.out.mono ?_); rintro e w1 ⟨v, rfl, hown, hg⟩; obtain ⟨A1, cap1, rfl⟩ := hown.shape; have S1 := ST.out.turn hg HT.out; have Q := isBag_any A1 l.length cap1 l _ (((S1.ownR (x := .slice A1 l.length cap1) hown).rdOf It.vs_length).low (Nat.zero_le _)); have HQ := Lib.hid Q; have HO := Lib.hid (S1.ownR (x := .slice A1 l.length cap1) hown); have HS1 := Lib.hid S1; have S1' := S1.setR (.slice A1 l.length cap1); have HS1' := Lib.hid S1'; have cr := cell_at_block (off := 0) S1.hr rfl; have fr := free_at_block (off := 0) S1.hr; clear hg hown S1 S1' Q) | (go_at_call 29; (with_reducible refine HQ.out.mono ?_); rintro e w2 ⟨rfl, hb2⟩; rw [HB.out]; have S2 := HS1'.out.below hb2 HT.out; have HO2 := Lib.hid (HO.out.below hb2); have cr2 := cell_at_block (off := 0) S2.hr rfl; have ce2 := cell_at_block (off := 0) S2.he rfl; have fr2 := free_at_block (off := 0) S2.hr; have fe2 := free_at_block (off := 0) S2.he; have HS2 := Lib.hid S2; clear S2 hb2) | (go_at_call 58; (with_reducible refine (need_no _).mono ?_); rintro e w' ⟨rfl, rfl⟩))
      have S2 := ((HS2.out.below ((Below.refl _ _).alloc (Nat.le_refl _) (.cells #[] 113)) HT.out).setR (.slice none 0 0)).setE (.int .i64 4)
      refine leaves_cons (f := 70) (args := #[.pointer (some ⟨w.heap.size, 0, none⟩), .pointer (some ⟨w.heap.size + 1, 0, none⟩)]) (by simp) (by simp [go_sem]) ?_
      refine (catch_wrong w.heap.size (w.heap.size + 1) _ _ _ HS2.out.hr HS2.out.he (by omega)).mono ?_
      rintro e u' w3 ⟨rfl, rfl, rfl⟩
      generalize ((World.setCell (World.setCell _ _ _) _ _) : World) = W at S2 ⊢
      have cr := cell_at_block (off := 0) S2.hr rfl
      have ce := cell_at_block (off := 0) S2.he rfl
      simp [Leaves, settle, wrongTaken, results, Tryd.results51, go_sem, cr, ce]
      exact S2.out

set_option maxRecDepth 100000 in
theorem read_read (cap : Array Value) (tb : Nat) (p : Option (List It)) (w : World) (htb : tb < w.heap.size)
    (hc : Calls Tryd.prog 56 cap ((w.alloc (.cells #[.slice none 0 0] 23)).alloc (.cells #[.int .i64 0] 24)) (BagOut (w.heap.size + 2) tb ((w.alloc (.cells #[.slice none 0 0] 23)).alloc (.cells #[.int .i64 0] 24)) p)) :
    Calls Tryd.prog 51 #[.func (.func 56) #[] cap] w (RetRead tb w (readB p)) := by
  have hmf : ∀ (fn : Fn) (first cap : Array Value) (w : World), (Instr.makeFunc fn first cap).run Tryd.prog w = .ok (.func fn first cap) w := fun _ _ _ _ => rfl
  have HC := Lib.hid hc
  have ST := Lib.hid (RdSt.start tb w)
  have HT := Lib.hid htb
  clear hc htb
  cases p with
  | none =>
    go_enter_defers Tryd.func51, Tryd.ntmps51
    go_wp2_with (go_at_call 56; (with_reducible refine HC.out.mono ?_); rintro e w1 ⟨rfl, hg⟩; have HG := Lib.hid hg; clear hg)
    have S1 := ST.out.turn HG.out HT.out
    have S2 := ((S1.below ((Below.refl _ _).alloc (Nat.le_refl _) (.cells #[] 113)) HT.out).setR (.slice none 0 0)).setE (.int .i64 4)
    refine leaves_cons (f := 70) (args := #[.pointer (some ⟨w.heap.size, 0, none⟩), .pointer (some ⟨w.heap.size + 1, 0, none⟩)]) (by simp) (by simp [go_sem]) ?_
    refine (catch_wrong w.heap.size (w.heap.size + 1) _ _ _ S1.hr S1.he (by omega)).mono ?_
    rintro e u' w2 ⟨rfl, rfl, rfl⟩
    generalize ((World.setCell (World.setCell _ _ _) _ _) : World) = W at S2 ⊢
    have cr := cell_at_block (off := 0) S2.hr rfl
    have ce := cell_at_block (off := 0) S2.he rfl
    simp [Leaves, settle, wrongTaken, results, Tryd.results51, go_sem, cr, ce]
    exact S2.out
  | some l =>
    cases hb : bagB l with
    | true =>
      have e1 : readB (some l) = (l, 0) := by simp [readB, hb]
      rw [e1]
      have HB := Lib.hid hb
      clear hb e1
      go_enter_defers Tryd.func51, Tryd.ntmps51
      go_wp2_with (first | (go_at_call 56; (with_reducible refine HC.out.mono ?_); rintro e w1 ⟨v, rfl, hown, hg⟩; obtain ⟨A1, cap1, rfl⟩ := hown.shape; have S1 := ST.out.turn hg HT.out; have Q := isBag_any A1 l.length cap1 l _ (((S1.ownR (x := .slice A1 l.length cap1) hown).rdOf It.vs_length).low (Nat.zero_le _)); have HQ := Lib.hid Q; have HO := Lib.hid (S1.ownR (x := .slice A1 l.length cap1) hown); have HS1 := Lib.hid S1; have S1' := S1.setR (.slice A1 l.length cap1); have HS1' := Lib.hid S1'; have cr := cell_at_block (off := 0) S1.hr rfl; have fr := free_at_block (off := 0) S1.hr; clear hg hown S1 S1' Q) | (go_at_call 29; (with_reducible refine HQ.out.mono ?_); rintro e w2 ⟨rfl, hb2⟩; rw [HB.out]; have S2 := HS1'.out.below hb2 HT.out; have HO2 := Lib.hid (HO.out.below hb2); have cr2 := cell_at_block (off := 0) S2.hr rfl; have ce2 := cell_at_block (off := 0) S2.he rfl; have fr2 := free_at_block (off := 0) S2.hr; have fe2 := free_at_block (off := 0) S2.he; have HS2 := Lib.hid S2; clear S2 hb2) | (go_at_call 58; (with_reducible refine (need_yes _).mono ?_); rintro e w' ⟨rfl, rfl⟩))
      refine leaves_cons (f := 70) (args := #[.pointer (some ⟨w.heap.size, 0, none⟩), .pointer (some ⟨w.heap.size + 1, 0, none⟩)]) (by simp) (by simp [go_sem]) ?_
      refine (catch_none w.heap.size (w.heap.size + 1) _).mono ?_
      rintro e u' w3 ⟨rfl, rfl, rfl⟩
      have S3 := (HS2.out.setR (.slice A1 l.length cap1)).setE (.int .i64 0)
      have O3 := (HS2.out.setR (.slice A1 l.length cap1)).ownE (x := .int .i64 0) (HS2.out.ownR (x := .slice A1 l.length cap1) HO2.out)
      generalize ((World.setCell (World.setCell _ _ _) _ _) : World) = W at S3 O3 ⊢
      have cr := cell_at_block (off := 0) S3.hr rfl
      have ce := cell_at_block (off := 0) S3.he rfl
      simp [Leaves, settle, results, Tryd.results51, go_sem, cr, ce]
      exact S3.done O3
    | false =>
      have e1 : readB (some l) = ([], 4) := by simp [readB, hb]
      rw [e1]
      have HB := Lib.hid hb
      clear hb e1
      go_enter_defers Tryd.func51, Tryd.ntmps51
      go_wp2_with (first | (go_at_call 56; (with_reducible refine HC.out.mono ?_); rintro e w1 ⟨v, rfl, hown, hg⟩; obtain ⟨A1, cap1, rfl⟩ := hown.shape; have S1 := ST.out.turn hg HT.out; have Q := isBag_any A1 l.length cap1 l _ (((S1.ownR (x := .slice A1 l.length cap1) hown).rdOf It.vs_length).low (Nat.zero_le _)); have HQ := Lib.hid Q; have HO := Lib.hid (S1.ownR (x := .slice A1 l.length cap1) hown); have HS1 := Lib.hid S1; have S1' := S1.setR (.slice A1 l.length cap1); have HS1' := Lib.hid S1'; have cr := cell_at_block (off := 0) S1.hr rfl; have fr := free_at_block (off := 0) S1.hr; clear hg hown S1 S1' Q) | (go_at_call 29; (with_reducible refine HQ.out.mono ?_); rintro e w2 ⟨rfl, hb2⟩; rw [HB.out]; have S2 := HS1'.out.below hb2 HT.out; have HO2 := Lib.hid (HO.out.below hb2); have cr2 := cell_at_block (off := 0) S2.hr rfl; have ce2 := cell_at_block (off := 0) S2.he rfl; have fr2 := free_at_block (off := 0) S2.hr; have fe2 := free_at_block (off := 0) S2.he; have HS2 := Lib.hid S2; clear S2 hb2) | (go_at_call 58; (with_reducible refine (need_no _).mono ?_); rintro e w' ⟨rfl, rfl⟩))
      have S2 := ((HS2.out.below ((Below.refl _ _).alloc (Nat.le_refl _) (.cells #[] 113)) HT.out).setR (.slice none 0 0)).setE (.int .i64 4)
      refine leaves_cons (f := 70) (args := #[.pointer (some ⟨w.heap.size, 0, none⟩), .pointer (some ⟨w.heap.size + 1, 0, none⟩)]) (by simp) (by simp [go_sem]) ?_
      refine (catch_wrong w.heap.size (w.heap.size + 1) _ _ _ HS2.out.hr HS2.out.he (by omega)).mono ?_
      rintro e u' w3 ⟨rfl, rfl, rfl⟩
      generalize ((World.setCell (World.setCell _ _ _) _ _) : World) = W at S2 ⊢
      have cr := cell_at_block (off := 0) S2.hr rfl
      have ce := cell_at_block (off := 0) S2.he rfl
      simp [Leaves, settle, wrongTaken, results, Tryd.results51, go_sem, cr, ce]
      exact S2.out

end Go.Proofs.Bg
end

section
/- The contracts of Parse's reader and of Parse. -/
namespace Go.Proofs.Bg
open Go.RowKit

def pSep (first : Bool) (s : List Int) : Option (List Int) := if first then some s else (pSign 59 s).bind (pSign 32)
def pAll : Nat → List Int → List It → Option (List It)
  | 0, _, L => some L
  | f + 1, s, L => if s = [] then some L else match pSep L.isEmpty s with
    | none => none
    | some s1 => match pItem s1 with
      | none => none
      | some (x, r) => pAll f r (L ++ [x])
/-- What a text says, before it is asked whether that is a bag. -/
def pBag (s : List Int) : Option (List It) := pAll (s.length + 1) s []

theorem pSign_lt {c : Int} {s r : List Int} (h : pSign c s = some r) : r.length < s.length := by
  cases s with
  | nil => cases h
  | cons x s =>
    rw [pSign] at h
    split at h
    · cases h; simp
    · cases h
theorem pLoop_lt : ∀ (s : List Int) {n a : Int} {r : List Int}, pLoop s n = some (a, r) → r.length ≤ s.length
  | [], n, a, r, h => by cases h; simp
  | x :: s, n, a, r, h => by
    rw [pLoop] at h
    split at h
    · split at h
      · have := pLoop_lt s h
        simp; omega
      · cases h
    · cases h; simp
theorem pAbs_lt {s r : List Int} {a : Int} (h : pAbs s = some (a, r)) : r.length < s.length := by
  cases s with
  | nil => cases h
  | cons x s =>
    rw [pAbs] at h
    split at h
    · have := pLoop_lt s h
      simp; omega
    · cases h
theorem pNum_lt {s r : List Int} {a : Int} (h : pNum s = some (a, r)) : r.length < s.length := by
  cases s with
  | nil => cases h
  | cons x s =>
    rw [pNum] at h
    split at h
    · cases hp : pAbs s with
      | none => rw [hp] at h; cases h
      | some p =>
        obtain ⟨n, r'⟩ := p
        rw [hp] at h
        have := pAbs_lt hp
        simp only at h
        split at h
        · cases h; simp; omega
        · cases h
    · exact pAbs_lt h
theorem pItem_lt {s r : List Int} {x : It} (h : pItem s = some (x, r)) : r.length < s.length := by
  unfold pItem at h
  cases h0 : pNum s with
  | none => rw [h0] at h; cases h
  | some p0 =>
    obtain ⟨a, s1⟩ := p0
    rw [h0] at h; simp only at h
    cases h1 : pSign 32 s1 with
    | none => rw [h1] at h; cases h
    | some s2 =>
      rw [h1] at h; simp only at h
      cases h2 : pNum s2 with
      | none => rw [h2] at h; cases h
      | some p2 =>
        obtain ⟨k, s3⟩ := p2
        rw [h2] at h; simp only at h
        cases h3 : pSign 32 s3 with
        | none => rw [h3] at h; cases h
        | some s4 =>
          rw [h3] at h; simp only at h
          cases h4 : pNum s4 with
          | none => rw [h4] at h; cases h
          | some p4 =>
            obtain ⟨v, s5⟩ := p4
            rw [h4] at h; simp only at h
            cases h5 : pSign 32 s5 with
            | none => rw [h5] at h; cases h
            | some s6 =>
              rw [h5] at h; simp only at h
              cases h6 : pNum s6 with
              | none => rw [h6] at h; cases h
              | some p6 =>
                obtain ⟨n, s7⟩ := p6
                rw [h6] at h
                cases h
                have := pNum_lt h0
                have := pSign_lt h1
                have := pNum_lt h2
                have := pSign_lt h3
                have := pNum_lt h4
                have := pSign_lt h5
                have := pNum_lt h6
                omega
theorem item_yes {tb : Nat} {s r : List Int} {x : It} (w : World) (h : LeftIs w tb 91 s) (hp : pItem s = some (x, r)) : Calls Tryd.prog 55 #[.pointer (some ⟨tb, 0, none⟩)] w fun e w' => e = .returned (.agg #[.int .i64 x.r.at_, .int .i64 x.r.key, .int .i64 x.r.val, .int .i64 x.n]) ∧ LeftIs w' tb 91 r ∧ w.grownBy w' (some tb) := by
  have := item_any tb s w h
  rw [hp] at this
  exact this
theorem item_no {tb : Nat} {s : List Int} (w : World) (h : LeftIs w tb 91 s) (hp : pItem s = none) : Calls Tryd.prog 55 #[.pointer (some ⟨tb, 0, none⟩)] w fun e w' => e = .panicked wrongChain ∧ w.grownBy w' (some tb) := by
  have := item_any tb s w h
  rw [hp] at this
  exact this

structure PRel (base tb S : Nat) (w : World) (R : Option (List It)) (f : Nat) (rest : List Int) (L : List It) (v : Value) (wr : World) : Prop where
  own : Own It.vs 4 33 base wr v L
  left : LeftIs wr tb 91 rest
  g : w.grownBy wr (some tb)
  r : pAll f rest L = R
  lt : rest.length < f
  sz : L.length + rest.length ≤ S
theorem PRel.sep {base tb S : Nat} {w : World} {R : Option (List It)} {f : Nat} {rest r : List Int} {L : List It} {v : Value} {wr w' : World} (h : PRel base tb S w R f rest L v wr) (hb : tb < base) (_hl : LeftIs w' tb 91 r) (hg : wr.grownBy w' (some tb)) : Own It.vs 4 33 base w' v L ∧ w.grownBy w' (some tb) :=
  ⟨h.own.grown hg (.inr (fun e => by have := (h.own.blk _ e).1; omega)), h.g.then_ hg (fun _ e => .inr e)⟩

theorem PRel.next {base tb S : Nat} {w : World} {R : Option (List It)} {f : Nat} {r : List Int} {L : List It} {x : It} {v v4 : Value} {w3 w4 : World} {o : Obj} (htb : tb < base) (hbase : base = w.heap.size) (hown : Own It.vs 4 33 base w3 v L) (hg : w.grownBy w3 (some tb)) (hl : LeftIs w3 tb 91 r) (hown4 : Own It.vs 4 33 base w4 v4 (L ++ [x])) (hg4 : (w3.alloc o).grownBy w4 v.ownBlock) (hR : pAll f r (L ++ [x]) = R) (hlt : r.length < f) (hsz : L.length + 1 + r.length ≤ S) : PRel base tb S w R f r (L ++ [x]) v4 w4 where
  own := hown4
  left := (hl.later (w' := w3.alloc o) (row := none) ⟨rfl, rfl, rfl, by simp, fun i hi _ => Below.heap_alloc _ _ _ hi⟩ (fun x e => by cases e)).later hg4 (fun k e => by have := (hown.blk k e).1; omega)
  g := by
    have h3 : w.grownBy (w3.alloc o) (some tb) := hg.then_ ⟨rfl, rfl, rfl, by simp, fun i hi _ => Below.heap_alloc _ _ _ hi⟩ (fun _ e => .inr e)
    exact ⟨hg4.os.trans h3.os, hg4.tape.trans h3.tape, hg4.output.trans h3.output, Nat.le_trans h3.size hg4.size, fun i hi hne => (hg4.block i (Nat.lt_of_lt_of_le hi h3.size) (fun e => by have := (hown.blk i e.symm).1; omega)).trans (h3.block i hi hne)⟩
  r := hR
  lt := hlt
  sz := by rw [List.length_append]; simpa using hsz

set_option maxRecDepth 100000 in
set_option maxHeartbeats 2000000 in
theorem parse1_any (cb tb base S : Nat) (s : List Int) (w : World) (h : LeftIs w tb 91 s) (hc : w.heap[cb]? = some (.cells #[.pointer (some ⟨tb, 0, none⟩)] 87)) (hct : cb ≠ tb) (hbase : base = w.heap.size) (hS : s.length = S) (hS2 : S * 32 ≤ 140737488355328) :
    Calls Tryd.prog 52 #[.pointer (some ⟨cb, 0, none⟩)] w (BagOut base tb w (pBag s)) := by
  have HC := Lib.hid hc
  have HS2 := Lib.hid hS2
  have HCT := Lib.hid hct
  have HB := Lib.hid hbase
  have HTB : Hid (tb < base) := by rw [hbase]; exact h.lt
  obtain ⟨R, hR⟩ : ∃ R, pBag s = R := ⟨_, rfl⟩
  have HREL : Hid (PRel base tb S w R (s.length + 1) s [] (.slice none 0 0) w) := ⟨Own.nil _ _ _ _ _, h, World.grownBy.refl _ _, hR, by omega, by simp; omega⟩
  rw [hR]
  clear hc hS2 hS hbase h hR hct
  go_enter Tryd.func52, Tryd.ntmps52
  go_wp2
  go_loopw [2] (fun v wr => ∃ f rest L, PRel base tb S w R f rest L v wr) (fun _ wr => leftLen tb wr)
  case atStart => exact ⟨_, _, _, HREL.out⟩
  case round =>
    clear HREL
    obtain ⟨f, rest, L, hrel⟩ := hrel
    obtain ⟨A0, cap0, rfl⟩ := hrel.own.shape
    have hcb := (hrel.g.block cb (Array.getElem?_eq_some_iff.1 HC.out).1 (fun e => HCT.out (Option.some.inj e))).trans HC.out
    have cc := cell_at_block (off := 0) hcb rfl
    have D := Lib.hid (done_any tb _ rest _ hrel.left)
    have HR := Lib.hid hrel
    clear hcb hrel
    cases rest with
    | nil =>
      -- ROUND
      have HF : Hid (R = some L) := by
        obtain ⟨f, rfl⟩ : ∃ f', f = f' + 1 := ⟨f - 1, by have := HR.out.lt; omega⟩
        show _ = _
        rw [← HR.out.r, pAll, if_pos rfl]
      go_wp2_with (go_at_call 53; (with_reducible refine D.out.mono ?_); rintro e w' ⟨rfl, rfl⟩)
      go_ret
      show BagOut _ _ _ R _ _
      rw [HF.out]
      exact ⟨_, rfl, HR.out.own, HR.out.g⟩
    | cons y t =>
      obtain ⟨f, rfl⟩ : ∃ f', f = f' + 1 := ⟨f - 1, by have := HR.out.lt; omega⟩
      have hcons : y :: t ≠ [] := by simp
      cases hL : L.isEmpty with
      | true =>
        have hlen : decide (0 < L.length) = false := by rw [List.isEmpty_iff.1 hL]; rfl
        have PK := HR
        cases hi : pItem (y :: t) with
        | none =>
          have HF : Hid (R = none) := by show _ = _; rw [← HR.out.r]; simp [pAll, pSep, hL, hi]
          have CI := Lib.hid (item_no _ PK.out.left hi)
          clear hcons hL hi
          go_wp2_with (first | (go_at_call 53; (with_reducible refine D.out.mono ?_); rintro e w' ⟨rfl, rfl⟩) | (go_at_call 55; (with_reducible refine CI.out.mono ?_); rintro e wz ⟨rfl, hg⟩; have HZ := Lib.hid hg; clear hg))
          refine ⟨rfl, ?_⟩
          show BagOut _ _ _ R _ _
          rw [HF.out]
          exact ⟨rfl, (PK.out.g).then_ HZ.out (fun _ e => .inr e)⟩
        | some q =>
          obtain ⟨x, r⟩ := q
          have HF : Hid (pAll f r (L ++ [x]) = R) := by show _ = _; rw [← HR.out.r]; simp [pAll, pSep, hL, hi]
          have HLT := Lib.hid (pItem_lt hi)
          have CI := Lib.hid (item_yes _ PK.out.left hi)
          clear hcons hL hi
          go_wp2_with (first | (go_at_call 53; (with_reducible refine D.out.mono ?_); rintro e w' ⟨rfl, rfl⟩) | (go_at_call 55; (with_reducible refine CI.out.mono ?_); rintro e w3 ⟨rfl, hl, hg⟩; have HL3 := Lib.hid hl; have HO3 := Lib.hid (PK.out.sep HTB.out hl hg); have HSZ := Lib.hid PK.out.sz; clear hl hg) | (at_builtin; refine wpList_app1 It.vs 4 33 _ 32 infoIt rfl (by decide) rfl _ _ _ rfl Tryd.underlying23 base _ L rfl (HO3.out.1.alloc _) x _ _ rfl rfl (newAt _ _ _ _ rfl) (by simp [It.vs, Value.oneCell']) (by have := HSZ.out; have := HS2.out; have := HLT.out; omega) (by have := HSZ.out; have := HS2.out; have := HLT.out; unfold maxLen; omega) (by have := HO3.out.2.size; have := HB.out; simp; omega) (fun v4 w4 hown4 hg4 _ => ?_)))
          have P4 := PRel.next (S := S) HTB.out HB.out HO3.out.1 HO3.out.2 HL3.out hown4 hg4 HF.out (by have := PK.out.lt; have := HLT.out; omega) (by have := HSZ.out; have := HLT.out; omega)
          refine ⟨⟨_, r, _, P4⟩, ?_⟩
          rw [P4.left.len_of, HR.out.left.len_of]
          have := HLT.out
          simpa using this
      | false =>
        have hlen : decide (0 < L.length) = true := by
          cases L with
          | nil => cases hL
          | cons _ _ => simp
        cases h1 : pSign 59 (y :: t) with
        | none =>
          have HF : Hid (R = none) := by show _ = _; rw [← HR.out.r]; simp [pAll, pSep, hL, h1]
          have C1 := Lib.hid (sign_no _ HR.out.left h1)
          clear hcons hL h1
          go_wp2_with (first | (go_at_call 53; (with_reducible refine D.out.mono ?_); rintro e w' ⟨rfl, rfl⟩) | (go_at_call 54; (with_reducible refine C1.out.mono ?_); rintro e wz ⟨rfl, hg⟩; have HZ := Lib.hid hg; clear hg))
          refine ⟨rfl, ?_⟩
          show BagOut _ _ _ R _ _
          rw [HF.out]
          exact ⟨rfl, HR.out.g.then_ HZ.out (fun _ e => .inr e)⟩
        | some s1 =>
          have C1 := Lib.hid (sign_yes _ HR.out.left h1)
          go_wp2_with (first | (go_at_call 53; (with_reducible refine D.out.mono ?_); rintro e w' ⟨rfl, rfl⟩) | fail)
          (with_reducible refine C1.out.mono ?_)
          rintro e wa ⟨rfl, hla, hga⟩
          have PA := HR.out.sep HTB.out hla hga
          have cca := cell_at_block (off := 0) ((PA.2.block cb (Array.getElem?_eq_some_iff.1 HC.out).1 (fun e => HCT.out (Option.some.inj e))).trans HC.out) rfl
          have HPA := Lib.hid PA
          have HLA := Lib.hid hla
          clear PA hla hga C1 cc D
          cases h2 : pSign 32 s1 with
          | none =>
            have HF : Hid (R = none) := by show _ = _; rw [← HR.out.r]; simp [pAll, pSep, hL, h1, h2]
            have C2 := Lib.hid (sign_no _ HLA.out h2)
            clear hcons hL h1 h2
            go_wp2_with (go_at_call 54; (with_reducible refine C2.out.mono ?_); rintro e wz ⟨rfl, hg⟩; have HZ := Lib.hid hg; clear hg)
            refine ⟨rfl, ?_⟩
            show BagOut _ _ _ R _ _
            rw [HF.out]
            exact ⟨rfl, HPA.out.2.then_ HZ.out (fun _ e => .inr e)⟩
          | some s2 =>
            have C2 := Lib.hid (sign_yes _ HLA.out h2)
            go_wp2_with fail
            (with_reducible refine C2.out.mono ?_)
            rintro e wb ⟨rfl, hlb, hgb⟩
            have HLT2 : Hid (s2.length < (y :: t).length) := Nat.lt_trans (pSign_lt h2) (pSign_lt h1)
            have PK : Hid (PRel base tb S w (pAll (f + 1) s2 L) (f + 1) s2 L (.slice A0 L.length cap0) wb) := ⟨HPA.out.1.grown hgb (.inr (fun e => by have := (HPA.out.1.blk _ e).1; have := HTB.out; omega)), hlb, HPA.out.2.then_ hgb (fun _ e => .inr e), rfl, by have := HR.out.lt; have := HLT2.out; omega, by have := HR.out.sz; have := HLT2.out; omega⟩
            have ccb := cell_at_block (off := 0) ((PK.out.g.block cb (Array.getElem?_eq_some_iff.1 HC.out).1 (fun e => HCT.out (Option.some.inj e))).trans HC.out) rfl
            clear hlb hgb C2 cca
            cases hi : pItem s2 with
            | none =>
              have HF : Hid (R = none) := by show _ = _; rw [← HR.out.r]; simp [pAll, pSep, hL, hi, h1, h2]
              have CI := Lib.hid (item_no _ PK.out.left hi)
              clear hcons hL hi
              go_wp2_with (first | (go_at_call 55; (with_reducible refine CI.out.mono ?_); rintro e wz ⟨rfl, hg⟩; have HZ := Lib.hid hg; clear hg))
              refine ⟨rfl, ?_⟩
              show BagOut _ _ _ R _ _
              rw [HF.out]
              exact ⟨rfl, (PK.out.g).then_ HZ.out (fun _ e => .inr e)⟩
            | some q =>
              obtain ⟨x, r⟩ := q
              have HF : Hid (pAll f r (L ++ [x]) = R) := by show _ = _; rw [← HR.out.r]; simp [pAll, pSep, hL, hi, h1, h2]
              have HLT := Lib.hid (pItem_lt hi)
              have CI := Lib.hid (item_yes _ PK.out.left hi)
              clear hcons hL hi
              go_wp2_with (first | (go_at_call 55; (with_reducible refine CI.out.mono ?_); rintro e w3 ⟨rfl, hl, hg⟩; have HL3 := Lib.hid hl; have HO3 := Lib.hid (PK.out.sep HTB.out hl hg); have HSZ := Lib.hid PK.out.sz; clear hl hg) | (at_builtin; refine wpList_app1 It.vs 4 33 _ 32 infoIt rfl (by decide) rfl _ _ _ rfl Tryd.underlying23 base _ L rfl (HO3.out.1.alloc _) x _ _ rfl rfl (newAt _ _ _ _ rfl) (by simp [It.vs, Value.oneCell']) (by have := HSZ.out; have := HS2.out; have := HLT.out; omega) (by have := HSZ.out; have := HS2.out; have := HLT.out; unfold maxLen; omega) (by have := HO3.out.2.size; have := HB.out; simp; omega) (fun v4 w4 hown4 hg4 _ => ?_)))
              have P4 := PRel.next (S := S) HTB.out HB.out HO3.out.1 HO3.out.2 HL3.out hown4 hg4 HF.out (by have := PK.out.lt; have := HLT.out; omega) (by have := HSZ.out; have := HLT.out; omega)
              refine ⟨⟨_, r, _, P4⟩, ?_⟩
              rw [P4.left.len_of, HR.out.left.len_of]
              have := HLT.out
              have := HLT2.out; simp at this ⊢; omega

end Go.Proofs.Bg
end

section
/- The contract of Print. -/
namespace Go.Proofs.Bg
open Go.RowKit

/-- What the walks ask of the world: the library's table of powers of ten. -/
def Tab (w : World) : Prop := Lib.TabIs Tryd.prog w "internal/strconv.uint64pow10" .u64 Lib.pow10Tab
theorem Tab.below {w w' : World} (h : Tab w) (hb : Below w.heap.size w w') : Tab w' := Lib.tabBelow_of_tabIs h w' hb

theorem Itoa_any (n : Int) (h : I64 n) (w : World) (ht : Tab w) : Calls Tryd.prog 48 #[.int .i64 n] w fun e w' => e = .returned (.string ⟨(Lib.itoa n).toArray⟩) ∧ Below w.heap.size w w' :=
  (Tryd.strconv_Itoa n h.1 h.2 w ht).mono fun _ _ ⟨he, k, os, hw⟩ => ⟨he, by rw [hw]; exact grow_below w k os⟩

def valOf (x : It) : Nat → Int
  | 0 => x.r.at_
  | 1 => x.r.key
  | 2 => x.r.val
  | _ => x.n
def partT (x : It) : Nat → List UInt8
  | 0 => []
  | k + 1 => partT x k ++ ((if k = 0 then [] else [32]) ++ Lib.itoa (valOf x k))
def itT (x : It) : List UInt8 := partT x 4
def textTo (l : List It) : Nat → List UInt8
  | 0 => []
  | k + 1 => textTo l k ++ ((if k = 0 then [] else [59, 32]) ++ (match l[k]? with | some x => itT x | none => []))
def textOf (l : List It) : List UInt8 := textTo l l.length
def strOf (l : List UInt8) : ByteArray := ⟨l.toArray⟩

theorem strOf_append (a b : List UInt8) : strOf (a ++ b) = strOf a ++ strOf b := by
  apply ByteArray.ext
  simp [strOf, ByteArray.data_append]
theorem strOf_size (a : List UInt8) : (strOf a).size = a.length := by simp [strOf, ByteArray.size]
theorem partT_length (x : It) (h : ∀ k, I64 (valOf x k)) (k : Nat) : (partT x k).length ≤ 22 * k := by
  induction k with
  | zero => simp [partT]
  | succ k ih =>
    have h1 := Lib.itoa_length_le (valOf x k) (h k).1 (h k).2
    simp only [partT, List.length_append]
    split <;> simp <;> omega
theorem valOf_ok {x : It} (h : itB x = true) (k : Nat) : I64 (valOf x k) := by
  rw [itB_spec] at h
  unfold valOf I64
  split <;> omega
theorem textTo_length (l : List It) (h : ∀ x ∈ l, itB x = true) (k : Nat) : (textTo l k).length ≤ 90 * k := by
  induction k with
  | zero => simp [textTo]
  | succ k ih =>
    have h2 : (match l[k]? with | some x => itT x | none => ([] : List UInt8)).length ≤ 88 := by
      cases hx : l[k]? with
      | none => simp
      | some x => exact partT_length x (valOf_ok (h x (List.mem_of_getElem? hx))) 4
    simp only [textTo, List.length_append]
    split <;> simp <;> omega

def TxRel (w : World) (L : List UInt8) (v : Value) (wr : World) : Prop := v = .string (strOf L) ∧ Below w.heap.size w wr
def printR (l : List It) : List UInt8 × Int := if bagB l then (textOf l, 0) else ([], 2)

set_option maxRecDepth 100000 in
set_option maxHeartbeats 2000000 in
theorem Print_any (A : Option Addr) (n cap : Nat) (l : List It) (w : World) (hA : Rd It.vs 4 w 0 A n l) (ht : Tab w) :
    Calls Tryd.prog 19 #[.slice A n cap] w fun e w' => e = .returned (.tuple #[.string (strOf (printR l).1), .int .i64 (printR l).2]) ∧ Below w.heap.size w w' := by
  have Q1 := Lib.hid (isBag_any A n cap l w hA)
  have HA := Lib.hid hA
  have HT := Lib.hid ht
  clear hA ht
  cases ga : bagB l with
  | false =>
    have e1 : printR l = ([], 2) := by simp [printR, ga]
    rw [e1]
    have GA := Lib.hid ga
    clear ga e1
    go_enter Tryd.func19, Tryd.ntmps19
    go_wp2_with (go_at_call 29; refine Q1.out.mono ?_; rintro e w1 ⟨rfl, hb1⟩; rw [GA.out]; have HB1 := Lib.hid hb1; clear hb1)
    go_ret2
    exact ⟨rfl, HB1.out⟩
  | true =>
    have e1 : printR l = (textOf l, 0) := by simp [printR, ga]
    rw [e1]
    have HS := Lib.hid ((bagB_spec l).1 ga)
    have GA := Lib.hid ga
    have hn300 : n ≤ 300 := by have := HS.out.2.2; have := HA.out.len; omega
    clear ga e1
    go_enter Tryd.func19, Tryd.ntmps19
    go_wp2_with fail
    refine Q1.out.mono ?_
    rintro e w1 ⟨rfl, hb1⟩
    rw [GA.out]
    have HB1 := Lib.hid hb1
    clear hb1
    go_wp2_with fail
    go_loopw [4, 5, 6, 7, 8, 14, 34, 35] (fun v _ _ _ _ i _ _ wr => ∃ k : Nat, k ≤ n ∧ i = .int .i64 k ∧ TxRel w (textTo l k) v wr) (fun _ _ _ _ _ i _ _ _ => n - (intOf i).toNat)
    case atStart => exact ⟨0, by omega, rfl, rfl, HB1.out⟩
    case round =>
      obtain ⟨k, hk, rfl, rfl, hB⟩ := hrel
      have hRk := HA.out.below hB
      have HB := Lib.hid hB
      clear hB
      by_cases hlt : k < n
      · obtain ⟨b, off, x, rfl, _, hx, c0, c1, c2, c3⟩ := hRk.it_at hlt
        have HX := Lib.hid hx
        have HXI := Lib.hid ((itB_spec x).1 (HS.out.1 x (List.mem_of_getElem? hx)))
        clear hRk hx
        have hsz : (strOf (textTo l k)).size ≤ 27000 := by rw [strOf_size]; have := textTo_length l HS.out.1 k; omega
        have hval := valOf_ok (HS.out.1 x (List.mem_of_getElem? HX.out))
        have HV := Lib.hid hval
        obtain ⟨S, hS⟩ : ∃ S, strOf (textTo l k) = S := ⟨_, rfl⟩
        rw [hS] at hsz ⊢
        have HSS := Lib.hid hS
        clear hS hval
        obtain ⟨P, hP⟩ : ∃ P, textTo l k ++ (if k = 0 then [] else [59, 32]) = P := ⟨_, rfl⟩
        have hPl : P.length ≤ 27010 := by
          have := textTo_length l HS.out.1 k
          rw [← hP, List.length_append]
          split <;> simp <;> omega
        have HP := Lib.hid hP
        clear hP
        have i0 : ∀ w, (Instr.index 84 (.agg #[.int .i64 x.r.at_, .int .i64 x.r.key, .int .i64 x.r.val, .int .i64 x.n]) (.int .i64 0)).run Tryd.prog w = .ok (.int .i64 x.r.at_) w := fun _ => by kernel_rfl
        have i1 : ∀ w, (Instr.index 84 (.agg #[.int .i64 x.r.at_, .int .i64 x.r.key, .int .i64 x.r.val, .int .i64 x.n]) (.int .i64 1)).run Tryd.prog w = .ok (.int .i64 x.r.key) w := fun _ => by kernel_rfl
        have i2 : ∀ w, (Instr.index 84 (.agg #[.int .i64 x.r.at_, .int .i64 x.r.key, .int .i64 x.r.val, .int .i64 x.n]) (.int .i64 2)).run Tryd.prog w = .ok (.int .i64 x.r.val) w := fun _ => by kernel_rfl
        have i3 : ∀ w, (Instr.index 84 (.agg #[.int .i64 x.r.at_, .int .i64 x.r.key, .int .i64 x.r.val, .int .i64 x.n]) (.int .i64 3)).run Tryd.prog w = .ok (.int .i64 x.n) w := fun _ => by kernel_rfl
        have hst : ∀ (h0 : k = 0), strOf P = S := fun h0 => by rw [← HP.out, if_pos h0, List.append_nil]; exact HSS.out
        have hst' : ∀ (h0 : 0 < k), strOf P = S ++ ⟨#[59, 32]⟩ := fun h0 => by rw [← HP.out, if_neg (by omega), strOf_append, HSS.out]; rfl
        have HST := Lib.hid hst
        have HST' := Lib.hid hst'
        clear hst hst'
        by_cases hk0 : 0 < k
        all_goals
          go_wp2_with fail
          obtain ⟨wo, rfl⟩ : ∃ wo : World, wo = wr := ⟨_, rfl⟩
          go_loopw [4, 7, 8, 35] (fun v _ _ i wi => ∃ j : Nat, j ≤ 4 ∧ i = .int .i64 j ∧ TxRel w (P ++ partT x j) v wi) (fun _ _ _ i _ => 4 - (intOf i).toNat)
          case atStart => exact ⟨0, by omega, rfl, by rw [partT, List.append_nil]; first | rw [HST'.out (by assumption)] | rw [HST.out (by omega)], HB.out.alloc HB.out.size _⟩
          case round =>
            obtain ⟨j, hj, rfl, rfl, hBi⟩ := hrel
            have HBi := Lib.hid hBi
            have hpl := partT_length x HV.out j
            have hT := HT.out.below hBi
            have HTi := Lib.hid hT
            have hs1 : (strOf (P ++ partT x j)).size ≤ 28000 := by rw [strOf_size, List.length_append]; omega
            obtain ⟨S1, hS1⟩ : ∃ S1, strOf (P ++ partT x j) = S1 := ⟨_, rfl⟩
            rw [hS1] at hs1 ⊢
            have HS1 := Lib.hid hS1
            clear hS1 hBi hT hpl
            rcases (by omega : j = 0 ∨ j = 1 ∨ j = 2 ∨ j = 3 ∨ j = 4) with rfl | rfl | rfl | rfl | rfl
            · have hv := HV.out 0
              have hil := Lib.itoa_length_le (x.r.at_) hv.1 hv.2
              have HI := Lib.hid (Itoa_any (x.r.at_) hv wr HTi.out)
              clear hv
              go_wp2_with (go_at_call 48; (with_reducible refine HI.out.mono ?_); rintro e w3 ⟨rfl, hb3⟩; have HB3 := Lib.hid hb3; clear hb3)
              refine ⟨⟨1, by omega, rfl, ?_, bchain HBi.out HB3.out⟩, by simp [intOf]⟩
              show Value.string (S1 ++ strOf (Lib.itoa (x.r.at_))) = _
              rw [← HS1.out, ← strOf_append]
              simp [partT, valOf]
            · have hv := HV.out 1
              have hil := Lib.itoa_length_le (x.r.key) hv.1 hv.2
              have HI := Lib.hid (Itoa_any (x.r.key) hv wr HTi.out)
              clear hv
              go_wp2_with (go_at_call 48; (with_reducible refine HI.out.mono ?_); rintro e w3 ⟨rfl, hb3⟩; have HB3 := Lib.hid hb3; clear hb3)
              refine ⟨⟨2, by omega, rfl, ?_, bchain HBi.out HB3.out⟩, by simp [intOf]⟩
              show Value.string ((S1 ++ strOf [32]) ++ strOf (Lib.itoa (x.r.key))) = _
              rw [← HS1.out, ← strOf_append, ← strOf_append]
              simp [partT, valOf]
            · have hv := HV.out 2
              have hil := Lib.itoa_length_le (x.r.val) hv.1 hv.2
              have HI := Lib.hid (Itoa_any (x.r.val) hv wr HTi.out)
              clear hv
              go_wp2_with (go_at_call 48; (with_reducible refine HI.out.mono ?_); rintro e w3 ⟨rfl, hb3⟩; have HB3 := Lib.hid hb3; clear hb3)
              refine ⟨⟨3, by omega, rfl, ?_, bchain HBi.out HB3.out⟩, by simp [intOf]⟩
              show Value.string ((S1 ++ strOf [32]) ++ strOf (Lib.itoa (x.r.val))) = _
              rw [← HS1.out, ← strOf_append, ← strOf_append]
              simp [partT, valOf]
            · have hv := HV.out 3
              have hil := Lib.itoa_length_le (x.n) hv.1 hv.2
              have HI := Lib.hid (Itoa_any (x.n) hv wr HTi.out)
              clear hv
              go_wp2_with (go_at_call 48; (with_reducible refine HI.out.mono ?_); rintro e w3 ⟨rfl, hb3⟩; have HB3 := Lib.hid hb3; clear hb3)
              refine ⟨⟨4, by omega, rfl, ?_, bchain HBi.out HB3.out⟩, by simp [intOf]⟩
              show Value.string ((S1 ++ strOf [32]) ++ strOf (Lib.itoa (x.n))) = _
              rw [← HS1.out, ← strOf_append, ← strOf_append]
              simp [partT, valOf]
            · go_wp2_with fail
              refine ⟨⟨k + 1, by omega, by go_num, ?_, HBi.out⟩, by simp [intOf]; omega⟩
              rw [← HS1.out, ← HP.out]
              simp only [textTo, HX.out, itT, List.append_assoc]
      · have hk' : k = n := by omega
        subst hk'
        clear hRk hlt
        have e2 : textOf l = textTo l k := by rw [textOf, HA.out.len]
        rw [← e2]
        clear e2
        go_wp2_with fail
        go_ret2
        exact ⟨rfl, HB.out⟩
end Go.Proofs.Bg
end

section
/- The contract of Parse. -/
namespace Go.Proofs.Bg
open Go.RowKit

def intsOf (s : List UInt8) : List Int := s.map fun b => (b.toNat : Int)
def parseR (s : List UInt8) : List It × Int := readB (pBag (intsOf s))
theorem bytes_below (w : World) (e : TypeId) (s : ByteArray) : Below w.heap.size w (Lib.bytesWorld w e s) :=
  ⟨rfl, rfl, rfl, by rw [Lib.bytesWorld_size]; omega, fun i hi => Lib.bytesWorld_at_old w e s i hi⟩

/-- The worlds of Parse: the bytes, the text, the variable that holds it. -/
def parseW (w : World) (s : List UInt8) : World :=
  (((Lib.bytesWorld w 5 (strOf s)).alloc (.cells #[.slice (some ⟨w.heap.size, 0, none⟩) s.length (grownCap w s.length 0 5)] 91)).alloc (.cells #[.pointer (some ⟨w.heap.size + 1, 0, none⟩)] 87))
theorem parseW_left (w : World) (s : List UInt8) (h63 : s.length ≤ 9223372036854775807) : LeftIs (parseW w s) (w.heap.size + 1) 91 (intsOf s) ∧ (parseW w s).heap[w.heap.size + 2]? = some (.cells #[.pointer (some ⟨w.heap.size + 1, 0, none⟩)] 87) ∧ (parseW w s).heap.size = w.heap.size + 3 ∧ Below w.heap.size w (parseW w s) := by
  have hsz := Lib.bytesWorld_size w 5 (strOf s)
  have hb := bytes_below w 5 (strOf s)
  have hcell := Lib.bytesWorld_cell w 5 (strOf s)
  unfold parseW
  generalize Lib.bytesWorld w 5 (strOf s) = W at *
  refine ⟨⟨_, grownCap w s.length 0 5, ?_, ⟨rfl, by simpa [intsOf] using h63, fun hn => ⟨w.heap.size, 0, rfl, Nat.zero_le _, fun i x hx j v hv => ?_⟩⟩, fun _ b off e => by cases e; omega, ?_, ?_⟩, ?_, ?_, ?_⟩
  · rw [Below.heap_alloc _ _ _ (by simp [hsz]), ← hsz, new_block]
    simp [intsOf]
  · have e : j = 0 ∧ v = .int .u8 x := by
      cases j with
      | zero => exact ⟨rfl, by cases hv; rfl⟩
      | succ j => cases hv
    obtain ⟨rfl, rfl⟩ := e
    have hi : i < s.length := by
      have := (List.getElem?_eq_some_iff.1 hx).1
      simpa [intsOf] using this
    have h1 := hcell i (by rw [strOf_size]; exact hi)
    have hlt : w.heap.size < W.heap.size := by omega
    have e2 : (0 + i * 1 + 0) = i := by omega
    rw [e2]
    refine (World.cell?_of_block (w := W) (a := ⟨w.heap.size, i, none⟩) ?_).trans (h1.trans ?_)
    · show ((W.alloc _).alloc _).heap[w.heap.size]? = _
      rw [Below.heap_alloc _ _ _ (by simp; omega), Below.heap_alloc _ _ _ hlt]
    · simp only [intsOf, List.getElem?_map] at hx
      have e3 : s[i]? = some s[i] := List.getElem?_eq_getElem hi
      rw [e3] at hx
      cases hx
      simp [strOf, List.getD, e3]
  · simpa [intsOf] using grownCap_ge w s.length 0 5
  · intro x hx
    simp only [intsOf, List.mem_map] at hx
    obtain ⟨b, _, rfl⟩ := hx
    have := b.toNat_lt
    omega
  · have := new_block (W.alloc (.cells #[.slice (some ⟨w.heap.size, 0, none⟩) s.length (grownCap w s.length 0 5)] 91)) #[.pointer (some ⟨w.heap.size + 1, 0, none⟩)] 87
    simpa [hsz] using this
  · simp [hsz]
  · exact (hb.alloc hb.size _).alloc (by have := hb.size; simp; omega) _

set_option maxRecDepth 100000 in
theorem Parse_any (s : List UInt8) (w : World) (hS : s.length * 32 ≤ 140737488355328) :
    Calls Tryd.prog 21 #[.string (strOf s)] w (RetBag w (parseR s)) := by
  have hmf : ∀ (fn : Fn) (first cap : Array Value) (w : World), (Instr.makeFunc fn first cap).run Tryd.prog w = .ok (.func fn first cap) w := fun _ _ _ _ => rfl
  have hconv := Lib.run_convert_string_bytes w 9 46 5 (strOf s) Tryd.underlying9 Tryd.underlying46 Tryd.underlying5
  rw [strOf_size] at hconv
  obtain ⟨hl, hc, hz, hbl⟩ := parseW_left w s (by omega)
  have HP : Calls Tryd.prog 51 #[.func (.func 52) #[] #[.pointer (some ⟨w.heap.size + 2, 0, none⟩)]] (parseW w s) (RetRead (w.heap.size + 1) (parseW w s) (parseR s)) := by
    generalize parseW w s = W at *
    have hB : Below W.heap.size W ((W.alloc (.cells #[.slice none 0 0] 23)).alloc (.cells #[.int .i64 0] 24)) := ((Below.refl _ _).alloc (Nat.le_refl _) _).alloc (by simp) _
    refine read_parse _ _ _ _ (by omega) ?_
    refine parse1_any _ _ _ s.length _ _ (hl.later (row := none) ⟨hB.os, hB.tape, hB.output, hB.size, fun i hi _ => hB.block i hi⟩ (fun x e => by cases e)) ((hB.block _ (by omega)).trans hc) (by omega) (by simp) (by simp [intsOf]) hS
  have HPh := Lib.hid HP
  have HBL := Lib.hid hbl
  have hsz := Lib.bytesWorld_size w 5 (strOf s)
  unfold parseW at HPh
  clear HP hl hc hz hbl hS
  go_enter Tryd.func21, Tryd.ntmps21
  go_wp2_with (go_at_call 51; (with_reducible refine HPh.out.mono ?_); rintro e w1 ⟨hg, A, cap, rfl, hr⟩; have HG := Lib.hid hg; have HR := Lib.hid hr; clear hg hr)
  go_ret2
  have HG1 : (parseW w s).grownBy w1 (some (w.heap.size + 1)) := HG.out
  have HR1 : Rd It.vs 4 w1 (parseW w s).heap.size A (parseR s).1.length (parseR s).1 := HR.out
  have hb := HBL.out
  exact ⟨A, cap, rfl, HR1.low hb.size, hb.grown HG1 hb.size (fun k e => by cases e; omega)⟩
end Go.Proofs.Bg
end

section
/- The contract of Bytes. -/
namespace Go.Proofs.Bg
open Go.RowKit

theorem Own.cap_le {α : Type} {enc : α → List Value} {sz : Nat} {e : TypeId} {base : Nat} {w : World} {A : Option Addr} {n cap : Nat} {l : List α} (h : Own enc sz e base w (.slice A n cap) l) : l.length ≤ cap := by
  rcases h.2 with ⟨e1, h0⟩ | ⟨g, cap', cur, e1, _, _, hle, _⟩
  · omega
  · cases e1
    exact hle
def zeroRc : Rc := ⟨0, 0, 0⟩
/-- An item's bytes, behind the record before it. -/
def keyB (same : Bool) (b r : Rc) : List Int := if same then numB (r.key - b.key) else intB r.key
def valB (same : Bool) (b r : Rc) : List Int := if same && (r.key == b.key) then numB (r.val - b.val) else intB r.val
def encOne (same : Bool) (b : Rc) (x : It) : List Int := numB (x.r.at_ - b.at_) ++ keyB same b x.r ++ valB same b x.r ++ intB x.n
def befR (l : List It) : Nat → Rc
  | 0 => zeroRc
  | k + 1 => match l[k]? with | some x => x.r | none => zeroRc
def sameB (l : List It) (k : Nat) (x : It) : Bool := decide (0 < k) && (x.r.at_ == (befR l k).at_)
def encAt (l : List It) (k : Nat) : List Int := match l[k]? with | some x => encOne (sameB l k x) (befR l k) x | none => []
def encTo (l : List It) (k : Nat) : List Int := (List.range k).flatMap (encAt l)
def bytesOf (l : List It) : List Int := numB l.length ++ encTo l l.length
theorem encTo_succ (l : List It) (k : Nat) : encTo l (k + 1) = encTo l k ++ encAt l k := by simp [encTo, List.range_succ]
theorem encAt_length (l : List It) (k : Nat) : (encAt l k).length ≤ 40 := by
  unfold encAt
  split
  · rename_i x _
    have h1 := numB_length (x.r.at_ - (befR l k).at_)
    have h2 : (keyB (sameB l k x) (befR l k) x.r).length ≤ 10 := by unfold keyB; split <;> first | exact numB_length _ | exact intB_length _
    have h3 : (valB (sameB l k x) (befR l k) x.r).length ≤ 10 := by unfold valB; split <;> first | exact numB_length _ | exact intB_length _
    have h4 := intB_length x.n
    simp only [encOne, List.length_append]
    omega
  · simp
theorem encTo_length (l : List It) (k : Nat) : (encTo l k).length ≤ 40 * k := by
  induction k with
  | zero => simp [encTo]
  | succ k ih =>
    have := encAt_length l k
    rw [encTo_succ, List.length_append]
    omega

theorem Loc.ne {w : World} {v v' : Value} (h : Loc w v v') {g : Nat} (hg : g < w.heap.size) (hne : v.ownBlock ≠ some g) : v'.ownBlock ≠ some g := by
  rcases h with e | ⟨j, e, hj⟩
  · rw [e]; exact hne
  · rw [e]
    intro e2
    have : j = g := Option.some.inj e2
    omega

/-- What a round holds between two calls: the bytes so far; three boxes; nothing old has turned. -/
structure BSt (base bx br gb : Nat) (w0 : World) (cx cr cb : Array Value) (w : World) (v : Value) (L : List Int) : Prop where
  own : Own bv 1 5 base w v L
  nx : v.ownBlock ≠ some bx
  nr : v.ownBlock ≠ some br
  nb : v.ownBlock ≠ some gb
  hx : w.heap[bx]? = some (.cells cx 33)
  hr : w.heap[br]? = some (.cells cr 31)
  hb : w.heap[gb]? = some (.cells cb 31)
  below : Below w0.heap.size w0 w
  lob : base ≤ w.heap.size
  lo0 : w0.heap.size ≤ base

theorem bst0 {base gb : Nat} {w0 wr : World} {a b c d a' b' c' : Value} {cb : Array Value} {v : Value} {L : List Int} (ho : Own bv 1 5 base wr v L) (hne : v.ownBlock ≠ some gb) (hgb : wr.heap[gb]? = some (.cells cb 31)) (hB : Below w0.heap.size w0 wr) (hlo : base ≤ wr.heap.size) (hlo0 : w0.heap.size ≤ base) :
    BSt base wr.heap.size (wr.heap.size + 1) gb w0 #[a, b, c, d] #[a', b', c'] cb ((wr.alloc (.cells #[a, b, c, d] 33)).alloc (.cells #[a', b', c'] 31)) v L where
  own := (ho.alloc _).alloc _
  nx := fun e => by have := (ho.blk _ e).2; omega
  nr := fun e => by have := (ho.blk _ e).2; omega
  nb := hne
  hx := by
    rw [Below.heap_alloc _ _ _ (by simp)]
    exact new_block _ _ _
  hr := by
    have := new_block (wr.alloc (.cells #[a, b, c, d] 33)) #[a', b', c'] 31
    simpa using this
  hb := by
    have hl : gb < wr.heap.size := (Array.getElem?_eq_some_iff.1 hgb).1
    rw [Below.heap_alloc _ _ _ (by simp; omega), Below.heap_alloc _ _ _ hl]
    exact hgb
  below := (hB.alloc hB.size _).alloc (by have := hB.size; simp; omega) _
  lob := by simp; omega
  lo0 := hlo0

theorem BSt.step {base bx br gb : Nat} {w0 : World} {cx cr cb : Array Value} {w w' : World} {v v' : Value} {L L' : List Int} (h : BSt base bx br gb w0 cx cr cb w v L) (hown : Own bv 1 5 base w' v' L') (hg : w.grownBy w' v.ownBlock) (hloc : Loc w v v') : BSt base bx br gb w0 cx cr cb w' v' L' where
  own := hown
  nx := hloc.ne (Array.getElem?_eq_some_iff.1 h.hx).1 h.nx
  nr := hloc.ne (Array.getElem?_eq_some_iff.1 h.hr).1 h.nr
  nb := hloc.ne (Array.getElem?_eq_some_iff.1 h.hb).1 h.nb
  hx := (hg.block bx (Array.getElem?_eq_some_iff.1 h.hx).1 (fun e => h.nx e.symm)).trans h.hx
  hr := (hg.block br (Array.getElem?_eq_some_iff.1 h.hr).1 (fun e => h.nr e.symm)).trans h.hr
  hb := (hg.block gb (Array.getElem?_eq_some_iff.1 h.hb).1 (fun e => h.nb e.symm)).trans h.hb
  below := h.below.grown hg h.below.size (fun k hk => Nat.le_trans h.lo0 (h.own.blk k hk).1)
  lob := Nat.le_trans h.lob hg.size
  lo0 := h.lo0

/-- What the loop holds at its head. -/
def BRel (base gb : Nat) (w0 : World) (l : List It) (k : Nat) (v : Value) (wr : World) : Prop :=
  Own bv 1 5 base wr v (numB l.length ++ encTo l k) ∧ v.ownBlock ≠ some gb ∧ wr.heap[gb]? = some (.cells #[.int .i64 (befR l k).at_, .int .i64 (befR l k).key, .int .i64 (befR l k).val] 31) ∧ Below w0.heap.size w0 wr ∧ base ≤ wr.heap.size ∧ w0.heap.size ≤ base

/-- What a formed bag gives for the record before. -/
theorem bef_le {l : List It} (h : Incr (l.map (·.r))) (hi : ∀ x ∈ l, itB x = true) {k : Nat} {x : It} (hx : l[k]? = some x) : (befR l k).at_ ≤ x.r.at_ ∧ 0 ≤ (befR l k).at_ ∧ (sameB l k x = true → (befR l k).key ≤ x.r.key ∧ ((befR l k).key = x.r.key → (befR l k).val ≤ x.r.val)) ∧ -1000000000 ≤ (befR l k).key ∧ (befR l k).key ≤ 1000000000 ∧ -1000000000 ≤ (befR l k).val ∧ (befR l k).val ≤ 1000000000 := by
  have hxi := (itB_spec x).1 (hi x (List.mem_of_getElem? hx))
  cases k with
  | zero =>
    simp only [befR, zeroRc, sameB]
    simp
    omega
  | succ j =>
    have hj : j < l.length := by have := (List.getElem?_eq_some_iff.1 hx).1; omega
    have hy : l[j]? = some l[j] := List.getElem?_eq_getElem hj
    have hyi := (itB_spec l[j]).1 (hi _ (List.mem_of_getElem? hy))
    have hb : befR l (j + 1) = l[j].r := by simp only [befR, hy]
    have hp := List.pairwise_iff_getElem.1 h j (j + 1) (by simpa using hj) (by simpa using (List.getElem?_eq_some_iff.1 hx).1) (by omega)
    have ex : l[j + 1]'((List.getElem?_eq_some_iff.1 hx).1) = x := (List.getElem?_eq_some_iff.1 hx).2
    simp only [List.getElem_map, ex] at hp
    rw [rcmp_neg] at hp
    rw [hb]
    unfold sameB
    rw [hb]
    simp only [Bool.and_eq_true, beq_iff_eq, decide_eq_true_eq]
    omega

def bytesR (l : List It) : List Int × Int := if bagB l then (bytesOf l, 0) else ([], 2)

/-- Bytes that are handed back, and an error. -/
def RetBytes (w : World) (p : List Int × Int) (e : Ending) (w' : World) : Prop :=
  ∃ A cap, e = .returned (.tuple #[.slice A p.1.length cap, .int .i64 p.2]) ∧ Rd bv 1 w' w.heap.size A p.1.length p.1 ∧ Below w.heap.size w w' ∧ p.1.length ≤ cap

set_option maxRecDepth 100000 in
set_option maxHeartbeats 2000000 in
theorem Bytes_any (A : Option Addr) (n cap : Nat) (l : List It) (w : World) (hA : Rd It.vs 4 w 0 A n l) :
    Calls Tryd.prog 20 #[.slice A n cap] w (RetBytes w (bytesR l)) := by
  have Q1 := Lib.hid (isBag_any A n cap l w hA)
  have HA := Lib.hid hA
  clear hA
  cases ga : bagB l with
  | false =>
    have e1 : bytesR l = ([], 2) := by simp [bytesR, ga]
    rw [e1]
    have GA := Lib.hid ga
    clear ga e1
    go_enter Tryd.func20, Tryd.ntmps20
    go_wp2_with (go_at_call 29; refine Q1.out.mono ?_; rintro e w1 ⟨rfl, hb1⟩; rw [GA.out]; have HB1 := Lib.hid hb1; clear hb1)
    go_ret2
    exact ⟨none, 0, rfl, Rd.nil _ _ _, HB1.out, Nat.le_refl _⟩
  | true =>
    have e1 : bytesR l = (bytesOf l, 0) := by simp [bytesR, ga]
    rw [e1]
    have HS := Lib.hid ((bagB_spec l).1 ga)
    have GA := Lib.hid ga
    have hn300 : n ≤ 300 := by have := HS.out.2.2; have := HA.out.len; omega
    clear ga e1
    go_enter Tryd.func20, Tryd.ntmps20
    go_wp2_with fail
    refine Q1.out.mono ?_
    rintro e w1 ⟨rfl, hb1⟩
    rw [GA.out]
    have HR1 := Lib.hid (HA.out.below hb1)
    have HB1 := Lib.hid hb1
    have HN0 := Lib.hid (numbered_any w1.heap.size (.slice none 0 0) [] n w1 (Own.nil _ _ _ _ _) (Nat.le_refl _) (by omega) (by omega) (by simp))
    clear hb1
    go_wp2_with fail
    refine HN0.out.mono ?_
    rintro e w2 ⟨v2, rfl, hown2, hg2, hloc2⟩
    rw [List.nil_append] at hown2
    have hsz2 := hg2.size
    have hne2 : v2.ownBlock ≠ some w2.heap.size := fun e => by have := (hown2.blk _ e).2; omega
    have hb2 : Below w1.heap.size w1 w2 := (Below.refl _ _).grown hg2 (Nat.le_refl _) (by simp [Value.ownBlock])
    have HO2 := Lib.hid hown2
    have HNE2 := Lib.hid hne2
    have HB2 := Lib.hid hb2
    have hll := HA.out.len
    have HLL := Lib.hid hll
    clear hown2 hg2 hloc2 hne2 hb2 HN0 hll
    go_wp2_with fail
    have hst : BRel w1.heap.size w2.heap.size w1 l 0 v2 (w2.alloc (.cells #[.int .i64 0, .int .i64 0, .int .i64 0] 31)) := ⟨by rw [HLL.out]; simpa [encTo] using HO2.out.alloc _, HNE2.out, new_block _ _ _, HB2.out.alloc HB2.out.size _, by simp; omega, Nat.le_refl _⟩
    have HST := Lib.hid hst
    clear hst
    generalize w2.heap.size = gb at HST hsz2 ⊢
    clear HO2 HNE2 HB2
    go_loopw [4, 6, 7, 8, 9, 18] (fun v _ _ _ _ i wr => ∃ k : Nat, k ≤ n ∧ i = .int .i64 k ∧ BRel w1.heap.size gb w1 l k v wr) (fun _ _ _ _ _ i _ => n - (intOf i).toNat)
    case atStart => exact ⟨0, by omega, rfl, HST.out⟩
    case round =>
      clear HST
      obtain ⟨k, hk, rfl, hown, hne, hgb, hB, hlo, hlo0⟩ := hrel
      have hRk := HR1.out.below hB
      have HO := Lib.hid hown
      have HNE := Lib.hid hne
      have HGB := Lib.hid hgb
      have HB := Lib.hid hB
      have hgl : gb < wr.heap.size := (Array.getElem?_eq_some_iff.1 hgb).1
      have hvl : ∀ q, u4 = q → True := fun _ _ => trivial
      clear hown hne hgb hB hvl
      by_cases hlt : k < n
      · obtain ⟨b, off, x, rfl, _, hx, c0, c1, c2, c3⟩ := hRk.it_at hlt
        have HX := Lib.hid hx
        have HXI := Lib.hid ((itB_spec x).1 (HS.out.1 x (List.mem_of_getElem? hx)))
        have hbl := bef_le HS.out.2.1 HS.out.1 hx
        have henc : encTo l (k + 1) = encTo l k ++ encOne (sameB l k x) (befR l k) x := by rw [encTo_succ, encAt, hx]
        have HEN := Lib.hid henc
        have hbn : befR l (k + 1) = x.r := by simp only [befR, hx]
        have HBN := Lib.hid hbn
        have hll3 := encTo_length l k
        have hll4 := numB_length l.length
        have hsm : sameB l k x = (decide (0 < k) && (x.r.at_ == (befR l k).at_)) := rfl
        obtain ⟨L, hL⟩ : ∃ L, numB l.length ++ encTo l k = L := ⟨_, rfl⟩
        have hLl : L.length ≤ 12010 := by rw [← hL, List.length_append]; omega
        have HLE := Lib.hid hL
        have ho := HO.out
        rw [hL] at ho
        have hgb := HGB.out
        generalize befR l k = bf at *
        clear hx henc hbn hll3 hll4 hL HO HGB hRk
        -- CASES FROM HERE
        obtain ⟨⟨x1, x2, x3, x4, x5, x6⟩, _, x8, x9⟩ := HXI.out
        obtain ⟨b1, b2, b3, b4, b5, b6, b7⟩ := hbl
        have HSL := Lib.hid b3
        clear b3
        by_cases hk0 : 0 < k
        · have hg0 : decide ((0 : Int) < (k : Int)) = true := by simpa using hk0
          cases hat : (x.r.at_ == bf.at_) with
          | true =>
            have hs : sameB l k x = true := by rw [hsm, hat]; simp [hk0]
            have HSM := Lib.hid hs
            obtain ⟨b8, b9⟩ := HSL.out hs
            have HB9 := Lib.hid b9
            clear hs hsm b9
            cases hke : (x.r.key == bf.key) with
            | true =>
              have HKE := Lib.hid hke
              have b10 := HB9.out (by have := beq_iff_eq.1 hke; exact this.symm)
              have q1 := numB_length (x.r.at_ - bf.at_)
              have q2 := numB_length (x.r.key - bf.key)
              have q3 := numB_length (x.r.val - bf.val)
              have st0 : BSt w1.heap.size wr.heap.size (wr.heap.size + 1) gb w1 #[.int .i64 x.r.at_, .int .i64 x.r.key, .int .i64 x.r.val, .int .i64 x.n] #[.int .i64 x.r.at_, .int .i64 x.r.key, .int .i64 x.r.val] #[.int .i64 bf.at_, .int .i64 bf.key, .int .i64 bf.val] ((wr.alloc (.cells #[.int .i64 x.r.at_, .int .i64 x.r.key, .int .i64 x.r.val, .int .i64 x.n] 33)).alloc (.cells #[.int .i64 x.r.at_, .int .i64 x.r.key, .int .i64 x.r.val] 31)) u4 L := bst0 ho HNE.out hgb HB.out hlo hlo0
              have fb0 := cell_at_block (off := 0) hgb rfl
              have fb1 := cell_at_block (off := 1) hgb rfl
              have fb2 := cell_at_block (off := 2) hgb rfl
              clear ho hgb
              have C1 := Lib.hid (numbered_any w1.heap.size _ (L) (x.r.at_ - bf.at_) _ st0.own st0.lob (by omega) (by omega) (by first | omega | (simp only [List.length_append]; omega)))
              have ST0 := Lib.hid st0
              clear st0
              go_wp2_with fail
              (with_reducible refine C1.out.mono ?_)
              rintro e y1 ⟨v3, rfl, hown, hg, hloc⟩
              have st1 := ST0.out.step hown hg hloc
              clear hown hg hloc C1 c0 c1 c2 c3 fb0 fb1 fb2
              have fx0 := cell_at_block (off := 0) st1.hx rfl
              have fx1 := cell_at_block (off := 1) st1.hx rfl
              have fx2 := cell_at_block (off := 2) st1.hx rfl
              have fx3 := cell_at_block (off := 3) st1.hx rfl
              have fr0 := cell_at_block (off := 0) st1.hr rfl
              have fr1 := cell_at_block (off := 1) st1.hr rfl
              have fr2 := cell_at_block (off := 2) st1.hr rfl
              have fb0 := cell_at_block (off := 0) st1.hb rfl
              have fb1 := cell_at_block (off := 1) st1.hb rfl
              have fb2 := cell_at_block (off := 2) st1.hb rfl
              have C2 := Lib.hid (numbered_any w1.heap.size _ (L ++ numB (x.r.at_ - bf.at_)) (x.r.key - bf.key) _ st1.own st1.lob (by omega) (by omega) (by first | omega | (simp only [List.length_append]; omega)))
              have ST1 := Lib.hid st1
              clear st1
              go_wp2_with fail
              (with_reducible refine C2.out.mono ?_)
              rintro e y2 ⟨v4, rfl, hown, hg, hloc⟩
              have st2 := ST1.out.step hown hg hloc
              clear hown hg hloc C2 fx0 fx1 fx2 fx3 fr0 fr1 fr2 fb0 fb1 fb2
              have fx0 := cell_at_block (off := 0) st2.hx rfl
              have fx1 := cell_at_block (off := 1) st2.hx rfl
              have fx2 := cell_at_block (off := 2) st2.hx rfl
              have fx3 := cell_at_block (off := 3) st2.hx rfl
              have fr0 := cell_at_block (off := 0) st2.hr rfl
              have fr1 := cell_at_block (off := 1) st2.hr rfl
              have fr2 := cell_at_block (off := 2) st2.hr rfl
              have fb0 := cell_at_block (off := 0) st2.hb rfl
              have fb1 := cell_at_block (off := 1) st2.hb rfl
              have fb2 := cell_at_block (off := 2) st2.hb rfl
              have C3 := Lib.hid (numbered_any w1.heap.size _ ((L ++ numB (x.r.at_ - bf.at_)) ++ numB (x.r.key - bf.key)) (x.r.val - bf.val) _ st2.own st2.lob (by omega) (by omega) (by first | omega | (simp only [List.length_append]; omega)))
              have ST2 := Lib.hid st2
              clear st2
              go_wp2_with fail
              (with_reducible refine C3.out.mono ?_)
              rintro e y3 ⟨v5, rfl, hown, hg, hloc⟩
              have st3 := ST2.out.step hown hg hloc
              clear hown hg hloc C3 fx0 fx1 fx2 fx3 fr0 fr1 fr2 fb0 fb1 fb2
              have fx0 := cell_at_block (off := 0) st3.hx rfl
              have fx1 := cell_at_block (off := 1) st3.hx rfl
              have fx2 := cell_at_block (off := 2) st3.hx rfl
              have fx3 := cell_at_block (off := 3) st3.hx rfl
              have fr0 := cell_at_block (off := 0) st3.hr rfl
              have fr1 := cell_at_block (off := 1) st3.hr rfl
              have fr2 := cell_at_block (off := 2) st3.hr rfl
              have fb0 := cell_at_block (off := 0) st3.hb rfl
              have fb1 := cell_at_block (off := 1) st3.hb rfl
              have fb2 := cell_at_block (off := 2) st3.hb rfl
              have C4 := Lib.hid (signed_any w1.heap.size _ (((L ++ numB (x.r.at_ - bf.at_)) ++ numB (x.r.key - bf.key)) ++ numB (x.r.val - bf.val)) (x.n) _ st3.own st3.lob (by omega) (by omega) (by first | omega | (simp only [List.length_append]; omega)))
              have ST3 := Lib.hid st3
              clear st3
              go_wp2_with fail
              (with_reducible refine C4.out.mono ?_)
              rintro e y4 ⟨v6, rfl, hown, hg, hloc⟩
              have st4 := ST3.out.step hown hg hloc
              clear hown hg hloc C4 fx0 fx1 fx2 fx3 fr0 fr1 fr2 fb0 fb1 fb2
              have fx0 := cell_at_block (off := 0) st4.hx rfl
              have fx1 := cell_at_block (off := 1) st4.hx rfl
              have fx2 := cell_at_block (off := 2) st4.hx rfl
              have fx3 := cell_at_block (off := 3) st4.hx rfl
              have fr0 := cell_at_block (off := 0) st4.hr rfl
              have fr1 := cell_at_block (off := 1) st4.hr rfl
              have fr2 := cell_at_block (off := 2) st4.hr rfl
              have fb0 := cell_at_block (off := 0) st4.hb rfl
              have fb1 := cell_at_block (off := 1) st4.hb rfl
              have fb2 := cell_at_block (off := 2) st4.hb rfl
              have g0 := free_at_block (off := 0) st4.hb
              have g1 := free_at_block (off := 1) st4.hb
              have g2 := free_at_block (off := 2) st4.hb
              have S3 := Lib.hid (set3 st4.hb (.int .i64 x.r.at_) (.int .i64 x.r.key) (.int .i64 x.r.val))
              have ST4 := Lib.hid st4
              clear st4
              go_wp2_with fail
              refine ⟨⟨k + 1, by omega, by go_num, ?_, ST4.out.nb, by rw [HBN.out]; exact S3.out.1, ST4.out.below.grown S3.out.2 ST4.out.below.size (fun q hq => by cases hq; omega), Nat.le_trans ST4.out.lob S3.out.2.size, hlo0⟩, by simp [intOf]; omega⟩
              have e5 : numB l.length ++ encTo l (k + 1) = (((L ++ numB (x.r.at_ - bf.at_)) ++ numB (x.r.key - bf.key)) ++ numB (x.r.val - bf.val)) ++ intB x.n := by
                rw [HEN.out, ← List.append_assoc, HLE.out, HSM.out]
                simp [encOne, keyB, valB, HKE.out]
              rw [e5]
              exact ST4.out.own.grown S3.out.2 (.inr ST4.out.nb)
            | false =>
              have HKE := Lib.hid hke
              have q1 := numB_length (x.r.at_ - bf.at_)
              have q2 := numB_length (x.r.key - bf.key)
              have q3 := intB_length x.r.val
              have st0 : BSt w1.heap.size wr.heap.size (wr.heap.size + 1) gb w1 #[.int .i64 x.r.at_, .int .i64 x.r.key, .int .i64 x.r.val, .int .i64 x.n] #[.int .i64 x.r.at_, .int .i64 x.r.key, .int .i64 x.r.val] #[.int .i64 bf.at_, .int .i64 bf.key, .int .i64 bf.val] ((wr.alloc (.cells #[.int .i64 x.r.at_, .int .i64 x.r.key, .int .i64 x.r.val, .int .i64 x.n] 33)).alloc (.cells #[.int .i64 x.r.at_, .int .i64 x.r.key, .int .i64 x.r.val] 31)) u4 L := bst0 ho HNE.out hgb HB.out hlo hlo0
              have fb0 := cell_at_block (off := 0) hgb rfl
              have fb1 := cell_at_block (off := 1) hgb rfl
              have fb2 := cell_at_block (off := 2) hgb rfl
              clear ho hgb
              have C1 := Lib.hid (numbered_any w1.heap.size _ (L) (x.r.at_ - bf.at_) _ st0.own st0.lob (by omega) (by omega) (by first | omega | (simp only [List.length_append]; omega)))
              have ST0 := Lib.hid st0
              clear st0
              go_wp2_with fail
              (with_reducible refine C1.out.mono ?_)
              rintro e y1 ⟨v3, rfl, hown, hg, hloc⟩
              have st1 := ST0.out.step hown hg hloc
              clear hown hg hloc C1 c0 c1 c2 c3 fb0 fb1 fb2
              have fx0 := cell_at_block (off := 0) st1.hx rfl
              have fx1 := cell_at_block (off := 1) st1.hx rfl
              have fx2 := cell_at_block (off := 2) st1.hx rfl
              have fx3 := cell_at_block (off := 3) st1.hx rfl
              have fr0 := cell_at_block (off := 0) st1.hr rfl
              have fr1 := cell_at_block (off := 1) st1.hr rfl
              have fr2 := cell_at_block (off := 2) st1.hr rfl
              have fb0 := cell_at_block (off := 0) st1.hb rfl
              have fb1 := cell_at_block (off := 1) st1.hb rfl
              have fb2 := cell_at_block (off := 2) st1.hb rfl
              have C2 := Lib.hid (numbered_any w1.heap.size _ (L ++ numB (x.r.at_ - bf.at_)) (x.r.key - bf.key) _ st1.own st1.lob (by omega) (by omega) (by first | omega | (simp only [List.length_append]; omega)))
              have ST1 := Lib.hid st1
              clear st1
              go_wp2_with fail
              (with_reducible refine C2.out.mono ?_)
              rintro e y2 ⟨v4, rfl, hown, hg, hloc⟩
              have st2 := ST1.out.step hown hg hloc
              clear hown hg hloc C2 fx0 fx1 fx2 fx3 fr0 fr1 fr2 fb0 fb1 fb2
              have fx0 := cell_at_block (off := 0) st2.hx rfl
              have fx1 := cell_at_block (off := 1) st2.hx rfl
              have fx2 := cell_at_block (off := 2) st2.hx rfl
              have fx3 := cell_at_block (off := 3) st2.hx rfl
              have fr0 := cell_at_block (off := 0) st2.hr rfl
              have fr1 := cell_at_block (off := 1) st2.hr rfl
              have fr2 := cell_at_block (off := 2) st2.hr rfl
              have fb0 := cell_at_block (off := 0) st2.hb rfl
              have fb1 := cell_at_block (off := 1) st2.hb rfl
              have fb2 := cell_at_block (off := 2) st2.hb rfl
              have C3 := Lib.hid (signed_any w1.heap.size _ ((L ++ numB (x.r.at_ - bf.at_)) ++ numB (x.r.key - bf.key)) (x.r.val) _ st2.own st2.lob (by omega) (by omega) (by first | omega | (simp only [List.length_append]; omega)))
              have ST2 := Lib.hid st2
              clear st2
              go_wp2_with fail
              (with_reducible refine C3.out.mono ?_)
              rintro e y3 ⟨v5, rfl, hown, hg, hloc⟩
              have st3 := ST2.out.step hown hg hloc
              clear hown hg hloc C3 fx0 fx1 fx2 fx3 fr0 fr1 fr2 fb0 fb1 fb2
              have fx0 := cell_at_block (off := 0) st3.hx rfl
              have fx1 := cell_at_block (off := 1) st3.hx rfl
              have fx2 := cell_at_block (off := 2) st3.hx rfl
              have fx3 := cell_at_block (off := 3) st3.hx rfl
              have fr0 := cell_at_block (off := 0) st3.hr rfl
              have fr1 := cell_at_block (off := 1) st3.hr rfl
              have fr2 := cell_at_block (off := 2) st3.hr rfl
              have fb0 := cell_at_block (off := 0) st3.hb rfl
              have fb1 := cell_at_block (off := 1) st3.hb rfl
              have fb2 := cell_at_block (off := 2) st3.hb rfl
              have C4 := Lib.hid (signed_any w1.heap.size _ (((L ++ numB (x.r.at_ - bf.at_)) ++ numB (x.r.key - bf.key)) ++ intB x.r.val) (x.n) _ st3.own st3.lob (by omega) (by omega) (by first | omega | (simp only [List.length_append]; omega)))
              have ST3 := Lib.hid st3
              clear st3
              go_wp2_with fail
              (with_reducible refine C4.out.mono ?_)
              rintro e y4 ⟨v6, rfl, hown, hg, hloc⟩
              have st4 := ST3.out.step hown hg hloc
              clear hown hg hloc C4 fx0 fx1 fx2 fx3 fr0 fr1 fr2 fb0 fb1 fb2
              have fx0 := cell_at_block (off := 0) st4.hx rfl
              have fx1 := cell_at_block (off := 1) st4.hx rfl
              have fx2 := cell_at_block (off := 2) st4.hx rfl
              have fx3 := cell_at_block (off := 3) st4.hx rfl
              have fr0 := cell_at_block (off := 0) st4.hr rfl
              have fr1 := cell_at_block (off := 1) st4.hr rfl
              have fr2 := cell_at_block (off := 2) st4.hr rfl
              have fb0 := cell_at_block (off := 0) st4.hb rfl
              have fb1 := cell_at_block (off := 1) st4.hb rfl
              have fb2 := cell_at_block (off := 2) st4.hb rfl
              have g0 := free_at_block (off := 0) st4.hb
              have g1 := free_at_block (off := 1) st4.hb
              have g2 := free_at_block (off := 2) st4.hb
              have S3 := Lib.hid (set3 st4.hb (.int .i64 x.r.at_) (.int .i64 x.r.key) (.int .i64 x.r.val))
              have ST4 := Lib.hid st4
              clear st4
              go_wp2_with fail
              refine ⟨⟨k + 1, by omega, by go_num, ?_, ST4.out.nb, by rw [HBN.out]; exact S3.out.1, ST4.out.below.grown S3.out.2 ST4.out.below.size (fun q hq => by cases hq; omega), Nat.le_trans ST4.out.lob S3.out.2.size, hlo0⟩, by simp [intOf]; omega⟩
              have e5 : numB l.length ++ encTo l (k + 1) = (((L ++ numB (x.r.at_ - bf.at_)) ++ numB (x.r.key - bf.key)) ++ intB x.r.val) ++ intB x.n := by
                rw [HEN.out, ← List.append_assoc, HLE.out, HSM.out]
                simp [encOne, keyB, valB, HKE.out]
              rw [e5]
              exact ST4.out.own.grown S3.out.2 (.inr ST4.out.nb)
          | false =>
            have hs : sameB l k x = false := by rw [hsm, hat]; simp
            have HSM := Lib.hid hs
            clear hs hsm
            have q1 := numB_length (x.r.at_ - bf.at_)
            have q2 := intB_length x.r.key
            have q3 := intB_length x.r.val
            have st0 : BSt w1.heap.size wr.heap.size (wr.heap.size + 1) gb w1 #[.int .i64 x.r.at_, .int .i64 x.r.key, .int .i64 x.r.val, .int .i64 x.n] #[.int .i64 x.r.at_, .int .i64 x.r.key, .int .i64 x.r.val] #[.int .i64 bf.at_, .int .i64 bf.key, .int .i64 bf.val] ((wr.alloc (.cells #[.int .i64 x.r.at_, .int .i64 x.r.key, .int .i64 x.r.val, .int .i64 x.n] 33)).alloc (.cells #[.int .i64 x.r.at_, .int .i64 x.r.key, .int .i64 x.r.val] 31)) u4 L := bst0 ho HNE.out hgb HB.out hlo hlo0
            have fb0 := cell_at_block (off := 0) hgb rfl
            have fb1 := cell_at_block (off := 1) hgb rfl
            have fb2 := cell_at_block (off := 2) hgb rfl
            clear ho hgb
            have C1 := Lib.hid (numbered_any w1.heap.size _ (L) (x.r.at_ - bf.at_) _ st0.own st0.lob (by omega) (by omega) (by first | omega | (simp only [List.length_append]; omega)))
            have ST0 := Lib.hid st0
            clear st0
            go_wp2_with fail
            (with_reducible refine C1.out.mono ?_)
            rintro e y1 ⟨v3, rfl, hown, hg, hloc⟩
            have st1 := ST0.out.step hown hg hloc
            clear hown hg hloc C1 c0 c1 c2 c3 fb0 fb1 fb2
            have fx0 := cell_at_block (off := 0) st1.hx rfl
            have fx1 := cell_at_block (off := 1) st1.hx rfl
            have fx2 := cell_at_block (off := 2) st1.hx rfl
            have fx3 := cell_at_block (off := 3) st1.hx rfl
            have fr0 := cell_at_block (off := 0) st1.hr rfl
            have fr1 := cell_at_block (off := 1) st1.hr rfl
            have fr2 := cell_at_block (off := 2) st1.hr rfl
            have fb0 := cell_at_block (off := 0) st1.hb rfl
            have fb1 := cell_at_block (off := 1) st1.hb rfl
            have fb2 := cell_at_block (off := 2) st1.hb rfl
            have C2 := Lib.hid (signed_any w1.heap.size _ (L ++ numB (x.r.at_ - bf.at_)) (x.r.key) _ st1.own st1.lob (by omega) (by omega) (by first | omega | (simp only [List.length_append]; omega)))
            have ST1 := Lib.hid st1
            clear st1
            go_wp2_with fail
            (with_reducible refine C2.out.mono ?_)
            rintro e y2 ⟨v4, rfl, hown, hg, hloc⟩
            have st2 := ST1.out.step hown hg hloc
            clear hown hg hloc C2 fx0 fx1 fx2 fx3 fr0 fr1 fr2 fb0 fb1 fb2
            have fx0 := cell_at_block (off := 0) st2.hx rfl
            have fx1 := cell_at_block (off := 1) st2.hx rfl
            have fx2 := cell_at_block (off := 2) st2.hx rfl
            have fx3 := cell_at_block (off := 3) st2.hx rfl
            have fr0 := cell_at_block (off := 0) st2.hr rfl
            have fr1 := cell_at_block (off := 1) st2.hr rfl
            have fr2 := cell_at_block (off := 2) st2.hr rfl
            have fb0 := cell_at_block (off := 0) st2.hb rfl
            have fb1 := cell_at_block (off := 1) st2.hb rfl
            have fb2 := cell_at_block (off := 2) st2.hb rfl
            have C3 := Lib.hid (signed_any w1.heap.size _ ((L ++ numB (x.r.at_ - bf.at_)) ++ intB x.r.key) (x.r.val) _ st2.own st2.lob (by omega) (by omega) (by first | omega | (simp only [List.length_append]; omega)))
            have ST2 := Lib.hid st2
            clear st2
            go_wp2_with fail
            (with_reducible refine C3.out.mono ?_)
            rintro e y3 ⟨v5, rfl, hown, hg, hloc⟩
            have st3 := ST2.out.step hown hg hloc
            clear hown hg hloc C3 fx0 fx1 fx2 fx3 fr0 fr1 fr2 fb0 fb1 fb2
            have fx0 := cell_at_block (off := 0) st3.hx rfl
            have fx1 := cell_at_block (off := 1) st3.hx rfl
            have fx2 := cell_at_block (off := 2) st3.hx rfl
            have fx3 := cell_at_block (off := 3) st3.hx rfl
            have fr0 := cell_at_block (off := 0) st3.hr rfl
            have fr1 := cell_at_block (off := 1) st3.hr rfl
            have fr2 := cell_at_block (off := 2) st3.hr rfl
            have fb0 := cell_at_block (off := 0) st3.hb rfl
            have fb1 := cell_at_block (off := 1) st3.hb rfl
            have fb2 := cell_at_block (off := 2) st3.hb rfl
            have C4 := Lib.hid (signed_any w1.heap.size _ (((L ++ numB (x.r.at_ - bf.at_)) ++ intB x.r.key) ++ intB x.r.val) (x.n) _ st3.own st3.lob (by omega) (by omega) (by first | omega | (simp only [List.length_append]; omega)))
            have ST3 := Lib.hid st3
            clear st3
            go_wp2_with fail
            (with_reducible refine C4.out.mono ?_)
            rintro e y4 ⟨v6, rfl, hown, hg, hloc⟩
            have st4 := ST3.out.step hown hg hloc
            clear hown hg hloc C4 fx0 fx1 fx2 fx3 fr0 fr1 fr2 fb0 fb1 fb2
            have fx0 := cell_at_block (off := 0) st4.hx rfl
            have fx1 := cell_at_block (off := 1) st4.hx rfl
            have fx2 := cell_at_block (off := 2) st4.hx rfl
            have fx3 := cell_at_block (off := 3) st4.hx rfl
            have fr0 := cell_at_block (off := 0) st4.hr rfl
            have fr1 := cell_at_block (off := 1) st4.hr rfl
            have fr2 := cell_at_block (off := 2) st4.hr rfl
            have fb0 := cell_at_block (off := 0) st4.hb rfl
            have fb1 := cell_at_block (off := 1) st4.hb rfl
            have fb2 := cell_at_block (off := 2) st4.hb rfl
            have g0 := free_at_block (off := 0) st4.hb
            have g1 := free_at_block (off := 1) st4.hb
            have g2 := free_at_block (off := 2) st4.hb
            have S3 := Lib.hid (set3 st4.hb (.int .i64 x.r.at_) (.int .i64 x.r.key) (.int .i64 x.r.val))
            have ST4 := Lib.hid st4
            clear st4
            go_wp2_with fail
            refine ⟨⟨k + 1, by omega, by go_num, ?_, ST4.out.nb, by rw [HBN.out]; exact S3.out.1, ST4.out.below.grown S3.out.2 ST4.out.below.size (fun q hq => by cases hq; omega), Nat.le_trans ST4.out.lob S3.out.2.size, hlo0⟩, by simp [intOf]; omega⟩
            have e5 : numB l.length ++ encTo l (k + 1) = (((L ++ numB (x.r.at_ - bf.at_)) ++ intB x.r.key) ++ intB x.r.val) ++ intB x.n := by
              rw [HEN.out, ← List.append_assoc, HLE.out, HSM.out]
              simp [encOne, keyB, valB]
            rw [e5]
            exact ST4.out.own.grown S3.out.2 (.inr ST4.out.nb)
        · have hg0 : decide ((0 : Int) < (k : Int)) = false := by simpa using hk0
          have hs : sameB l k x = false := by rw [hsm]; simp [hk0]
          have HSM := Lib.hid hs
          clear hs hsm
          have q1 := numB_length (x.r.at_ - bf.at_)
          have q2 := intB_length x.r.key
          have q3 := intB_length x.r.val
          have st0 : BSt w1.heap.size wr.heap.size (wr.heap.size + 1) gb w1 #[.int .i64 x.r.at_, .int .i64 x.r.key, .int .i64 x.r.val, .int .i64 x.n] #[.int .i64 x.r.at_, .int .i64 x.r.key, .int .i64 x.r.val] #[.int .i64 bf.at_, .int .i64 bf.key, .int .i64 bf.val] ((wr.alloc (.cells #[.int .i64 x.r.at_, .int .i64 x.r.key, .int .i64 x.r.val, .int .i64 x.n] 33)).alloc (.cells #[.int .i64 x.r.at_, .int .i64 x.r.key, .int .i64 x.r.val] 31)) u4 L := bst0 ho HNE.out hgb HB.out hlo hlo0
          have fb0 := cell_at_block (off := 0) hgb rfl
          have fb1 := cell_at_block (off := 1) hgb rfl
          have fb2 := cell_at_block (off := 2) hgb rfl
          clear ho hgb
          have C1 := Lib.hid (numbered_any w1.heap.size _ (L) (x.r.at_ - bf.at_) _ st0.own st0.lob (by omega) (by omega) (by first | omega | (simp only [List.length_append]; omega)))
          have ST0 := Lib.hid st0
          clear st0
          go_wp2_with fail
          (with_reducible refine C1.out.mono ?_)
          rintro e y1 ⟨v3, rfl, hown, hg, hloc⟩
          have st1 := ST0.out.step hown hg hloc
          clear hown hg hloc C1 c0 c1 c2 c3 fb0 fb1 fb2
          have fx0 := cell_at_block (off := 0) st1.hx rfl
          have fx1 := cell_at_block (off := 1) st1.hx rfl
          have fx2 := cell_at_block (off := 2) st1.hx rfl
          have fx3 := cell_at_block (off := 3) st1.hx rfl
          have fr0 := cell_at_block (off := 0) st1.hr rfl
          have fr1 := cell_at_block (off := 1) st1.hr rfl
          have fr2 := cell_at_block (off := 2) st1.hr rfl
          have fb0 := cell_at_block (off := 0) st1.hb rfl
          have fb1 := cell_at_block (off := 1) st1.hb rfl
          have fb2 := cell_at_block (off := 2) st1.hb rfl
          have C2 := Lib.hid (signed_any w1.heap.size _ (L ++ numB (x.r.at_ - bf.at_)) (x.r.key) _ st1.own st1.lob (by omega) (by omega) (by first | omega | (simp only [List.length_append]; omega)))
          have ST1 := Lib.hid st1
          clear st1
          go_wp2_with fail
          (with_reducible refine C2.out.mono ?_)
          rintro e y2 ⟨v4, rfl, hown, hg, hloc⟩
          have st2 := ST1.out.step hown hg hloc
          clear hown hg hloc C2 fx0 fx1 fx2 fx3 fr0 fr1 fr2 fb0 fb1 fb2
          have fx0 := cell_at_block (off := 0) st2.hx rfl
          have fx1 := cell_at_block (off := 1) st2.hx rfl
          have fx2 := cell_at_block (off := 2) st2.hx rfl
          have fx3 := cell_at_block (off := 3) st2.hx rfl
          have fr0 := cell_at_block (off := 0) st2.hr rfl
          have fr1 := cell_at_block (off := 1) st2.hr rfl
          have fr2 := cell_at_block (off := 2) st2.hr rfl
          have fb0 := cell_at_block (off := 0) st2.hb rfl
          have fb1 := cell_at_block (off := 1) st2.hb rfl
          have fb2 := cell_at_block (off := 2) st2.hb rfl
          have C3 := Lib.hid (signed_any w1.heap.size _ ((L ++ numB (x.r.at_ - bf.at_)) ++ intB x.r.key) (x.r.val) _ st2.own st2.lob (by omega) (by omega) (by first | omega | (simp only [List.length_append]; omega)))
          have ST2 := Lib.hid st2
          clear st2
          go_wp2_with fail
          (with_reducible refine C3.out.mono ?_)
          rintro e y3 ⟨v5, rfl, hown, hg, hloc⟩
          have st3 := ST2.out.step hown hg hloc
          clear hown hg hloc C3 fx0 fx1 fx2 fx3 fr0 fr1 fr2 fb0 fb1 fb2
          have fx0 := cell_at_block (off := 0) st3.hx rfl
          have fx1 := cell_at_block (off := 1) st3.hx rfl
          have fx2 := cell_at_block (off := 2) st3.hx rfl
          have fx3 := cell_at_block (off := 3) st3.hx rfl
          have fr0 := cell_at_block (off := 0) st3.hr rfl
          have fr1 := cell_at_block (off := 1) st3.hr rfl
          have fr2 := cell_at_block (off := 2) st3.hr rfl
          have fb0 := cell_at_block (off := 0) st3.hb rfl
          have fb1 := cell_at_block (off := 1) st3.hb rfl
          have fb2 := cell_at_block (off := 2) st3.hb rfl
          have C4 := Lib.hid (signed_any w1.heap.size _ (((L ++ numB (x.r.at_ - bf.at_)) ++ intB x.r.key) ++ intB x.r.val) (x.n) _ st3.own st3.lob (by omega) (by omega) (by first | omega | (simp only [List.length_append]; omega)))
          have ST3 := Lib.hid st3
          clear st3
          go_wp2_with fail
          (with_reducible refine C4.out.mono ?_)
          rintro e y4 ⟨v6, rfl, hown, hg, hloc⟩
          have st4 := ST3.out.step hown hg hloc
          clear hown hg hloc C4 fx0 fx1 fx2 fx3 fr0 fr1 fr2 fb0 fb1 fb2
          have fx0 := cell_at_block (off := 0) st4.hx rfl
          have fx1 := cell_at_block (off := 1) st4.hx rfl
          have fx2 := cell_at_block (off := 2) st4.hx rfl
          have fx3 := cell_at_block (off := 3) st4.hx rfl
          have fr0 := cell_at_block (off := 0) st4.hr rfl
          have fr1 := cell_at_block (off := 1) st4.hr rfl
          have fr2 := cell_at_block (off := 2) st4.hr rfl
          have fb0 := cell_at_block (off := 0) st4.hb rfl
          have fb1 := cell_at_block (off := 1) st4.hb rfl
          have fb2 := cell_at_block (off := 2) st4.hb rfl
          have g0 := free_at_block (off := 0) st4.hb
          have g1 := free_at_block (off := 1) st4.hb
          have g2 := free_at_block (off := 2) st4.hb
          have S3 := Lib.hid (set3 st4.hb (.int .i64 x.r.at_) (.int .i64 x.r.key) (.int .i64 x.r.val))
          have ST4 := Lib.hid st4
          clear st4
          go_wp2_with fail
          refine ⟨⟨k + 1, by omega, by go_num, ?_, ST4.out.nb, by rw [HBN.out]; exact S3.out.1, ST4.out.below.grown S3.out.2 ST4.out.below.size (fun q hq => by cases hq; omega), Nat.le_trans ST4.out.lob S3.out.2.size, hlo0⟩, by simp [intOf]; omega⟩
          have e5 : numB l.length ++ encTo l (k + 1) = (((L ++ numB (x.r.at_ - bf.at_)) ++ intB x.r.key) ++ intB x.r.val) ++ intB x.n := by
            rw [HEN.out, ← List.append_assoc, HLE.out, HSM.out]
            simp [encOne, keyB, valB]
          rw [e5]
          exact ST4.out.own.grown S3.out.2 (.inr ST4.out.nb)
        -- CASES TO HERE
      · have hk' : k = n := by omega
        subst hk'
        clear hRk hlt
        have e2 : bytesOf l = numB l.length ++ encTo l k := by rw [bytesOf, HLL.out]
        have ho := HO.out
        rw [← e2] at ho
        obtain ⟨A5, cap5, he5, hr5⟩ := ho.rd bv_length
        subst he5
        have hcap5 := Lib.hid ho.cap_le
        clear ho e2
        go_wp2_with fail
        go_ret2
        exact ⟨A5, cap5, rfl, hr5.low HB1.out.size, bchain HB1.out HB.out, hcap5.out⟩
end Go.Proofs.Bg
end

section
/- The contract of Pair. -/
namespace Go.Proofs.Bg
open Go.RowKit

def clampI (n : Int) : Int := min (max n (-1000000000)) 1000000000
theorem clamped_any (n : Int) (w : World) : Calls Tryd.prog 33 #[.int .i64 n] w fun e w' => e = .returned (.int .i64 (clampI n)) ∧ w' = w := by
  go_enter Tryd.func33, Tryd.ntmps33
  go_wp2
  go_ret
  exact ⟨ret_int rfl, rfl⟩
theorem clampI_bd (n : Int) : -1000000000 ≤ clampI n ∧ clampI n ≤ 1000000000 := by unfold clampI; omega

/-- What two items give. -/
def pairIt (apart : Int) (x y : It) : List It :=
  if x.r.key = y.r.key ∧ max x.r.at_ y.r.at_ - min x.r.at_ y.r.at_ ≤ apart then [⟨⟨max x.r.at_ y.r.at_, x.r.key, clampI (x.r.val + y.r.val)⟩, x.n * y.n⟩] else []
def rowIts (apart : Int) (x : It) (b : List It) : List It := b.flatMap (pairIt apart x)
def pairIts (apart : Int) (a b : List It) : List It := a.flatMap fun x => rowIts apart x b
def pairR (a b : List It) (apart : Int) : List It × Int := if bagB a && bagB b && decide (0 ≤ apart) then (bagOr (pairIts apart a b), errOr (pairIts apart a b)) else ([], 2)

theorem pairIt_length (apart : Int) (x y : It) : (pairIt apart x y).length ≤ 1 := by unfold pairIt; split <;> simp
theorem rowIts_length (apart : Int) (x : It) (b : List It) : (rowIts apart x b).length ≤ b.length := by
  induction b with
  | nil => simp [rowIts]
  | cons y r ih =>
    have := pairIt_length apart x y
    simp only [rowIts, List.flatMap_cons, List.length_append, List.length_cons] at ih ⊢
    omega
theorem pairIts_length (apart : Int) (a b : List It) : (pairIts apart a b).length ≤ a.length * b.length := by
  induction a with
  | nil => simp [pairIts]
  | cons x r ih =>
    have := rowIts_length apart x b
    have e : (x :: r).length * b.length = r.length * b.length + b.length := by rw [List.length_cons, Nat.add_mul, Nat.one_mul]
    simp only [pairIts, List.flatMap_cons, List.length_append] at ih ⊢
    rw [e]
    omega
theorem mul_bd {a b A B : Int} (h1 : -A ≤ a) (h2 : a ≤ A) (h3 : -B ≤ b) (h4 : b ≤ B) (hB : 0 ≤ B) : -(A * B) ≤ a * b ∧ a * b ≤ A * B := by
  have hA : 0 ≤ A := by omega
  rcases Int.le_total 0 a with ha | ha <;> rcases Int.le_total 0 b with hb | hb
  · have := Int.mul_le_mul h2 h4 hb hA
    have := Int.mul_nonneg ha hb
    have := Int.mul_nonneg hA hB
    omega
  · have e : a * b = -(a * -b) := by rw [Int.mul_neg, Int.neg_neg]
    have := Int.mul_le_mul (b := -b) (d := B) h2 (by omega) (by omega) hA
    have := Int.mul_nonneg ha (show 0 ≤ -b by omega)
    have := Int.mul_nonneg hA hB
    omega
  · have e : a * b = -(-a * b) := by rw [Int.neg_mul, Int.neg_neg]
    have := Int.mul_le_mul (a := -a) (c := A) (by omega) h4 hb hA
    have := Int.mul_nonneg (show 0 ≤ -a by omega) hb
    have := Int.mul_nonneg hA hB
    omega
  · have e : a * b = (-a) * (-b) := by rw [Int.neg_mul_neg]
    have := Int.mul_le_mul (a := -a) (c := A) (b := -b) (d := B) (by omega) (by omega) (by omega) hA
    have := Int.mul_nonneg (show 0 ≤ -a by omega) (show 0 ≤ -b by omega)
    have := Int.mul_nonneg hA hB
    omega
theorem fits_pair (apart : Int) {a b : List It} (ha : bagB a = true) (hb : bagB b = true) : Fits (pairIts apart a b) := by
  rw [bagB_spec] at ha hb
  have h : ∀ z ∈ pairIts apart a b, z.r.ok ∧ -1000000000000 ≤ z.n ∧ z.n ≤ 1000000000000 := fun z hz => by
    obtain ⟨x, hx, hz⟩ := List.mem_flatMap.1 hz
    obtain ⟨y, hy, hz⟩ := List.mem_flatMap.1 hz
    have hx' := (itB_spec x).1 (ha.1 x hx)
    have hy' := (itB_spec y).1 (hb.1 y hy)
    unfold pairIt at hz
    split at hz
    · simp at hz
      subst hz
      have := clampI_bd (x.r.val + y.r.val)
      have hm := mul_bd (a := x.n) (b := y.n) (A := 1000000) (B := 1000000) (by omega) (by omega) (by omega) (by omega) (by omega)
      refine ⟨?_, by show _ ≤ x.n * y.n; omega, by show x.n * y.n ≤ _; omega⟩
      unfold Rc.ok I64
      show (_ ≤ max x.r.at_ y.r.at_ ∧ max x.r.at_ y.r.at_ ≤ _) ∧ (_ ≤ x.r.key ∧ x.r.key ≤ _) ∧ (_ ≤ clampI (x.r.val + y.r.val) ∧ clampI (x.r.val + y.r.val) ≤ _)
      omega
    · cases hz
  have hl := pairIts_length apart a b
  have hl2 : a.length * b.length ≤ 300 * 300 := Nat.mul_le_mul ha.2.2 hb.2.2
  exact ⟨fun z hz => (h z hz).1, 1000000000000, by omega, fun z hz => (h z hz).2, by omega⟩
theorem rowIts_take (apart : Int) (x : It) (b : List It) (j : Nat) (y : It) (h : b[j]? = some y) : rowIts apart x (b.take (j + 1)) = rowIts apart x (b.take j) ++ pairIt apart x y := by
  unfold rowIts
  rw [List.take_add_one, h]
  simp
theorem pairIts_take (apart : Int) (a b : List It) (k : Nat) (x : It) (h : a[k]? = some x) : pairIts apart (a.take (k + 1)) b = pairIts apart (a.take k) b ++ rowIts apart x b := by
  unfold pairIts
  rw [List.take_add_one, h]
  simp
theorem rowIts_split (apart : Int) (x : It) (b : List It) (j : Nat) (y : It) (h : b[j]? = some y) : ∃ rest, rowIts apart x b = rowIts apart x (b.take j) ++ pairIt apart x y ++ rest := by
  refine ⟨rowIts apart x (b.drop (j + 1)), ?_⟩
  rw [← rowIts_take apart x b j y h]
  unfold rowIts
  rw [← List.flatMap_append, List.take_append_drop]
theorem pairIts_split (apart : Int) (a b : List It) (k j : Nat) (x y : It) (h : a[k]? = some x) (hj : b[j]? = some y) : ∃ rest, pairIts apart a b = (pairIts apart (a.take k) b ++ rowIts apart x (b.take j)) ++ pairIt apart x y ++ rest := by
  obtain ⟨r1, e1⟩ := rowIts_split apart x b j y hj
  refine ⟨r1 ++ pairIts apart (a.drop (k + 1)) b, ?_⟩
  have e2 : pairIts apart a b = pairIts apart (a.take (k + 1)) b ++ pairIts apart (a.drop (k + 1)) b := by
    unfold pairIts
    rw [← List.flatMap_append, List.take_append_drop]
  rw [e2, pairIts_take apart a b k x h, e1]
  simp

/-- What the loops hold. -/
def PairRel (w0 : World) (r0 : Nat) (L : List It) (wr : World) : Prop := SumIs wr r0 L ∧ Below w0.heap.size w0 wr
def PairIn (w0 : World) (r0 gx : Nat) (x : It) (L : List It) (wr : World) : Prop := PairRel w0 r0 L wr ∧ wr.heap[gx]? = some (.cells #[.int .i64 x.r.at_, .int .i64 x.r.key, .int .i64 x.r.val, .int .i64 x.n] 33)

set_option maxRecDepth 100000 in
set_option maxHeartbeats 2000000 in
theorem Pair_any (A B : Option Addr) (n m capA capB : Nat) (a b : List It) (apart : Int) (w : World) (hA : Rd It.vs 4 w 0 A n a) (hB : Rd It.vs 4 w 0 B m b) :
    Calls Tryd.prog 9 #[.slice A n capA, .slice B m capB, .int .i64 apart] w (RetBag w (pairR a b apart)) := by
  have q1 := isBag_any A n capA a w hA
  have Q1 := Lib.hid q1
  have HA := Lib.hid hA
  have HB := Lib.hid hB
  clear q1 hA hB
  cases ga : bagB a with
  | false =>
    have e1 : pairR a b apart = ([], 2) := by simp [pairR, ga]
    rw [e1]
    have GA := Lib.hid ga
    clear ga e1
    go_enter Tryd.func9, Tryd.ntmps9
    go_wp2_with (go_at_call 29; refine Q1.out.mono ?_; rintro e w1 ⟨rfl, hb1⟩; rw [GA.out]; have HB1 := Lib.hid hb1; clear hb1)
    go_ret2
    exact ⟨none, 0, rfl, Rd.nil _ _ _, HB1.out⟩
  | true =>
    cases gb : bagB b with
    | false =>
      have e1 : pairR a b apart = ([], 2) := by simp [pairR, gb]
      rw [e1]
      have GA := Lib.hid ga
      have GB := Lib.hid gb
      clear ga gb e1
      go_enter Tryd.func9, Tryd.ntmps9
      go_wp2_with fail
      refine Q1.out.mono ?_
      rintro e w1 ⟨rfl, hb1⟩
      rw [GA.out]
      have Q2 := Lib.hid (isBag_any B m capB b w1 (HB.out.below hb1))
      have HB1 := Lib.hid hb1
      clear hb1
      go_wp2_with (go_at_call 29; refine Q2.out.mono ?_; rintro e w2 ⟨rfl, hb2⟩; rw [GB.out]; have HB2 := Lib.hid hb2; clear hb2)
      go_ret2
      exact ⟨none, 0, rfl, Rd.nil _ _ _, bchain HB1.out HB2.out⟩
    | true =>
      by_cases hap : 0 ≤ apart
      · have e1 : pairR a b apart = (bagOr (pairIts apart a b), errOr (pairIts apart a b)) := by simp [pairR, ga, gb, hap]
        rw [e1]
        have GA := Lib.hid ga
        have GB := Lib.hid gb
        have hmm := @run_makeMap Tryd.prog
        clear ga gb e1
        go_enter Tryd.func9, Tryd.ntmps9
        go_wp2_with fail
        refine Q1.out.mono ?_
        rintro e w1 ⟨rfl, hb1⟩
        rw [GA.out]
        have Q2 := Lib.hid (isBag_any B m capB b w1 (HB.out.below hb1))
        have HB1 := Lib.hid hb1
        clear hb1
        go_wp2_with (go_at_call 29; refine Q2.out.mono ?_; rintro e w2 ⟨rfl, hb2⟩; rw [GB.out]; have HB2 := Lib.hid hb2; clear hb2)
        have HF := Lib.hid (fits_pair apart GA.out GB.out)
        have hA2 := HA.out.below (bchain HB1.out HB2.out)
        have hB2 := HB.out.below (bchain HB1.out HB2.out)
        have HA2 := Lib.hid hA2
        have HB2' := Lib.hid hB2
        have hn1 := hA2.le
        have hn2 := hB2.le
        have hr0 : PairRel w2 w2.heap.size (pairIts apart (a.take 0) b) (w2.alloc (.map #[] 0)) := ⟨SumIs.made w2, below_new _ _⟩
        have HR0 := Lib.hid hr0
        clear hmm hA2 hB2 HA HB hr0
        go_loopw [10, 12, 28, 32, 33, 34] (fun _ _ i _ _ _ wr => ∃ k : Nat, k ≤ n ∧ i = .int .i64 k ∧ PairRel w2 w2.heap.size (pairIts apart (a.take k) b) wr) (fun _ _ i _ _ _ _ => n - (intOf i).toNat)
        case atStart => exact ⟨0, by omega, rfl, HR0.out⟩
        case round =>
          obtain ⟨k, hk, rfl, hS, hBr⟩ := hrel
          have hRa := HA2.out.below hBr
          have hr0lt := hS.lt
          have HS := Lib.hid hS
          have HBr := Lib.hid hBr
          clear hS hBr
          by_cases hlt : k < n
          · obtain ⟨bb, off, x, rfl, _, hx, c0, c1, c2, c3⟩ := hRa.it_at hlt
            have HX := Lib.hid hx
            clear hx hRa
            go_wp2_with fail
            obtain ⟨wo, rfl⟩ : ∃ wo : World, wo = wr := ⟨_, rfl⟩
            go_loopw [12, 34] (fun _ i wi => ∃ j : Nat, j ≤ m ∧ i = .int .i64 j ∧ PairIn w2 w2.heap.size wo.heap.size x (pairIts apart (a.take k) b ++ rowIts apart x (b.take j)) wi) (fun _ i _ => m - (intOf i).toNat)
            case atStart => exact ⟨0, by omega, rfl, ⟨by simpa [rowIts] using HS.out.alloc _, HBr.out.alloc (by omega) _⟩, new_block _ _ _⟩
            case round =>
              obtain ⟨j, hj, rfl, ⟨hS1, hB1⟩, hgx⟩ := hrel
              have hgl : wo.heap.size < wr.heap.size := (Array.getElem?_eq_some_iff.1 hgx).1
              have hRb := HB2'.out.below hB1
              have HS1 := Lib.hid hS1
              have HB1i := Lib.hid hB1
              have HGX := Lib.hid hgx
              clear hS1 hB1 hgx
              by_cases hjl : j < m
              · obtain ⟨b2, off2, y, rfl, _, hy, d0, d1, d2, d3⟩ := hRb.it_at hjl
                have HY := Lib.hid hy
                have f0 := cell_at_block (off := 0) HGX.out rfl
                have f1 := cell_at_block (off := 1) HGX.out rfl
                have f2 := cell_at_block (off := 2) HGX.out rfl
                have f3 := cell_at_block (off := 3) HGX.out rfl
                have hxi := (itB_spec x).1 (((bagB_spec a).1 GA.out).1 x (List.mem_of_getElem? HX.out))
                have hyi := (itB_spec y).1 (((bagB_spec b).1 GB.out).1 y (List.mem_of_getElem? HY.out))
                obtain ⟨⟨x1, x2, x3, x4, x5, x6⟩, x7, x8, x9⟩ := hxi
                obtain ⟨⟨y1, y2, y3, y4, y5, y6⟩, y7, y8, y9⟩ := hyi
                clear hy hRb x7 y7
                have hmx1 : 0 ≤ max x.r.at_ y.r.at_ := by omega
                have hmx2 : max x.r.at_ y.r.at_ ≤ 200 := by omega
                have hmn1 : 0 ≤ min x.r.at_ y.r.at_ := by omega
                have hmn2 : min x.r.at_ y.r.at_ ≤ 200 := by omega
                cases hke : (x.r.key != y.r.key) with
                | true =>
                  have hp0 : pairIt apart x y = [] := by have := bne_iff_ne.1 hke; simp [pairIt, this]
                  have HP0 := Lib.hid hp0
                  clear hp0
                  go_wp2_with fail
                  refine ⟨⟨j + 1, by omega, by go_num, ⟨?_, HB1i.out.alloc HB1i.out.size _⟩, (Below.heap_alloc _ _ _ hgl).trans HGX.out⟩, by simp [intOf]; omega⟩
                  rw [rowIts_take apart x b j y HY.out, HP0.out, List.append_nil]
                  exact HS1.out.alloc _
                | false =>
                  by_cases hfar : max x.r.at_ y.r.at_ - min x.r.at_ y.r.at_ ≤ apart
                  · have hke' : x.r.key = y.r.key := by simpa using hke
                    have hp1 : pairIt apart x y = [⟨⟨max x.r.at_ y.r.at_, x.r.key, clampI (x.r.val + y.r.val)⟩, x.n * y.n⟩] := by rw [pairIt, if_pos ⟨hke', hfar⟩]
                    have HP1 := Lib.hid hp1
                    obtain ⟨rest, hrest⟩ := pairIts_split apart a b k j x y HX.out HY.out
                    have hput := HF.out.put (P := pairIts apart (a.take k) b ++ rowIts apart x (b.take j)) (rest := rest) (by rw [hrest, hp1])
                    have HP := Lib.hid (put_sum w2.heap.size _ _ (wr.alloc (.cells #[.int .i64 y.r.at_, .int .i64 y.r.key, .int .i64 y.r.val, .int .i64 y.n] 33)).drew (HS1.out.alloc _) hput.1 hput.2)
                    have hm := mul_bd (a := x.n) (b := y.n) (A := 1000000) (B := 1000000) (by omega) (by omega) (by omega) (by omega) (by omega)
                    have hw1 : IntKind.i64.wrap (x.n * y.n) = x.n * y.n := IntWalk.i64_in _ (by omega)
                    have hw2 : IntKind.i64.wrap (x.r.val + y.r.val) = x.r.val + y.r.val := IntWalk.i64_in _ (by omega)
                    clear hke' hp1 hrest hput hm
                    go_wp2_with fail
                    refine wp_region_still_tail 25 (by kernel_rfl) (by kernel_rfl) ?_
                    simp only [List.take_succ_cons, List.take_zero, List.drop_succ_cons, List.drop_zero]
                    change wpStill _ _ (World.drew _) _ _ _
                    repeat (first | (still_call (clamped_any _ _)) | still_step)
                    refine wpStill_nil ?_
                    change wpList _ _ _ _ _ (World.drew (wr.alloc _))
                    go_wp2_with (go_at_call 32; (with_reducible refine HP.out.mono ?_); rintro e w5 ⟨rfl, hs5, hg5⟩)
                    have hz1 := HB1i.out.size
                    refine ⟨⟨j + 1, by omega, by go_num, ⟨?_, ((HB1i.out.alloc hz1 _).drew).grown hg5 (by simp; omega) (fun q hq => by cases hq; exact Nat.le_refl _)⟩, ?_⟩, by simp [intOf]; omega⟩
                    · rw [rowIts_take apart x b j y HY.out, HP1.out, ← List.append_assoc]
                      exact hs5
                    · exact (hg5.block wo.heap.size (by simp; omega) (by simp; omega)).trans ((Below.heap_alloc _ _ _ hgl).trans HGX.out)
                  · have hp0 : pairIt apart x y = [] := by rw [pairIt, if_neg (fun h => hfar h.2)]
                    have HP0 := Lib.hid hp0
                    clear hp0
                    go_wp2_with fail
                    refine ⟨⟨j + 1, by omega, by go_num, ⟨?_, HB1i.out.alloc HB1i.out.size _⟩, (Below.heap_alloc _ _ _ hgl).trans HGX.out⟩, by simp [intOf]; omega⟩
                    rw [rowIts_take apart x b j y HY.out, HP0.out, List.append_nil]
                    exact HS1.out.alloc _
              · have hj' : j = m := by omega
                subst hj'
                clear hRb hjl
                go_wp2_with fail
                refine ⟨⟨k + 1, by omega, by go_num, ?_, HB1i.out⟩, by simp [intOf]; omega⟩
                have e := HS1.out
                rw [List.take_of_length_le (l := b) (by rw [HB2'.out.len]; exact Nat.le_refl _)] at e
                rw [pairIts_take apart a b k x HX.out]
                exact e
          · have hk' : k = n := by omega
            subst hk'
            clear hRa hlt
            have e0 : a.take k = a := List.take_of_length_le (by rw [HA2.out.len]; exact Nat.le_refl _)
            have HS2 := HS.out
            rw [e0] at HS2
            have hlen : (pairIts apart a b).length * 32 ≤ 140737488355328 := by
              have h1 := pairIts_length apart a b
              have h2 : a.length * b.length ≤ 300 * 300 := Nat.mul_le_mul ((bagB_spec a).1 GA.out).2.2 ((bagB_spec b).1 GB.out).2.2
              omega
            have HBg := Lib.hid (bag_sum _ _ _ HS2 HF.out.ok hlen)
            clear HS2 hlen e0
            go_wp2_with (go_at_call 31; (with_reducible refine HBg.out.mono ?_); rintro e w5 ⟨A5, cap5, rfl, hr5, hb5⟩)
            go_ret2
            exact ⟨A5, cap5, rfl, hr5.low (by have := HB1.out.size; have := HB2.out.size; have := HBr.out.size; omega), bchain (bchain (bchain HB1.out HB2.out) HBr.out) hb5⟩
      · have e1 : pairR a b apart = ([], 2) := by simp [pairR, hap]
        rw [e1]
        have GA := Lib.hid ga
        have GB := Lib.hid gb
        clear ga gb e1
        go_enter Tryd.func9, Tryd.ntmps9
        go_wp2_with fail
        refine Q1.out.mono ?_
        rintro e w1 ⟨rfl, hb1⟩
        rw [GA.out]
        have Q2 := Lib.hid (isBag_any B m capB b w1 (HB.out.below hb1))
        have HB1 := Lib.hid hb1
        clear hb1
        go_wp2_with (go_at_call 29; refine Q2.out.mono ?_; rintro e w2 ⟨rfl, hb2⟩; rw [GB.out]; have HB2 := Lib.hid hb2; clear hb2)
        go_ret2
        exact ⟨none, 0, rfl, Rd.nil _ _ _, bchain HB1.out HB2.out⟩
end Go.Proofs.Bg
end

section
/- The chapter's examples, computed by the plain law. -/
namespace Go.Proofs.Bg

def kAdd : List It := [⟨⟨1, 2, 5⟩, -2⟩, ⟨⟨2, 2, 7⟩, 3⟩, ⟨⟨4, 0, 0⟩, 1⟩]
def kNeg : List It := [⟨⟨1, 2, 3⟩, 1⟩, ⟨⟨2, 2, 7⟩, -3⟩]
def kNew0 : List It := [⟨⟨4, 0, 0⟩, 2⟩, ⟨⟨1, 1, 1⟩, 5⟩, ⟨⟨4, 0, 0⟩, -2⟩]
def kNew : List It := [⟨⟨1, 1, 1⟩, 5⟩]
def kPair : List It := [⟨⟨1, 2, 6⟩, -1⟩, ⟨⟨1, 2, 8⟩, 2⟩, ⟨⟨2, 2, 10⟩, 3⟩, ⟨⟨2, 2, 12⟩, -6⟩]
def kEds : List Ed := [⟨2, ⟨4, 0, 0⟩, zRc, 1⟩, ⟨3, ⟨1, 2, 3⟩, ⟨1, 2, 5⟩, 2⟩, ⟨1, zRc, ⟨2, 2, 7⟩, 3⟩]
def kText : List UInt8 := [49, 32, 50, 32, 51, 32, 49, 59, 32, 49, 32, 50, 32, 53, 32, 45, 50, 59, 32, 52, 32, 48, 32, 48, 32, 49]
def kBytes : List Int := [2, 1, 4, 6, 1, 1, 4, 14, 6]
def kSrc : List UInt8 := [49, 32, 50, 32, 51, 32, 48]
theorem vAdd : addR bL cL = (kAdd, 0) := by decide +kernel
theorem vNeg : negR cL = (kNeg, 0) := by decide +kernel
theorem vNew : newR kNew0 = (kNew, 0) := by decide +kernel
theorem vPair : pairR bL cL 1 = (kPair, 0) := by decide +kernel
theorem vEds : editsR bL cL = (kEds, 0) := by decide +kernel
theorem vText : printR bL = (kText, 0) := by decide +kernel
theorem vBytes : bytesR cL = (kBytes, 0) := by decide +kernel
theorem vParse : parseR kSrc = ([], 4) := by decide +kernel
end Go.Proofs.Bg
end

section
/- The reference: Same, SameEdits. -/
namespace Go.Proofs.Bg
open Go.RowKit

theorem It.beq_vs (x y : It) : x = y ↔ x.r.at_ = y.r.at_ ∧ x.r.key = y.r.key ∧ x.r.val = y.r.val ∧ x.n = y.n := by
  obtain ⟨⟨a, k, v⟩, n⟩ := x
  obtain ⟨⟨a', k', v'⟩, n'⟩ := y
  simp [and_assoc]

set_option maxRecDepth 100000 in
set_option maxHeartbeats 2000000 in
theorem Same_any (A B : Option Addr) (n m capA capB : Nat) (a b : List It) (w : World) (hA : Rd It.vs 4 w 0 A n a) (hB : Rd It.vs 4 w 0 B m b) :
    Calls Tryd.prog 35 #[.slice A n capA, .slice B m capB] w fun e w' => e = .returned (.bool (decide (a = b))) ∧ Below w.heap.size w w' := by
  have HA := Lib.hid hA
  have HB := Lib.hid hB
  have hle := hA.le
  have hle2 := hB.le
  clear hA hB
  cases hnm : ((n : Int) != (m : Int)) with
  | true =>
    have hne : decide (a = b) = false := by
      rw [decide_eq_false_iff_not]
      rintro rfl
      have h1 := HA.out.len
      have h2 := HB.out.len
      simp at hnm
      omega
    rw [hne]
    clear hne
    go_enter Tryd.func35, Tryd.ntmps35
    go_wp2
    go_ret
    exact ⟨rfl, Below.refl _ _⟩
  | false =>
    have hE : n = m := by simp at hnm; omega
    subst hE
    go_enter Tryd.func35, Tryd.ntmps35
    go_wp2_with fail
    go_loopw [5, 13] (fun _ i wr => ∃ k : Nat, k ≤ n ∧ i = .int .i64 k ∧ a.take k = b.take k ∧ Below w.heap.size w wr) (fun _ i _ => n - (intOf i).toNat)
    case atStart => exact ⟨0, by omega, rfl, by simp, Below.refl _ _⟩
    case round =>
      obtain ⟨k, hk, rfl, ht, hW⟩ := hrel
      have hRa := HA.out.below hW
      have hRb := HB.out.below hW
      have HW := Lib.hid hW
      have HT := Lib.hid ht
      clear hW ht
      by_cases hlt : k < n
      · obtain ⟨b1, o1, x, rfl, _, hx, c0, c1, c2, c3⟩ := hRa.it_at hlt
        obtain ⟨b2, o2, y, rfl, _, hy, d0, d1, d2, d3⟩ := hRb.it_at hlt
        have HX := Lib.hid hx
        have HY := Lib.hid hy
        have hi0 : (0 : Int) ≤ k := by omega
        have hi1 : (k : Int) < n := by omega
        clear hx hy hRa hRb
        by_cases hxy : x = y
        · subst hxy
          go_wp2_with fail
          go_quiet (fail)
          go_wp2_with fail
          exact ⟨⟨k + 1, by omega, by go_num, by rw [List.take_add_one, List.take_add_one, HX.out, HY.out, HT.out], below_drewN HW.out _⟩, by simp [intOf]; omega⟩
        · have hne : decide (a = b) = false := by
            rw [decide_eq_false_iff_not]
            rintro rfl
            rw [HX.out] at HY
            exact hxy (Option.some.inj HY.out)
          have HNE := Lib.hid hne
          have hq := fun h => hxy ((It.beq_vs x y).2 h)
          clear hne hxy
          cases e0 : (x.r.at_ == y.r.at_) with
          | false =>
            have e0' : (x.r.at_ != y.r.at_) = true := by rw [bne, e0]; rfl
            clear hq
            go_wp2_with fail
            go_quiet (fail)
            go_wp2_with fail
            go_ret
            refine ⟨ret_bool ?_, below_drewN HW.out _⟩
            rw [HNE.out]
          | true =>
            have g0 := beq_iff_eq.1 e0
            rw [← g0] at d0
            cases e1 : (x.r.key == y.r.key) with
            | false =>
              have e1' : (x.r.key != y.r.key) = true := by rw [bne, e1]; rfl
              clear hq e0 g0
              go_wp2_with fail
              go_quiet (fail)
              go_wp2_with fail
              go_ret
              refine ⟨ret_bool ?_, below_drewN HW.out _⟩
              rw [HNE.out]
            | true =>
              have g1 := beq_iff_eq.1 e1
              rw [← g1] at d1
              cases e2 : (x.r.val == y.r.val) with
              | false =>
                have e2' : (x.r.val != y.r.val) = true := by rw [bne, e2]; rfl
                clear hq e0 g0 e1 g1
                go_wp2_with fail
                go_quiet (fail)
                go_wp2_with fail
                go_ret
                refine ⟨ret_bool ?_, below_drewN HW.out _⟩
                rw [HNE.out]
              | true =>
                have g2 := beq_iff_eq.1 e2
                rw [← g2] at d2
                have e3 : (x.n == y.n) = false := by
                  cases h : (x.n == y.n) with
                  | false => rfl
                  | true => exact absurd ⟨g0, g1, g2, beq_iff_eq.1 h⟩ hq
                have e3' : (x.n != y.n) = true := by rw [bne, e3]; rfl
                clear hq e0 g0 e1 g1 e2 g2
                go_wp2_with fail
                go_quiet (fail)
                go_wp2_with fail
                go_ret
                refine ⟨ret_bool ?_, below_drewN HW.out _⟩
                rw [HNE.out]
      · have hk' : k = n := by omega
        subst hk'
        clear hRa hRb hlt
        go_wp2_with fail
        go_ret
        refine ⟨ret_bool ?_, HW.out⟩
        have h := HT.out
        rw [List.take_of_length_le (by rw [HA.out.len]; exact Nat.le_refl _), List.take_of_length_le (by rw [HB.out.len]; exact Nat.le_refl _)] at h
        simp [h]
theorem Ed.beq_vs (x y : Ed) : x = y ↔ x.d = y.d ∧ x.old.at_ = y.old.at_ ∧ x.old.key = y.old.key ∧ x.old.val = y.old.val ∧ x.new.at_ = y.new.at_ ∧ x.new.key = y.new.key ∧ x.new.val = y.new.val ∧ x.n = y.n := by
  obtain ⟨d, ⟨a, k, v⟩, ⟨a2, k2, v2⟩, n⟩ := x
  obtain ⟨d', ⟨a', k', v'⟩, ⟨a2', k2', v2'⟩, n'⟩ := y
  simp [and_assoc]

set_option maxRecDepth 100000 in
set_option maxHeartbeats 2000000 in
theorem SameEdits_any (A B : Option Addr) (n m capA capB : Nat) (a b : List Ed) (w : World) (hA : Rd Ed.vs 8 w 0 A n a) (hB : Rd Ed.vs 8 w 0 B m b) :
    Calls Tryd.prog 37 #[.slice A n capA, .slice B m capB] w fun e w' => e = .returned (.bool (decide (a = b))) ∧ Below w.heap.size w w' := by
  have HA := Lib.hid hA
  have HB := Lib.hid hB
  have hle := hA.le
  have hle2 := hB.le
  clear hA hB
  cases hnm : ((n : Int) != (m : Int)) with
  | true =>
    have hne : decide (a = b) = false := by
      rw [decide_eq_false_iff_not]
      rintro rfl
      have h1 := HA.out.len
      have h2 := HB.out.len
      simp at hnm
      omega
    rw [hne]
    clear hne
    go_enter Tryd.func37, Tryd.ntmps37
    go_wp2
    go_ret
    exact ⟨rfl, Below.refl _ _⟩
  | false =>
    have hE : n = m := by simp at hnm; omega
    subst hE
    go_enter Tryd.func37, Tryd.ntmps37
    go_wp2_with fail
    go_loopw [5, 13] (fun _ i wr => ∃ k : Nat, k ≤ n ∧ i = .int .i64 k ∧ a.take k = b.take k ∧ Below w.heap.size w wr) (fun _ i _ => n - (intOf i).toNat)
    case atStart => exact ⟨0, by omega, rfl, by simp, Below.refl _ _⟩
    case round =>
      obtain ⟨k, hk, rfl, ht, hW⟩ := hrel
      have hRa := HA.out.below hW
      have hRb := HB.out.below hW
      have HW := Lib.hid hW
      have HT := Lib.hid ht
      clear hW ht
      by_cases hlt : k < n
      · obtain ⟨b1, o1, x, rfl, hx, c0, c1, c2, c3, c4, c5, c6, c7⟩ := hRa.ed_at hlt
        obtain ⟨b2, o2, y, rfl, hy, d0, d1, d2, d3, d4, d5, d6, d7⟩ := hRb.ed_at hlt
        have HX := Lib.hid hx
        have HY := Lib.hid hy
        have hi0 : (0 : Int) ≤ k := by omega
        have hi1 : (k : Int) < n := by omega
        clear hx hy hRa hRb
        by_cases hxy : x = y
        · subst hxy
          go_wp2_with fail
          go_quiet (fail)
          go_wp2_with fail
          exact ⟨⟨k + 1, by omega, by go_num, by rw [List.take_add_one, List.take_add_one, HX.out, HY.out, HT.out], below_drewN HW.out _⟩, by simp [intOf]; omega⟩
        · have hne : decide (a = b) = false := by
            rw [decide_eq_false_iff_not]
            rintro rfl
            rw [HX.out] at HY
            exact hxy (Option.some.inj HY.out)
          have HNE := Lib.hid hne
          have hq := fun h => hxy ((Ed.beq_vs x y).2 h)
          clear hne hxy
          cases e0 : (x.d == y.d) with
          | false =>
            have e0' : (x.d != y.d) = true := by rw [bne, e0]; rfl
            clear hq 
            go_wp2_with fail
            go_quiet (fail)
            go_wp2_with fail
            go_ret
            refine ⟨ret_bool ?_, below_drewN HW.out _⟩
            rw [HNE.out]
          | true =>
            have g0 := beq_iff_eq.1 e0
            rw [← g0] at d0
            cases e1 : (x.old.at_ == y.old.at_) with
            | false =>
              have e1' : (x.old.at_ != y.old.at_) = true := by rw [bne, e1]; rfl
              clear hq e0 g0
              go_wp2_with fail
              go_quiet (fail)
              go_wp2_with fail
              go_ret
              refine ⟨ret_bool ?_, below_drewN HW.out _⟩
              rw [HNE.out]
            | true =>
              have g1 := beq_iff_eq.1 e1
              rw [← g1] at d1
              cases e2 : (x.old.key == y.old.key) with
              | false =>
                have e2' : (x.old.key != y.old.key) = true := by rw [bne, e2]; rfl
                clear hq e0 g0 e1 g1
                go_wp2_with fail
                go_quiet (fail)
                go_wp2_with fail
                go_ret
                refine ⟨ret_bool ?_, below_drewN HW.out _⟩
                rw [HNE.out]
              | true =>
                have g2 := beq_iff_eq.1 e2
                rw [← g2] at d2
                cases e3 : (x.old.val == y.old.val) with
                | false =>
                  have e3' : (x.old.val != y.old.val) = true := by rw [bne, e3]; rfl
                  clear hq e0 g0 e1 g1 e2 g2
                  go_wp2_with fail
                  go_quiet (fail)
                  go_wp2_with fail
                  go_ret
                  refine ⟨ret_bool ?_, below_drewN HW.out _⟩
                  rw [HNE.out]
                | true =>
                  have g3 := beq_iff_eq.1 e3
                  rw [← g3] at d3
                  cases e4 : (x.new.at_ == y.new.at_) with
                  | false =>
                    have e4' : (x.new.at_ != y.new.at_) = true := by rw [bne, e4]; rfl
                    clear hq e0 g0 e1 g1 e2 g2 e3 g3
                    go_wp2_with fail
                    go_quiet (fail)
                    go_wp2_with fail
                    go_ret
                    refine ⟨ret_bool ?_, below_drewN HW.out _⟩
                    rw [HNE.out]
                  | true =>
                    have g4 := beq_iff_eq.1 e4
                    rw [← g4] at d4
                    cases e5 : (x.new.key == y.new.key) with
                    | false =>
                      have e5' : (x.new.key != y.new.key) = true := by rw [bne, e5]; rfl
                      clear hq e0 g0 e1 g1 e2 g2 e3 g3 e4 g4
                      go_wp2_with fail
                      go_quiet (fail)
                      go_wp2_with fail
                      go_ret
                      refine ⟨ret_bool ?_, below_drewN HW.out _⟩
                      rw [HNE.out]
                    | true =>
                      have g5 := beq_iff_eq.1 e5
                      rw [← g5] at d5
                      cases e6 : (x.new.val == y.new.val) with
                      | false =>
                        have e6' : (x.new.val != y.new.val) = true := by rw [bne, e6]; rfl
                        clear hq e0 g0 e1 g1 e2 g2 e3 g3 e4 g4 e5 g5
                        go_wp2_with fail
                        go_quiet (fail)
                        go_wp2_with fail
                        go_ret
                        refine ⟨ret_bool ?_, below_drewN HW.out _⟩
                        rw [HNE.out]
                      | true =>
                        have g6 := beq_iff_eq.1 e6
                        rw [← g6] at d6
                        have e7 : (x.n == y.n) = false := by
                          cases h : (x.n == y.n) with
                          | false => rfl
                          | true => exact absurd ⟨g0, g1, g2, g3, g4, g5, g6, beq_iff_eq.1 h⟩ hq
                        have e7' : (x.n != y.n) = true := by rw [bne, e7]; rfl
                        clear hq e0 g0 e1 g1 e2 g2 e3 g3 e4 g4 e5 g5 e6 g6
                        go_wp2_with fail
                        go_quiet (fail)
                        go_wp2_with fail
                        go_ret
                        refine ⟨ret_bool ?_, below_drewN HW.out _⟩
                        rw [HNE.out]
      · have hk' : k = n := by omega
        subst hk'
        clear hRa hRb hlt
        go_wp2_with fail
        go_ret
        refine ⟨ret_bool ?_, HW.out⟩
        have h := HT.out
        rw [List.take_of_length_le (by rw [HA.out.len]; exact Nat.le_refl _), List.take_of_length_le (by rw [HB.out.len]; exact Nat.le_refl _)] at h
        simp [h]
end Go.Proofs.Bg
end

section
/- The law's examples: known answers true. -/
namespace Go.Proofs.Bg
open Go.RowKit

def KBag (w : World) (n : Nat) (l : List It) (e : Ending) (w' : World) : Prop := ∃ A k, e = .returned (.tuple #[.slice A n k, .int .i64 0]) ∧ Rd It.vs 4 w' 0 A n l ∧ Below w.heap.size w w'
theorem kbag {w w' : World} {l : List It} {n : Nat} {e : Ending} (hn : l.length = n) (h : RetBag w (l, 0) e w') : KBag w n l e w' := by
  obtain ⟨A, k, he, hr, hb⟩ := h
  subst hn
  exact ⟨A, k, he, hr.low (Nat.zero_le _), hb⟩
theorem kAdd_any (A B : Option Addr) (ca cb : Nat) (w : World) (hA : Rd It.vs 4 w 0 A 3 bL) (hB : Rd It.vs 4 w 0 B 2 cL) : Calls Tryd.prog 8 #[.slice A 3 ca, .slice B 2 cb] w (KBag w 3 kAdd) := by
  have h := Add_any A B 3 2 ca cb bL cL w hA hB
  rw [vAdd] at h
  exact h.mono fun _ _ h => kbag rfl h
theorem kNeg_any (B : Option Addr) (cb : Nat) (w : World) (hB : Rd It.vs 4 w 0 B 2 cL) : Calls Tryd.prog 13 #[.slice B 2 cb] w (KBag w 2 kNeg) := by
  have h := Neg_any B 2 cb cL w hB
  rw [vNeg] at h
  exact h.mono fun _ _ h => kbag rfl h
theorem kNew_any (B : Option Addr) (cb : Nat) (w : World) (hB : Rd It.vs 4 w 0 B 3 kNew0) : Calls Tryd.prog 34 #[.slice B 3 cb] w (KBag w 1 kNew) := by
  have h := New_any B 3 cb kNew0 w hB (by omega)
  rw [vNew] at h
  exact h.mono fun _ _ h => kbag rfl h
theorem kPair_any (A B : Option Addr) (ca cb : Nat) (w : World) (hA : Rd It.vs 4 w 0 A 3 bL) (hB : Rd It.vs 4 w 0 B 2 cL) : Calls Tryd.prog 9 #[.slice A 3 ca, .slice B 2 cb, .int .i64 1] w (KBag w 4 kPair) := by
  have h := Pair_any A B 3 2 ca cb bL cL 1 w hA hB
  rw [vPair] at h
  exact h.mono fun _ _ h => kbag rfl h
theorem kEds_any (A B : Option Addr) (ca cb : Nat) (w : World) (hA : Rd It.vs 4 w 0 A 3 bL) (hB : Rd It.vs 4 w 0 B 2 cL) : Calls Tryd.prog 16 #[.slice A 3 ca, .slice B 2 cb] w fun e w' => ∃ A k, e = .returned (.tuple #[.slice A 3 k, .int .i64 0]) ∧ Rd Ed.vs 8 w' 0 A 3 kEds ∧ Below w.heap.size w w' := by
  have h := Edits_any A B 3 2 ca cb bL cL w hA hB
  rw [vEds] at h
  exact h.mono fun _ _ ⟨A, k, he, hr, hb⟩ => ⟨A, k, he, hr.low (Nat.zero_le _), hb⟩
theorem kPrint_any (A : Option Addr) (ca : Nat) (w : World) (hA : Rd It.vs 4 w 0 A 3 bL) (ht : Tab w) : Calls Tryd.prog 19 #[.slice A 3 ca] w fun e w' => e = .returned (.tuple #[.string { data := #[49, 32, 50, 32, 51, 32, 49, 59, 32, 49, 32, 50, 32, 53, 32, 45, 50, 59, 32, 52, 32, 48, 32, 48, 32, 49] }, .int .i64 0]) ∧ Below w.heap.size w w' := by
  have h := Print_any A 3 ca bL w hA ht
  rw [vText] at h
  exact h
theorem kBytes_any (B : Option Addr) (cb : Nat) (w : World) (hB : Rd It.vs 4 w 0 B 2 cL) : Calls Tryd.prog 20 #[.slice B 2 cb] w fun e w' => ∃ A k, e = .returned (.tuple #[.slice A 9 k, .int .i64 0]) ∧ Rd bv 1 w' 0 A 9 kBytes ∧ Below w.heap.size w w' := by
  have h := Bytes_any B 2 cb cL w hB
  rw [vBytes] at h
  exact h.mono fun _ _ ⟨A, k, he, hr, hb, _⟩ => ⟨A, k, he, hr.low (Nat.zero_le _), hb⟩
theorem kParse_any (w : World) : Calls Tryd.prog 21 #[.string { data := #[49, 32, 50, 32, 51, 32, 48] }] w fun e w' => ∃ A k, e = .returned (.tuple #[.slice A 0 k, .int .i64 4]) ∧ Below w.heap.size w w' := by
  have h := Parse_any kSrc w (by decide)
  rw [vParse] at h
  exact h.mono fun _ _ ⟨A, k, he, _, hb⟩ => ⟨A, k, he, hb⟩
theorem kSame_any (A B : Option Addr) (n ca cb : Nat) (l : List It) (w : World) (hA : Rd It.vs 4 w 0 A n l) (hB : Rd It.vs 4 w 0 B n l) : Calls Tryd.prog 35 #[.slice A n ca, .slice B n cb] w fun e w' => e = .returned (.bool true) ∧ Below w.heap.size w w' :=
  (Same_any A B n n ca cb l l w hA hB).mono fun _ _ ⟨he, hb⟩ => ⟨by rw [he]; simp, hb⟩
theorem kSameE_any (A B : Option Addr) (n ca cb : Nat) (l : List Ed) (w : World) (hA : Rd Ed.vs 8 w 0 A n l) (hB : Rd Ed.vs 8 w 0 B n l) : Calls Tryd.prog 37 #[.slice A n ca, .slice B n cb] w fun e w' => e = .returned (.bool true) ∧ Below w.heap.size w w' :=
  (SameEdits_any A B n n ca cb l l w hA hB).mono fun _ _ ⟨he, hb⟩ => ⟨by rw [he]; simp, hb⟩

theorem conv_rd {w : World} {lo k : Nat} {A : Option Addr} (l : List UInt8) (hl : 0 < l.length) (h : Rd bv 1 w lo A l.length (intsOf l)) : (convert 46 9 (.slice A l.length k)).run Tryd.prog w = .ok (.string ⟨l.toArray⟩) w := by
  obtain ⟨b, off, rfl, _, hc⟩ := h.2.2 hl
  refine run_convert_bytes_back w _ _ 5 ⟨b, off, none⟩ k l Tryd.underlying46 Tryd.underlying5 Tryd.underlying9 fun j hj => ?_
  have e1 : (⟨b, off, none⟩ : Addr).add j = ⟨b, off + j, none⟩ := by unfold Addr.add; split <;> simp_all
  have hx : (intsOf l)[j]? = some (l[j].toNat : Int) := by simp [intsOf, List.getElem?_eq_getElem hj]
  have := hc j _ hx 0 _ rfl
  have e2 : off + j * 1 + 0 = off + j := by omega
  rw [e1, ← e2]
  exact this

set_option maxRecDepth 100000 in
set_option maxHeartbeats 8000000 in
theorem known_any (w : World) (ht : Tab w) : Calls Tryd.prog 10 #[] w fun e w' => e = .returned (.bool true) ∧ Below w.heap.size w w' := by
  have HT := Lib.hid ht
  have HW := Lib.hid (Below.refl w.heap.size w)
  clear ht
  go_enter Tryd.func10, Tryd.ntmps10
  go_wp2_with fail
  (with_reducible refine (B_any _).mono ?_)
  rintro e w1 ⟨A1, k1, rfl, hr1, hb1⟩
  have hx1 := hb1
  replace HW := Lib.hid (bchain HW.out hx1)
  replace HT := Lib.hid (HT.out.below hx1)
  have RB := Lib.hid hr1
  clear hx1 hb1 hr1
  go_wp2_with fail
  (with_reducible refine (C_any _).mono ?_)
  rintro e w2 ⟨A2, k2, rfl, hr2, hb2⟩
  have hx2 := hb2
  replace HW := Lib.hid (bchain HW.out hx2)
  replace HT := Lib.hid (HT.out.below hx2)
  replace RB := Lib.hid (RB.out.below hx2)
  have RC := Lib.hid hr2
  clear hx2 hb2 hr2
  go_wp2_with fail
  (with_reducible refine (kAdd_any _ _ _ _ _ RB.out RC.out).mono ?_)
  rintro e w3 ⟨A3, k3, rfl, hr3, hb3⟩
  have hx3 := hb3
  replace HW := Lib.hid (bchain HW.out hx3)
  replace HT := Lib.hid (HT.out.below hx3)
  replace RB := Lib.hid (RB.out.below hx3)
  replace RC := Lib.hid (RC.out.below hx3)
  have RAdd := Lib.hid hr3
  clear hx3 hb3 hr3
  go_wp2_with fail
  (with_reducible refine (C_any _).mono ?_)
  rintro e w4 ⟨A4, k4, rfl, hr4, hb4⟩
  have hx4 := hb4
  replace HW := Lib.hid (bchain HW.out hx4)
  replace HT := Lib.hid (HT.out.below hx4)
  replace RAdd := Lib.hid (RAdd.out.below hx4)
  have RC := Lib.hid hr4
  clear hx4 hb4 hr4
  go_wp2_with fail
  (with_reducible refine (kNeg_any _ _ _ RC.out).mono ?_)
  rintro e w5 ⟨A5, k5, rfl, hr5, hb5⟩
  have hx5 := hb5
  replace HW := Lib.hid (bchain HW.out hx5)
  replace HT := Lib.hid (HT.out.below hx5)
  replace RAdd := Lib.hid (RAdd.out.below hx5)
  replace RC := Lib.hid (RC.out.below hx5)
  have RNeg := Lib.hid hr5
  clear hx5 hb5 hr5
  go_wp2_with fail
  (with_reducible refine (lit_any _ _ _ _ _).mono ?_)
  rintro e w6 ⟨rfl, hb6⟩
  have hx6 := hb6
  replace HW := Lib.hid (bchain HW.out hx6)
  replace HT := Lib.hid (HT.out.below hx6)
  replace RAdd := Lib.hid (RAdd.out.below hx6)
  replace RNeg := Lib.hid (RNeg.out.below hx6)
  clear hx6 hb6
  go_wp2_with fail
  (with_reducible refine (lit_any _ _ _ _ _).mono ?_)
  rintro e w7 ⟨rfl, hb7⟩
  have hx7 := hb7
  replace HW := Lib.hid (bchain HW.out hx7)
  replace HT := Lib.hid (HT.out.below hx7)
  replace RAdd := Lib.hid (RAdd.out.below hx7)
  replace RNeg := Lib.hid (RNeg.out.below hx7)
  clear hx7 hb7
  go_wp2_with fail
  (with_reducible refine (lit_any _ _ _ _ _).mono ?_)
  rintro e w8 ⟨rfl, hb8⟩
  have hx8 := hb8
  replace HW := Lib.hid (bchain HW.out hx8)
  replace HT := Lib.hid (HT.out.below hx8)
  replace RAdd := Lib.hid (RAdd.out.below hx8)
  replace RNeg := Lib.hid (RNeg.out.below hx8)
  clear hx8 hb8
  go_wp2_with fail
  (with_reducible refine (kNew_any _ _ _ (rd_cells It.vs_length kNew0 (new_block _ _ _) rfl (by decide))).mono ?_)
  rintro e w9 ⟨A9, k9, rfl, hr9, hb9⟩
  have hx9 := bchain (below_new _ _) hb9
  replace HW := Lib.hid (bchain HW.out hx9)
  replace HT := Lib.hid (HT.out.below hx9)
  replace RAdd := Lib.hid (RAdd.out.below hx9)
  replace RNeg := Lib.hid (RNeg.out.below hx9)
  have RNew := Lib.hid hr9
  clear hx9 hb9 hr9
  go_wp2_with fail
  (with_reducible refine (lit_any _ _ _ _ _).mono ?_)
  rintro e w10 ⟨rfl, hb10⟩
  have hx10 := hb10
  replace HW := Lib.hid (bchain HW.out hx10)
  replace HT := Lib.hid (HT.out.below hx10)
  replace RAdd := Lib.hid (RAdd.out.below hx10)
  replace RNeg := Lib.hid (RNeg.out.below hx10)
  replace RNew := Lib.hid (RNew.out.below hx10)
  clear hx10 hb10
  go_wp2_with fail
  (with_reducible refine (lit_any _ _ _ _ _).mono ?_)
  rintro e w11 ⟨rfl, hb11⟩
  have hx11 := hb11
  replace HW := Lib.hid (bchain HW.out hx11)
  replace HT := Lib.hid (HT.out.below hx11)
  replace RAdd := Lib.hid (RAdd.out.below hx11)
  replace RNeg := Lib.hid (RNeg.out.below hx11)
  replace RNew := Lib.hid (RNew.out.below hx11)
  clear hx11 hb11
  go_wp2_with fail
  (with_reducible refine (lit_any _ _ _ _ _).mono ?_)
  rintro e w12 ⟨rfl, hb12⟩
  have hx12 := hb12
  replace HW := Lib.hid (bchain HW.out hx12)
  replace HT := Lib.hid (HT.out.below hx12)
  replace RAdd := Lib.hid (RAdd.out.below hx12)
  replace RNeg := Lib.hid (RNeg.out.below hx12)
  replace RNew := Lib.hid (RNew.out.below hx12)
  clear hx12 hb12
  go_wp2_with fail
  (with_reducible refine (kSame_any _ _ _ _ _ kAdd _ (RAdd.out.below (below_new _ _)) (rd_cells It.vs_length kAdd (new_block _ _ _) rfl (by decide))).mono ?_)
  rintro e w13 ⟨rfl, hb13⟩
  have hx13 := bchain (below_new _ _) hb13
  replace HW := Lib.hid (bchain HW.out hx13)
  replace HT := Lib.hid (HT.out.below hx13)
  replace RAdd := Lib.hid (RAdd.out.below hx13)
  replace RNeg := Lib.hid (RNeg.out.below hx13)
  replace RNew := Lib.hid (RNew.out.below hx13)
  clear hx13 hb13
  go_wp2_with fail
  (with_reducible refine (lit_any _ _ _ _ _).mono ?_)
  rintro e w14 ⟨rfl, hb14⟩
  have hx14 := hb14
  replace HW := Lib.hid (bchain HW.out hx14)
  replace HT := Lib.hid (HT.out.below hx14)
  replace RNeg := Lib.hid (RNeg.out.below hx14)
  replace RNew := Lib.hid (RNew.out.below hx14)
  clear hx14 hb14
  go_wp2_with fail
  (with_reducible refine (lit_any _ _ _ _ _).mono ?_)
  rintro e w15 ⟨rfl, hb15⟩
  have hx15 := hb15
  replace HW := Lib.hid (bchain HW.out hx15)
  replace HT := Lib.hid (HT.out.below hx15)
  replace RNeg := Lib.hid (RNeg.out.below hx15)
  replace RNew := Lib.hid (RNew.out.below hx15)
  clear hx15 hb15
  go_wp2_with fail
  (with_reducible refine (kSame_any _ _ _ _ _ kNeg _ (RNeg.out.below (below_new _ _)) (rd_cells It.vs_length kNeg (new_block _ _ _) rfl (by decide))).mono ?_)
  rintro e w16 ⟨rfl, hb16⟩
  have hx16 := bchain (below_new _ _) hb16
  replace HW := Lib.hid (bchain HW.out hx16)
  replace HT := Lib.hid (HT.out.below hx16)
  replace RNeg := Lib.hid (RNeg.out.below hx16)
  replace RNew := Lib.hid (RNew.out.below hx16)
  clear hx16 hb16
  go_wp2_with fail
  (with_reducible refine (lit_any _ _ _ _ _).mono ?_)
  rintro e w17 ⟨rfl, hb17⟩
  have hx17 := hb17
  replace HW := Lib.hid (bchain HW.out hx17)
  replace HT := Lib.hid (HT.out.below hx17)
  replace RNew := Lib.hid (RNew.out.below hx17)
  clear hx17 hb17
  go_wp2_with fail
  (with_reducible refine (kSame_any _ _ _ _ _ kNew _ (RNew.out.below (below_new _ _)) (rd_cells It.vs_length kNew (new_block _ _ _) rfl (by decide))).mono ?_)
  rintro e w18 ⟨rfl, hb18⟩
  have hx18 := bchain (below_new _ _) hb18
  replace HW := Lib.hid (bchain HW.out hx18)
  replace HT := Lib.hid (HT.out.below hx18)
  replace RNew := Lib.hid (RNew.out.below hx18)
  clear hx18 hb18
  go_wp2_with fail
  (with_reducible refine (B_any _).mono ?_)
  rintro e w19 ⟨A19, k19, rfl, hr19, hb19⟩
  have hx19 := hb19
  replace HW := Lib.hid (bchain HW.out hx19)
  replace HT := Lib.hid (HT.out.below hx19)
  have RB := Lib.hid hr19
  clear hx19 hb19 hr19
  go_wp2_with fail
  (with_reducible refine (C_any _).mono ?_)
  rintro e w20 ⟨A20, k20, rfl, hr20, hb20⟩
  have hx20 := hb20
  replace HW := Lib.hid (bchain HW.out hx20)
  replace HT := Lib.hid (HT.out.below hx20)
  replace RB := Lib.hid (RB.out.below hx20)
  have RC := Lib.hid hr20
  clear hx20 hb20 hr20
  go_wp2_with fail
  (with_reducible refine (kPair_any _ _ _ _ _ RB.out RC.out).mono ?_)
  rintro e w21 ⟨A21, k21, rfl, hr21, hb21⟩
  have hx21 := hb21
  replace HW := Lib.hid (bchain HW.out hx21)
  replace HT := Lib.hid (HT.out.below hx21)
  replace RB := Lib.hid (RB.out.below hx21)
  replace RC := Lib.hid (RC.out.below hx21)
  have RPair := Lib.hid hr21
  clear hx21 hb21 hr21
  go_wp2_with fail
  (with_reducible refine (B_any _).mono ?_)
  rintro e w22 ⟨A22, k22, rfl, hr22, hb22⟩
  have hx22 := hb22
  replace HW := Lib.hid (bchain HW.out hx22)
  replace HT := Lib.hid (HT.out.below hx22)
  replace RPair := Lib.hid (RPair.out.below hx22)
  have RB := Lib.hid hr22
  clear hx22 hb22 hr22
  go_wp2_with fail
  (with_reducible refine (C_any _).mono ?_)
  rintro e w23 ⟨A23, k23, rfl, hr23, hb23⟩
  have hx23 := hb23
  replace HW := Lib.hid (bchain HW.out hx23)
  replace HT := Lib.hid (HT.out.below hx23)
  replace RPair := Lib.hid (RPair.out.below hx23)
  replace RB := Lib.hid (RB.out.below hx23)
  have RC := Lib.hid hr23
  clear hx23 hb23 hr23
  go_wp2_with fail
  (with_reducible refine (kEds_any _ _ _ _ _ RB.out RC.out).mono ?_)
  rintro e w24 ⟨A24, k24, rfl, hr24, hb24⟩
  have hx24 := hb24
  replace HW := Lib.hid (bchain HW.out hx24)
  replace HT := Lib.hid (HT.out.below hx24)
  replace RPair := Lib.hid (RPair.out.below hx24)
  replace RB := Lib.hid (RB.out.below hx24)
  replace RC := Lib.hid (RC.out.below hx24)
  have REds := Lib.hid hr24
  clear hx24 hb24 hr24
  go_wp2_with fail
  (with_reducible refine (B_any _).mono ?_)
  rintro e w25 ⟨A25, k25, rfl, hr25, hb25⟩
  have hx25 := hb25
  replace HW := Lib.hid (bchain HW.out hx25)
  replace HT := Lib.hid (HT.out.below hx25)
  replace RPair := Lib.hid (RPair.out.below hx25)
  replace REds := Lib.hid (REds.out.below hx25)
  have RB := Lib.hid hr25
  clear hx25 hb25 hr25
  go_wp2_with fail
  (with_reducible refine (kPrint_any _ _ _ RB.out HT.out).mono ?_)
  rintro e w26 ⟨rfl, hb26⟩
  have hx26 := hb26
  replace HW := Lib.hid (bchain HW.out hx26)
  replace HT := Lib.hid (HT.out.below hx26)
  replace RPair := Lib.hid (RPair.out.below hx26)
  replace REds := Lib.hid (REds.out.below hx26)
  replace RB := Lib.hid (RB.out.below hx26)
  clear hx26 hb26
  go_wp2_with fail
  (with_reducible refine (lit_any _ _ _ _ _).mono ?_)
  rintro e w27 ⟨rfl, hb27⟩
  have hx27 := hb27
  replace HW := Lib.hid (bchain HW.out hx27)
  replace HT := Lib.hid (HT.out.below hx27)
  replace RPair := Lib.hid (RPair.out.below hx27)
  replace REds := Lib.hid (REds.out.below hx27)
  clear hx27 hb27
  go_wp2_with fail
  (with_reducible refine (lit_any _ _ _ _ _).mono ?_)
  rintro e w28 ⟨rfl, hb28⟩
  have hx28 := hb28
  replace HW := Lib.hid (bchain HW.out hx28)
  replace HT := Lib.hid (HT.out.below hx28)
  replace RPair := Lib.hid (RPair.out.below hx28)
  replace REds := Lib.hid (REds.out.below hx28)
  clear hx28 hb28
  go_wp2_with fail
  (with_reducible refine (lit_any _ _ _ _ _).mono ?_)
  rintro e w29 ⟨rfl, hb29⟩
  have hx29 := hb29
  replace HW := Lib.hid (bchain HW.out hx29)
  replace HT := Lib.hid (HT.out.below hx29)
  replace RPair := Lib.hid (RPair.out.below hx29)
  replace REds := Lib.hid (REds.out.below hx29)
  clear hx29 hb29
  go_wp2_with fail
  (with_reducible refine (lit_any _ _ _ _ _).mono ?_)
  rintro e w30 ⟨rfl, hb30⟩
  have hx30 := hb30
  replace HW := Lib.hid (bchain HW.out hx30)
  replace HT := Lib.hid (HT.out.below hx30)
  replace RPair := Lib.hid (RPair.out.below hx30)
  replace REds := Lib.hid (REds.out.below hx30)
  clear hx30 hb30
  go_wp2_with fail
  (with_reducible refine (kSame_any _ _ _ _ _ kPair _ (RPair.out.below (below_new _ _)) (rd_cells It.vs_length kPair (new_block _ _ _) rfl (by decide))).mono ?_)
  rintro e w31 ⟨rfl, hb31⟩
  have hx31 := bchain (below_new _ _) hb31
  replace HW := Lib.hid (bchain HW.out hx31)
  replace HT := Lib.hid (HT.out.below hx31)
  replace RPair := Lib.hid (RPair.out.below hx31)
  replace REds := Lib.hid (REds.out.below hx31)
  clear hx31 hb31
  go_wp2_with fail
  (with_reducible refine (rec_any _ _ _ _).mono ?_)
  rintro e w32 ⟨rfl, hb32⟩
  have hx32 := hb32
  replace HW := Lib.hid (bchain HW.out hx32)
  replace HT := Lib.hid (HT.out.below hx32)
  replace REds := Lib.hid (REds.out.below hx32)
  clear hx32 hb32
  go_wp2_with fail
  (with_reducible refine (rec_any _ _ _ _).mono ?_)
  rintro e w33 ⟨rfl, hb33⟩
  have hx33 := hb33
  replace HW := Lib.hid (bchain HW.out hx33)
  replace HT := Lib.hid (HT.out.below hx33)
  replace REds := Lib.hid (REds.out.below hx33)
  clear hx33 hb33
  go_wp2_with fail
  (with_reducible refine (rec_any _ _ _ _).mono ?_)
  rintro e w34 ⟨rfl, hb34⟩
  have hx34 := hb34
  replace HW := Lib.hid (bchain HW.out hx34)
  replace HT := Lib.hid (HT.out.below hx34)
  replace REds := Lib.hid (REds.out.below hx34)
  clear hx34 hb34
  go_wp2_with fail
  (with_reducible refine (rec_any _ _ _ _).mono ?_)
  rintro e w35 ⟨rfl, hb35⟩
  have hx35 := hb35
  replace HW := Lib.hid (bchain HW.out hx35)
  replace HT := Lib.hid (HT.out.below hx35)
  replace REds := Lib.hid (REds.out.below hx35)
  clear hx35 hb35
  go_wp2_with fail
  (with_reducible refine (C_any _).mono ?_)
  rintro e w36 ⟨A36, k36, rfl, hr36, hb36⟩
  have hx36 := bchain (below_new _ _) hb36
  have hwant := (rd_cells Ed.vs_length kEds (new_block w35 _ 72) rfl (by decide)).below hb36
  replace HW := Lib.hid (bchain HW.out hx36)
  replace HT := Lib.hid (HT.out.below hx36)
  replace REds := Lib.hid (REds.out.below hx36)
  have RC := Lib.hid hr36
  clear hx36 hb36 hr36
  have RWant : Hid (Rd Ed.vs 8 w36 0 (some ⟨w35.heap.size, 0, none⟩) 3 kEds) := hwant
  clear hwant
  go_wp2_with fail
  (with_reducible refine (kBytes_any _ _ _ RC.out).mono ?_)
  rintro e w37 ⟨A37, k37, rfl, hr37, hb37⟩
  have hx37 := hb37
  replace HW := Lib.hid (bchain HW.out hx37)
  replace HT := Lib.hid (HT.out.below hx37)
  replace REds := Lib.hid (REds.out.below hx37)
  replace RC := Lib.hid (RC.out.below hx37)
  replace RWant := Lib.hid (RWant.out.below hx37)
  have RBy := Lib.hid hr37
  clear hx37 hb37 hr37
  go_wp2_with fail
  (with_reducible refine (kParse_any _).mono ?_)
  rintro e w38 ⟨A38, k38, rfl, hb38⟩
  have hx38 := hb38
  replace HW := Lib.hid (bchain HW.out hx38)
  replace HT := Lib.hid (HT.out.below hx38)
  replace REds := Lib.hid (REds.out.below hx38)
  replace RWant := Lib.hid (RWant.out.below hx38)
  replace RBy := Lib.hid (RBy.out.below hx38)
  clear hx38 hb38
  go_wp2_with fail
  (with_reducible refine (kSameE_any _ _ _ _ _ kEds _ REds.out RWant.out).mono ?_)
  rintro e w39 ⟨rfl, hb39⟩
  have hx39 := hb39
  replace HW := Lib.hid (bchain HW.out hx39)
  replace HT := Lib.hid (HT.out.below hx39)
  replace REds := Lib.hid (REds.out.below hx39)
  replace RWant := Lib.hid (RWant.out.below hx39)
  replace RBy := Lib.hid (RBy.out.below hx39)
  clear hx39 hb39
  have hcv1 := conv_rd (k := k37) [2, 1, 4, 6, 1, 1, 4, 14, 6] (by decide) RBy.out
  have hcv2 := conv_rd (k := 9) [2, 1, 4, 6, 1, 1, 4, 14, 6] (by decide) (rd_cells (sz := 1) (fun _ => rfl) (intsOf [2, 1, 4, 6, 1, 1, 4, 14, 6]) (new_block w39 #[.int .u8 2, .int .u8 1, .int .u8 4, .int .u8 6, .int .u8 1, .int .u8 1, .int .u8 4, .int .u8 14, .int .u8 6] 5) rfl (by decide))
  simp only [List.length_cons, List.length_nil, Nat.reduceAdd] at hcv1 hcv2
  go_wp2_with fail
  go_ret
  exact ⟨rfl, bchain HW.out (below_new _ _)⟩
end Go.Proofs.Bg
end

section
/- Plain law: sums of bags are a group; products of sums are sums of products. No program, no memory. -/
namespace Go.Proofs.Bg

/-- A number for each record, added over a list of items. -/
def linS (G : Rc → Int) : List It → Int
  | [] => 0
  | x :: r => x.n * G x.r + linS G r
theorem linS_append (G : Rc → Int) (a b : List It) : linS G (a ++ b) = linS G a + linS G b := by
  induction a with
  | nil => simp [linS]
  | cons x r ih => simp only [List.cons_append, linS, ih]; omega
theorem linS_ins (G : Rc → Int) (x : It) (m : List It) : linS G (insIt x m) = x.n * G x.r + linS G m := by
  induction m with
  | nil => rfl
  | cons y r ih =>
    rw [insIt]
    split
    · rfl
    · split
      · rename_i h
        simp only [linS, h]
        rw [Int.add_mul]
        omega
      · simp only [linS, ih]
        omega
theorem linS_gather (G : Rc → Int) (l : List It) : linS G (gather l) = linS G l := by
  induction l with
  | nil => rfl
  | cons x r ih => rw [gather, linS_ins, ih, linS]
theorem linS_filter (G : Rc → Int) (l : List It) : linS G (l.filter (fun x => x.n != 0)) = linS G l := by
  induction l with
  | nil => rfl
  | cons x r ih =>
    rw [List.filter_cons]
    split
    · rw [linS, linS, ih]
    · rename_i h
      have : x.n = 0 := by simpa using h
      rw [ih, linS, this]
      omega
theorem linS_canon (G : Rc → Int) (l : List It) : linS G (canon l) = linS G l := by rw [canon, linS_filter, linS_gather]

theorem canon_id {a : List It} (h : bagB a = true) : canon a = a := by
  have hs := (bagB_spec a).1 h
  exact (IsBag.eq ⟨hs.2.1, fun x hx => by have := (itB_spec x).1 (hs.1 x hx); omega, fun _ => rfl⟩).symm
theorem canon_comm (a b : List It) : canon (a ++ b) = canon (b ++ a) := canon_eq fun k => by rw [sumN_append, sumN_append]; omega
theorem canon_left (a b : List It) : canon (canon a ++ b) = canon (a ++ b) := canon_eq fun k => by rw [sumN_append, sumN_append, (canon_is a).sums]
theorem canon_right (a b : List It) : canon (a ++ canon b) = canon (a ++ b) := canon_eq fun k => by rw [sumN_append, sumN_append, (canon_is b).sums]
theorem sumN_neg (a : List It) (k : Rc) : sumN (a.map negIt) k = - sumN a k := by
  induction a with
  | nil => rfl
  | cons x r ih => simp only [List.map_cons, sumN, ih, negIt]; split <;> omega
theorem canon_minus (a : List It) : canon (a ++ a.map negIt) = [] := by
  have : canon (a ++ a.map negIt) = canon [] := canon_eq fun k => by rw [sumN_append, sumN_neg, sumN]; omega
  exact this
theorem bagOr_congr {a b : List It} (h : canon a = canon b) : bagOr a = bagOr b ∧ errOr a = errOr b := by
  unfold bagOr errOr
  rw [h]
  exact ⟨rfl, rfl⟩

theorem addR_comm (a b : List It) : addR a b = addR b a := by
  unfold addR
  obtain ⟨h1, h2⟩ := bagOr_congr (canon_comm a b)
  rw [h1, h2, Bool.and_comm]
theorem addR_err {a b : List It} (ha : bagB a = true) (hb : bagB b = true) : (addR a b).2 = 0 ∨ (addR a b).2 = 3 := by
  simp only [addR, ha, hb, errOr]
  simp
theorem bagB_nil : bagB [] = true := by decide
theorem addR_nil {a : List It} (ha : bagB a = true) : addR a [] = (a, 0) := by
  simp [addR, ha, bagB_nil, bagOr, errOr, canon_id ha]
theorem addR_neg {a : List It} (ha : bagB a = true) : addR a (a.map negIt) = ([], 0) := by
  simp [addR, ha, bagB_neg ha, bagOr, errOr, canon_minus, bagB_nil]

/-- What is there, and the contrary of what is missing. -/
def isL (b : List It) : List It := b.filter (fun x => decide (0 < x.n))
def notL (b : List It) : List It := (b.filter (fun x => !decide (0 < x.n))).map negIt
theorem bagB_filter {a : List It} (p : It → Bool) (h : bagB a = true) : bagB (a.filter p) = true := by
  rw [bagB_spec] at h ⊢
  exact ⟨fun x hx => h.1 x (List.mem_filter.1 hx).1, incr_filter p h.2.1, Nat.le_trans (List.length_filter_le _ _) h.2.2⟩
theorem bagB_isL {a : List It} (h : bagB a = true) : bagB (isL a) = true := bagB_filter _ h
theorem bagB_notL {a : List It} (h : bagB a = true) : bagB (notL a) = true := bagB_neg (bagB_filter _ h)
theorem negIt_negIt (x : It) : negIt (negIt x) = x := by cases x; simp [negIt]
theorem map_neg_neg (l : List It) : (l.map negIt).map negIt = l := by
  rw [List.map_map]
  conv => rhs; rw [← List.map_id l]
  exact List.map_congr_left (fun x _ => negIt_negIt x)
theorem sumN_filter_add (p : It → Bool) (l : List It) (k : Rc) : sumN (l.filter p) k + sumN (l.filter (fun x => !p x)) k = sumN l k := by
  induction l with
  | nil => rfl
  | cons x r ih =>
    cases h : p x <;> simp [h, sumN] <;> omega
theorem addR_split {a : List It} (ha : bagB a = true) : addR (isL a) ((notL a).map negIt) = (a, 0) := by
  have h1 : canon (isL a ++ (notL a).map negIt) = a := by
    rw [notL, map_neg_neg, isL]
    exact (canon_eq (l' := a) fun k => by rw [sumN_append, sumN_filter_add]).trans (canon_id ha)
  simp only [addR, bagB_isL ha, bagB_neg (bagB_notL ha), bagOr, errOr, h1, ha]
  rfl
theorem whole_isL {a : List It} : (isL a).all (fun x => !decide (x.n < 0)) = true := by
  rw [List.all_eq_true]
  intro x hx
  have := (List.mem_filter.1 hx).2
  simp at this ⊢
  omega
theorem whole_notL {a : List It} : (notL a).all (fun x => !decide (x.n < 0)) = true := by
  rw [List.all_eq_true]
  intro x hx
  obtain ⟨y, hy, rfl⟩ := List.mem_map.1 hx
  have := (List.mem_filter.1 hy).2
  simp [negIt] at this ⊢
  omega
theorem addR_ok {a b : List It} (h : (addR a b).2 = 0) : bagB a = true ∧ bagB b = true ∧ bagB (canon (a ++ b)) = true ∧ (addR a b).1 = canon (a ++ b) := by
  unfold addR errOr bagOr at *
  cases ha : bagB a <;> cases hb : bagB b <;> cases hc : bagB (canon (a ++ b)) <;> simp_all
theorem addR_assoc {a b c : List It} (h1 : (addR a b).2 = 0) (h2 : (addR b c).2 = 0) : addR (addR a b).1 c = addR a (addR b c).1 := by
  obtain ⟨ha, hb, hab, e1⟩ := addR_ok h1
  obtain ⟨_, hc, hbc, e2⟩ := addR_ok h2
  have e : canon (canon (a ++ b) ++ c) = canon (a ++ canon (b ++ c)) := by rw [canon_left, canon_right, List.append_assoc]
  obtain ⟨g1, g2⟩ := bagOr_congr e
  rw [e1, e2]
  simp only [addR, ha, hc, hab, hbc, g1, g2]

/-! ### products -/
/-- What an item with the record r, once, gives with the item y, at the record k. -/
def oneP (apart : Int) (k : Rc) (r : Rc) (y : It) : Int :=
  if r.key = y.r.key ∧ max r.at_ y.r.at_ - min r.at_ y.r.at_ ≤ apart then (if (⟨max r.at_ y.r.at_, r.key, clampI (r.val + y.r.val)⟩ : Rc) = k then y.n else 0) else 0
def rowP (apart : Int) (k : Rc) (c : List It) (r : Rc) : Int := (c.map (oneP apart k r)).sum
theorem pairIt_sum (apart : Int) (k : Rc) (x y : It) : sumN (pairIt apart x y) k = x.n * oneP apart k x.r y := by
  unfold pairIt oneP
  split
  · simp only [sumN]
    split <;> simp
  · simp [sumN]
theorem rowIts_sum (apart : Int) (k : Rc) (x : It) (c : List It) : sumN (rowIts apart x c) k = x.n * rowP apart k c x.r := by
  unfold rowIts rowP
  induction c with
  | nil => simp [sumN]
  | cons y r ih => rw [List.flatMap_cons, sumN_append, ih, pairIt_sum, List.map_cons, List.sum_cons, Int.mul_add]
theorem pairIts_lin (apart : Int) (k : Rc) (a c : List It) : sumN (pairIts apart a c) k = linS (rowP apart k c) a := by
  unfold pairIts
  induction a with
  | nil => rfl
  | cons x r ih => rw [List.flatMap_cons, sumN_append, ih, rowIts_sum, linS]
theorem oneP_comm (apart : Int) (k : Rc) (x y : It) : x.n * oneP apart k x.r y = y.n * oneP apart k y.r x := by
  unfold oneP
  have e1 : max x.r.at_ y.r.at_ = max y.r.at_ x.r.at_ := by omega
  have e2 : min x.r.at_ y.r.at_ = min y.r.at_ x.r.at_ := by omega
  have e3 : x.r.val + y.r.val = y.r.val + x.r.val := by omega
  by_cases hk : x.r.key = y.r.key
  · simp only [hk, true_and]
    rw [e1, e2, e3]
    split
    · split
      · exact Int.mul_comm _ _
      · simp
    · simp
  · have hk' : ¬ y.r.key = x.r.key := fun e => hk e.symm
    simp [hk, hk']
theorem sum_comm2 (f : It → It → Int) (a c : List It) : (a.map (fun x => (c.map (f x)).sum)).sum = (c.map (fun y => (a.map (fun x => f x y)).sum)).sum := by
  induction a with
  | nil =>
    induction c with
    | nil => rfl
    | cons y r ih => simp only [List.map_nil, List.sum_nil, List.map_cons, List.sum_cons] at ih ⊢; omega
  | cons x r ih =>
    rw [List.map_cons, List.sum_cons, ih]
    clear ih
    induction c with
    | nil => rfl
    | cons y s ih =>
      simp only [List.map_cons, List.sum_cons] at ih ⊢
      omega
theorem mul_sum (n : Int) (l : List Int) : n * l.sum = (l.map (fun z => n * z)).sum := by
  induction l with
  | nil => simp
  | cons x r ih => rw [List.sum_cons, Int.mul_add, ih, List.map_cons, List.sum_cons]
theorem linS_rowP (apart : Int) (k : Rc) (a c : List It) : linS (rowP apart k c) a = (a.map (fun x => (c.map (fun y => x.n * oneP apart k x.r y)).sum)).sum := by
  induction a with
  | nil => rfl
  | cons x r ih =>
    rw [linS, ih, List.map_cons, List.sum_cons, rowP, mul_sum, List.map_map]
    rfl
theorem pairIts_comm (apart : Int) (a c : List It) : canon (pairIts apart a c) = canon (pairIts apart c a) := canon_eq fun k => by
  rw [pairIts_lin, pairIts_lin, linS_rowP, linS_rowP, sum_comm2]
  congr 1
  refine List.map_congr_left fun y _ => ?_
  congr 1
  exact List.map_congr_left fun x _ => oneP_comm apart k x y
theorem pairR_comm (apart : Int) (a c : List It) : pairR a c apart = pairR c a apart := by
  obtain ⟨h1, h2⟩ := bagOr_congr (pairIts_comm apart a c)
  unfold pairR
  rw [h1, h2, Bool.and_comm (bagB a)]
theorem pairR_ok {a c : List It} {apart : Int} (h : (pairR a c apart).2 = 0) : bagB a = true ∧ bagB c = true ∧ 0 ≤ apart ∧ bagB (canon (pairIts apart a c)) = true ∧ (pairR a c apart).1 = canon (pairIts apart a c) := by
  unfold pairR errOr bagOr at *
  by_cases h0 : 0 ≤ apart
  · cases ha : bagB a <;> cases hb : bagB c <;> cases hc : bagB (canon (pairIts apart a c)) <;> simp_all
  · simp [h0] at h
theorem pairIts_nil (apart : Int) (a : List It) : pairIts apart a [] = [] := by
  unfold pairIts rowIts
  simp
theorem pairR_nil {a : List It} {apart : Int} (ha : bagB a = true) (h0 : 0 ≤ apart) : pairR a [] apart = ([], 0) := by
  have e : canon [] = [] := rfl
  simp [pairR, ha, bagB_nil, h0, pairIts_nil, bagOr, errOr, e]
theorem pairIts_two (apart : Int) (a b c : List It) : canon (pairIts apart (canon (a ++ b)) c) = canon (canon (pairIts apart a c) ++ canon (pairIts apart b c)) := canon_eq fun k => by
  rw [sumN_append, (canon_is _).sums, (canon_is _).sums, pairIts_lin, pairIts_lin, pairIts_lin, linS_canon, linS_append]
theorem bilinear {a b c : List It} {apart : Int} (h1 : (addR a b).2 = 0) (h2 : (pairR a c apart).2 = 0) (h3 : (pairR b c apart).2 = 0) :
    pairR (addR a b).1 c apart = addR (pairR a c apart).1 (pairR b c apart).1 := by
  obtain ⟨ha, hb, hab, e1⟩ := addR_ok h1
  obtain ⟨_, hc, h0, hac, e2⟩ := pairR_ok h2
  obtain ⟨_, _, _, hbc, e3⟩ := pairR_ok h3
  obtain ⟨g1, g2⟩ := bagOr_congr (pairIts_two apart a b c)
  rw [e1, e2, e3]
  simp only [pairR, addR, hab, hc, h0, hac, hbc, g1, g2]
  rfl
end Go.Proofs.Bg
end
