/- Texts of our own, merged: BgParseR BgParseP BgRet BgLawTexts. -/
import Derived.Deep.DeepCutAuto
import Derived.Test.YtcbemmlhpinjkaaGreatDoorBgMTe3
import Derived.Test.YtcbemmlhpinjkaaGreatDoorBgMTe1
import Derived.Test.YtcbemmlhpinjkaaGreatDoorBgMTe2

section
/- The reference: Parse. -/
namespace Go.Proofs.Bg
open Go.RowKit

def numsR (l : List ByteArray) : Option It := match l with
  | [a, b, c, d] => if (intR a).2 = true ∧ (intR b).2 = true ∧ (intR c).2 = true ∧ (intR d).2 = true then some ⟨⟨(intR a).1, (intR b).1, (intR c).1⟩, (intR d).1⟩ else none
  | _ => none
def pieceR (i : Nat) (x : ByteArray) : Option It := if 0 < i then (if x.size < 1 ∨ ¬ (x[0]!.toNat : Int) = 32 then none else numsR (wordsR (x.extract 1 x.size) 32)) else numsR (wordsR x 32)
def piecesTo (P : List ByteArray) : Nat → Option (List It)
  | 0 => some []
  | k + 1 => match piecesTo P k, P[k]? with
    | some L, some x => (pieceR k x).map fun y => L ++ [y]
    | _, _ => none
def bytesA (S : ByteArray) : List UInt8 := S.data.toList
def endP (S : ByteArray) (p : Option (List It)) : List It × Int := match p with | some L => if bagB L = true ∧ strOf (textOf L) = S then (L, 0) else ([], 4) | none => ([], 4)
def refP (S : ByteArray) : List It × Int := endP S (if S = ByteArray.empty then some [] else piecesTo (wordsR S 59) (wordsR S 59).length)
theorem piecesTo_none {P : List ByteArray} {k : Nat} (h : piecesTo P k = none) : ∀ m, k ≤ m → piecesTo P m = none := by
  intro m hm
  induction m with
  | zero => obtain rfl : k = 0 := by omega
            exact h
  | succ m ih =>
    rcases Nat.eq_or_lt_of_le hm with e | e
    · rw [← e]; exact h
    · rw [piecesTo, ih (by omega)]
theorem piecesTo_length {P : List ByteArray} : ∀ {k : Nat} {L : List It}, piecesTo P k = some L → L.length = k
  | 0, L, h => by cases h; rfl
  | k + 1, L, h => by
    rw [piecesTo] at h
    split at h
    · rename_i L0 x h1 h2
      cases hp : pieceR k x with
      | none => rw [hp] at h; cases h
      | some y =>
        rw [hp] at h
        cases h
        simp [piecesTo_length h1]
    · cases h
theorem wTo_size (S : ByteArray) (c : Int) : ∀ (k : Nat) (x : ByteArray), x ∈ (wTo S c k).1 → x.size ≤ S.size
  | 0, x, h => by simp [wTo] at h
  | k + 1, x, h => by
    rw [wTo] at h
    split at h
    · rcases List.mem_append.1 h with h | h
      · exact wTo_size S c k x h
      · simp only [List.mem_singleton] at h
        subst h
        simp
        omega
    · exact wTo_size S c k x h
theorem wordsR_size {S : ByteArray} {c : Int} {x : ByteArray} (h : x ∈ wordsR S c) : x.size ≤ S.size := by
  rcases List.mem_append.1 h with h | h
  · exact wTo_size S c _ x h
  · simp only [List.mem_singleton] at h
    subst h
    simp
theorem wordsR_length (S : ByteArray) (c : Int) : (wordsR S c).length ≤ S.size + 1 := by
  have := (wTo_le S c S.size).2
  simp [wordsR]
  omega
theorem Rd.str_at {w : World} {lo n : Nat} {A : Option Addr} {l : List ByteArray} (h : Rd strV 1 w lo A n l) {k : Nat} (hk : k < n) : ∃ b off x, A = some ⟨b, off, none⟩ ∧ l[k]? = some x ∧ w.cell? ⟨b, off + k, none⟩ = some (.string x) := by
  obtain ⟨b, off, x, e, _, hx, hc⟩ := h.at_ hk
  have := hc 0 _ rfl
  simp only [Nat.mul_one, Nat.add_zero] at this
  exact ⟨b, off, x, e, hx, this⟩

theorem str_ne {a b : ByteArray} (h : ¬ a = b) : (a.toList == b.toList) = false := by
  rw [beq_eq_false_iff_ne]
  intro e
  rw [ByteArray.toList_eq, ByteArray.toList_eq] at e
  exact h (ByteArray.ext (by simpa using e))
/-- What the inner loop holds: the first j integers lie in the array. -/
structure NSt (W0 : World) (g : Nat) (l : Nat → ByteArray) (j : Nat) (wr : World) : Prop where
  hg : wr.heap[g]? = some (.cells #[.int .i64 (if 0 < j then (intR (l 0)).1 else 0), .int .i64 (if 1 < j then (intR (l 1)).1 else 0), .int .i64 (if 2 < j then (intR (l 2)).1 else 0), .int .i64 (if 3 < j then (intR (l 3)).1 else 0)] 80)
  hb : W0.grownBy wr (some g)
  ok : ∀ t, t < j → (intR (l t)).2 = true
theorem NSt.below {W0 : World} {l : Nat → ByteArray} {j : Nat} {wr : World} (h : NSt W0 W0.heap.size l j wr) : Below W0.heap.size W0 wr := ⟨h.hb.os, h.hb.tape, h.hb.output, h.hb.size, fun i hi => h.hb.block i hi (fun e => by have := Option.some.inj e; omega)⟩
theorem NSt.set {W0 : World} {g : Nat} {l : Nat → ByteArray} {j : Nat} {wr : World} (h : NSt W0 g l j wr) (hj : j < 4) (hok : (intR (l j)).2 = true) : NSt W0 g l (j + 1) (wr.setCell ⟨g, j, none⟩ (.int .i64 (intR (l j)).1)) := by
  obtain ⟨s1, s2⟩ := setCell_at (off := j) h.hg (.int .i64 (intR (l j)).1)
  refine ⟨?_, h.hb.then_ s2 (fun _ e => .inr e), fun t ht => ?_⟩
  · rw [s1]
    have : j = 0 ∨ j = 1 ∨ j = 2 ∨ j = 3 := by omega
    rcases this with rfl | rfl | rfl | rfl <;> rfl
  · rcases Nat.lt_or_ge t j with ht2 | ht2
    · exact h.ok t ht2
    · obtain rfl : t = j := by omega
      exact hok

set_option maxRecDepth 100000 in
set_option maxHeartbeats 8000000 in
theorem ParseRef_any (S : ByteArray) (w : World) (hs : S.size ≤ 1048576) :
    Calls Tryz.prog 18 #[.string S] w (RetBag w (refP S)) := by
  by_cases h0 : S = ByteArray.empty
  · have HR : Hid (refP S = endP S (some [])) := by show _ = _; unfold refP; rw [if_pos h0]
    have q1 : S.toList.isEmpty = true := by rw [ByteArray.toList_eq, h0]; rfl
    have q2 : (!S.toList.isEmpty) = false := by rw [q1]; rfl
    clear h0
    go_enter Tryz.func18, Tryz.ntmps18
    have CG := Lib.hid (fun w9 (h9 : Rd It.vs 4 w9 0 none 0 ([] : List It)) => Good_any none 0 0 ([] : List It) w9 h9)
    have HRD := Lib.hid ((Rd.nil w 0 none : Rd It.vs 4 w 0 none 0 []))
    have HOW := Lib.hid (Rd.nil (enc := It.vs) (sz := 4) w w.heap.size none)
    have HBW := Lib.hid (Below.refl w.heap.size w)
    cases gl : bagB ([] : List It) with
    | false =>
      have HE : Hid (refP S = ([], 4)) := by show _ = _; rw [HR.out]; unfold endP; simp only []; rw [if_neg (by rw [gl]; simp)]
      have GL := Lib.hid gl
      clear gl
      go_wp2_with (go_at_call 44; (with_reducible refine (CG.out _ HRD.out).mono ?_); rintro e w5 ⟨rfl, hb5⟩; rw [GL.out]; have HB5 := Lib.hid hb5; clear hb5)
      go_ret2
      rw [HE.out]
      exact ⟨none, 0, rfl, Rd.nil _ _ _, bchain HBW.out HB5.out⟩
    | true =>
      have GL := Lib.hid gl
      have CT := Lib.hid (fun w9 (h9 : Rd It.vs 4 w9 0 none 0 ([] : List It)) => Text_any none 0 0 ([] : List It) w9 h9 GL.out)
      clear gl
      by_cases ht : strOf (textOf ([] : List It)) = S
      · have HE : Hid (refP S = (([] : List It), 0)) := by show _ = _; rw [HR.out]; unfold endP; simp only []; rw [if_pos ⟨GL.out, ht⟩]
        have HT := Lib.hid ht
        clear ht
        go_wp2_with fail
        (with_reducible refine (CG.out _ HRD.out).mono ?_)
        rintro e w5 ⟨rfl, hb5⟩
        rw [GL.out]
        have HB5 := Lib.hid hb5
        clear hb5
        go_wp2_with fail
        (with_reducible refine (CT.out _ (HRD.out.below HB5.out)).mono ?_)
        rintro e w6 ⟨rfl, hb6⟩
        have HB6 := Lib.hid hb6
        clear hb6
        rw [HT.out]
        go_wp2_with fail
        go_ret2
        rw [HE.out]
        exact ⟨none, 0, rfl, (HOW.out.below (bchain HB5.out HB6.out)).low (Nat.le_refl _), bchain HBW.out (bchain HB5.out HB6.out)⟩
      · have HE : Hid (refP S = ([], 4)) := by show _ = _; rw [HR.out]; unfold endP; simp only []; rw [if_neg (fun h => ht h.2)]
        have e3 : ((strOf (textOf ([] : List It))).toList == S.toList) = false := str_ne ht
        have e4 : (!((strOf (textOf ([] : List It))).toList == S.toList)) = true := by rw [e3]; rfl
        clear ht
        go_wp2_with fail
        (with_reducible refine (CG.out _ HRD.out).mono ?_)
        rintro e w5 ⟨rfl, hb5⟩
        rw [GL.out]
        have HB5 := Lib.hid hb5
        clear hb5
        go_wp2_with fail
        (with_reducible refine (CT.out _ (HRD.out.below HB5.out)).mono ?_)
        rintro e w6 ⟨rfl, hb6⟩
        have HB6 := Lib.hid hb6
        clear hb6
        go_wp2_with fail
        go_ret2
        rw [HE.out]
        exact ⟨none, 0, rfl, Rd.nil _ _ _, bchain HBW.out (bchain HB5.out HB6.out)⟩
  · have HR : Hid (refP S = endP S (piecesTo (wordsR S 59) (wordsR S 59).length)) := by show _ = _; unfold refP; rw [if_neg h0]
    have C := Lib.hid (words_any S 59 w hs)
    have hwl := wordsR_length S 59
    have HSZ : Hid (∀ x ∈ wordsR S 59, x.size ≤ 1048576) := fun x hx => Nat.le_trans (wordsR_size hx) hs
    have q1 : S.toList.isEmpty = false := by
      rw [ByteArray.toList_eq]
      cases e : S.data.toList with
      | nil => exact absurd (ByteArray.ext (by simpa using e)) h0
      | cons _ _ => rfl
    have q2 : (!S.toList.isEmpty) = true := by rw [q1]; rfl
    obtain ⟨P, hP⟩ : ∃ P, wordsR S 59 = P := ⟨_, rfl⟩
    rw [hP] at C HR hwl HSZ
    obtain ⟨R, hRR⟩ : ∃ R, piecesTo P P.length = R := ⟨_, rfl⟩
    rw [hRR] at HR
    have HRR := Lib.hid hRR
    clear h0 hP hRR
    have hpl : P.length ≤ 1048577 := by omega
    go_enter Tryz.func18, Tryz.ntmps18
    go_wp2_with fail
    (with_reducible refine C.out.mono ?_)
    rintro e w1 ⟨AP, cP, rfl, hr, hb⟩
    have HRP := Lib.hid hr
    have HB1 := Lib.hid hb
    clear hr hb C
    obtain ⟨m, hm⟩ : ∃ m, P.length = m := ⟨_, rfl⟩
    rw [hm] at HRP HRR hpl ⊢
    have HM := Lib.hid hm
    clear hm
    go_wp2_with fail
    go_loopw [4, 16] (fun v i wr => ∃ (k : Nat) (L : List It), k ≤ m ∧ i = .int .i64 k ∧ piecesTo P k = some L ∧ Own It.vs 4 40 w1.heap.size wr v L ∧ Below w1.heap.size w1 wr) (fun _ i _ => m - (intOf i).toNat)
    case atStart => exact ⟨0, [], by omega, rfl, rfl, Own.nil _ _ _ _ _, Below.refl _ _⟩
    case round =>
      obtain ⟨k, L, hk, rfl, hpt, hown, hB⟩ := hrel
      obtain ⟨A0, cap0, rfl⟩ := hown.shape
      have HO := Lib.hid hown
      have HB := Lib.hid hB
      have hLk : L.length ≤ 1048577 := by have := piecesTo_length hpt; omega
      have HPT := Lib.hid hpt
      have hRk := HRP.out.below hB
      have HBA := Lib.hid (bchain HB1.out hB)
      clear hpt hown hB
      by_cases hlt : k < m
      · obtain ⟨bP, oP, x, rfl, hx, cx⟩ := hRk.str_at hlt
        have hxs : x.size ≤ 1048576 := HSZ.out x (List.mem_of_getElem? hx)
        have hst : piecesTo P (k + 1) = (pieceR k x).map fun y => L ++ [y] := by rw [piecesTo, HPT.out, hx]
        have HST := Lib.hid hst
        clear hst hx hRk
        by_cases hk0 : 0 < k
        · have g0 : decide ((0 : Int) < (k : Int)) = true := decide_eq_true (by omega)
          have g0n : decide (0 < k) = true := decide_eq_true hk0
          by_cases h1 : x.size < 1
          · have g1 : decide ((x.size : Int) < 1) = true := decide_eq_true (by omega)
            have HZ : Hid (R = none) := by show _ = _; rw [← HRR.out]; exact piecesTo_none (by rw [HST.out, show pieceR k x = none by unfold pieceR; rw [if_pos hk0, if_pos (.inl h1)]]; rfl) _ hlt
            have HE : Hid (refP S = ([], 4)) := by show _ = _; rw [HR.out, HZ.out]; rfl
            clear hk0 h1
            go_wp2_with fail
            go_ret2
            rw [HE.out]
            exact ⟨none, 0, rfl, Rd.nil _ _ _, HBA.out⟩
          · have g1 : decide ((x.size : Int) < 1) = false := decide_eq_false (by omega)
            have h1p : 0 < x.size := by omega
            have hb := bang x h1p
            cases hq : ((x[0].toNat : Int) == 32) with
            | false =>
              have hq2 : ((x[0].toNat : Int) != 32) = true := by rw [bne, hq]; rfl
              have HZ : Hid (R = none) := by show _ = _; rw [← HRR.out]; exact piecesTo_none (by rw [HST.out, show pieceR k x = none by unfold pieceR; rw [if_pos hk0, if_pos (.inr (by rw [hb]; intro h; rw [h] at hq; simp at hq))]]; rfl) _ hlt
              have HE : Hid (refP S = ([], 4)) := by show _ = _; rw [HR.out, HZ.out]; rfl
              clear hk0 h1 hb
              go_wp2_with fail
              go_ret2
              rw [HE.out]
              exact ⟨none, 0, rfl, Rd.nil _ _ _, HBA.out⟩
            | true =>
              have hq2 : ((x[0].toNat : Int) != 32) = false := by rw [bne, hq]; rfl
              have hpe : pieceR k x = numsR (wordsR (x.extract 1 x.size) 32) := by unfold pieceR; rw [if_pos hk0, if_neg (by rw [hb]; intro h; rcases h with h | h; exact h1 h; exact h (beq_iff_eq.1 hq))]
              have HPE := Lib.hid hpe
              clear hpe hk0 h1 hb
              have HPC : Hid (pieceR k x = numsR (wordsR (x.extract 1 x.size) 32)) := HPE.out
              have hts : (x.extract 1 x.size).size ≤ 1048576 := by simp; omega
              have C2 := Lib.hid (words_any (x.extract 1 x.size) 32 wr hts)
              have HWS : Hid (∀ y ∈ wordsR (x.extract 1 x.size) 32, y.size ≤ 1048576) := fun y hy => Nat.le_trans (wordsR_size hy) hts
              obtain ⟨W, hW⟩ : ∃ W, wordsR (x.extract 1 x.size) 32 = W := ⟨_, rfl⟩
              rw [hW] at C2 HWS HPC
              clear hW hts
              go_wp2_with fail
              (with_reducible refine C2.out.mono ?_)
              rintro e w2 ⟨AW, cW, rfl, hr, hb⟩
              have HRW := Lib.hid hr
              have HB2 := Lib.hid hb
              clear hr hb C2
              by_cases h4 : W.length = 4
              · obtain ⟨a0, a1, a2, a3, rfl⟩ : ∃ a0 a1 a2 a3, W = [a0, a1, a2, a3] := by
                  match W, h4 with
                  | [a0, a1, a2, a3], _ => exact ⟨_, _, _, _, rfl⟩
                clear h4
                have hRW2 := HRW.out
                simp only [List.length_cons, List.length_nil, Nat.reduceAdd] at hRW2
                have HRW2 := Lib.hid hRW2
                clear hRW2
                simp only [List.length_cons, List.length_nil, Nat.reduceAdd]
                obtain ⟨lf, hlf⟩ : ∃ lf : Nat → ByteArray, lf = fun t => ([a0, a1, a2, a3] : List ByteArray).getD t ByteArray.empty := ⟨_, rfl⟩
                have HLF : Hid (lf 0 = a0 ∧ lf 1 = a1 ∧ lf 2 = a2 ∧ lf 3 = a3) := by subst hlf; exact ⟨rfl, rfl, rfl, rfl⟩
                clear hlf
                have N0 : Hid (NSt w2 w2.heap.size lf 0 (w2.alloc (.cells #[.int .i64 0, .int .i64 0, .int .i64 0, .int .i64 0] 80))) := ⟨new_block _ _ _, ⟨rfl, rfl, rfl, by simp, fun i hi _ => Below.heap_alloc _ _ _ hi⟩, fun t ht => absurd ht (by omega)⟩
                go_wp2_with fail
                obtain ⟨wo, hwo⟩ : ∃ u : World, u = w2 := ⟨_, rfl⟩
                have HWO := Lib.hid hwo
                clear hwo
                go_loopw [9] (fun i w3 => ∃ j : Nat, j ≤ 4 ∧ i = .int .i64 j ∧ NSt w2 w2.heap.size lf j w3) (fun i _ => 4 - (intOf i).toNat)
                case atStart => exact ⟨0, by omega, rfl, N0.out⟩
                case round =>
                  obtain ⟨j, hj, rfl, hn⟩ := hrel
                  have HN := Lib.hid hn
                  have HRJ := Lib.hid (HRW2.out.below hn.below)
                  have HB3 := Lib.hid (bchain HB2.out hn.below)
                  have HOJ := Lib.hid (HO.out.below HB3.out)
                  clear hn
                  have hj5 : j = 0 ∨ j = 1 ∨ j = 2 ∨ j = 3 ∨ j = 4 := by omega
                  rcases hj5 with rfl | rfl | rfl | rfl | rfl
                  · obtain ⟨bW, oW, y, rfl, hy, cy⟩ := HRJ.out.str_at (show 0 < 4 by omega)
                    obtain rfl : y = a0 := by simpa using hy.symm
                    clear hy
                    simp only [Nat.add_zero] at cy
                    have hz2 := HB2.out.size
                    have CI := Lib.hid (Integer_any y wr (HWS.out y (by simp)))
                    have n0 := cell_at_block (off := 0) HN.out.hg rfl
                    have f0 := free_at_block (off := 0) HN.out.hg
                    cases hi : (intR y).2 with
                    | false =>
                      have hnn : numsR [y, a1, a2, a3] = none := by unfold numsR; simp only []; rw [if_neg (by rw [hi]; simp)]
                      have HZ : Hid (R = none) := by show _ = _; rw [← HRR.out]; exact piecesTo_none (by rw [HST.out, HPC.out, hnn]; rfl) _ hlt
                      have HE : Hid (refP S = ([], 4)) := by show _ = _; rw [HR.out, HZ.out]; rfl
                      have HIV := Lib.hid hi
                      clear hi hnn
                      go_wp2_with fail
                      (with_reducible refine CI.out.mono ?_)
                      rintro e w9 ⟨rfl, rfl⟩
                      rw [HIV.out]
                      go_wp2_with fail
                      go_ret2
                      rw [HE.out]
                      exact ⟨none, 0, rfl, Rd.nil _ _ _, bchain HBA.out (HB3.out.setCell hz2 _)⟩
                    | true =>
                      have HNX : Hid (NSt w2 w2.heap.size lf (0 + 1) (wr.setCell ⟨w2.heap.size, 0, none⟩ (.int .i64 (intR y).1))) := by
                        have h := HN.out.set (by omega) (by rw [HLF.out.1]; exact hi)
                        rw [HLF.out.1] at h
                        exact h
                      have HIV := Lib.hid hi
                      clear hi
                      go_wp2_with fail
                      (with_reducible refine CI.out.mono ?_)
                      rintro e w9 ⟨rfl, rfl⟩
                      rw [HIV.out]
                      go_wp2_with fail
                      exact ⟨⟨0 + 1, by omega, by go_num, HNX.out⟩, by simp [intOf]⟩
                  · obtain ⟨bW, oW, y, rfl, hy, cy⟩ := HRJ.out.str_at (show 1 < 4 by omega)
                    obtain rfl : y = a1 := by simpa using hy.symm
                    clear hy
                    have hz2 := HB2.out.size
                    have CI := Lib.hid (Integer_any y wr (HWS.out y (by simp)))
                    have n1 := cell_at_block (off := 1) HN.out.hg rfl
                    have f1 := free_at_block (off := 1) HN.out.hg
                    cases hi : (intR y).2 with
                    | false =>
                      have hnn : numsR [a0, y, a2, a3] = none := by unfold numsR; simp only []; rw [if_neg (by rw [hi]; simp)]
                      have HZ : Hid (R = none) := by show _ = _; rw [← HRR.out]; exact piecesTo_none (by rw [HST.out, HPC.out, hnn]; rfl) _ hlt
                      have HE : Hid (refP S = ([], 4)) := by show _ = _; rw [HR.out, HZ.out]; rfl
                      have HIV := Lib.hid hi
                      clear hi hnn
                      go_wp2_with fail
                      (with_reducible refine CI.out.mono ?_)
                      rintro e w9 ⟨rfl, rfl⟩
                      rw [HIV.out]
                      go_wp2_with fail
                      go_ret2
                      rw [HE.out]
                      exact ⟨none, 0, rfl, Rd.nil _ _ _, bchain HBA.out (HB3.out.setCell hz2 _)⟩
                    | true =>
                      have HNX : Hid (NSt w2 w2.heap.size lf (1 + 1) (wr.setCell ⟨w2.heap.size, 1, none⟩ (.int .i64 (intR y).1))) := by
                        have h := HN.out.set (by omega) (by rw [HLF.out.2.1]; exact hi)
                        rw [HLF.out.2.1] at h
                        exact h
                      have HIV := Lib.hid hi
                      clear hi
                      go_wp2_with fail
                      (with_reducible refine CI.out.mono ?_)
                      rintro e w9 ⟨rfl, rfl⟩
                      rw [HIV.out]
                      go_wp2_with fail
                      exact ⟨⟨1 + 1, by omega, by go_num, HNX.out⟩, by simp [intOf]⟩
                  · obtain ⟨bW, oW, y, rfl, hy, cy⟩ := HRJ.out.str_at (show 2 < 4 by omega)
                    obtain rfl : y = a2 := by simpa using hy.symm
                    clear hy
                    have hz2 := HB2.out.size
                    have CI := Lib.hid (Integer_any y wr (HWS.out y (by simp)))
                    have n2 := cell_at_block (off := 2) HN.out.hg rfl
                    have f2 := free_at_block (off := 2) HN.out.hg
                    cases hi : (intR y).2 with
                    | false =>
                      have hnn : numsR [a0, a1, y, a3] = none := by unfold numsR; simp only []; rw [if_neg (by rw [hi]; simp)]
                      have HZ : Hid (R = none) := by show _ = _; rw [← HRR.out]; exact piecesTo_none (by rw [HST.out, HPC.out, hnn]; rfl) _ hlt
                      have HE : Hid (refP S = ([], 4)) := by show _ = _; rw [HR.out, HZ.out]; rfl
                      have HIV := Lib.hid hi
                      clear hi hnn
                      go_wp2_with fail
                      (with_reducible refine CI.out.mono ?_)
                      rintro e w9 ⟨rfl, rfl⟩
                      rw [HIV.out]
                      go_wp2_with fail
                      go_ret2
                      rw [HE.out]
                      exact ⟨none, 0, rfl, Rd.nil _ _ _, bchain HBA.out (HB3.out.setCell hz2 _)⟩
                    | true =>
                      have HNX : Hid (NSt w2 w2.heap.size lf (2 + 1) (wr.setCell ⟨w2.heap.size, 2, none⟩ (.int .i64 (intR y).1))) := by
                        have h := HN.out.set (by omega) (by rw [HLF.out.2.2.1]; exact hi)
                        rw [HLF.out.2.2.1] at h
                        exact h
                      have HIV := Lib.hid hi
                      clear hi
                      go_wp2_with fail
                      (with_reducible refine CI.out.mono ?_)
                      rintro e w9 ⟨rfl, rfl⟩
                      rw [HIV.out]
                      go_wp2_with fail
                      exact ⟨⟨2 + 1, by omega, by go_num, HNX.out⟩, by simp [intOf]⟩
                  · obtain ⟨bW, oW, y, rfl, hy, cy⟩ := HRJ.out.str_at (show 3 < 4 by omega)
                    obtain rfl : y = a3 := by simpa using hy.symm
                    clear hy
                    have hz2 := HB2.out.size
                    have CI := Lib.hid (Integer_any y wr (HWS.out y (by simp)))
                    have n3 := cell_at_block (off := 3) HN.out.hg rfl
                    have f3 := free_at_block (off := 3) HN.out.hg
                    cases hi : (intR y).2 with
                    | false =>
                      have hnn : numsR [a0, a1, a2, y] = none := by unfold numsR; simp only []; rw [if_neg (by rw [hi]; simp)]
                      have HZ : Hid (R = none) := by show _ = _; rw [← HRR.out]; exact piecesTo_none (by rw [HST.out, HPC.out, hnn]; rfl) _ hlt
                      have HE : Hid (refP S = ([], 4)) := by show _ = _; rw [HR.out, HZ.out]; rfl
                      have HIV := Lib.hid hi
                      clear hi hnn
                      go_wp2_with fail
                      (with_reducible refine CI.out.mono ?_)
                      rintro e w9 ⟨rfl, rfl⟩
                      rw [HIV.out]
                      go_wp2_with fail
                      go_ret2
                      rw [HE.out]
                      exact ⟨none, 0, rfl, Rd.nil _ _ _, bchain HBA.out (HB3.out.setCell hz2 _)⟩
                    | true =>
                      have HNX : Hid (NSt w2 w2.heap.size lf (3 + 1) (wr.setCell ⟨w2.heap.size, 3, none⟩ (.int .i64 (intR y).1))) := by
                        have h := HN.out.set (by omega) (by rw [HLF.out.2.2.2]; exact hi)
                        rw [HLF.out.2.2.2] at h
                        exact h
                      have HIV := Lib.hid hi
                      clear hi
                      go_wp2_with fail
                      (with_reducible refine CI.out.mono ?_)
                      rintro e w9 ⟨rfl, rfl⟩
                      rw [HIV.out]
                      go_wp2_with fail
                      exact ⟨⟨3 + 1, by omega, by go_num, HNX.out⟩, by simp [intOf]⟩
                  · have hg4 : wr.heap[w2.heap.size]? = some (.cells #[.int .i64 (intR a0).1, .int .i64 (intR a1).1, .int .i64 (intR a2).1, .int .i64 (intR a3).1] 80) := by
                      have h := HN.out.hg
                      simp only [HLF.out.1, HLF.out.2.1, HLF.out.2.2.1, HLF.out.2.2.2] at h
                      exact h
                    have n0 := cell_at_block (off := 0) hg4 rfl
                    have n1 := cell_at_block (off := 1) hg4 rfl
                    have n2 := cell_at_block (off := 2) hg4 rfl
                    have n3 := cell_at_block (off := 3) hg4 rfl
                    have hnn : numsR [a0, a1, a2, a3] = some ⟨⟨(intR a0).1, (intR a1).1, (intR a2).1⟩, (intR a3).1⟩ := by
                      have q0 := HN.out.ok 0 (by omega)
                      have q1 := HN.out.ok 1 (by omega)
                      have q2 := HN.out.ok 2 (by omega)
                      have q3 := HN.out.ok 3 (by omega)
                      rw [HLF.out.1] at q0
                      rw [HLF.out.2.1] at q1
                      rw [HLF.out.2.2.1] at q2
                      rw [HLF.out.2.2.2] at q3
                      unfold numsR
                      simp only []
                      rw [if_pos ⟨q0, q1, q2, q3⟩]
                    have HNX : Hid (piecesTo P (k + 1) = some (L ++ [⟨⟨(intR a0).1, (intR a1).1, (intR a2).1⟩, (intR a3).1⟩])) := by show _ = _; rw [HST.out, HPC.out, hnn]; rfl
                    have HBJ := Lib.hid (bchain HB.out HB3.out)
                    have hszj := HBJ.out.size
                    clear hnn hg4
                    go_wp2_with (at_builtin; go_loud (refine wpList_app1 It.vs 4 40 _ 32 infoIt rfl (by decide) rfl _ _ _ rfl Tryz.underlying23 w1.heap.size _ L rfl (HOJ.out.alloc _) ⟨⟨(intR a0).1, (intR a1).1, (intR a2).1⟩, (intR a3).1⟩ _ _ rfl rfl (newAt _ _ _ _ rfl) (by simp [It.vs, Value.oneCell']) (by omega) (by unfold maxLen; omega) (by simp; omega) (fun v4 w4 hown4 hg4 _ => ?_)))
                    exact ⟨⟨k + 1, _, by omega, by go_num, HNX.out, hown4, (HBJ.out.alloc HBJ.out.size _).grown hg4 (by simp; omega) (fun z e => (HOJ.out.blk z e).1)⟩, by simp [intOf]; omega⟩
              · have hq4 : ((W.length : Int) != 4) = true := by simp; omega
                have hn : numsR W = none := by
                  unfold numsR
                  split
                  · simp at h4
                  · rfl
                have HZ : Hid (R = none) := by show _ = _; rw [← HRR.out]; exact piecesTo_none (by rw [HST.out, HPC.out, hn]; rfl) _ hlt
                have HE : Hid (refP S = ([], 4)) := by show _ = _; rw [HR.out, HZ.out]; rfl
                clear hn h4
                go_wp2_with fail
                go_ret2
                rw [HE.out]
                exact ⟨none, 0, rfl, Rd.nil _ _ _, bchain HBA.out HB2.out⟩
        · have g0 : decide ((0 : Int) < (k : Int)) = false := decide_eq_false (by omega)
          have g0n : decide (0 < k) = false := decide_eq_false hk0
          have hpe : pieceR k x = numsR (wordsR x 32) := by unfold pieceR; rw [if_neg hk0]
          have HPE := Lib.hid hpe
          clear hpe hk0
          have HPC : Hid (pieceR k x = numsR (wordsR (x) 32)) := HPE.out
          have hts : (x).size ≤ 1048576 := by omega
          have C2 := Lib.hid (words_any (x) 32 wr hts)
          have HWS : Hid (∀ y ∈ wordsR (x) 32, y.size ≤ 1048576) := fun y hy => Nat.le_trans (wordsR_size hy) hts
          obtain ⟨W, hW⟩ : ∃ W, wordsR (x) 32 = W := ⟨_, rfl⟩
          rw [hW] at C2 HWS HPC
          clear hW hts
          go_wp2_with fail
          (with_reducible refine C2.out.mono ?_)
          rintro e w2 ⟨AW, cW, rfl, hr, hb⟩
          have HRW := Lib.hid hr
          have HB2 := Lib.hid hb
          clear hr hb C2
          by_cases h4 : W.length = 4
          · obtain ⟨a0, a1, a2, a3, rfl⟩ : ∃ a0 a1 a2 a3, W = [a0, a1, a2, a3] := by
              match W, h4 with
              | [a0, a1, a2, a3], _ => exact ⟨_, _, _, _, rfl⟩
            clear h4
            have hRW2 := HRW.out
            simp only [List.length_cons, List.length_nil, Nat.reduceAdd] at hRW2
            have HRW2 := Lib.hid hRW2
            clear hRW2
            simp only [List.length_cons, List.length_nil, Nat.reduceAdd]
            obtain ⟨lf, hlf⟩ : ∃ lf : Nat → ByteArray, lf = fun t => ([a0, a1, a2, a3] : List ByteArray).getD t ByteArray.empty := ⟨_, rfl⟩
            have HLF : Hid (lf 0 = a0 ∧ lf 1 = a1 ∧ lf 2 = a2 ∧ lf 3 = a3) := by subst hlf; exact ⟨rfl, rfl, rfl, rfl⟩
            clear hlf
            have N0 : Hid (NSt w2 w2.heap.size lf 0 (w2.alloc (.cells #[.int .i64 0, .int .i64 0, .int .i64 0, .int .i64 0] 80))) := ⟨new_block _ _ _, ⟨rfl, rfl, rfl, by simp, fun i hi _ => Below.heap_alloc _ _ _ hi⟩, fun t ht => absurd ht (by omega)⟩
            go_wp2_with fail
            obtain ⟨wo, hwo⟩ : ∃ u : World, u = w2 := ⟨_, rfl⟩
            have HWO := Lib.hid hwo
            clear hwo
            go_loopw [9] (fun i w3 => ∃ j : Nat, j ≤ 4 ∧ i = .int .i64 j ∧ NSt w2 w2.heap.size lf j w3) (fun i _ => 4 - (intOf i).toNat)
            case atStart => exact ⟨0, by omega, rfl, N0.out⟩
            case round =>
              obtain ⟨j, hj, rfl, hn⟩ := hrel
              have HN := Lib.hid hn
              have HRJ := Lib.hid (HRW2.out.below hn.below)
              have HB3 := Lib.hid (bchain HB2.out hn.below)
              have HOJ := Lib.hid (HO.out.below HB3.out)
              clear hn
              have hj5 : j = 0 ∨ j = 1 ∨ j = 2 ∨ j = 3 ∨ j = 4 := by omega
              rcases hj5 with rfl | rfl | rfl | rfl | rfl
              · obtain ⟨bW, oW, y, rfl, hy, cy⟩ := HRJ.out.str_at (show 0 < 4 by omega)
                obtain rfl : y = a0 := by simpa using hy.symm
                clear hy
                simp only [Nat.add_zero] at cy
                have hz2 := HB2.out.size
                have CI := Lib.hid (Integer_any y wr (HWS.out y (by simp)))
                have n0 := cell_at_block (off := 0) HN.out.hg rfl
                have f0 := free_at_block (off := 0) HN.out.hg
                cases hi : (intR y).2 with
                | false =>
                  have hnn : numsR [y, a1, a2, a3] = none := by unfold numsR; simp only []; rw [if_neg (by rw [hi]; simp)]
                  have HZ : Hid (R = none) := by show _ = _; rw [← HRR.out]; exact piecesTo_none (by rw [HST.out, HPC.out, hnn]; rfl) _ hlt
                  have HE : Hid (refP S = ([], 4)) := by show _ = _; rw [HR.out, HZ.out]; rfl
                  have HIV := Lib.hid hi
                  clear hi hnn
                  go_wp2_with fail
                  (with_reducible refine CI.out.mono ?_)
                  rintro e w9 ⟨rfl, rfl⟩
                  rw [HIV.out]
                  go_wp2_with fail
                  go_ret2
                  rw [HE.out]
                  exact ⟨none, 0, rfl, Rd.nil _ _ _, bchain HBA.out (HB3.out.setCell hz2 _)⟩
                | true =>
                  have HNX : Hid (NSt w2 w2.heap.size lf (0 + 1) (wr.setCell ⟨w2.heap.size, 0, none⟩ (.int .i64 (intR y).1))) := by
                    have h := HN.out.set (by omega) (by rw [HLF.out.1]; exact hi)
                    rw [HLF.out.1] at h
                    exact h
                  have HIV := Lib.hid hi
                  clear hi
                  go_wp2_with fail
                  (with_reducible refine CI.out.mono ?_)
                  rintro e w9 ⟨rfl, rfl⟩
                  rw [HIV.out]
                  go_wp2_with fail
                  exact ⟨⟨0 + 1, by omega, by go_num, HNX.out⟩, by simp [intOf]⟩
              · obtain ⟨bW, oW, y, rfl, hy, cy⟩ := HRJ.out.str_at (show 1 < 4 by omega)
                obtain rfl : y = a1 := by simpa using hy.symm
                clear hy
                have hz2 := HB2.out.size
                have CI := Lib.hid (Integer_any y wr (HWS.out y (by simp)))
                have n1 := cell_at_block (off := 1) HN.out.hg rfl
                have f1 := free_at_block (off := 1) HN.out.hg
                cases hi : (intR y).2 with
                | false =>
                  have hnn : numsR [a0, y, a2, a3] = none := by unfold numsR; simp only []; rw [if_neg (by rw [hi]; simp)]
                  have HZ : Hid (R = none) := by show _ = _; rw [← HRR.out]; exact piecesTo_none (by rw [HST.out, HPC.out, hnn]; rfl) _ hlt
                  have HE : Hid (refP S = ([], 4)) := by show _ = _; rw [HR.out, HZ.out]; rfl
                  have HIV := Lib.hid hi
                  clear hi hnn
                  go_wp2_with fail
                  (with_reducible refine CI.out.mono ?_)
                  rintro e w9 ⟨rfl, rfl⟩
                  rw [HIV.out]
                  go_wp2_with fail
                  go_ret2
                  rw [HE.out]
                  exact ⟨none, 0, rfl, Rd.nil _ _ _, bchain HBA.out (HB3.out.setCell hz2 _)⟩
                | true =>
                  have HNX : Hid (NSt w2 w2.heap.size lf (1 + 1) (wr.setCell ⟨w2.heap.size, 1, none⟩ (.int .i64 (intR y).1))) := by
                    have h := HN.out.set (by omega) (by rw [HLF.out.2.1]; exact hi)
                    rw [HLF.out.2.1] at h
                    exact h
                  have HIV := Lib.hid hi
                  clear hi
                  go_wp2_with fail
                  (with_reducible refine CI.out.mono ?_)
                  rintro e w9 ⟨rfl, rfl⟩
                  rw [HIV.out]
                  go_wp2_with fail
                  exact ⟨⟨1 + 1, by omega, by go_num, HNX.out⟩, by simp [intOf]⟩
              · obtain ⟨bW, oW, y, rfl, hy, cy⟩ := HRJ.out.str_at (show 2 < 4 by omega)
                obtain rfl : y = a2 := by simpa using hy.symm
                clear hy
                have hz2 := HB2.out.size
                have CI := Lib.hid (Integer_any y wr (HWS.out y (by simp)))
                have n2 := cell_at_block (off := 2) HN.out.hg rfl
                have f2 := free_at_block (off := 2) HN.out.hg
                cases hi : (intR y).2 with
                | false =>
                  have hnn : numsR [a0, a1, y, a3] = none := by unfold numsR; simp only []; rw [if_neg (by rw [hi]; simp)]
                  have HZ : Hid (R = none) := by show _ = _; rw [← HRR.out]; exact piecesTo_none (by rw [HST.out, HPC.out, hnn]; rfl) _ hlt
                  have HE : Hid (refP S = ([], 4)) := by show _ = _; rw [HR.out, HZ.out]; rfl
                  have HIV := Lib.hid hi
                  clear hi hnn
                  go_wp2_with fail
                  (with_reducible refine CI.out.mono ?_)
                  rintro e w9 ⟨rfl, rfl⟩
                  rw [HIV.out]
                  go_wp2_with fail
                  go_ret2
                  rw [HE.out]
                  exact ⟨none, 0, rfl, Rd.nil _ _ _, bchain HBA.out (HB3.out.setCell hz2 _)⟩
                | true =>
                  have HNX : Hid (NSt w2 w2.heap.size lf (2 + 1) (wr.setCell ⟨w2.heap.size, 2, none⟩ (.int .i64 (intR y).1))) := by
                    have h := HN.out.set (by omega) (by rw [HLF.out.2.2.1]; exact hi)
                    rw [HLF.out.2.2.1] at h
                    exact h
                  have HIV := Lib.hid hi
                  clear hi
                  go_wp2_with fail
                  (with_reducible refine CI.out.mono ?_)
                  rintro e w9 ⟨rfl, rfl⟩
                  rw [HIV.out]
                  go_wp2_with fail
                  exact ⟨⟨2 + 1, by omega, by go_num, HNX.out⟩, by simp [intOf]⟩
              · obtain ⟨bW, oW, y, rfl, hy, cy⟩ := HRJ.out.str_at (show 3 < 4 by omega)
                obtain rfl : y = a3 := by simpa using hy.symm
                clear hy
                have hz2 := HB2.out.size
                have CI := Lib.hid (Integer_any y wr (HWS.out y (by simp)))
                have n3 := cell_at_block (off := 3) HN.out.hg rfl
                have f3 := free_at_block (off := 3) HN.out.hg
                cases hi : (intR y).2 with
                | false =>
                  have hnn : numsR [a0, a1, a2, y] = none := by unfold numsR; simp only []; rw [if_neg (by rw [hi]; simp)]
                  have HZ : Hid (R = none) := by show _ = _; rw [← HRR.out]; exact piecesTo_none (by rw [HST.out, HPC.out, hnn]; rfl) _ hlt
                  have HE : Hid (refP S = ([], 4)) := by show _ = _; rw [HR.out, HZ.out]; rfl
                  have HIV := Lib.hid hi
                  clear hi hnn
                  go_wp2_with fail
                  (with_reducible refine CI.out.mono ?_)
                  rintro e w9 ⟨rfl, rfl⟩
                  rw [HIV.out]
                  go_wp2_with fail
                  go_ret2
                  rw [HE.out]
                  exact ⟨none, 0, rfl, Rd.nil _ _ _, bchain HBA.out (HB3.out.setCell hz2 _)⟩
                | true =>
                  have HNX : Hid (NSt w2 w2.heap.size lf (3 + 1) (wr.setCell ⟨w2.heap.size, 3, none⟩ (.int .i64 (intR y).1))) := by
                    have h := HN.out.set (by omega) (by rw [HLF.out.2.2.2]; exact hi)
                    rw [HLF.out.2.2.2] at h
                    exact h
                  have HIV := Lib.hid hi
                  clear hi
                  go_wp2_with fail
                  (with_reducible refine CI.out.mono ?_)
                  rintro e w9 ⟨rfl, rfl⟩
                  rw [HIV.out]
                  go_wp2_with fail
                  exact ⟨⟨3 + 1, by omega, by go_num, HNX.out⟩, by simp [intOf]⟩
              · have hg4 : wr.heap[w2.heap.size]? = some (.cells #[.int .i64 (intR a0).1, .int .i64 (intR a1).1, .int .i64 (intR a2).1, .int .i64 (intR a3).1] 80) := by
                  have h := HN.out.hg
                  simp only [HLF.out.1, HLF.out.2.1, HLF.out.2.2.1, HLF.out.2.2.2] at h
                  exact h
                have n0 := cell_at_block (off := 0) hg4 rfl
                have n1 := cell_at_block (off := 1) hg4 rfl
                have n2 := cell_at_block (off := 2) hg4 rfl
                have n3 := cell_at_block (off := 3) hg4 rfl
                have hnn : numsR [a0, a1, a2, a3] = some ⟨⟨(intR a0).1, (intR a1).1, (intR a2).1⟩, (intR a3).1⟩ := by
                  have q0 := HN.out.ok 0 (by omega)
                  have q1 := HN.out.ok 1 (by omega)
                  have q2 := HN.out.ok 2 (by omega)
                  have q3 := HN.out.ok 3 (by omega)
                  rw [HLF.out.1] at q0
                  rw [HLF.out.2.1] at q1
                  rw [HLF.out.2.2.1] at q2
                  rw [HLF.out.2.2.2] at q3
                  unfold numsR
                  simp only []
                  rw [if_pos ⟨q0, q1, q2, q3⟩]
                have HNX : Hid (piecesTo P (k + 1) = some (L ++ [⟨⟨(intR a0).1, (intR a1).1, (intR a2).1⟩, (intR a3).1⟩])) := by show _ = _; rw [HST.out, HPC.out, hnn]; rfl
                have HBJ := Lib.hid (bchain HB.out HB3.out)
                have hszj := HBJ.out.size
                clear hnn hg4
                go_wp2_with (at_builtin; go_loud (refine wpList_app1 It.vs 4 40 _ 32 infoIt rfl (by decide) rfl _ _ _ rfl Tryz.underlying23 w1.heap.size _ L rfl (HOJ.out.alloc _) ⟨⟨(intR a0).1, (intR a1).1, (intR a2).1⟩, (intR a3).1⟩ _ _ rfl rfl (newAt _ _ _ _ rfl) (by simp [It.vs, Value.oneCell']) (by omega) (by unfold maxLen; omega) (by simp; omega) (fun v4 w4 hown4 hg4 _ => ?_)))
                exact ⟨⟨k + 1, _, by omega, by go_num, HNX.out, hown4, (HBJ.out.alloc HBJ.out.size _).grown hg4 (by simp; omega) (fun z e => (HOJ.out.blk z e).1)⟩, by simp [intOf]; omega⟩
          · have hq4 : ((W.length : Int) != 4) = true := by simp; omega
            have hn : numsR W = none := by
              unfold numsR
              split
              · simp at h4
              · rfl
            have HZ : Hid (R = none) := by show _ = _; rw [← HRR.out]; exact piecesTo_none (by rw [HST.out, HPC.out, hn]; rfl) _ hlt
            have HE : Hid (refP S = ([], 4)) := by show _ = _; rw [HR.out, HZ.out]; rfl
            clear hn h4
            go_wp2_with fail
            go_ret2
            rw [HE.out]
            exact ⟨none, 0, rfl, Rd.nil _ _ _, bchain HBA.out HB2.out⟩
      · have hkm : k = m := by omega
        have hR2 : R = some L := by rw [← HRR.out, ← hkm]; exact HPT.out
        rw [hR2] at HR
        clear hR2 hkm hRk
        have CG := Lib.hid (fun w9 (h9 : Rd It.vs 4 w9 0 A0 L.length L) => Good_any A0 L.length cap0 L w9 h9)
        have HRD := Lib.hid ((HO.out.rdOf It.vs_length).low (Nat.zero_le _))
        have HOW := Lib.hid ((HO.out.rdOf It.vs_length).low HB1.out.size)
        have HBW := Lib.hid (HBA.out)
        cases gl : bagB L with
        | false =>
          have HE : Hid (refP S = ([], 4)) := by show _ = _; rw [HR.out]; unfold endP; simp only []; rw [if_neg (by rw [gl]; simp)]
          have GL := Lib.hid gl
          clear gl
          go_wp2_with (go_at_call 44; (with_reducible refine (CG.out _ HRD.out).mono ?_); rintro e w5 ⟨rfl, hb5⟩; rw [GL.out]; have HB5 := Lib.hid hb5; clear hb5)
          go_ret2
          rw [HE.out]
          exact ⟨none, 0, rfl, Rd.nil _ _ _, bchain HBW.out HB5.out⟩
        | true =>
          have GL := Lib.hid gl
          have CT := Lib.hid (fun w9 (h9 : Rd It.vs 4 w9 0 A0 L.length L) => Text_any A0 L.length cap0 L w9 h9 GL.out)
          clear gl
          by_cases ht : strOf (textOf L) = S
          · have HE : Hid (refP S = (L, 0)) := by show _ = _; rw [HR.out]; unfold endP; simp only []; rw [if_pos ⟨GL.out, ht⟩]
            have HT := Lib.hid ht
            clear ht
            go_wp2_with fail
            (with_reducible refine (CG.out _ HRD.out).mono ?_)
            rintro e w5 ⟨rfl, hb5⟩
            rw [GL.out]
            have HB5 := Lib.hid hb5
            clear hb5
            go_wp2_with fail
            (with_reducible refine (CT.out _ (HRD.out.below HB5.out)).mono ?_)
            rintro e w6 ⟨rfl, hb6⟩
            have HB6 := Lib.hid hb6
            clear hb6
            rw [HT.out]
            go_wp2_with fail
            go_ret2
            rw [HE.out]
            exact ⟨A0, cap0, rfl, (HOW.out.below (bchain HB5.out HB6.out)).low (Nat.le_refl _), bchain HBW.out (bchain HB5.out HB6.out)⟩
          · have HE : Hid (refP S = ([], 4)) := by show _ = _; rw [HR.out]; unfold endP; simp only []; rw [if_neg (fun h => ht h.2)]
            have e3 : ((strOf (textOf L)).toList == S.toList) = false := str_ne ht
            have e4 : (!((strOf (textOf L)).toList == S.toList)) = true := by rw [e3]; rfl
            clear ht
            go_wp2_with fail
            (with_reducible refine (CG.out _ HRD.out).mono ?_)
            rintro e w5 ⟨rfl, hb5⟩
            rw [GL.out]
            have HB5 := Lib.hid hb5
            clear hb5
            go_wp2_with fail
            (with_reducible refine (CT.out _ (HRD.out.below HB5.out)).mono ?_)
            rintro e w6 ⟨rfl, hb6⟩
            have HB6 := Lib.hid hb6
            clear hb6
            go_wp2_with fail
            go_ret2
            rw [HE.out]
            exact ⟨none, 0, rfl, Rd.nil _ _ _, bchain HBW.out (bchain HB5.out HB6.out)⟩
end Go.Proofs.Bg
end

section
/- Plain law: the reference's Parse answers as the program's. -/
namespace Go.Proofs.Bg

/-! ### pieces -/
def spl (c : Int) : List UInt8 → List UInt8 → List (List UInt8)
  | cur, [] => [cur]
  | cur, x :: r => if ((x.toNat : Int) == c) = true then cur :: spl c [] r else spl c (cur ++ [x]) r
theorem extract_list (l : List UInt8) (a b : Nat) : (strOf l).extract a b = strOf ((l.drop a).take (b - a)) := by
  apply ByteArray.ext
  simp [strOf, ByteArray.data_extract]
theorem strOf_get (l : List UInt8) {k : Nat} (h : k < l.length) : (strOf l)[k]! = l[k] := by
  rw [bang (strOf l) (by rw [strOf_size]; exact h)]
  rfl
theorem wordsR_from (l : List UInt8) (c : Int) : ∀ (n k : Nat), k + n = l.length → wordsR (strOf l) c = (wTo (strOf l) c k).1 ++ (spl c ((l.drop (wTo (strOf l) c k).2).take (k - (wTo (strOf l) c k).2)) (l.drop k)).map strOf
  | 0, k, h => by
    have e : k = l.length := by omega
    subst e
    rw [wordsR, strOf_size, List.drop_length, spl, extract_list]
    rfl
  | n + 1, k, h => by
    have hk : k < l.length := by omega
    have ih := wordsR_from l c n (k + 1) (by omega)
    have hf := (wTo_le (strOf l) c k).1
    rw [List.drop_eq_getElem_cons hk, spl]
    have hw : wTo (strOf l) c (k + 1) = if ((l[k].toNat : Int) == c) = true then ((wTo (strOf l) c k).1 ++ [(strOf l).extract (wTo (strOf l) c k).2 k], k + 1) else wTo (strOf l) c k := by rw [wTo, strOf_get l hk]
    rw [ih, hw]
    split
    · simp only [Nat.sub_self, List.take_zero, List.map_cons, List.append_assoc, List.singleton_append, extract_list]
    · congr 3
      have e1 : k + 1 - (wTo (strOf l) c k).2 = (k - (wTo (strOf l) c k).2) + 1 := by omega
      rw [e1, List.take_add_one]
      congr 1
      rw [List.getElem?_drop]
      have e2 : (wTo (strOf l) c k).2 + (k - (wTo (strOf l) c k).2) = k := by omega
      rw [e2, List.getElem?_eq_getElem hk]
      rfl
theorem wordsR_spl (l : List UInt8) (c : Int) : wordsR (strOf l) c = (spl c [] l).map strOf := by
  have h := wordsR_from l c l.length 0 (by omega)
  simpa [wTo] using h
def Off (c : Int) (a : List UInt8) : Prop := ∀ x ∈ a, ¬ (x.toNat : Int) = c
theorem spl_app {c : Int} : ∀ {a : List UInt8} (cur r : List UInt8), Off c a → spl c cur (a ++ r) = spl c (cur ++ a) r
  | [], cur, r, _ => by simp
  | x :: a, cur, r, h => by
    rw [List.cons_append, spl, if_neg (by have := h x List.mem_cons_self; simpa using this), spl_app (cur ++ [x]) r (fun y hy => h y (List.mem_cons_of_mem _ hy))]
    simp
theorem spl_end {c : Int} {a : List UInt8} (cur : List UInt8) (h : Off c a) : spl c cur a = [cur ++ a] := by
  have := spl_app cur [] h
  rw [List.append_nil] at this
  rw [this, spl]
theorem spl_cut {c : Int} {a : List UInt8} {x : UInt8} (cur r : List UInt8) (h : Off c a) (hx : (x.toNat : Int) = c) : spl c cur (a ++ x :: r) = (cur ++ a) :: spl c [] r := by
  rw [spl_app cur _ h, spl, if_pos (by simpa using hx)]

/-! ### numbers -/
theorem off_digits (u : Nat) : ∀ x ∈ Lib.decDigits u, 48 ≤ x.toNat ∧ x.toNat ≤ 57 := by
  induction u using Nat.strongRecOn with
  | _ u ih =>
    intro x hx
    rw [Lib.decDigits] at hx
    split at hx
    · simp only [List.mem_singleton] at hx
      subst hx
      rw [UInt8.toNat_ofNat']
      omega
    · rcases List.mem_append.1 hx with hx | hx
      · exact ih (u / 10) (by omega) x hx
      · simp only [List.mem_singleton] at hx
        subst hx
        rw [UInt8.toNat_ofNat']
        omega
theorem off_itoa {c : Int} (h : c = 32 ∨ c = 59) (n : Int) : Off c (Lib.itoa n) := by
  intro x hx
  unfold Lib.itoa at hx
  split at hx
  · rcases List.mem_cons.1 hx with rfl | hx
    · rcases h with rfl | rfl <;> decide
    · have := off_digits _ x hx
      omega
  · have := off_digits _ x hx
    omega
theorem digits_len (k : Nat) : ∀ u : Nat, u < 10 ^ (k + 1) → (Lib.decDigits u).length ≤ k + 1 := by
  induction k with
  | zero =>
    intro u h
    rw [Lib.decDigits, dif_pos (by simpa using h)]
    simp
  | succ k ih =>
    intro u h
    rw [Lib.decDigits]
    split
    · simp
    · have := ih (u / 10) (by rw [Nat.pow_succ] at h; omega)
      simp
      omega
theorem digits_pos (u : Nat) : 1 ≤ (Lib.decDigits u).length := by
  rw [Lib.decDigits]
  split <;> simp
theorem digTo_app (a b : List UInt8) : ∀ k, k ≤ a.length → digTo (strOf (a ++ b)) k = digTo (strOf a) k
  | 0, _ => rfl
  | k + 1, h => by
    have h1 : k < a.length := h
    rw [digTo, digTo, digTo_app a b k (by omega), strOf_get _ (by simp; omega), strOf_get _ h1, List.getElem_append_left h1]
theorem digTo_digits (u : Nat) : digTo (strOf (Lib.decDigits u)) (Lib.decDigits u).length = some (u : Int) := by
  induction u using Nat.strongRecOn with
  | _ u ih =>
    by_cases h : u < 10
    · have e : Lib.decDigits u = [UInt8.ofNat (48 + u)] := by rw [Lib.decDigits, dif_pos h]
      have hx : ((UInt8.ofNat (48 + u)).toNat : Int) = 48 + u := by rw [UInt8.toNat_ofNat']; omega
      rw [e]
      show digTo _ (0 + 1) = _
      rw [digTo, strOf_get _ (by simp)]
      simp only [digTo, List.getElem_cons_zero, hx]
      rw [if_neg (by omega)]
      congr 1
      omega
    · have e : Lib.decDigits u = Lib.decDigits (u / 10) ++ [UInt8.ofNat (48 + u % 10)] := by rw [Lib.decDigits, dif_neg h]
      have hx : ((UInt8.ofNat (48 + u % 10)).toNat : Int) = 48 + (u % 10 : Nat) := by rw [UInt8.toNat_ofNat']; omega
      have h1 := ih (u / 10) (by omega)
      rw [e, List.length_append]
      show digTo _ ((Lib.decDigits (u / 10)).length + 1) = _
      rw [digTo, digTo_app _ _ _ (Nat.le_refl _), h1, strOf_get _ (by simp)]
      simp only [List.getElem_append_right (Nat.le_refl _), Nat.sub_self, List.getElem_cons_zero, hx]
      rw [if_neg (by omega)]
      congr 1
      omega
theorem intA_digits {u : Nat} (h : u ≤ 1000000000) (neg : Bool) : intA (strOf (Lib.decDigits u)) neg = (if neg then -(u : Int) else u, true) := by
  unfold intA
  have h1 := digits_pos u
  have h2 := digits_len 9 u (by simp; omega)
  rw [strOf_size, if_neg (by omega), digTo_digits]
  rfl
theorem intR_itoa {n : Int} (h0 : -1000000000 ≤ n) (h1 : n ≤ 1000000000) : intR (strOf (Lib.itoa n)) = (n, true) := by
  by_cases hn : n < 0
  · obtain ⟨u, rfl⟩ : ∃ u : Nat, n = -(u : Int) := ⟨n.natAbs, by omega⟩
    rw [Lib.itoa_neg u (by omega)]
    unfold intR
    rw [if_pos ⟨by rw [strOf_size]; simp, by rw [strOf_get _ (by simp)]; rfl⟩, extract_list]
    have e : ((45 :: Lib.decDigits u).drop 1).take ((strOf (45 :: Lib.decDigits u)).size - 1) = Lib.decDigits u := by rw [strOf_size]; simp
    rw [e, intA_digits (by omega)]
    rfl
  · obtain ⟨u, rfl⟩ : ∃ u : Nat, n = (u : Int) := ⟨n.toNat, by omega⟩
    rw [Lib.itoa_nonneg]
    unfold intR
    have h2 := digits_pos u
    rw [if_neg (by
      rintro ⟨_, h⟩
      rw [strOf_get _ (by omega)] at h
      have := off_digits u _ (List.getElem_mem (l := Lib.decDigits u) (n := 0) (by omega))
      omega), intA_digits (by omega)]
    rfl

/-! ### texts -/
def tailT (l : List It) : List UInt8 := l.flatMap fun y => 59 :: 32 :: itT y
theorem tailT_ints (l : List It) : intsOf (tailT l) = txt false l := by
  induction l with
  | nil => rfl
  | cons y r ih =>
    have e : tailT (y :: r) = 59 :: 32 :: (itT y ++ tailT r) := by simp [tailT]
    rw [e, txt, show intsOf (59 :: 32 :: (itT y ++ tailT r)) = 59 :: 32 :: intsOf (itT y ++ tailT r) from rfl, intsOf_append, itT_ints, ih]
    rfl
theorem textOf_cons (x : It) (l : List It) : textOf (x :: l) = itT x ++ tailT l := by
  apply intsOf_inj
  rw [textOf_txt, intsOf_append, itT_ints, tailT_ints, txt]
  rfl
theorem itT_eq (x : It) : itT x = Lib.itoa x.r.at_ ++ 32 :: (Lib.itoa x.r.key ++ 32 :: (Lib.itoa x.r.val ++ 32 :: Lib.itoa x.n)) := by simp [itT, partT, valOf]
theorem off_itT (x : It) : Off 59 (itT x) := by
  intro y hy
  rw [itT_eq] at hy
  simp only [List.mem_append, List.mem_cons] at hy
  rcases hy with h | rfl | h | rfl | h | rfl | h
  · exact off_itoa (.inr rfl) _ y h
  · decide
  · exact off_itoa (.inr rfl) _ y h
  · decide
  · exact off_itoa (.inr rfl) _ y h
  · decide
  · exact off_itoa (.inr rfl) _ y h
theorem spl_item (x : It) : spl 32 [] (itT x) = [Lib.itoa x.r.at_, Lib.itoa x.r.key, Lib.itoa x.r.val, Lib.itoa x.n] := by
  have o : ∀ n, Off 32 (Lib.itoa n) := off_itoa (.inl rfl)
  rw [itT_eq, spl_cut [] _ (o _) rfl, spl_cut [] _ (o _) rfl, spl_cut [] _ (o _) rfl, spl_end [] (o _)]
  rfl
theorem spl_tail (l : List It) : ∀ cur : List UInt8, spl 59 cur (tailT l) = cur :: l.map fun y => 32 :: itT y := by
  induction l with
  | nil => intro cur; rfl
  | cons y r ih =>
    intro cur
    have e : tailT (y :: r) = [] ++ 59 :: ((32 :: itT y) ++ tailT r) := by simp [tailT]
    have o : Off 59 (32 :: itT y) := fun z hz => by
      rcases List.mem_cons.1 hz with rfl | hz
      · decide
      · exact off_itT y z hz
    rw [e, spl_cut (c := 59) (a := []) (x := 59) cur _ (fun _ h => by simp at h) rfl, spl_app [] _ o, ih]
    simp
theorem numsR_item {x : It} (h : itB x = true) : numsR (wordsR (strOf (itT x)) 32) = some x := by
  obtain ⟨⟨a0, a1⟩, ⟨k0, k1⟩, ⟨v0, v1⟩, n0, n1⟩ := itB_num h
  rw [wordsR_spl, spl_item]
  simp only [List.map_cons, List.map_nil, numsR, intR_itoa a0 a1, intR_itoa k0 k1, intR_itoa v0 v1, intR_itoa n0 n1, and_self, if_true]
theorem piece_first {x : It} (h : itB x = true) : pieceR 0 (strOf (itT x)) = some x := by
  unfold pieceR
  rw [if_neg (by omega), numsR_item h]
theorem piece_next {x : It} (h : itB x = true) (i : Nat) : pieceR (i + 1) (strOf (32 :: itT x)) = some x := by
  unfold pieceR
  rw [if_pos (by omega), if_neg (by
    rw [strOf_size, strOf_get _ (by simp)]
    rintro (h | h)
    · simp at h
    · exact h rfl), extract_list]
  have e : ((32 :: itT x).drop 1).take ((strOf (32 :: itT x)).size - 1) = itT x := by rw [strOf_size]; simp
  rw [e, numsR_item h]
theorem pieces_text {x : It} {l : List It} (h : ∀ y ∈ x :: l, itB y = true) : ∀ k, k ≤ l.length → piecesTo (strOf (itT x) :: l.map fun y => strOf (32 :: itT y)) (k + 1) = some ((x :: l).take (k + 1))
  | 0, _ => by
    rw [piecesTo]
    simp only [piecesTo, List.getElem?_cons_zero, piece_first (h x List.mem_cons_self)]
    rfl
  | k + 1, hk => by
    have hlt : k < l.length := hk
    have hy : l[k]? = some l[k] := List.getElem?_eq_getElem hlt
    rw [piecesTo, pieces_text h k (by omega)]
    simp only [List.getElem?_cons_succ, List.getElem?_map, hy, Option.map_some, piece_next (h l[k] (List.mem_cons_of_mem _ (List.getElem_mem hlt))) k]
    congr 1
    rw [List.take_add_one (i := k + 1)]
    simp [hy]
theorem refP_text {b : List It} (h : bagB b = true) : refP (strOf (textOf b)) = (b, 0) := by
  have hi := ((bagB_spec b).1 h).1
  cases b with
  | nil =>
    have e : strOf (textOf []) = ByteArray.empty := rfl
    unfold refP
    rw [if_pos e]
    show (if bagB [] = true ∧ strOf (textOf []) = strOf (textOf []) then (([], 0) : List It × Int) else ([], 4)) = _
    rw [if_pos ⟨h, rfl⟩]
  | cons x l =>
    have hne : ¬ strOf (textOf (x :: l)) = ByteArray.empty := by
      intro e
      have h1 := congrArg ByteArray.size e
      rw [strOf_size, textOf_cons, itT_eq] at h1
      simp at h1
    have hw : wordsR (strOf (textOf (x :: l))) 59 = strOf (itT x) :: l.map fun y => strOf (32 :: itT y) := by
      rw [wordsR_spl, textOf_cons, spl_app [] _ (off_itT x), spl_tail]
      simp
    have hp := pieces_text hi l.length (Nat.le_refl _)
    unfold refP
    rw [if_neg hne, hw]
    have hlen : (strOf (itT x) :: l.map fun y => strOf (32 :: itT y)).length = l.length + 1 := by simp
    rw [hlen, hp]
    have ht : (x :: l).take (l.length + 1) = x :: l := List.take_of_length_le (by simp)
    rw [ht]
    show (if bagB (x :: l) = true ∧ strOf (textOf (x :: l)) = strOf (textOf (x :: l)) then ((x :: l, 0) : List It × Int) else ([], 4)) = _
    rw [if_pos ⟨h, rfl⟩]
/-- The two agree. -/
theorem refP_parse (s : List UInt8) : refP (strOf s) = parseR s := by
  have hor : refP (strOf s) = ([], 4) ∨ ∃ L, refP (strOf s) = (L, 0) ∧ bagB L = true ∧ textOf L = s := by
    unfold refP endP
    split
    · rename_i L _
      split
      · rename_i h
        refine .inr ⟨L, rfl, h.1, ?_⟩
        have e := congrArg ByteArray.data h.2
        have e2 : (textOf L).toArray.toList = s.toArray.toList := congrArg Array.toList e
        simpa using e2
      · exact .inl rfl
    · exact .inl rfl
  rcases hor with h | ⟨L, h, hb, ht⟩
  · rcases parse_err s with h2 | h2
    · obtain ⟨b1, b2⟩ := parse_back h2
      have h3 := refP_text b1
      rw [b2, h] at h3
      have := congrArg Prod.snd h3
      simp at this
    · rw [h, h2]
  · rw [h, parse_is hb ht]
end Go.Proofs.Bg
end

section
/- What a call that returns a bag and an error leaves, the length named. -/
namespace Go.Proofs.Bg
open Go.RowKit
def RetL (w : World) (p : List It × Int) (e : Ending) (w' : World) : Prop :=
  (∃ A n cap, e = .returned (.tuple #[.slice A n cap, .int .i64 p.2]) ∧ Rd It.vs 4 w' w.heap.size A n p.1) ∧ Below w.heap.size w w'
theorem RetBag.lst {w w' : World} {p : List It × Int} {e : Ending} (h : RetBag w p e w') : RetL w p e w' := by
  obtain ⟨A, cap, he, hr, hb⟩ := h
  exact ⟨⟨A, _, cap, he, hr⟩, hb⟩
end Go.Proofs.Bg
end

section
/- BagTexts: the walk of the law. -/
namespace Go.Proofs.Bg
open Go.RowKit

set_option maxRecDepth 100000 in
set_option maxHeartbeats 4000000 in
theorem BagTexts_any (A : Option Addr) (n capA : Nat) (a : List It) (s : List UInt8) (w : World) (hA : Rd It.vs 4 w 0 A n a) (hs : s.length ≤ 1048576) (ht : Tab w) :
    Calls Tryz.prog 4 #[.slice A n capA, .string (strOf s)] w fun e w' => e = .returned (.bool true) ∧ Below w.heap.size w w' := by
  have HA := Lib.hid hA
  have HT := Lib.hid ht
  have HSS : Hid (s.length * 32 ≤ 140737488355328) := by show _ ≤ _; omega
  have HSZ : Hid ((strOf s).size ≤ 1048576) := by show _ ≤ _; rw [strOf_size]; exact hs
  obtain ⟨⟨tb, cb⟩, hp⟩ : ∃ p, printR a = p := ⟨_, rfl⟩
  obtain ⟨⟨rs, cr⟩, hq⟩ : ∃ p, parseR s = p := ⟨_, rfl⟩
  have HP := Lib.hid hp
  have HQ := Lib.hid hq
  have HQ2 : Hid (refP (strOf s) = (rs, cr)) := by show _ = _; rw [refP_parse, hq]
  clear hA hs ht hp hq
  go_enter Tryz.func4, Tryz.ntmps4
  have C := Lib.hid (Print_any A n capA a w HA.out HT.out)
  rw [HP.out] at C
  go_wp2_with fail
  (with_reducible refine C.out.mono ?_)
  rintro e w1 ⟨rfl, hb⟩
  have HS0 := Lib.hid hb
  clear hb C
  have C := Lib.hid (PrintRef_any A n capA a w1 (HA.out.below HS0.out))
  rw [HP.out] at C
  go_wp2_with fail
  (with_reducible refine C.out.mono ?_)
  rintro e w2 ⟨rfl, hb⟩
  have HS1 := Lib.hid hb
  clear hb C
  have C := Lib.hid (Parse_any s w2 HSS.out)
  rw [HQ.out] at C
  replace C := Lib.hid (C.out.mono fun _ _ h => h.lst)
  go_wp2_with fail
  (with_reducible refine C.out.mono ?_)
  rintro e w3 ⟨⟨S1, q1, c1, rfl, hr⟩, hb⟩
  have HS2 := Lib.hid hb
  have HR1 := Lib.hid (hr.low (Nat.zero_le _))
  clear hr hb C
  have C := Lib.hid (ParseRef_any (strOf s) w3 HSZ.out)
  rw [HQ2.out] at C
  replace C := Lib.hid (C.out.mono fun _ _ h => h.lst)
  go_wp2_with fail
  (with_reducible refine C.out.mono ?_)
  rintro e w4 ⟨⟨S2, q2, c2, rfl, hr⟩, hb⟩
  have HS3 := Lib.hid hb
  have HR2 := Lib.hid (hr.low (Nat.zero_le _))
  clear hr hb C
  have HE : Hid (decide (rs = rs) = true) := by show _ = _; simp
  have C := Lib.hid (Same_any S1 S2 q1 q2 c1 c2 rs rs w4 (HR1.out.below HS3.out) HR2.out)
  rw [HE.out] at C
  go_wp2_with fail
  (with_reducible refine C.out.mono ?_)
  rintro e w5 ⟨rfl, hb⟩
  have HS4 := Lib.hid hb
  clear hb C
  clear HE
  have C := Lib.hid (known_any w5 (HT.out.below (bchain HS0.out (bchain HS1.out (bchain HS2.out (bchain HS3.out HS4.out))))))
  go_wp2_with fail
  (with_reducible refine C.out.mono ?_)
  rintro e w6 ⟨rfl, hb⟩
  have HS5 := Lib.hid hb
  clear hb C
  go_wp2_with fail
  go_ret
  exact ⟨rfl, (bchain HS0.out (bchain HS1.out (bchain HS2.out (bchain HS3.out (bchain HS4.out HS5.out)))))⟩
end Go.Proofs.Bg
end
