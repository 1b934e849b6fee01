/- The contract of text.number. -/
import Derived.Test.YtcbemmlhpinjkaaGreatDoorBgText
namespace Go.Proofs.Bg
open Go.RowKit

def finM (minus : Bool) : Option (Int × List Int) → Option (Value × List Int)
  | none => none
  | some (n, r) => if minus then (if 0 < n then some (.int .i64 (-n), r) else none) else some (.int .i64 n, r)
def leftLen (tb : Nat) (w : World) : Nat := match w.cell? ⟨tb, 0, none⟩ with | some (.slice _ n _) => n | _ => 0
theorem LeftIs.len_of {w : World} {tb : Nat} {T : TypeId} {s : List Int} (h : LeftIs w tb T s) : leftLen tb w = s.length := by
  obtain ⟨A, cap, hb, _⟩ := h
  have c0 : w.cell? ⟨tb, 0, none⟩ = some (.slice A s.length cap) := cell_at_block hb rfl
  rw [leftLen, c0]
theorem pAbs_no {s : List Int} (h : pDigit s = false) : pAbs s = none := by
  cases s with
  | nil => rfl
  | cons x r => rw [pAbs, if_neg (by simpa [pDigit] using h)]
theorem pDigit_yes {s : List Int} (h : pDigit s = true) : ∃ y r, s = y :: r ∧ isDig y = true := by
  cases s with
  | nil => cases h
  | cons x r => exact ⟨x, r, rfl, h⟩
theorem isDig_bd {y : Int} (h : isDig y = true) : 48 ≤ y ∧ y ≤ 57 := by simpa [isDig, withinB] using h
theorem pLoop_end {s : List Int} (n : Int) (h : pDigit s = false) : pLoop s n = some (n, s) := by
  cases s with
  | nil => rfl
  | cons x r =>
    have : isDig x = false := h
    rw [pLoop, if_neg (by simp [this])]
theorem pLoop_zero (n : Int) (s : List Int) (h : ¬ 0 < n) : pLoop s n = some (n, s) := by
  cases s with
  | nil => rfl
  | cons x r => rw [pLoop, if_neg (by simp [h])]
/-- What the loop holds. -/
def NumL (tb : Nat) (w : World) (R : Option (Int × List Int)) (n : Int) (rest : List Int) (wr : World) : Prop :=
  LeftIs wr tb 87 rest ∧ w.grownBy wr (some tb) ∧ pLoop rest n = R ∧ 0 ≤ n ∧ n ≤ 1000000000

set_option maxRecDepth 100000 in
set_option maxHeartbeats 2000000 in
theorem number_any (tb : Nat) (s : List Int) (w : World) (h : LeftIs w tb 87 s) :
    Calls Tryz.prog 102 #[.pointer (some ⟨tb, 0, none⟩)] w (Reads tb 87 w ((pNum s).map fun p => (.int .i64 p.1, p.2))) := by
  have HDn := Lib.hid (done_any tb _ s w h)
  have HLA0 := Lib.hid h
  by_cases hm : ∃ s1, s = 45 :: s1
  · obtain ⟨s1, rfl⟩ := hm
    obtain ⟨b, off, cap, c0, d0, hx0, hx1⟩ := h.head
    obtain ⟨s, hs⟩ : ∃ s, s = 45 :: s1 := ⟨_, rfl⟩
    rw [← hs]
    have HF : Hid ((pNum s).map (fun p => (Value.int .i64 p.1, p.2)) = finM true (pAbs s1)) := by
      show _ = _
      rw [hs, pNum, if_pos rfl]
      cases pAbs s1 with
      | none => rfl
      | some p =>
        obtain ⟨n, r⟩ := p
        by_cases hn : 0 < n <;> simp [finM, hn]
    have HN := Lib.hid (next_yes tb _ 45 s1 w h)
    clear h hs
    go_enter Tryz.func102, Tryz.ntmps102
    go_wp2_with (first | (go_at_call 61; (with_reducible refine HDn.out.mono ?_); rintro e w' ⟨rfl, rfl⟩) | (go_at_call 101; (with_reducible refine HN.out.mono ?_); rintro e w' ⟨rfl, hl, hg⟩; have HLA := Lib.hid hl; have HGA := Lib.hid hg; clear hl hg))
    clear c0 d0 HN HLA0 HDn
    have HD := Lib.hid (digit_any tb s1 _ HLA.out)
    cases hdg : pDigit s1 with
    | false =>
      have HDE := Lib.hid hdg
      have hz : finM true (pAbs s1) = none := by rw [pAbs_no hdg]; rfl
      have HZ := Lib.hid hz
      clear hdg hz
      go_wp2_with (first | (go_at_call 117; (with_reducible refine HD.out.mono ?_); rintro e w' ⟨rfl, rfl⟩; rw [HDE.out]) | (go_at_call 91; (with_reducible refine (need_no _).mono ?_); rintro e w' ⟨rfl, rfl⟩))
      refine ⟨rfl, ?_⟩
      show Reads tb _ w _ _ _
      rw [HF.out, HZ.out]
      exact ⟨rfl, HGA.out⟩
    | true =>
      have HDE := Lib.hid hdg
      obtain ⟨y, r1, rfl, hy⟩ := pDigit_yes hdg
      obtain ⟨hy1, hy2⟩ := isDig_bd hy
      have HR : Hid ((pNum s).map (fun p => (Value.int .i64 p.1, p.2)) = finM true (pLoop r1 (y - 48))) := by rw [HF.out, pAbs, if_pos hy]; rfl
      have HN := Lib.hid (next_yes tb _ y r1 _ HLA.out)
      have hw8 : IntKind.u8.wrap (y - 48) = y - 48 := IntWalk.u8_in _ (by omega)
      clear hdg hy HF
      go_wp2_with (first | (go_at_call 117; (with_reducible refine HD.out.mono ?_); rintro e w' ⟨rfl, rfl⟩; rw [HDE.out]) | (go_at_call 91; (with_reducible refine (need_yes _).mono ?_); rintro e w' ⟨rfl, rfl⟩) | (go_at_call 101; (with_reducible refine HN.out.mono ?_); rintro e w' ⟨rfl, hl, hg⟩; have HL := Lib.hid hl; have HG := Lib.hid hg; clear hl hg))
      have HG2 : Hid (w.grownBy w' (some tb)) := HGA.out.then_ HG.out (fun _ e => .inr e)
      obtain ⟨R, hR⟩ : ∃ R, pLoop r1 (y - 48) = R := ⟨_, rfl⟩
      rw [hR] at HR
      have HRel0 : Hid (NumL tb w R (y - 48) r1 w') := ⟨HL.out, HG2.out, hR, by omega, by omega⟩
      clear hR HN HD HDE hw8 HG HL HG2 HLA HGA
      go_loopw [4] (fun v wr => ∃ n rest, v = .int .i64 n ∧ NumL tb w R n rest wr) (fun _ wr => leftLen tb wr)
      case atStart => exact ⟨_, _, rfl, HRel0.out⟩
      case round =>
        clear HRel0
        obtain ⟨n, rest, rfl, hl, hg, hR, hn0, hn1⟩ := hrel
        have HL := Lib.hid hl
        have HG := Lib.hid hg
        have HRR := Lib.hid hR
        have HD := Lib.hid (digit_any tb rest _ hl)
        clear hl hg hR
        by_cases hnp : 0 < n
        · cases hdg : pDigit rest with
          | false =>
            have hfin : finM true R = some (.int .i64 (-n), rest) := by rw [← HRR.out, pLoop_end n hdg]; simp [finM, hnp]
            have HDE := Lib.hid hdg
            clear hdg
            have HFin := Lib.hid hfin
            clear hfin
            have hwn : IntKind.i64.wrap (-n) = -n := IntWalk.i64_in _ (by omega)
            have hgd : decide (0 < n) = true := by simpa using hnp
            go_wp2_with (first | (go_at_call 117; (with_reducible refine HD.out.mono ?_); rintro e w' ⟨rfl, rfl⟩; rw [HDE.out]) | (go_at_call 91; (with_reducible refine (need_yes _).mono ?_); rintro e w' ⟨rfl, rfl⟩))
            go_ret
            show Reads tb _ w _ _ _
            rw [HR.out, HFin.out]
            exact ⟨rfl, HL.out, HG.out⟩
          | true =>
            have HDE := Lib.hid hdg
            obtain ⟨z, r2, rfl, hz⟩ := pDigit_yes hdg
            obtain ⟨hz1, hz2⟩ := isDig_bd hz
            have HN := Lib.hid (next_yes tb _ z r2 _ HL.out)
            have hw8 : IntKind.u8.wrap (z - 48) = z - 48 := IntWalk.u8_in _ (by omega)
            have hgd : decide (0 < n) = true := by simpa using hnp
            have HLw := Lib.hid HL.out.len_of
            by_cases hbig : 10 * n + (z - 48) ≤ 1000000000
            · have hstep : pLoop (z :: r2) n = pLoop r2 (10 * n + (z - 48)) := by rw [pLoop, if_pos (by simp [hnp, hz]), if_pos hbig]
              have HST := Lib.hid hstep
              have hgb : decide (10 * n + (z - 48) ≤ 1000000000) = true := by simpa using hbig
              clear hstep hz hdg
              go_wp2_with (first | (go_at_call 117; (with_reducible refine HD.out.mono ?_); rintro e w' ⟨rfl, rfl⟩; rw [HDE.out]) | (go_at_call 91; (with_reducible refine (need_yes _).mono ?_); rintro e w' ⟨rfl, rfl⟩) | (go_at_call 101; (with_reducible refine HN.out.mono ?_); rintro e w' ⟨rfl, hl, hg⟩; have HL2 := Lib.hid hl; have HG2 := Lib.hid hg; clear hl hg))
              exact ⟨⟨_, r2, rfl, HL2.out, HG.out.then_ HG2.out (fun _ e => .inr e), by rw [← HRR.out, HST.out], by omega, by omega⟩, by rw [HL2.out.len_of, HLw.out]; simp⟩
            · have hfin : finM true R = none := by rw [← HRR.out, pLoop, if_pos (by simp [hnp, hz]), if_neg hbig]; rfl
              have hgb : decide (10 * n + (z - 48) ≤ 1000000000) = false := by simpa using hbig
              have HFin := Lib.hid hfin
              clear hfin hz hdg
              go_wp2_with (first | (go_at_call 117; (with_reducible refine HD.out.mono ?_); rintro e w' ⟨rfl, rfl⟩; rw [HDE.out]) | (go_at_call 91; (with_reducible refine (need_no _).mono ?_); rintro e w' ⟨rfl, rfl⟩) | (go_at_call 101; (with_reducible refine HN.out.mono ?_); rintro e w' ⟨rfl, hl, hg⟩; have HL2 := Lib.hid hl; have HG2 := Lib.hid hg; clear hl hg))
              refine ⟨rfl, ?_⟩
              show Reads tb _ w _ _ _
              rw [HR.out, HFin.out]
              exact ⟨rfl, HG.out.then_ HG2.out (fun _ e => .inr e)⟩
        · have hfin : finM true R = none := by rw [← HRR.out, pLoop_zero n rest hnp]; simp [finM, hnp]
          have HFin := Lib.hid hfin
          clear hfin
          have hgd : decide (0 < n) = false := by simp; omega
          go_wp2_with (first | (go_at_call 117; (with_reducible refine HD.out.mono ?_); rintro e w' ⟨rfl, rfl⟩; rw [HDE.out]) | (go_at_call 91; (with_reducible refine (need_no _).mono ?_); rintro e w' ⟨rfl, rfl⟩))
          refine ⟨rfl, ?_⟩
          show Reads tb _ w _ _ _
          rw [HR.out, HFin.out]
          exact ⟨rfl, HG.out⟩
  · obtain ⟨s1, hs1⟩ : ∃ s1, s1 = s := ⟨_, rfl⟩
    have HF : Hid ((pNum s).map (fun p => (Value.int .i64 p.1, p.2)) = finM false (pAbs s1)) := by
      show _ = _
      have e1 : pNum s = pAbs s1 := by
        subst hs1
        cases s1 with
        | nil => rfl
        | cons x r => rw [pNum, if_neg (fun e => hm ⟨r, by rw [e]⟩)]
      rw [e1]
      cases pAbs s1 with
      | none => rfl
      | some p => rfl
    have HLA : Hid (LeftIs w tb 87 s1) := by rw [hs1]; exact h
    have HGA : Hid (w.grownBy w (some tb)) := World.grownBy.refl _ _
    have hmin : ∃ q : Bool, True := ⟨true, trivial⟩
    clear hmin
    cases s with
    | nil =>
      obtain ⟨s, hs⟩ : ∃ s, s = ([] : List Int) := ⟨_, rfl⟩
      rw [← hs] at HF ⊢
      clear h hm hs1 hs HLA0
      go_enter Tryz.func102, Tryz.ntmps102
      go_wp2_with (go_at_call 61; (with_reducible refine HDn.out.mono ?_); rintro e w' ⟨rfl, rfl⟩)
      clear HDn
      have HD := Lib.hid (digit_any tb s1 _ HLA.out)
      cases hdg : pDigit s1 with
      | false =>
        have HDE := Lib.hid hdg
        have hz : finM false (pAbs s1) = none := by rw [pAbs_no hdg]; rfl
        have HZ := Lib.hid hz
        clear hdg hz
        go_wp2_with (first | (go_at_call 117; (with_reducible refine HD.out.mono ?_); rintro e w' ⟨rfl, rfl⟩; rw [HDE.out]) | (go_at_call 91; (with_reducible refine (need_no _).mono ?_); rintro e w' ⟨rfl, rfl⟩))
        refine ⟨rfl, ?_⟩
        show Reads tb _ w _ _ _
        rw [HF.out, HZ.out]
        exact ⟨rfl, HGA.out⟩
      | true =>
        have HDE := Lib.hid hdg
        obtain ⟨y, r1, rfl, hy⟩ := pDigit_yes hdg
        obtain ⟨hy1, hy2⟩ := isDig_bd hy
        have HR : Hid ((pNum s).map (fun p => (Value.int .i64 p.1, p.2)) = finM false (pLoop r1 (y - 48))) := by rw [HF.out, pAbs, if_pos hy]; rfl
        have HN := Lib.hid (next_yes tb _ y r1 _ HLA.out)
        have hw8 : IntKind.u8.wrap (y - 48) = y - 48 := IntWalk.u8_in _ (by omega)
        clear hdg hy HF
        go_wp2_with (first | (go_at_call 117; (with_reducible refine HD.out.mono ?_); rintro e w' ⟨rfl, rfl⟩; rw [HDE.out]) | (go_at_call 91; (with_reducible refine (need_yes _).mono ?_); rintro e w' ⟨rfl, rfl⟩) | (go_at_call 101; (with_reducible refine HN.out.mono ?_); rintro e w' ⟨rfl, hl, hg⟩; have HL := Lib.hid hl; have HG := Lib.hid hg; clear hl hg))
        have HG2 : Hid (w.grownBy w' (some tb)) := HGA.out.then_ HG.out (fun _ e => .inr e)
        obtain ⟨R, hR⟩ : ∃ R, pLoop r1 (y - 48) = R := ⟨_, rfl⟩
        rw [hR] at HR
        have HRel0 : Hid (NumL tb w R (y - 48) r1 w') := ⟨HL.out, HG2.out, hR, by omega, by omega⟩
        clear hR HN HD HDE hw8 HG HL HG2 HLA HGA
        go_loopw [4] (fun v wr => ∃ n rest, v = .int .i64 n ∧ NumL tb w R n rest wr) (fun _ wr => leftLen tb wr)
        case atStart => exact ⟨_, _, rfl, HRel0.out⟩
        case round =>
          clear HRel0
          obtain ⟨n, rest, rfl, hl, hg, hR, hn0, hn1⟩ := hrel
          have HL := Lib.hid hl
          have HG := Lib.hid hg
          have HRR := Lib.hid hR
          have HD := Lib.hid (digit_any tb rest _ hl)
          clear hl hg hR
          by_cases hnp : 0 < n
          · cases hdg : pDigit rest with
            | false =>
              have hfin : finM false R = some (.int .i64 n, rest) := by rw [← HRR.out, pLoop_end n hdg]; simp [finM]
              have HDE := Lib.hid hdg
              clear hdg
              have HFin := Lib.hid hfin
              clear hfin
              have hgd : decide (0 < n) = true := by simp; omega
              go_wp2_with (go_at_call 117; (with_reducible refine HD.out.mono ?_); rintro e w' ⟨rfl, rfl⟩; rw [HDE.out])
              go_ret
              show Reads tb _ w _ _ _
              rw [HR.out, HFin.out]
              exact ⟨rfl, HL.out, HG.out⟩
            | true =>
              have HDE := Lib.hid hdg
              obtain ⟨z, r2, rfl, hz⟩ := pDigit_yes hdg
              obtain ⟨hz1, hz2⟩ := isDig_bd hz
              have HN := Lib.hid (next_yes tb _ z r2 _ HL.out)
              have hw8 : IntKind.u8.wrap (z - 48) = z - 48 := IntWalk.u8_in _ (by omega)
              have hgd : decide (0 < n) = true := by simpa using hnp
              have HLw := Lib.hid HL.out.len_of
              by_cases hbig : 10 * n + (z - 48) ≤ 1000000000
              · have hstep : pLoop (z :: r2) n = pLoop r2 (10 * n + (z - 48)) := by rw [pLoop, if_pos (by simp [hnp, hz]), if_pos hbig]
                have HST := Lib.hid hstep
                have hgb : decide (10 * n + (z - 48) ≤ 1000000000) = true := by simpa using hbig
                clear hstep hz hdg
                go_wp2_with (first | (go_at_call 117; (with_reducible refine HD.out.mono ?_); rintro e w' ⟨rfl, rfl⟩; rw [HDE.out]) | (go_at_call 91; (with_reducible refine (need_yes _).mono ?_); rintro e w' ⟨rfl, rfl⟩) | (go_at_call 101; (with_reducible refine HN.out.mono ?_); rintro e w' ⟨rfl, hl, hg⟩; have HL2 := Lib.hid hl; have HG2 := Lib.hid hg; clear hl hg))
                exact ⟨⟨_, r2, rfl, HL2.out, HG.out.then_ HG2.out (fun _ e => .inr e), by rw [← HRR.out, HST.out], by omega, by omega⟩, by rw [HL2.out.len_of, HLw.out]; simp⟩
              · have hfin : finM false R = none := by rw [← HRR.out, pLoop, if_pos (by simp [hnp, hz]), if_neg hbig]; rfl
                have hgb : decide (10 * n + (z - 48) ≤ 1000000000) = false := by simpa using hbig
                have HFin := Lib.hid hfin
                clear hfin hz hdg
                go_wp2_with (first | (go_at_call 117; (with_reducible refine HD.out.mono ?_); rintro e w' ⟨rfl, rfl⟩; rw [HDE.out]) | (go_at_call 91; (with_reducible refine (need_no _).mono ?_); rintro e w' ⟨rfl, rfl⟩) | (go_at_call 101; (with_reducible refine HN.out.mono ?_); rintro e w' ⟨rfl, hl, hg⟩; have HL2 := Lib.hid hl; have HG2 := Lib.hid hg; clear hl hg))
                refine ⟨rfl, ?_⟩
                show Reads tb _ w _ _ _
                rw [HR.out, HFin.out]
                exact ⟨rfl, HG.out.then_ HG2.out (fun _ e => .inr e)⟩
          · have hfin : finM false R = some (.int .i64 n, rest) := by rw [← HRR.out, pLoop_zero n rest hnp]; simp [finM]
            have HFin := Lib.hid hfin
            clear hfin
            have hgd : decide (0 < n) = false := by simp; omega
            go_wp2_with (go_at_call 117; (with_reducible refine HD.out.mono ?_); rintro e w' ⟨rfl, rfl⟩; rw [HDE.out])
            go_ret
            show Reads tb _ w _ _ _
            rw [HR.out, HFin.out]
            exact ⟨rfl, HL.out, HG.out⟩
    | cons x r =>
      obtain ⟨b, off, cap, c0, d0, hx0, hx1⟩ := h.head
      have hx : (x == 45) = false := by simpa using (fun e => hm ⟨r, by rw [e]⟩ : ¬ x = 45)
      obtain ⟨s, hs⟩ : ∃ s, s = x :: r := ⟨_, rfl⟩
      rw [← hs] at HF ⊢
      clear h hm hs1 hs HLA0
      go_enter Tryz.func102, Tryz.ntmps102
      go_wp2_with (go_at_call 61; (with_reducible refine HDn.out.mono ?_); rintro e w' ⟨rfl, rfl⟩)
      clear HDn c0 d0
      have HD := Lib.hid (digit_any tb s1 _ HLA.out)
      cases hdg : pDigit s1 with
      | false =>
        have HDE := Lib.hid hdg
        have hz : finM false (pAbs s1) = none := by rw [pAbs_no hdg]; rfl
        have HZ := Lib.hid hz
        clear hdg hz
        go_wp2_with (first | (go_at_call 117; (with_reducible refine HD.out.mono ?_); rintro e w' ⟨rfl, rfl⟩; rw [HDE.out]) | (go_at_call 91; (with_reducible refine (need_no _).mono ?_); rintro e w' ⟨rfl, rfl⟩))
        refine ⟨rfl, ?_⟩
        show Reads tb _ w _ _ _
        rw [HF.out, HZ.out]
        exact ⟨rfl, HGA.out⟩
      | true =>
        have HDE := Lib.hid hdg
        obtain ⟨y, r1, rfl, hy⟩ := pDigit_yes hdg
        obtain ⟨hy1, hy2⟩ := isDig_bd hy
        have HR : Hid ((pNum s).map (fun p => (Value.int .i64 p.1, p.2)) = finM false (pLoop r1 (y - 48))) := by rw [HF.out, pAbs, if_pos hy]; rfl
        have HN := Lib.hid (next_yes tb _ y r1 _ HLA.out)
        have hw8 : IntKind.u8.wrap (y - 48) = y - 48 := IntWalk.u8_in _ (by omega)
        clear hdg hy HF
        go_wp2_with (first | (go_at_call 117; (with_reducible refine HD.out.mono ?_); rintro e w' ⟨rfl, rfl⟩; rw [HDE.out]) | (go_at_call 91; (with_reducible refine (need_yes _).mono ?_); rintro e w' ⟨rfl, rfl⟩) | (go_at_call 101; (with_reducible refine HN.out.mono ?_); rintro e w' ⟨rfl, hl, hg⟩; have HL := Lib.hid hl; have HG := Lib.hid hg; clear hl hg))
        have HG2 : Hid (w.grownBy w' (some tb)) := HGA.out.then_ HG.out (fun _ e => .inr e)
        obtain ⟨R, hR⟩ : ∃ R, pLoop r1 (y - 48) = R := ⟨_, rfl⟩
        rw [hR] at HR
        have HRel0 : Hid (NumL tb w R (y - 48) r1 w') := ⟨HL.out, HG2.out, hR, by omega, by omega⟩
        clear hR HN HD HDE hw8 HG HL HG2 HLA HGA
        go_loopw [4] (fun v wr => ∃ n rest, v = .int .i64 n ∧ NumL tb w R n rest wr) (fun _ wr => leftLen tb wr)
        case atStart => exact ⟨_, _, rfl, HRel0.out⟩
        case round =>
          clear HRel0
          obtain ⟨n, rest, rfl, hl, hg, hR, hn0, hn1⟩ := hrel
          have HL := Lib.hid hl
          have HG := Lib.hid hg
          have HRR := Lib.hid hR
          have HD := Lib.hid (digit_any tb rest _ hl)
          clear hl hg hR
          by_cases hnp : 0 < n
          · cases hdg : pDigit rest with
            | false =>
              have hfin : finM false R = some (.int .i64 n, rest) := by rw [← HRR.out, pLoop_end n hdg]; simp [finM]
              have HDE := Lib.hid hdg
              clear hdg
              have HFin := Lib.hid hfin
              clear hfin
              have hgd : decide (0 < n) = true := by simp; omega
              go_wp2_with (go_at_call 117; (with_reducible refine HD.out.mono ?_); rintro e w' ⟨rfl, rfl⟩; rw [HDE.out])
              go_ret
              show Reads tb _ w _ _ _
              rw [HR.out, HFin.out]
              exact ⟨rfl, HL.out, HG.out⟩
            | true =>
              have HDE := Lib.hid hdg
              obtain ⟨z, r2, rfl, hz⟩ := pDigit_yes hdg
              obtain ⟨hz1, hz2⟩ := isDig_bd hz
              have HN := Lib.hid (next_yes tb _ z r2 _ HL.out)
              have hw8 : IntKind.u8.wrap (z - 48) = z - 48 := IntWalk.u8_in _ (by omega)
              have hgd : decide (0 < n) = true := by simpa using hnp
              have HLw := Lib.hid HL.out.len_of
              by_cases hbig : 10 * n + (z - 48) ≤ 1000000000
              · have hstep : pLoop (z :: r2) n = pLoop r2 (10 * n + (z - 48)) := by rw [pLoop, if_pos (by simp [hnp, hz]), if_pos hbig]
                have HST := Lib.hid hstep
                have hgb : decide (10 * n + (z - 48) ≤ 1000000000) = true := by simpa using hbig
                clear hstep hz hdg
                go_wp2_with (first | (go_at_call 117; (with_reducible refine HD.out.mono ?_); rintro e w' ⟨rfl, rfl⟩; rw [HDE.out]) | (go_at_call 91; (with_reducible refine (need_yes _).mono ?_); rintro e w' ⟨rfl, rfl⟩) | (go_at_call 101; (with_reducible refine HN.out.mono ?_); rintro e w' ⟨rfl, hl, hg⟩; have HL2 := Lib.hid hl; have HG2 := Lib.hid hg; clear hl hg))
                exact ⟨⟨_, r2, rfl, HL2.out, HG.out.then_ HG2.out (fun _ e => .inr e), by rw [← HRR.out, HST.out], by omega, by omega⟩, by rw [HL2.out.len_of, HLw.out]; simp⟩
              · have hfin : finM false R = none := by rw [← HRR.out, pLoop, if_pos (by simp [hnp, hz]), if_neg hbig]; rfl
                have hgb : decide (10 * n + (z - 48) ≤ 1000000000) = false := by simpa using hbig
                have HFin := Lib.hid hfin
                clear hfin hz hdg
                go_wp2_with (first | (go_at_call 117; (with_reducible refine HD.out.mono ?_); rintro e w' ⟨rfl, rfl⟩; rw [HDE.out]) | (go_at_call 91; (with_reducible refine (need_no _).mono ?_); rintro e w' ⟨rfl, rfl⟩) | (go_at_call 101; (with_reducible refine HN.out.mono ?_); rintro e w' ⟨rfl, hl, hg⟩; have HL2 := Lib.hid hl; have HG2 := Lib.hid hg; clear hl hg))
                refine ⟨rfl, ?_⟩
                show Reads tb _ w _ _ _
                rw [HR.out, HFin.out]
                exact ⟨rfl, HG.out.then_ HG2.out (fun _ e => .inr e)⟩
          · have hfin : finM false R = some (.int .i64 n, rest) := by rw [← HRR.out, pLoop_zero n rest hnp]; simp [finM]
            have HFin := Lib.hid hfin
            clear hfin
            have hgd : decide (0 < n) = false := by simp; omega
            go_wp2_with (go_at_call 117; (with_reducible refine HD.out.mono ?_); rintro e w' ⟨rfl, rfl⟩; rw [HDE.out])
            go_ret
            show Reads tb _ w _ _ _
            rw [HR.out, HFin.out]
            exact ⟨rfl, HL.out, HG.out⟩
end Go.Proofs.Bg
