/- The reference's New. -/
import Derived.Test.YtcbemmlhpinjkaaGreatDoorBgNewsR
namespace Go.Proofs.Bg
open Go.RowKit

theorem longLo_any (lo : Nat) (A : Option Addr) (n cap : Nat) (l : List It) (w : World) (hR : Rd It.vs 4 w lo A n l) :
    Calls Tryz.prog 51 #[.slice A n cap] w fun e w' => (∃ A' n' cap', e = .returned (.tuple #[.slice A' n' cap', .int .i64 (longR l).2]) ∧ Rd It.vs 4 w' lo A' n' (longR l).1) ∧ Below w.heap.size w w' := by
  have HG := Lib.hid (Good_any A n cap l w (hR.low (Nat.zero_le _)))
  have HR := Lib.hid hR
  clear hR
  cases hg : bagB l with
  | true =>
    have e1 : longR l = (l, 0) := by simp [longR, hg]
    rw [e1]
    have HGB := Lib.hid hg
    clear hg e1
    go_enter Tryz.func51, Tryz.ntmps51
    go_wp2_with (go_at_call 44; (with_reducible refine HG.out.mono ?_); rintro e w1 ⟨rfl, hb⟩; rw [HGB.out]; have HB := Lib.hid hb; clear hb)
    go_ret2
    exact ⟨⟨_, _, _, rfl, HR.out.below HB.out⟩, HB.out⟩
  | false =>
    have e1 : longR l = ([], 3) := by simp [longR, hg]
    rw [e1]
    have HGB := Lib.hid hg
    clear hg e1
    go_enter Tryz.func51, Tryz.ntmps51
    go_wp2_with (go_at_call 44; (with_reducible refine HG.out.mono ?_); rintro e w1 ⟨rfl, hb⟩; rw [HGB.out]; have HB := Lib.hid hb; clear hb)
    go_ret2
    exact ⟨⟨_, _, _, rfl, Rd.nil _ _ _⟩, HB.out⟩

/-- What a function of the reference that hands back a bag in new memory leaves. -/
def RetNew (w : World) (p : List It × Int) (e : Ending) (w' : World) : Prop :=
  (∃ A n cap, e = .returned (.tuple #[.slice A n cap, .int .i64 p.2]) ∧ Rd It.vs 4 w' w.heap.size A n p.1) ∧ Below w.heap.size w w'

set_option maxRecDepth 100000 in
set_option maxHeartbeats 4000000 in
theorem NewR_any (A : Option Addr) (n capA : Nat) (l : List It) (w : World) (hR : Rd It.vs 4 w 0 A n l) (hc : n ≤ capA) (hS : n * 32 ≤ 140737488355328) :
    Calls Tryz.prog 22 #[.slice A n capA] w (RetNew w (newR l)) := by
  have hn := hR.le
  have HR := Lib.hid hR
  have HC := Lib.hid hc
  clear hR hc
  go_enter Tryz.func22, Tryz.ntmps22
  go_wp2_with fail
  go_loopw [5, 8] (fun _ i wr => ∃ k : Nat, k ≤ n ∧ i = .int .i64 k ∧ NewRel w l k wr) (fun _ i _ => n - (intOf i).toNat)
  case atStart => exact ⟨0, by omega, rfl, by simp, Below.refl _ _⟩
  case round =>
    obtain ⟨k, hk, rfl, hok, hB⟩ := hrel
    have hRk := HR.out.below hB
    have HB := Lib.hid hB
    have HK := Lib.hid hok
    clear hB hok
    by_cases hlt : k < n
    · obtain ⟨b, off, x, rfl, _, hx, c0, c1, c2, c3⟩ := hRk.it_at hlt
      have HX := Lib.hid hx
      have hno : okN x = false → newR l = ([], 2) := fun h => by
        have : l.all okN = false := List.all_eq_false.2 ⟨x, List.mem_of_getElem? HX.out, by simp [h]⟩
        simp [newR, this]
      have HNO := Lib.hid hno
      clear hx hRk hno
      cases hr : recB x.r with
      | false =>
        have E1 := Lib.hid (HNO.out (by simp [okN, hr]))
        have HRC := Lib.hid hr
        clear hr
        go_wp2_with (go_at_call 69; (with_reducible refine (Rec_any x.r _).mono ?_); rintro e w' ⟨rfl, hb1⟩; rw [HRC.out]; obtain ⟨f0, f1, f2, f3⟩ := box4 hb1; have HB1 := Lib.hid hb1; clear hb1)
        go_ret2
        rw [E1.out]
        exact ⟨⟨none, 0, 0, rfl, Rd.nil _ _ _⟩, below_box HB.out HB.out.size HB1.out⟩
      | true =>
        have HRC := Lib.hid hr
        by_cases hlo : x.n < -1000000
        · have E1 := Lib.hid (HNO.out (by simp [okN, withinB]; omega))
          have hlod : decide (x.n < -1000000) = true := by simpa using hlo
          clear hr hlo
          go_wp2_with (go_at_call 69; (with_reducible refine (Rec_any x.r _).mono ?_); rintro e w' ⟨rfl, hb1⟩; rw [HRC.out]; obtain ⟨f0, f1, f2, f3⟩ := box4 hb1; have HB1 := Lib.hid hb1; clear hb1)
          go_ret2
          rw [E1.out]
          exact ⟨⟨none, 0, 0, rfl, Rd.nil _ _ _⟩, below_box HB.out HB.out.size HB1.out⟩
        · have hlod : decide (x.n < -1000000) = false := by simpa using hlo
          by_cases hhi : 1000000 < x.n
          · have E1 := Lib.hid (HNO.out (by simp [okN, withinB]; omega))
            have hhid : decide (1000000 < x.n) = true := by simpa using hhi
            clear hr hlo hhi
            go_wp2_with (go_at_call 69; (with_reducible refine (Rec_any x.r _).mono ?_); rintro e w' ⟨rfl, hb1⟩; rw [HRC.out]; obtain ⟨f0, f1, f2, f3⟩ := box4 hb1; have HB1 := Lib.hid hb1; clear hb1)
            go_ret2
            rw [E1.out]
            exact ⟨⟨none, 0, 0, rfl, Rd.nil _ _ _⟩, below_box HB.out HB.out.size HB1.out⟩
          · have hhid : decide (1000000 < x.n) = false := by simpa using hhi
            have HXO : Hid (okN x = true) := by show _ = _; simp [okN, hr, withinB]; omega
            clear hr hlo hhi
            go_wp2_with (go_at_call 69; (with_reducible refine (Rec_any x.r _).mono ?_); rintro e w' ⟨rfl, hb1⟩; rw [HRC.out]; obtain ⟨f0, f1, f2, f3⟩ := box4 hb1; have HB1 := Lib.hid hb1; clear hb1)
            refine ⟨⟨k + 1, by omega, by go_num, fun y hy => ?_, below_box HB.out HB.out.size HB1.out⟩, by simp [intOf]; omega⟩
            rw [List.take_add_one, HX.out] at hy
            rcases List.mem_append.1 hy with h | h
            · exact HK.out y h
            · simp at h; rw [h]; exact HXO.out
    · have hk' : k = n := by omega
      subst hk'
      clear hlt
      have hall : ∀ x ∈ l, okN x = true := fun x hx => HK.out x (by rw [List.take_of_length_le (by rw [HR.out.len]; exact Nat.le_refl _)]; exact hx)
      have hll : l.length * 32 ≤ 140737488355328 := by rw [HR.out.len]; exact hS
      have e1 : newR l = longR (canon l) := by rw [bagOr_long]; simp [newR, List.all_eq_true.2 hall]
      have HO := Lib.hid (Of_any A k capA l wr hRk HC.out hS (fits_new hall hll))
      have E1 := Lib.hid e1
      clear hall hll e1 hRk
      go_wp2_with (go_at_call 70; (with_reducible refine HO.out.mono ?_); rintro e w4 ⟨A4, cap4, rfl, hr4, hb4⟩)
      have HL := Lib.hid (longLo_any wr.heap.size A4 _ cap4 _ w4 hr4)
      have HB4 := Lib.hid (bchain HB.out hb4)
      have HSZ := Lib.hid HB.out.size
      clear hr4 hb4 HO
      generalize hq : longR (canon l) = q at *
      generalize (canon l).length = m at *
      clear hq
      go_wp2_with (go_at_call 51; (with_reducible refine HL.out.mono ?_); rintro e w5 ⟨⟨A5, n5, cap5, rfl, hr5⟩, hb5⟩)
      go_ret2
      rw [E1.out]
      exact ⟨⟨_, _, _, rfl, hr5.low HSZ.out⟩, bchain HB4.out hb5⟩
end Go.Proofs.Bg
