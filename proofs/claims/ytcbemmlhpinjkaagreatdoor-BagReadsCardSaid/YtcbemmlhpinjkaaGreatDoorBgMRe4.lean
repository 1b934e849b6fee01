/- Texts of our own, merged: BgReader BgCode BgCodeItem BgRead1 BgReadR BgRet BgLawReads. -/
import Derived.BigQuiet
import Derived.Deep.QuietTactic
import Derived.Test.YtcbemmlhpinjkaaGreatDoorBgMRe3
import Derived.Test.YtcbemmlhpinjkaaGreatDoorBgMRe2
import Derived.Deep.RegionHeld3
import Derived.Deep.RegionWith
import Derived.Deep.DeepCutAuto
import Derived.Laws.Rows
import Derived.Deep.Onto
import Derived.Test.YtcbemmlhpinjkaaGreatDoorBgMRe1
import Derived.Laws.BytesArg

section
/- The reference: reader.number, reader.integer. -/
namespace Go.Proofs.Bg
open Go.RowKit

/-- The reader lies in block rb: the bytes s, the place, whether it is bad. -/
structure RdrIs (w : World) (rb : Nat) (A : Option Addr) (n cap : Nat) (s : List Int) (at_ : Nat) (bad : Bool) : Prop where
  hb : w.heap[rb]? = some (.cells #[.slice A n cap, .int .i64 at_, .bool bad] 122)
  rd : Rd bv 1 w 0 A n s
  ne : 0 < n → ∀ b off, A = some ⟨b, off, none⟩ → b < rb
  le : at_ ≤ n
  by_ : Byt s
theorem RdrIs.lt {w : World} {rb : Nat} {A : Option Addr} {n cap : Nat} {s : List Int} {at_ : Nat} {bad : Bool} (h : RdrIs w rb A n cap s at_ bad) : rb < w.heap.size := (Array.getElem?_eq_some_iff.1 h.hb).1
theorem Rd.kept {w w' : World} {rb lo : Nat} {A : Option Addr} {n : Nat} {s : List Int} (h : Rd bv 1 w lo A n s) (hg : w.grownBy w' (some rb)) (hne : 0 < n → ∀ b off, A = some ⟨b, off, none⟩ → b ≠ rb) : Rd bv 1 w' lo A n s := by
  refine ⟨h.1, h.2.1, fun h0 => ?_⟩
  obtain ⟨b2, off, rfl, hlo, hcell⟩ := h.2.2 h0
  refine ⟨b2, off, rfl, hlo, fun i y hy j v hv => ?_⟩
  have h1 := hcell i y hy j v hv
  exact (World.cell?_of_block (w := w) (a := ⟨b2, off + i * 1 + j, none⟩) (hg.block b2 (World.block_lt_of_cell? w _ h1) (fun e => hne h0 b2 off rfl (Option.some.inj e)))).trans h1
theorem RdrIs.later {w w' : World} {rb : Nat} {A : Option Addr} {n cap : Nat} {s : List Int} {at_ : Nat} {bad : Bool} {row : Option Nat} (h : RdrIs w rb A n cap s at_ bad) (hg : w.grownBy w' row) (hr : ∀ x, row = some x → rb < x) : RdrIs w' rb A n cap s at_ bad where
  hb := (hg.block rb h.lt (fun e => by have := hr rb e.symm; omega)).trans h.hb
  rd := by
    refine ⟨h.rd.1, h.rd.2.1, fun h0 => ?_⟩
    obtain ⟨b2, off, rfl, hlo, hcell⟩ := h.rd.2.2 h0
    have hb2 := h.ne h0 b2 off rfl
    refine ⟨b2, off, rfl, hlo, fun i y hy j v hv => ?_⟩
    have h1 := hcell i y hy j v hv
    exact (World.cell?_of_block (w := w) (a := ⟨b2, off + i * 1 + j, none⟩) (hg.block b2 (World.block_lt_of_cell? w _ h1) (fun e => by have := hr b2 e.symm; omega))).trans h1
  ne := h.ne
  le := h.le
  by_ := h.by_
theorem RdrIs.setAt {w : World} {rb : Nat} {A : Option Addr} {n cap : Nat} {s : List Int} {at_ : Nat} {bad : Bool} (h : RdrIs w rb A n cap s at_ bad) (at' : Nat) (hle : at' ≤ n) : RdrIs (w.setCell ⟨rb, 1, none⟩ (.int .i64 (at' : Nat))) rb A n cap s at' bad ∧ w.grownBy (w.setCell ⟨rb, 1, none⟩ (.int .i64 (at' : Nat))) (some rb) := by
  obtain ⟨s1, s2⟩ := setCell_at (off := 1) h.hb (.int .i64 (at' : Nat))
  exact ⟨⟨s1, h.rd.kept s2 (fun h0 b off e => Nat.ne_of_lt (h.ne h0 b off e)), h.ne, hle, h.by_⟩, s2⟩
theorem RdrIs.next {w : World} {rb : Nat} {A : Option Addr} {n cap : Nat} {s : List Int} {at_ : Nat} {bad : Bool} (h : RdrIs w rb A n cap s at_ bad) (hle : at_ < n) : RdrIs (w.setCell ⟨rb, 1, none⟩ (.int .i64 ((at_ : Int) + 1))) rb A n cap s (at_ + 1) bad ∧ w.grownBy (w.setCell ⟨rb, 1, none⟩ (.int .i64 ((at_ : Int) + 1))) (some rb) := by
  have e : ((at_ + 1 : Nat) : Int) = (at_ : Int) + 1 := by omega
  rw [← e]
  exact h.setAt (at_ + 1) hle
theorem RdrIs.setBad {w : World} {rb : Nat} {A : Option Addr} {n cap : Nat} {s : List Int} {at_ : Nat} {bad : Bool} (h : RdrIs w rb A n cap s at_ bad) (b' : Bool) : RdrIs (w.setCell ⟨rb, 2, none⟩ (.bool b')) rb A n cap s at_ b' ∧ w.grownBy (w.setCell ⟨rb, 2, none⟩ (.bool b')) (some rb) := by
  obtain ⟨s1, s2⟩ := setCell_at (off := 2) h.hb (.bool b')
  exact ⟨⟨s1, h.rd.kept s2 (fun h0 b off e => Nat.ne_of_lt (h.ne h0 b off e)), h.ne, h.le, h.by_⟩, s2⟩
theorem RdrIs.drew {w : World} {rb : Nat} {A : Option Addr} {n cap : Nat} {s : List Int} {at_ : Nat} {bad : Bool} (h : RdrIs w rb A n cap s at_ bad) (k : Nat) : RdrIs (w.drewN k) rb A n cap s at_ bad := ⟨h.hb, h.rd, h.ne, h.le, h.by_⟩
theorem grownBy_drewN {w w' : World} {row : Option Nat} (h : w.grownBy w' row) (k : Nat) : w.grownBy (w'.drewN k) row := ⟨h.os, h.tape, h.output, h.size, h.block⟩

/-- What a reading of a number leaves. -/
def RNum (lo : Int) (p : Option (Int × List Int)) (rb : Nat) (A : Option Addr) (n cap : Nat) (s : List Int) (bad : Bool) (w : World) (e : Ending) (w' : World) : Prop :=
  ∃ (v : Int) (at' : Nat) (bad' : Bool), e = .returned (.int .i64 v) ∧ RdrIs w' rb A n cap s at' bad' ∧ w.grownBy w' (some rb) ∧ (lo ≤ v ∧ v < 34359738368) ∧ ((∃ m r, p = some (m, r) ∧ v = m ∧ bad' = bad ∧ s.drop at' = r) ∨ (p = none ∧ bad' = true))
theorem RNum.yes {lo : Int} {p : Option (Int × List Int)} {m : Int} {r : List Int} {rb : Nat} {A : Option Addr} {n cap : Nat} {s : List Int} {bad : Bool} {w : World} {w' : World} {at' : Nat} (hp : p = some (m, r)) (h : RdrIs w' rb A n cap s at' bad) (hg : w.grownBy w' (some rb)) (hm : lo ≤ m ∧ m < 34359738368) (hr : s.drop at' = r) : RNum lo p rb A n cap s bad w (.returned (.int .i64 m)) w' :=
  ⟨m, at', bad, rfl, h, hg, hm, .inl ⟨m, r, hp, rfl, rfl, hr⟩⟩
theorem RNum.no {lo : Int} {p : Option (Int × List Int)} {m : Int} {rb : Nat} {A : Option Addr} {n cap : Nat} {s : List Int} {bad : Bool} {w : World} {w' : World} {at' : Nat} (hp : p = none) (h : RdrIs w' rb A n cap s at' true) (hg : w.grownBy w' (some rb)) (hm : lo ≤ m ∧ m < 34359738368) : RNum lo p rb A n cap s bad w (.returned (.int .i64 m)) w' :=
  ⟨m, at', true, rfl, h, hg, hm, .inr ⟨hp, rfl⟩⟩

/-- What the loop holds: i groups of the value v are read. -/
def RLoop (rb : Nat) (A : Option Addr) (n cap : Nat) (s : List Int) (p : Nat) (bad : Bool) (w : World) (R : Option (Int × List Int)) (i : Nat) (v : Int) (wr : World) : Prop :=
  RdrIs wr rb A n cap s p bad ∧ w.grownBy wr (some rb) ∧ dNumF (5 - i) i v (s.drop p) = R ∧ 0 ≤ v ∧ v < 128 ^ i

set_option maxRecDepth 100000 in
set_option maxHeartbeats 4000000 in
theorem rnum_any (rb : Nat) (A : Option Addr) (n cap : Nat) (s : List Int) (a0 : Nat) (bad : Bool) (w : World) (h : RdrIs w rb A n cap s a0 bad) :
    Calls Tryz.prog 93 #[.pointer (some ⟨rb, 0, none⟩)] w (RNum 0 (dNum (s.drop a0)) rb A n cap s bad w) := by
  have hn63 := h.rd.le
  obtain ⟨R, hR⟩ : ∃ R, dNum (s.drop a0) = R := ⟨_, rfl⟩
  have HR := Lib.hid hR
  have HRel0 : Hid (RLoop rb A n cap s a0 bad w R 0 0 w) := ⟨h, World.grownBy.refl _ _, hR, by omega, by omega⟩
  clear h hR
  go_enter Tryz.func93, Tryz.ntmps93
  go_wp2_with fail
  go_loopw [3, 4, 5] (fun v bs j wr => ∃ (i p : Nat) (m b : Int), i ≤ 5 ∧ j = .int .i64 (i : Nat) ∧ v = .int .i64 m ∧ bs = .int .i64 b ∧ b = 128 ^ i ∧ RLoop rb A n cap s p bad w R i m wr) (fun _ _ j _ => 5 - (intOf j).toNat)
  case atStart => exact ⟨0, a0, 0, 1, by omega, rfl, rfl, rfl, by simp, HRel0.out⟩
  case round =>
    clear HRel0
    obtain ⟨i, p, m, b, hi, rfl, rfl, rfl, hb, hl, hg, hr, hm0, hm1⟩ := hrel
    have HL := Lib.hid hl
    have HG := Lib.hid hg
    have HRR := Lib.hid hr
    have hle := hl.le
    have c0 := cell_at_block (off := 0) hl.hb rfl
    have c1 := cell_at_block (off := 1) hl.hb rfl
    have c2 := cell_at_block (off := 2) hl.hb rfl
    have f0 := free_at_block (off := 1) hl.hb
    have f1 := free_at_block (off := 2) hl.hb
    clear hl hg hr
    by_cases h5 : i = 5
    · subst h5
      have HZ : Hid (R = none) := by show _ = _; rw [← HRR.out]; rfl
      have hd : decide (((5 : Nat) : Int) < 5) = false := by decide
      have hd2 : decide ((5 : Int) < 5) = false := by decide
      clear hm0 hm1
      go_wp2_with fail
      go_quiet (fail)
      go_wp2_with fail
      go_ret
      show RNum _ _ _ _ _ _ _ _ _ _ _
      rw [HR.out]
      obtain ⟨q1, q2⟩ := (HL.out.drew _).setBad true
      exact RNum.no HZ.out q1 ((grownBy_drewN HG.out _).then_ q2 (fun _ e => .inr e)) (by omega)
    · have h5 : i = 0 ∨ i = 1 ∨ i = 2 ∨ i = 3 ∨ i = 4 := by omega
      by_cases hlt : p < n
      · obtain ⟨bb, off, x, rfl, _, hx, d0⟩ := HL.out.rd.at_ (k := p) hlt
        have d0 := d0 0 _ rfl
        simp only [Nat.add_zero, Nat.mul_one] at d0
        have hbx := HL.out.by_ x (List.mem_of_getElem? hx)
        have hbr : bb < rb := HL.out.ne (by omega) bb off rfl
        have hbne : bb ≠ rb := Nat.ne_of_lt hbr
        have hdr : s.drop (p) = x :: s.drop (p + 1) := by
          obtain ⟨hlen, hx2⟩ := List.getElem?_eq_some_iff.1 hx
          rw [List.drop_eq_getElem_cons hlen, hx2]
        have HDR := Lib.hid hdr
        have g1 : decide (((p : Nat) : Int) < (n : Int)) = true := decide_eq_true (by omega)
        have g1n : decide (p < n) = true := decide_eq_true hlt
        have g2 : (0 : Int) ≤ ((p : Nat) : Int) := by omega
        have g3 : ((p : Nat) : Int) < (n : Int) := by omega
        clear hx hdr
        rcases h5 with rfl | rfl | rfl | rfl | rfl
        · obtain rfl : b = 1 := by rw [hb]; rfl
          clear hb
          have ea : IntKind.i64.wrap (((p : Nat) : Int) + 1) = ((p + 1 : Nat) : Int) := by rw [IntWalk.i64_in _ (by omega)]; omega
          by_cases h128 : x < 128
          · have hd : decide (x < 128) = true := by simpa using h128
            have hxm : x % 128 = x := by omega
            cases bad with
            | true =>
              have HF : Hid (R = some (m + x, s.drop (p + 1))) := by
                show _ = _
                rw [← HRR.out, HDR.out]
                show (if x < 128 then (if 0 < x ∨ 0 = 0 then some (m + x * 128 ^ 0, s.drop (p + 1)) else none) else _) = _
                rw [if_pos h128, if_pos (by omega)]
                simp
              go_wp2_with fail
              go_quiet (fail)
              go_wp2_with fail
              go_quiet (fail)
              go_wp2_with fail
              go_ret
              show RNum _ _ _ _ _ _ _ _ _ _ _
              rw [HR.out]
              obtain ⟨q1, q2⟩ := (HL.out.drew _).next hlt
              obtain ⟨q3, q4⟩ := q1.setBad true
              exact RNum.yes HF.out q3 (((grownBy_drewN HG.out _).then_ q2 (fun _ e => .inr e)).then_ q4 (fun _ e => .inr e)) (by simp at hm1; omega) rfl
            | false =>
              have HF : Hid (R = some (m + x, s.drop (p + 1))) := by
                show _ = _
                rw [← HRR.out, HDR.out]
                show (if x < 128 then (if 0 < x ∨ 0 = 0 then some (m + x * 128 ^ 0, s.drop (p + 1)) else none) else _) = _
                rw [if_pos h128, if_pos (by omega)]
                simp
              go_wp2_with fail
              go_quiet (fail)
              go_wp2_with fail
              go_quiet (fail)
              go_wp2_with fail
              go_ret
              show RNum _ _ _ _ _ _ _ _ _ _ _
              rw [HR.out]
              obtain ⟨q1, q2⟩ := (HL.out.drew _).next hlt
              obtain ⟨q3, q4⟩ := q1.setBad false
              exact RNum.yes HF.out q3 (((grownBy_drewN HG.out _).then_ q2 (fun _ e => .inr e)).then_ q4 (fun _ e => .inr e)) (by simp at hm1; omega) rfl
          · have hd : decide (x < 128) = false := by simpa using h128
            have HF : Hid (dNumF (5 - (0 + 1)) (0 + 1) (m + x % 128) (s.drop (p + 1)) = R) := by
              show _ = _
              rw [← HRR.out, HDR.out]
              show _ = (if x < 128 then _ else dNumF (5 - (0 + 1)) (0 + 1) (m + (x - 128) * 128 ^ 0) _)
              rw [if_neg h128, show x - 128 = x % 128 by omega]
              simp
            have hmb : 0 ≤ m + x % 128 ∧ m + x % 128 < 128 ^ (0 + 1) := by simp at hm1 ⊢; omega
            have HMB := Lib.hid hmb
            clear hmb
            go_wp2_with fail
            go_quiet (fail)
            go_wp2_with fail
            go_quiet (fail)
            go_wp2_with fail
            obtain ⟨q1, q2⟩ := (HL.out.drew _).next hlt
            exact ⟨⟨0 + 1, p + 1, _, _, by omega, rfl, rfl, rfl, by simp, q1, (grownBy_drewN HG.out _).then_ q2 (fun _ e => .inr e), HF.out, HMB.out.1, HMB.out.2⟩, by simp [intOf]⟩
        · obtain rfl : b = 128 := by rw [hb]; rfl
          clear hb
          have ea : IntKind.i64.wrap (((p : Nat) : Int) + 1) = ((p + 1 : Nat) : Int) := by rw [IntWalk.i64_in _ (by omega)]; omega
          by_cases h128 : x < 128
          · have hd : decide (x < 128) = true := by simpa using h128
            have hxm : x % 128 = x := by omega
            cases bad with
            | true =>
              by_cases hx0 : x = 0
              · have hq : (x == 0) = true := by simpa using hx0
                have HF : Hid (R = none) := by
                  show _ = _
                  rw [← HRR.out, HDR.out]
                  show (if x < 128 then (if 0 < x ∨ 1 = 0 then some (m + x * 128 ^ 1, s.drop (p + 1)) else none) else _) = _
                  rw [if_pos h128, if_neg (by omega)]
                clear hx0
                go_wp2_with fail
                go_quiet (fail)
                go_wp2_with fail
                go_quiet (fail)
                go_wp2_with fail
                go_ret
                show RNum _ _ _ _ _ _ _ _ _ _ _
                rw [HR.out]
                obtain ⟨q1, q2⟩ := (HL.out.drew _).next hlt
                obtain ⟨q3, q4⟩ := q1.setBad true
                exact RNum.no HF.out q3 (((grownBy_drewN HG.out _).then_ q2 (fun _ e => .inr e)).then_ q4 (fun _ e => .inr e)) (by simp at hm1; omega)
              · have hq : (x == 0) = false := by simpa using hx0
                have HF : Hid (R = some (m + x * 128, s.drop (p + 1))) := by
                  show _ = _
                  rw [← HRR.out, HDR.out]
                  show (if x < 128 then (if 0 < x ∨ 1 = 0 then some (m + x * 128 ^ 1, s.drop (p + 1)) else none) else _) = _
                  rw [if_pos h128, if_pos (by omega)]
                  simp
                go_wp2_with fail
                go_quiet (fail)
                go_wp2_with fail
                go_quiet (fail)
                go_wp2_with fail
                go_ret
                show RNum _ _ _ _ _ _ _ _ _ _ _
                rw [HR.out]
                obtain ⟨q1, q2⟩ := (HL.out.drew _).next hlt
                obtain ⟨q3, q4⟩ := q1.setBad true
                exact RNum.yes HF.out q3 (((grownBy_drewN HG.out _).then_ q2 (fun _ e => .inr e)).then_ q4 (fun _ e => .inr e)) (by simp at hm1; omega) rfl
            | false =>
              by_cases hx0 : x = 0
              · have hq : (x == 0) = true := by simpa using hx0
                have HF : Hid (R = none) := by
                  show _ = _
                  rw [← HRR.out, HDR.out]
                  show (if x < 128 then (if 0 < x ∨ 1 = 0 then some (m + x * 128 ^ 1, s.drop (p + 1)) else none) else _) = _
                  rw [if_pos h128, if_neg (by omega)]
                clear hx0
                go_wp2_with fail
                go_quiet (fail)
                go_wp2_with fail
                go_quiet (fail)
                go_wp2_with fail
                go_ret
                show RNum _ _ _ _ _ _ _ _ _ _ _
                rw [HR.out]
                obtain ⟨q1, q2⟩ := (HL.out.drew _).next hlt
                obtain ⟨q3, q4⟩ := q1.setBad true
                exact RNum.no HF.out q3 (((grownBy_drewN HG.out _).then_ q2 (fun _ e => .inr e)).then_ q4 (fun _ e => .inr e)) (by simp at hm1; omega)
              · have hq : (x == 0) = false := by simpa using hx0
                have HF : Hid (R = some (m + x * 128, s.drop (p + 1))) := by
                  show _ = _
                  rw [← HRR.out, HDR.out]
                  show (if x < 128 then (if 0 < x ∨ 1 = 0 then some (m + x * 128 ^ 1, s.drop (p + 1)) else none) else _) = _
                  rw [if_pos h128, if_pos (by omega)]
                  simp
                go_wp2_with fail
                go_quiet (fail)
                go_wp2_with fail
                go_quiet (fail)
                go_wp2_with fail
                go_ret
                show RNum _ _ _ _ _ _ _ _ _ _ _
                rw [HR.out]
                obtain ⟨q1, q2⟩ := (HL.out.drew _).next hlt
                obtain ⟨q3, q4⟩ := q1.setBad false
                exact RNum.yes HF.out q3 (((grownBy_drewN HG.out _).then_ q2 (fun _ e => .inr e)).then_ q4 (fun _ e => .inr e)) (by simp at hm1; omega) rfl
          · have hd : decide (x < 128) = false := by simpa using h128
            have HF : Hid (dNumF (5 - (1 + 1)) (1 + 1) (m + x % 128 * 128) (s.drop (p + 1)) = R) := by
              show _ = _
              rw [← HRR.out, HDR.out]
              show _ = (if x < 128 then _ else dNumF (5 - (1 + 1)) (1 + 1) (m + (x - 128) * 128 ^ 1) _)
              rw [if_neg h128, show x - 128 = x % 128 by omega]
              simp
            have hmb : 0 ≤ m + x % 128 * 128 ∧ m + x % 128 * 128 < 128 ^ (1 + 1) := by simp at hm1 ⊢; omega
            have HMB := Lib.hid hmb
            clear hmb
            go_wp2_with fail
            go_quiet (fail)
            go_wp2_with fail
            go_quiet (fail)
            go_wp2_with fail
            obtain ⟨q1, q2⟩ := (HL.out.drew _).next hlt
            exact ⟨⟨1 + 1, p + 1, _, _, by omega, rfl, rfl, rfl, by simp, q1, (grownBy_drewN HG.out _).then_ q2 (fun _ e => .inr e), HF.out, HMB.out.1, HMB.out.2⟩, by simp [intOf]⟩
        · obtain rfl : b = 16384 := by rw [hb]; rfl
          clear hb
          have ea : IntKind.i64.wrap (((p : Nat) : Int) + 1) = ((p + 1 : Nat) : Int) := by rw [IntWalk.i64_in _ (by omega)]; omega
          by_cases h128 : x < 128
          · have hd : decide (x < 128) = true := by simpa using h128
            have hxm : x % 128 = x := by omega
            cases bad with
            | true =>
              by_cases hx0 : x = 0
              · have hq : (x == 0) = true := by simpa using hx0
                have HF : Hid (R = none) := by
                  show _ = _
                  rw [← HRR.out, HDR.out]
                  show (if x < 128 then (if 0 < x ∨ 2 = 0 then some (m + x * 128 ^ 2, s.drop (p + 1)) else none) else _) = _
                  rw [if_pos h128, if_neg (by omega)]
                clear hx0
                go_wp2_with fail
                go_quiet (fail)
                go_wp2_with fail
                go_quiet (fail)
                go_wp2_with fail
                go_ret
                show RNum _ _ _ _ _ _ _ _ _ _ _
                rw [HR.out]
                obtain ⟨q1, q2⟩ := (HL.out.drew _).next hlt
                obtain ⟨q3, q4⟩ := q1.setBad true
                exact RNum.no HF.out q3 (((grownBy_drewN HG.out _).then_ q2 (fun _ e => .inr e)).then_ q4 (fun _ e => .inr e)) (by simp at hm1; omega)
              · have hq : (x == 0) = false := by simpa using hx0
                have HF : Hid (R = some (m + x * 16384, s.drop (p + 1))) := by
                  show _ = _
                  rw [← HRR.out, HDR.out]
                  show (if x < 128 then (if 0 < x ∨ 2 = 0 then some (m + x * 128 ^ 2, s.drop (p + 1)) else none) else _) = _
                  rw [if_pos h128, if_pos (by omega)]
                  simp
                go_wp2_with fail
                go_quiet (fail)
                go_wp2_with fail
                go_quiet (fail)
                go_wp2_with fail
                go_ret
                show RNum _ _ _ _ _ _ _ _ _ _ _
                rw [HR.out]
                obtain ⟨q1, q2⟩ := (HL.out.drew _).next hlt
                obtain ⟨q3, q4⟩ := q1.setBad true
                exact RNum.yes HF.out q3 (((grownBy_drewN HG.out _).then_ q2 (fun _ e => .inr e)).then_ q4 (fun _ e => .inr e)) (by simp at hm1; omega) rfl
            | false =>
              by_cases hx0 : x = 0
              · have hq : (x == 0) = true := by simpa using hx0
                have HF : Hid (R = none) := by
                  show _ = _
                  rw [← HRR.out, HDR.out]
                  show (if x < 128 then (if 0 < x ∨ 2 = 0 then some (m + x * 128 ^ 2, s.drop (p + 1)) else none) else _) = _
                  rw [if_pos h128, if_neg (by omega)]
                clear hx0
                go_wp2_with fail
                go_quiet (fail)
                go_wp2_with fail
                go_quiet (fail)
                go_wp2_with fail
                go_ret
                show RNum _ _ _ _ _ _ _ _ _ _ _
                rw [HR.out]
                obtain ⟨q1, q2⟩ := (HL.out.drew _).next hlt
                obtain ⟨q3, q4⟩ := q1.setBad true
                exact RNum.no HF.out q3 (((grownBy_drewN HG.out _).then_ q2 (fun _ e => .inr e)).then_ q4 (fun _ e => .inr e)) (by simp at hm1; omega)
              · have hq : (x == 0) = false := by simpa using hx0
                have HF : Hid (R = some (m + x * 16384, s.drop (p + 1))) := by
                  show _ = _
                  rw [← HRR.out, HDR.out]
                  show (if x < 128 then (if 0 < x ∨ 2 = 0 then some (m + x * 128 ^ 2, s.drop (p + 1)) else none) else _) = _
                  rw [if_pos h128, if_pos (by omega)]
                  simp
                go_wp2_with fail
                go_quiet (fail)
                go_wp2_with fail
                go_quiet (fail)
                go_wp2_with fail
                go_ret
                show RNum _ _ _ _ _ _ _ _ _ _ _
                rw [HR.out]
                obtain ⟨q1, q2⟩ := (HL.out.drew _).next hlt
                obtain ⟨q3, q4⟩ := q1.setBad false
                exact RNum.yes HF.out q3 (((grownBy_drewN HG.out _).then_ q2 (fun _ e => .inr e)).then_ q4 (fun _ e => .inr e)) (by simp at hm1; omega) rfl
          · have hd : decide (x < 128) = false := by simpa using h128
            have HF : Hid (dNumF (5 - (2 + 1)) (2 + 1) (m + x % 128 * 16384) (s.drop (p + 1)) = R) := by
              show _ = _
              rw [← HRR.out, HDR.out]
              show _ = (if x < 128 then _ else dNumF (5 - (2 + 1)) (2 + 1) (m + (x - 128) * 128 ^ 2) _)
              rw [if_neg h128, show x - 128 = x % 128 by omega]
              simp
            have hmb : 0 ≤ m + x % 128 * 16384 ∧ m + x % 128 * 16384 < 128 ^ (2 + 1) := by simp at hm1 ⊢; omega
            have HMB := Lib.hid hmb
            clear hmb
            go_wp2_with fail
            go_quiet (fail)
            go_wp2_with fail
            go_quiet (fail)
            go_wp2_with fail
            obtain ⟨q1, q2⟩ := (HL.out.drew _).next hlt
            exact ⟨⟨2 + 1, p + 1, _, _, by omega, rfl, rfl, rfl, by simp, q1, (grownBy_drewN HG.out _).then_ q2 (fun _ e => .inr e), HF.out, HMB.out.1, HMB.out.2⟩, by simp [intOf]⟩
        · obtain rfl : b = 2097152 := by rw [hb]; rfl
          clear hb
          have ea : IntKind.i64.wrap (((p : Nat) : Int) + 1) = ((p + 1 : Nat) : Int) := by rw [IntWalk.i64_in _ (by omega)]; omega
          by_cases h128 : x < 128
          · have hd : decide (x < 128) = true := by simpa using h128
            have hxm : x % 128 = x := by omega
            cases bad with
            | true =>
              by_cases hx0 : x = 0
              · have hq : (x == 0) = true := by simpa using hx0
                have HF : Hid (R = none) := by
                  show _ = _
                  rw [← HRR.out, HDR.out]
                  show (if x < 128 then (if 0 < x ∨ 3 = 0 then some (m + x * 128 ^ 3, s.drop (p + 1)) else none) else _) = _
                  rw [if_pos h128, if_neg (by omega)]
                clear hx0
                go_wp2_with fail
                go_quiet (fail)
                go_wp2_with fail
                go_quiet (fail)
                go_wp2_with fail
                go_ret
                show RNum _ _ _ _ _ _ _ _ _ _ _
                rw [HR.out]
                obtain ⟨q1, q2⟩ := (HL.out.drew _).next hlt
                obtain ⟨q3, q4⟩ := q1.setBad true
                exact RNum.no HF.out q3 (((grownBy_drewN HG.out _).then_ q2 (fun _ e => .inr e)).then_ q4 (fun _ e => .inr e)) (by simp at hm1; omega)
              · have hq : (x == 0) = false := by simpa using hx0
                have HF : Hid (R = some (m + x * 2097152, s.drop (p + 1))) := by
                  show _ = _
                  rw [← HRR.out, HDR.out]
                  show (if x < 128 then (if 0 < x ∨ 3 = 0 then some (m + x * 128 ^ 3, s.drop (p + 1)) else none) else _) = _
                  rw [if_pos h128, if_pos (by omega)]
                  simp
                go_wp2_with fail
                go_quiet (fail)
                go_wp2_with fail
                go_quiet (fail)
                go_wp2_with fail
                go_ret
                show RNum _ _ _ _ _ _ _ _ _ _ _
                rw [HR.out]
                obtain ⟨q1, q2⟩ := (HL.out.drew _).next hlt
                obtain ⟨q3, q4⟩ := q1.setBad true
                exact RNum.yes HF.out q3 (((grownBy_drewN HG.out _).then_ q2 (fun _ e => .inr e)).then_ q4 (fun _ e => .inr e)) (by simp at hm1; omega) rfl
            | false =>
              by_cases hx0 : x = 0
              · have hq : (x == 0) = true := by simpa using hx0
                have HF : Hid (R = none) := by
                  show _ = _
                  rw [← HRR.out, HDR.out]
                  show (if x < 128 then (if 0 < x ∨ 3 = 0 then some (m + x * 128 ^ 3, s.drop (p + 1)) else none) else _) = _
                  rw [if_pos h128, if_neg (by omega)]
                clear hx0
                go_wp2_with fail
                go_quiet (fail)
                go_wp2_with fail
                go_quiet (fail)
                go_wp2_with fail
                go_ret
                show RNum _ _ _ _ _ _ _ _ _ _ _
                rw [HR.out]
                obtain ⟨q1, q2⟩ := (HL.out.drew _).next hlt
                obtain ⟨q3, q4⟩ := q1.setBad true
                exact RNum.no HF.out q3 (((grownBy_drewN HG.out _).then_ q2 (fun _ e => .inr e)).then_ q4 (fun _ e => .inr e)) (by simp at hm1; omega)
              · have hq : (x == 0) = false := by simpa using hx0
                have HF : Hid (R = some (m + x * 2097152, s.drop (p + 1))) := by
                  show _ = _
                  rw [← HRR.out, HDR.out]
                  show (if x < 128 then (if 0 < x ∨ 3 = 0 then some (m + x * 128 ^ 3, s.drop (p + 1)) else none) else _) = _
                  rw [if_pos h128, if_pos (by omega)]
                  simp
                go_wp2_with fail
                go_quiet (fail)
                go_wp2_with fail
                go_quiet (fail)
                go_wp2_with fail
                go_ret
                show RNum _ _ _ _ _ _ _ _ _ _ _
                rw [HR.out]
                obtain ⟨q1, q2⟩ := (HL.out.drew _).next hlt
                obtain ⟨q3, q4⟩ := q1.setBad false
                exact RNum.yes HF.out q3 (((grownBy_drewN HG.out _).then_ q2 (fun _ e => .inr e)).then_ q4 (fun _ e => .inr e)) (by simp at hm1; omega) rfl
          · have hd : decide (x < 128) = false := by simpa using h128
            have HF : Hid (dNumF (5 - (3 + 1)) (3 + 1) (m + x % 128 * 2097152) (s.drop (p + 1)) = R) := by
              show _ = _
              rw [← HRR.out, HDR.out]
              show _ = (if x < 128 then _ else dNumF (5 - (3 + 1)) (3 + 1) (m + (x - 128) * 128 ^ 3) _)
              rw [if_neg h128, show x - 128 = x % 128 by omega]
              simp
            have hmb : 0 ≤ m + x % 128 * 2097152 ∧ m + x % 128 * 2097152 < 128 ^ (3 + 1) := by simp at hm1 ⊢; omega
            have HMB := Lib.hid hmb
            clear hmb
            go_wp2_with fail
            go_quiet (fail)
            go_wp2_with fail
            go_quiet (fail)
            go_wp2_with fail
            obtain ⟨q1, q2⟩ := (HL.out.drew _).next hlt
            exact ⟨⟨3 + 1, p + 1, _, _, by omega, rfl, rfl, rfl, by simp, q1, (grownBy_drewN HG.out _).then_ q2 (fun _ e => .inr e), HF.out, HMB.out.1, HMB.out.2⟩, by simp [intOf]⟩
        · obtain rfl : b = 268435456 := by rw [hb]; rfl
          clear hb
          have ea : IntKind.i64.wrap (((p : Nat) : Int) + 1) = ((p + 1 : Nat) : Int) := by rw [IntWalk.i64_in _ (by omega)]; omega
          by_cases h128 : x < 128
          · have hd : decide (x < 128) = true := by simpa using h128
            have hxm : x % 128 = x := by omega
            cases bad with
            | true =>
              by_cases hx0 : x = 0
              · have hq : (x == 0) = true := by simpa using hx0
                have HF : Hid (R = none) := by
                  show _ = _
                  rw [← HRR.out, HDR.out]
                  show (if x < 128 then (if 0 < x ∨ 4 = 0 then some (m + x * 128 ^ 4, s.drop (p + 1)) else none) else _) = _
                  rw [if_pos h128, if_neg (by omega)]
                clear hx0
                go_wp2_with fail
                go_quiet (fail)
                go_wp2_with fail
                go_quiet (fail)
                go_wp2_with fail
                go_ret
                show RNum _ _ _ _ _ _ _ _ _ _ _
                rw [HR.out]
                obtain ⟨q1, q2⟩ := (HL.out.drew _).next hlt
                obtain ⟨q3, q4⟩ := q1.setBad true
                exact RNum.no HF.out q3 (((grownBy_drewN HG.out _).then_ q2 (fun _ e => .inr e)).then_ q4 (fun _ e => .inr e)) (by simp at hm1; omega)
              · have hq : (x == 0) = false := by simpa using hx0
                have HF : Hid (R = some (m + x * 268435456, s.drop (p + 1))) := by
                  show _ = _
                  rw [← HRR.out, HDR.out]
                  show (if x < 128 then (if 0 < x ∨ 4 = 0 then some (m + x * 128 ^ 4, s.drop (p + 1)) else none) else _) = _
                  rw [if_pos h128, if_pos (by omega)]
                  simp
                go_wp2_with fail
                go_quiet (fail)
                go_wp2_with fail
                go_quiet (fail)
                go_wp2_with fail
                go_ret
                show RNum _ _ _ _ _ _ _ _ _ _ _
                rw [HR.out]
                obtain ⟨q1, q2⟩ := (HL.out.drew _).next hlt
                obtain ⟨q3, q4⟩ := q1.setBad true
                exact RNum.yes HF.out q3 (((grownBy_drewN HG.out _).then_ q2 (fun _ e => .inr e)).then_ q4 (fun _ e => .inr e)) (by simp at hm1; omega) rfl
            | false =>
              by_cases hx0 : x = 0
              · have hq : (x == 0) = true := by simpa using hx0
                have HF : Hid (R = none) := by
                  show _ = _
                  rw [← HRR.out, HDR.out]
                  show (if x < 128 then (if 0 < x ∨ 4 = 0 then some (m + x * 128 ^ 4, s.drop (p + 1)) else none) else _) = _
                  rw [if_pos h128, if_neg (by omega)]
                clear hx0
                go_wp2_with fail
                go_quiet (fail)
                go_wp2_with fail
                go_quiet (fail)
                go_wp2_with fail
                go_ret
                show RNum _ _ _ _ _ _ _ _ _ _ _
                rw [HR.out]
                obtain ⟨q1, q2⟩ := (HL.out.drew _).next hlt
                obtain ⟨q3, q4⟩ := q1.setBad true
                exact RNum.no HF.out q3 (((grownBy_drewN HG.out _).then_ q2 (fun _ e => .inr e)).then_ q4 (fun _ e => .inr e)) (by simp at hm1; omega)
              · have hq : (x == 0) = false := by simpa using hx0
                have HF : Hid (R = some (m + x * 268435456, s.drop (p + 1))) := by
                  show _ = _
                  rw [← HRR.out, HDR.out]
                  show (if x < 128 then (if 0 < x ∨ 4 = 0 then some (m + x * 128 ^ 4, s.drop (p + 1)) else none) else _) = _
                  rw [if_pos h128, if_pos (by omega)]
                  simp
                go_wp2_with fail
                go_quiet (fail)
                go_wp2_with fail
                go_quiet (fail)
                go_wp2_with fail
                go_ret
                show RNum _ _ _ _ _ _ _ _ _ _ _
                rw [HR.out]
                obtain ⟨q1, q2⟩ := (HL.out.drew _).next hlt
                obtain ⟨q3, q4⟩ := q1.setBad false
                exact RNum.yes HF.out q3 (((grownBy_drewN HG.out _).then_ q2 (fun _ e => .inr e)).then_ q4 (fun _ e => .inr e)) (by simp at hm1; omega) rfl
          · have hd : decide (x < 128) = false := by simpa using h128
            have HF : Hid (dNumF (5 - (4 + 1)) (4 + 1) (m + x % 128 * 268435456) (s.drop (p + 1)) = R) := by
              show _ = _
              rw [← HRR.out, HDR.out]
              show _ = (if x < 128 then _ else dNumF (5 - (4 + 1)) (4 + 1) (m + (x - 128) * 128 ^ 4) _)
              rw [if_neg h128, show x - 128 = x % 128 by omega]
              simp
            have hmb : 0 ≤ m + x % 128 * 268435456 ∧ m + x % 128 * 268435456 < 128 ^ (4 + 1) := by simp at hm1 ⊢; omega
            have HMB := Lib.hid hmb
            clear hmb
            go_wp2_with fail
            go_quiet (fail)
            go_wp2_with fail
            go_quiet (fail)
            go_wp2_with fail
            obtain ⟨q1, q2⟩ := (HL.out.drew _).next hlt
            exact ⟨⟨4 + 1, p + 1, _, _, by omega, rfl, rfl, rfl, by simp, q1, (grownBy_drewN HG.out _).then_ q2 (fun _ e => .inr e), HF.out, HMB.out.1, HMB.out.2⟩, by simp [intOf]⟩
      · have hpn : p = n := by omega
        have HZ : Hid (R = none) := by
          show _ = _
          rw [← HRR.out, hpn, ← HL.out.rd.len, List.drop_length]
          rcases h5 with rfl | rfl | rfl | rfl | rfl <;> rfl
        have g0 : decide ((i : Int) < 5) = true := decide_eq_true (by omega)
        have g1 : decide (((p : Nat) : Int) < (n : Int)) = false := decide_eq_false (by omega)
        have g1n : decide (p < n) = false := decide_eq_false (by omega)
        clear hpn h5 hm0 hm1 hb hlt
        go_wp2_with fail
        go_quiet (fail)
        go_wp2_with fail
        go_ret
        show RNum _ _ _ _ _ _ _ _ _ _ _
        rw [HR.out]
        obtain ⟨q1, q2⟩ := (HL.out.drew _).setBad true
        exact RNum.no HZ.out q1 ((grownBy_drewN HG.out _).then_ q2 (fun _ e => .inr e)) (by omega)

set_option maxRecDepth 100000 in
theorem rint_any (rb : Nat) (A : Option Addr) (n cap : Nat) (s : List Int) (a0 : Nat) (bad : Bool) (w : World) (h : RdrIs w rb A n cap s a0 bad) :
    Calls Tryz.prog 94 #[.pointer (some ⟨rb, 0, none⟩)] w (RNum (-17179869184) (dInt (s.drop a0)) rb A n cap s bad w) := by
  have C := Lib.hid (rnum_any rb A n cap s a0 bad w h)
  have hby : Byt (s.drop a0) := fun x hx => h.by_ x (List.mem_of_mem_drop hx)
  have HB := Lib.hid hby
  clear h hby
  go_enter Tryz.func94, Tryz.ntmps94
  go_wp2_with fail
  (with_reducible refine C.out.mono ?_)
  rintro e w1 ⟨v, at', bad', rfl, hr, hg, ⟨hv0, hv1⟩, hor⟩
  have HR := Lib.hid hr
  have HG := Lib.hid hg
  have HO := Lib.hid hor
  clear hr hg hor C
  have hfin : ∀ u : Int, (0 ≤ v → u = unzig v) → (-17179869184 ≤ u ∧ u < 34359738368) → RNum (-17179869184) (dInt (s.drop a0)) rb A n cap s bad w (.returned (.int .i64 u)) w1 := by
    intro u hu hb
    rcases HO.out with ⟨m, r, hp, rfl, rfl, hd⟩ | ⟨hp, rfl⟩
    · have hm := (dNum_back HB.out hp).1
      refine RNum.yes (m := u) (r := r) ?_ HR.out HG.out hb hd
      unfold dInt
      rw [hp, hu hm]
    · exact RNum.no (by unfold dInt; rw [hp]) HR.out HG.out hb
  have HF := Lib.hid hfin
  clear hfin
  by_cases ho : v % 2 = 1
  · have hq : (v % 2 == 1) = true := by simpa using ho
    have ha : IntKind.i64.wrap (v + 1) = v + 1 := IntWalk.i64_in _ (by omega)
    have hb : IntKind.i64.wrap (-(v + 1)) = -(v + 1) := IntWalk.i64_in _ (by omega)
    have HV : Hid (wrap64 (-(v + 1).tdiv 2) = -((v + 1) / 2)) := by
      show _ = _
      rw [Int.tdiv_eq_ediv_of_nonneg (by omega)]
      exact IntWalk.wrap64_in _ (by omega)
    have HU := Lib.hid (HF.out (-((v + 1) / 2)) (fun _ => by unfold unzig; rw [if_pos ho]) (by omega))
    clear ho
    go_wp2_with fail
    go_ret
    have e := HU.out
    rw [← HV.out] at e
    exact e
  · have hq : (v % 2 == 1) = false := by simpa using ho
    have HU := Lib.hid (HF.out (v / 2) (fun _ => by unfold unzig; rw [if_neg ho]) (by omega))
    clear ho
    go_wp2_with fail
    go_ret
    exact HU.out
end Go.Proofs.Bg
end

section
/- The contract of code.number. -/
namespace Go.Proofs.Bg
open Go.RowKit

/-- What the loop holds. -/
def NumC (tb : Nat) (w : World) (R : Option (Int × List Int)) (n : Int) (i : Nat) (rest : List Int) (wr : World) : Prop :=
  LeftIs wr tb 116 rest ∧ w.grownBy wr (some tb) ∧ dNumF (5 - i) i n rest = R ∧ 0 ≤ n ∧ n < 128 ^ i

set_option maxRecDepth 100000 in
set_option maxHeartbeats 2000000 in
theorem cnum_any (tb : Nat) (s : List Int) (w : World) (h : LeftIs w tb 116 s) :
    Calls Tryz.prog 90 #[.pointer (some ⟨tb, 0, none⟩)] w (Reads tb 116 w ((dNum s).map fun p => (.int .i64 p.1, p.2))) := by
  obtain ⟨R, hR⟩ : ∃ R, dNum s = R := ⟨_, rfl⟩
  have HR := Lib.hid hR
  have HRel0 : Hid (NumC tb w R 0 0 s w) := ⟨h, World.grownBy.refl _ _, hR, by omega, by omega⟩
  clear h hR
  go_enter Tryz.func90, Tryz.ntmps90
  go_wp2_with fail
  go_loopw [3, 6] (fun v j wr => ∃ (i : Nat) (n : Int) (rest : List Int), i ≤ 5 ∧ j = .int .i64 i ∧ v = .int .i64 n ∧ NumC tb w R n i rest wr) (fun _ j _ => 5 - (intOf j).toNat)
  case atStart => exact ⟨0, _, _, by omega, rfl, rfl, HRel0.out⟩
  case round =>
    clear HRel0
    obtain ⟨i, n, rest, hi, rfl, rfl, hl, hg, hr, hn0, hn1⟩ := hrel
    have HL := Lib.hid hl
    have HG := Lib.hid hg
    have HRR := Lib.hid hr
    clear hl hg hr
    by_cases h5 : i = 5
    · subst h5
      have HZ : Hid (R = none) := by show _ = _; rw [← HRR.out]; rfl
      clear hn0 hn1
      go_wp2_with fail
      refine ⟨rfl, ?_⟩
      show Reads tb _ w _ _ _
      rw [HR.out, HZ.out]
      exact ⟨rfl, HG.out⟩
    · have h5 : i = 0 ∨ i = 1 ∨ i = 2 ∨ i = 3 ∨ i = 4 := by omega
      cases rest with
      | nil =>
        have HZ : Hid (R = none) := by
          show _ = _
          rw [← HRR.out]
          rcases h5 with rfl | rfl | rfl | rfl | rfl <;> rfl
        have HN := Lib.hid (next_no tb _ _ HL.out)
        have hlt : i < 5 := by omega
        clear h5 hn0 hn1
        go_wp2_with (go_at_call 101; (with_reducible refine HN.out.mono ?_); rintro e w' ⟨rfl, rfl⟩)
        refine ⟨rfl, ?_⟩
        show Reads tb _ w _ _ _
        rw [HR.out, HZ.out]
        exact ⟨rfl, HG.out⟩
      | cons x r =>
        obtain ⟨b, off, cap, c0, d0, hx0, hx1⟩ := HL.out.head
        have HN := Lib.hid (next_yes tb _ x r _ HL.out)
        have hnb : n < 34359738368 := by
          rcases h5 with rfl | rfl | rfl | rfl | rfl <;> simp at hn1 <;> omega
        rcases h5 with rfl | rfl | rfl | rfl | rfl
        · by_cases h128 : x < 128
          · have hd : decide (x < 128) = true := by simpa using h128
            have hxm : x % 128 = x := by omega
            have HF : Hid (R = some (n + x, r)) := by
              show _ = _
              rw [← HRR.out]
              show (if x < 128 then (if 0 < x ∨ 0 = 0 then some (n + x * 128 ^ 0, r) else none) else _) = _
              rw [if_pos h128, if_pos (.inr rfl)]
              simp
            go_wp2_with (first | (go_at_call 101; (with_reducible refine HN.out.mono ?_); rintro e w' ⟨rfl, hl, hg⟩; have HL2 := Lib.hid hl; have HG2 := Lib.hid hg; clear hl hg) | (go_at_call 91; (with_reducible refine (need_yes _).mono ?_); rintro e w' ⟨rfl, rfl⟩))
            all_goals go_ret
            all_goals show Reads tb _ w _ _ _
            all_goals rw [HR.out, HF.out]
            all_goals exact ⟨rfl, HL2.out, HG.out.then_ HG2.out (fun _ e => .inr e)⟩
          · have hd : decide (x < 128) = false := by simpa using h128
            have hxm : x - 128 = x % 128 := by omega
            have HF : Hid (dNumF (5 - (0 + 1)) (0 + 1) (n + x % 128) r = R) := by
              show _ = _
              rw [← HRR.out]
              show _ = (if x < 128 then _ else dNumF (5 - (0 + 1)) (0 + 1) (n + (x - 128) * 128 ^ 0) r)
              rw [if_neg h128, hxm]
              simp
            have hnb2 : 0 ≤ n + x % 128 ∧ n + x % 128 < 128 ^ (0 + 1) := by
              simp at hn1 ⊢
              omega
            go_wp2_with (first | (go_at_call 101; (with_reducible refine HN.out.mono ?_); rintro e w' ⟨rfl, hl, hg⟩; have HL2 := Lib.hid hl; have HG2 := Lib.hid hg; clear hl hg))
            exact ⟨⟨0 + 1, _, r, by omega, by go_num, rfl, HL2.out, HG.out.then_ HG2.out (fun _ e => .inr e), HF.out, hnb2.1, hnb2.2⟩, by simp [intOf]⟩
        · by_cases h128 : x < 128
          · have hd : decide (x < 128) = true := by simpa using h128
            by_cases hx : 0 < x
            · have hq : decide (0 < x) = true := by simpa using hx
              have hxm : x % 128 = x := by omega
              have HF : Hid (R = some (n + x * 128, r)) := by
                show _ = _
                rw [← HRR.out]
                show (if x < 128 then (if 0 < x ∨ 1 = 0 then some (n + x * 128 ^ 1, r) else none) else _) = _
                rw [if_pos h128, if_pos (.inl hx)]
                simp
              go_wp2_with (first | (go_at_call 101; (with_reducible refine HN.out.mono ?_); rintro e w' ⟨rfl, hl, hg⟩; have HL2 := Lib.hid hl; have HG2 := Lib.hid hg; clear hl hg) | (go_at_call 91; (with_reducible refine (need_yes _).mono ?_); rintro e w' ⟨rfl, rfl⟩))
              all_goals go_ret
              all_goals show Reads tb _ w _ _ _
              all_goals rw [HR.out, HF.out]
              all_goals exact ⟨rfl, HL2.out, HG.out.then_ HG2.out (fun _ e => .inr e)⟩
            · have hq : decide (0 < x) = false := by simpa using hx
              have HF : Hid (R = none) := by
                show _ = _
                rw [← HRR.out]
                show (if x < 128 then (if 0 < x ∨ 1 = 0 then some (n + x * 128 ^ 1, r) else none) else _) = _
                rw [if_pos h128, if_neg (by omega)]
              go_wp2_with (first | (go_at_call 101; (with_reducible refine HN.out.mono ?_); rintro e w' ⟨rfl, hl, hg⟩; have HL2 := Lib.hid hl; have HG2 := Lib.hid hg; clear hl hg) | (go_at_call 91; (with_reducible refine (need_no _).mono ?_); rintro e w' ⟨rfl, rfl⟩))
              refine ⟨rfl, ?_⟩
              show Reads tb _ w _ _ _
              rw [HR.out, HF.out]
              exact ⟨rfl, HG.out.then_ HG2.out (fun _ e => .inr e)⟩
          · have hd : decide (x < 128) = false := by simpa using h128
            have hxm : x - 128 = x % 128 := by omega
            have HF : Hid (dNumF (5 - (1 + 1)) (1 + 1) (n + x % 128 * 128) r = R) := by
              show _ = _
              rw [← HRR.out]
              show _ = (if x < 128 then _ else dNumF (5 - (1 + 1)) (1 + 1) (n + (x - 128) * 128 ^ 1) r)
              rw [if_neg h128, hxm]
              simp
            have hnb2 : 0 ≤ n + x % 128 * 128 ∧ n + x % 128 * 128 < 128 ^ (1 + 1) := by
              simp at hn1 ⊢
              omega
            go_wp2_with (first | (go_at_call 101; (with_reducible refine HN.out.mono ?_); rintro e w' ⟨rfl, hl, hg⟩; have HL2 := Lib.hid hl; have HG2 := Lib.hid hg; clear hl hg))
            exact ⟨⟨1 + 1, _, r, by omega, by go_num, rfl, HL2.out, HG.out.then_ HG2.out (fun _ e => .inr e), HF.out, hnb2.1, hnb2.2⟩, by simp [intOf]⟩
        · by_cases h128 : x < 128
          · have hd : decide (x < 128) = true := by simpa using h128
            by_cases hx : 0 < x
            · have hq : decide (0 < x) = true := by simpa using hx
              have hxm : x % 128 = x := by omega
              have HF : Hid (R = some (n + x * 16384, r)) := by
                show _ = _
                rw [← HRR.out]
                show (if x < 128 then (if 0 < x ∨ 2 = 0 then some (n + x * 128 ^ 2, r) else none) else _) = _
                rw [if_pos h128, if_pos (.inl hx)]
                simp
              go_wp2_with (first | (go_at_call 101; (with_reducible refine HN.out.mono ?_); rintro e w' ⟨rfl, hl, hg⟩; have HL2 := Lib.hid hl; have HG2 := Lib.hid hg; clear hl hg) | (go_at_call 91; (with_reducible refine (need_yes _).mono ?_); rintro e w' ⟨rfl, rfl⟩))
              all_goals go_ret
              all_goals show Reads tb _ w _ _ _
              all_goals rw [HR.out, HF.out]
              all_goals exact ⟨rfl, HL2.out, HG.out.then_ HG2.out (fun _ e => .inr e)⟩
            · have hq : decide (0 < x) = false := by simpa using hx
              have HF : Hid (R = none) := by
                show _ = _
                rw [← HRR.out]
                show (if x < 128 then (if 0 < x ∨ 2 = 0 then some (n + x * 128 ^ 2, r) else none) else _) = _
                rw [if_pos h128, if_neg (by omega)]
              go_wp2_with (first | (go_at_call 101; (with_reducible refine HN.out.mono ?_); rintro e w' ⟨rfl, hl, hg⟩; have HL2 := Lib.hid hl; have HG2 := Lib.hid hg; clear hl hg) | (go_at_call 91; (with_reducible refine (need_no _).mono ?_); rintro e w' ⟨rfl, rfl⟩))
              refine ⟨rfl, ?_⟩
              show Reads tb _ w _ _ _
              rw [HR.out, HF.out]
              exact ⟨rfl, HG.out.then_ HG2.out (fun _ e => .inr e)⟩
          · have hd : decide (x < 128) = false := by simpa using h128
            have hxm : x - 128 = x % 128 := by omega
            have HF : Hid (dNumF (5 - (2 + 1)) (2 + 1) (n + x % 128 * 16384) r = R) := by
              show _ = _
              rw [← HRR.out]
              show _ = (if x < 128 then _ else dNumF (5 - (2 + 1)) (2 + 1) (n + (x - 128) * 128 ^ 2) r)
              rw [if_neg h128, hxm]
              simp
            have hnb2 : 0 ≤ n + x % 128 * 16384 ∧ n + x % 128 * 16384 < 128 ^ (2 + 1) := by
              simp at hn1 ⊢
              omega
            go_wp2_with (first | (go_at_call 101; (with_reducible refine HN.out.mono ?_); rintro e w' ⟨rfl, hl, hg⟩; have HL2 := Lib.hid hl; have HG2 := Lib.hid hg; clear hl hg))
            exact ⟨⟨2 + 1, _, r, by omega, by go_num, rfl, HL2.out, HG.out.then_ HG2.out (fun _ e => .inr e), HF.out, hnb2.1, hnb2.2⟩, by simp [intOf]⟩
        · by_cases h128 : x < 128
          · have hd : decide (x < 128) = true := by simpa using h128
            by_cases hx : 0 < x
            · have hq : decide (0 < x) = true := by simpa using hx
              have hxm : x % 128 = x := by omega
              have HF : Hid (R = some (n + x * 2097152, r)) := by
                show _ = _
                rw [← HRR.out]
                show (if x < 128 then (if 0 < x ∨ 3 = 0 then some (n + x * 128 ^ 3, r) else none) else _) = _
                rw [if_pos h128, if_pos (.inl hx)]
                simp
              go_wp2_with (first | (go_at_call 101; (with_reducible refine HN.out.mono ?_); rintro e w' ⟨rfl, hl, hg⟩; have HL2 := Lib.hid hl; have HG2 := Lib.hid hg; clear hl hg) | (go_at_call 91; (with_reducible refine (need_yes _).mono ?_); rintro e w' ⟨rfl, rfl⟩))
              all_goals go_ret
              all_goals show Reads tb _ w _ _ _
              all_goals rw [HR.out, HF.out]
              all_goals exact ⟨rfl, HL2.out, HG.out.then_ HG2.out (fun _ e => .inr e)⟩
            · have hq : decide (0 < x) = false := by simpa using hx
              have HF : Hid (R = none) := by
                show _ = _
                rw [← HRR.out]
                show (if x < 128 then (if 0 < x ∨ 3 = 0 then some (n + x * 128 ^ 3, r) else none) else _) = _
                rw [if_pos h128, if_neg (by omega)]
              go_wp2_with (first | (go_at_call 101; (with_reducible refine HN.out.mono ?_); rintro e w' ⟨rfl, hl, hg⟩; have HL2 := Lib.hid hl; have HG2 := Lib.hid hg; clear hl hg) | (go_at_call 91; (with_reducible refine (need_no _).mono ?_); rintro e w' ⟨rfl, rfl⟩))
              refine ⟨rfl, ?_⟩
              show Reads tb _ w _ _ _
              rw [HR.out, HF.out]
              exact ⟨rfl, HG.out.then_ HG2.out (fun _ e => .inr e)⟩
          · have hd : decide (x < 128) = false := by simpa using h128
            have hxm : x - 128 = x % 128 := by omega
            have HF : Hid (dNumF (5 - (3 + 1)) (3 + 1) (n + x % 128 * 2097152) r = R) := by
              show _ = _
              rw [← HRR.out]
              show _ = (if x < 128 then _ else dNumF (5 - (3 + 1)) (3 + 1) (n + (x - 128) * 128 ^ 3) r)
              rw [if_neg h128, hxm]
              simp
            have hnb2 : 0 ≤ n + x % 128 * 2097152 ∧ n + x % 128 * 2097152 < 128 ^ (3 + 1) := by
              simp at hn1 ⊢
              omega
            go_wp2_with (first | (go_at_call 101; (with_reducible refine HN.out.mono ?_); rintro e w' ⟨rfl, hl, hg⟩; have HL2 := Lib.hid hl; have HG2 := Lib.hid hg; clear hl hg))
            exact ⟨⟨3 + 1, _, r, by omega, by go_num, rfl, HL2.out, HG.out.then_ HG2.out (fun _ e => .inr e), HF.out, hnb2.1, hnb2.2⟩, by simp [intOf]⟩
        · by_cases h128 : x < 128
          · have hd : decide (x < 128) = true := by simpa using h128
            by_cases hx : 0 < x
            · have hq : decide (0 < x) = true := by simpa using hx
              have hxm : x % 128 = x := by omega
              have HF : Hid (R = some (n + x * 268435456, r)) := by
                show _ = _
                rw [← HRR.out]
                show (if x < 128 then (if 0 < x ∨ 4 = 0 then some (n + x * 128 ^ 4, r) else none) else _) = _
                rw [if_pos h128, if_pos (.inl hx)]
                simp
              go_wp2_with (first | (go_at_call 101; (with_reducible refine HN.out.mono ?_); rintro e w' ⟨rfl, hl, hg⟩; have HL2 := Lib.hid hl; have HG2 := Lib.hid hg; clear hl hg) | (go_at_call 91; (with_reducible refine (need_yes _).mono ?_); rintro e w' ⟨rfl, rfl⟩))
              all_goals go_ret
              all_goals show Reads tb _ w _ _ _
              all_goals rw [HR.out, HF.out]
              all_goals exact ⟨rfl, HL2.out, HG.out.then_ HG2.out (fun _ e => .inr e)⟩
            · have hq : decide (0 < x) = false := by simpa using hx
              have HF : Hid (R = none) := by
                show _ = _
                rw [← HRR.out]
                show (if x < 128 then (if 0 < x ∨ 4 = 0 then some (n + x * 128 ^ 4, r) else none) else _) = _
                rw [if_pos h128, if_neg (by omega)]
              go_wp2_with (first | (go_at_call 101; (with_reducible refine HN.out.mono ?_); rintro e w' ⟨rfl, hl, hg⟩; have HL2 := Lib.hid hl; have HG2 := Lib.hid hg; clear hl hg) | (go_at_call 91; (with_reducible refine (need_no _).mono ?_); rintro e w' ⟨rfl, rfl⟩))
              refine ⟨rfl, ?_⟩
              show Reads tb _ w _ _ _
              rw [HR.out, HF.out]
              exact ⟨rfl, HG.out.then_ HG2.out (fun _ e => .inr e)⟩
          · have hd : decide (x < 128) = false := by simpa using h128
            have hxm : x - 128 = x % 128 := by omega
            have HF : Hid (dNumF (5 - (4 + 1)) (4 + 1) (n + x % 128 * 268435456) r = R) := by
              show _ = _
              rw [← HRR.out]
              show _ = (if x < 128 then _ else dNumF (5 - (4 + 1)) (4 + 1) (n + (x - 128) * 128 ^ 4) r)
              rw [if_neg h128, hxm]
              simp
            have hnb2 : 0 ≤ n + x % 128 * 268435456 ∧ n + x % 128 * 268435456 < 128 ^ (4 + 1) := by
              simp at hn1 ⊢
              omega
            go_wp2_with (first | (go_at_call 101; (with_reducible refine HN.out.mono ?_); rintro e w' ⟨rfl, hl, hg⟩; have HL2 := Lib.hid hl; have HG2 := Lib.hid hg; clear hl hg))
            exact ⟨⟨4 + 1, _, r, by omega, by go_num, rfl, HL2.out, HG.out.then_ HG2.out (fun _ e => .inr e), HF.out, hnb2.1, hnb2.2⟩, by simp [intOf]⟩

theorem LeftIs.byt {w : World} {tb : Nat} {T : TypeId} {s : List Int} (h : LeftIs w tb T s) : Byt s := by
  obtain ⟨A, cap, _, _, _, _, hb⟩ := h
  exact hb

set_option maxRecDepth 100000 in
set_option maxHeartbeats 1000000 in
theorem cint_any (tb : Nat) (s : List Int) (w : World) (h : LeftIs w tb 116 s) :
    Calls Tryz.prog 114 #[.pointer (some ⟨tb, 0, none⟩)] w (Reads tb 116 w ((dInt s).map fun p => (.int .i64 p.1, p.2))) := by
  have HC := Lib.hid (cnum_any tb s w h)
  have hby := h.byt
  clear h
  cases hs : dNum s with
  | none =>
    have HZ : Hid (dInt s = none) := by show _ = _; unfold dInt; rw [hs]
    rw [hs] at HC
    clear hs
    go_enter Tryz.func114, Tryz.ntmps114
    go_wp2_with (go_at_call 90; (with_reducible refine HC.out.mono ?_); rintro e w' ⟨rfl, hg⟩; have HG := Lib.hid hg; clear hg)
    refine ⟨rfl, ?_⟩
    show Reads tb _ w _ _ _
    rw [HZ.out]
    exact ⟨rfl, HG.out⟩
  | some p =>
    obtain ⟨n, r⟩ := p
    obtain ⟨h0, h1, _, _⟩ := dNum_back hby hs
    have HZ : Hid (dInt s = some (unzig n, r)) := by show _ = _; unfold dInt; rw [hs]
    rw [hs] at HC
    clear hs hby
    by_cases ho : n % 2 = 1
    · have hq : (n % 2 == 1) = true := by simpa using ho
      have hu : unzig n = -((n + 1) / 2) := by unfold unzig; rw [if_pos ho]
      rw [hu] at HZ
      have ha : IntKind.i64.wrap (n + 1) = n + 1 := IntWalk.i64_in _ (by omega)
      have hb : IntKind.i64.wrap (-(n + 1)) = -(n + 1) := IntWalk.i64_in _ (by omega)
      have HV : Hid (wrap64 (-(n + 1).tdiv 2) = -((n + 1) / 2)) := by
        show _ = _
        rw [Int.tdiv_eq_ediv_of_nonneg (by omega)]
        exact IntWalk.wrap64_in _ (by omega)
      clear hu
      go_enter Tryz.func114, Tryz.ntmps114
      go_wp2_with (go_at_call 90; (with_reducible refine HC.out.mono ?_); rintro e w' ⟨rfl, hl, hg⟩; have HL := Lib.hid hl; have HG := Lib.hid hg; clear hl hg)
      go_ret
      show Reads tb _ w _ _ _
      rw [HZ.out]
      refine ⟨?_, HL.out, HG.out⟩
      show Ending.returned (.int .i64 (wrap64 (-(n + 1).tdiv 2))) = _
      rw [HV.out]
    · have hq : (n % 2 == 1) = false := by simpa using ho
      have hu : unzig n = n / 2 := by unfold unzig; rw [if_neg ho]
      rw [hu] at HZ
      clear hu
      go_enter Tryz.func114, Tryz.ntmps114
      go_wp2_with (go_at_call 90; (with_reducible refine HC.out.mono ?_); rintro e w' ⟨rfl, hl, hg⟩; have HL := Lib.hid hl; have HG := Lib.hid hg; clear hl hg)
      go_ret
      show Reads tb _ w _ _ _
      rw [HZ.out]
      exact ⟨rfl, HL.out, HG.out⟩
end Go.Proofs.Bg
end

section
/- The contract of code.item. -/
namespace Go.Proofs.Bg
open Go.RowKit

structure CIt (tb rb xb bb : Nat) (bf : Rc) (w0 w : World) (a b c d : Int) (rest : List Int) : Prop where
  left : LeftIs w tb 116 rest
  hx : w.heap[xb]? = some (.cells #[.int .i64 a, .int .i64 b, .int .i64 c, .int .i64 d] 40)
  hr : w.heap[rb]? = some (.cells #[.int .i64 0, .int .i64 0, .int .i64 0, .int .i64 0] 40)
  hb : w.heap[bb]? = some (.cells #[.int .i64 bf.at_, .int .i64 bf.key, .int .i64 bf.val] 38)
  g : w0.grownBy w (some tb)
  nx : xb ≠ tb
  nr : rb ≠ tb
  nb : bb ≠ tb
  xr : xb ≠ rb
  xbb : xb ≠ bb
  rbb : rb ≠ bb
  lox : w0.heap.size ≤ xb
  lor : w0.heap.size ≤ rb
theorem CIt.turn {tb rb xb bb : Nat} {bf : Rc} {w0 w w' : World} {a b c d : Int} {rest r : List Int} (h : CIt tb rb xb bb bf w0 w a b c d rest) (hl : LeftIs w' tb 116 r) (hg : w.grownBy w' (some tb)) : CIt tb rb xb bb bf w0 w' a b c d r where
  left := hl
  hx := (hg.block xb (Array.getElem?_eq_some_iff.1 h.hx).1 (fun e => h.nx (Option.some.inj e))).trans h.hx
  hr := (hg.block rb (Array.getElem?_eq_some_iff.1 h.hr).1 (fun e => h.nr (Option.some.inj e))).trans h.hr
  hb := (hg.block bb (Array.getElem?_eq_some_iff.1 h.hb).1 (fun e => h.nb (Option.some.inj e))).trans h.hb
  g := h.g.then_ hg (fun _ e => .inr e)
  nx := h.nx
  nr := h.nr
  nb := h.nb
  xr := h.xr
  xbb := h.xbb
  rbb := h.rbb
  lox := h.lox
  lor := h.lor
theorem CIt.set {tb rb xb bb : Nat} {bf : Rc} {w0 w : World} {a b c d a' b' c' d' : Int} {rest : List Int} (h : CIt tb rb xb bb bf w0 w a b c d rest) (j : Nat) (v : Int) (hc : (#[.int .i64 a, .int .i64 b, .int .i64 c, .int .i64 d] : Array Value).setIfInBounds j (.int .i64 v) = #[.int .i64 a', .int .i64 b', .int .i64 c', .int .i64 d']) : CIt tb rb xb bb bf w0 (w.setCell ⟨xb, j, none⟩ (.int .i64 v)) a' b' c' d' rest := by
  obtain ⟨s1, s2⟩ := setCell_at (off := j) h.hx (.int .i64 v)
  rw [hc] at s1
  exact ⟨h.left.grown s2 h.nx h.hx, s1, (s2.block rb (Array.getElem?_eq_some_iff.1 h.hr).1 (fun e => h.xr (Option.some.inj e).symm)).trans h.hr, (s2.block bb (Array.getElem?_eq_some_iff.1 h.hb).1 (fun e => h.xbb (Option.some.inj e).symm)).trans h.hb, World.grownBy.fresh h.g s2 h.lox, h.nx, h.nr, h.nb, h.xr, h.xbb, h.rbb, h.lox, h.lor⟩
theorem CIt.fin {tb rb xb bb : Nat} {bf : Rc} {w0 w : World} {a b c d : Int} {rest : List Int} (h : CIt tb rb xb bb bf w0 w a b c d rest) (p q r t : Value) : LeftIs ((((w.setCell ⟨rb, 0, none⟩ p).setCell ⟨rb, 1, none⟩ q).setCell ⟨rb, 2, none⟩ r).setCell ⟨rb, 3, none⟩ t) tb 116 rest ∧ w0.grownBy ((((w.setCell ⟨rb, 0, none⟩ p).setCell ⟨rb, 1, none⟩ q).setCell ⟨rb, 2, none⟩ r).setCell ⟨rb, 3, none⟩ t) (some tb) := by
  obtain ⟨h4, g4⟩ := set4 h.hr p q r t
  exact ⟨h.left.grown g4 h.nr h.hr, World.grownBy.fresh h.g g4 h.lor⟩
theorem CIt.four {tb rb xb bb : Nat} {bf : Rc} {w0 w : World} {a b c d : Int} {rest : List Int} (h : CIt tb rb xb bb bf w0 w a b c d rest) (p q r t : Int) : CIt tb rb xb bb bf w0 ((((w.setCell ⟨xb, 0, none⟩ (.int .i64 p)).setCell ⟨xb, 1, none⟩ (.int .i64 q)).setCell ⟨xb, 2, none⟩ (.int .i64 r)).setCell ⟨xb, 3, none⟩ (.int .i64 t)) p q r t rest :=
  (((h.set 0 p rfl).set 1 q rfl).set 2 r rfl).set 3 t rfl
/-- Ahead of x: the two boxes of the call, the reader. -/
structure CIt0 (tb rb bb : Nat) (bf : Rc) (w0 w : World) (rest : List Int) : Prop where
  left : LeftIs w tb 116 rest
  hr : w.heap[rb]? = some (.cells #[.int .i64 0, .int .i64 0, .int .i64 0, .int .i64 0] 40)
  hb : w.heap[bb]? = some (.cells #[.int .i64 bf.at_, .int .i64 bf.key, .int .i64 bf.val] 38)
  g : w0.grownBy w (some tb)
  nr : rb ≠ tb
  nb : bb ≠ tb
  rbb : rb ≠ bb
  lor : w0.heap.size ≤ rb
theorem CIt0.lt {tb rb bb : Nat} {bf : Rc} {w0 w : World} {rest : List Int} (h : CIt0 tb rb bb bf w0 w rest) : rb < w.heap.size ∧ bb < w.heap.size ∧ tb < w.heap.size := ⟨(Array.getElem?_eq_some_iff.1 h.hr).1, (Array.getElem?_eq_some_iff.1 h.hb).1, h.left.lt⟩
theorem CIt0.turn {tb rb bb : Nat} {bf : Rc} {w0 w w' : World} {rest r : List Int} (h : CIt0 tb rb bb bf w0 w rest) (hl : LeftIs w' tb 116 r) (hg : w.grownBy w' (some tb)) : CIt0 tb rb bb bf w0 w' r where
  left := hl
  hr := (hg.block rb h.lt.1 (fun e => h.nr (Option.some.inj e))).trans h.hr
  hb := (hg.block bb h.lt.2.1 (fun e => h.nb (Option.some.inj e))).trans h.hb
  g := h.g.then_ hg (fun _ e => .inr e)
  nr := h.nr
  nb := h.nb
  rbb := h.rbb
  lor := h.lor
/-- x's box is made. -/
theorem CIt0.box {tb rb bb : Nat} {bf : Rc} {w0 w : World} {rest : List Int} (h : CIt0 tb rb bb bf w0 w rest) (a b c d : Int) : CIt tb rb w.heap.size bb bf w0 (w.alloc (.cells #[.int .i64 a, .int .i64 b, .int .i64 c, .int .i64 d] 40)) a b c d rest := by
  obtain ⟨l1, l2, l3⟩ := h.lt
  have hB : Below w.heap.size w (w.alloc (.cells #[.int .i64 a, .int .i64 b, .int .i64 c, .int .i64 d] 40)) := (Below.refl _ _).alloc (Nat.le_refl _) _
  exact ⟨h.left.later (row := none) ⟨hB.os, hB.tape, hB.output, hB.size, fun i hi _ => hB.block i hi⟩ (fun x e => by cases e), new_block _ _ _, (hB.block _ l1).trans h.hr, (hB.block _ l2).trans h.hb, h.g.then_ ⟨hB.os, hB.tape, hB.output, hB.size, fun i hi _ => hB.block i hi⟩ (fun _ e => .inr e), by omega, h.nr, h.nb, by omega, by omega, h.rbb, h.g.size, h.lor⟩
theorem CIt0.start {tb : Nat} {w : World} {s : List Int} (bf : Rc) (h : LeftIs w tb 116 s) : CIt0 tb (w.heap.size + 1) w.heap.size bf w ((w.alloc (.cells #[.int .i64 bf.at_, .int .i64 bf.key, .int .i64 bf.val] 38)).alloc (.cells #[.int .i64 0, .int .i64 0, .int .i64 0, .int .i64 0] 40)) s := by
  have htb : tb < w.heap.size := h.lt
  have hB : Below w.heap.size w ((w.alloc (.cells #[.int .i64 bf.at_, .int .i64 bf.key, .int .i64 bf.val] 38)).alloc (.cells #[.int .i64 0, .int .i64 0, .int .i64 0, .int .i64 0] 40)) := ((Below.refl _ _).alloc (Nat.le_refl _) _).alloc (by simp) _
  refine ⟨h.later (row := none) ⟨hB.os, hB.tape, hB.output, hB.size, fun i hi _ => hB.block i hi⟩ (fun x e => by cases e), ?_, ?_, ⟨hB.os, hB.tape, hB.output, hB.size, fun i hi _ => hB.block i hi⟩, by omega, by omega, by omega, by omega⟩
  · have := new_block (w.alloc (.cells #[.int .i64 bf.at_, .int .i64 bf.key, .int .i64 bf.val] 38)) #[.int .i64 0, .int .i64 0, .int .i64 0, .int .i64 0] 40
    simpa using this
  · rw [Below.heap_alloc _ _ _ (by simp)]
    exact new_block _ _ _
theorem dummy_ {p : Prop} {P : Program} {md : Region.Mode} {a : Act} {w : World} (hp : p) (_h : wpAny P md #[] (fun _ _ _ => True) 0 #[] a w) : p := hp
theorem grownBy_drew {a b' : World} {row : Option Nat} (h : a.drew.grownBy b' row) : a.grownBy b' row := ⟨h.os, h.tape, h.output, h.size, h.block⟩
theorem cnum_yes {tb : Nat} {s r : List Int} {a : Int} (w : World) (h : LeftIs w tb 116 s) (hp : dNum s = some (a, r)) : Calls Tryz.prog 90 #[.pointer (some ⟨tb, 0, none⟩)] w fun e w' => e = .returned (.int .i64 a) ∧ LeftIs w' tb 116 r ∧ w.grownBy w' (some tb) := by
  have := cnum_any tb s w h
  rw [hp] at this
  exact this
theorem cnum_no {tb : Nat} {s : List Int} (w : World) (h : LeftIs w tb 116 s) (hp : dNum s = none) : Calls Tryz.prog 90 #[.pointer (some ⟨tb, 0, none⟩)] w fun e w' => e = .panicked wrongChain ∧ w.grownBy w' (some tb) := by
  have := cnum_any tb s w h
  rw [hp] at this
  exact this
theorem cint_yes {tb : Nat} {s r : List Int} {a : Int} (w : World) (h : LeftIs w tb 116 s) (hp : dInt s = some (a, r)) : Calls Tryz.prog 114 #[.pointer (some ⟨tb, 0, none⟩)] w fun e w' => e = .returned (.int .i64 a) ∧ LeftIs w' tb 116 r ∧ w.grownBy w' (some tb) := by
  have := cint_any tb s w h
  rw [hp] at this
  exact this
theorem cint_no {tb : Nat} {s : List Int} (w : World) (h : LeftIs w tb 116 s) (hp : dInt s = none) : Calls Tryz.prog 114 #[.pointer (some ⟨tb, 0, none⟩)] w fun e w' => e = .panicked wrongChain ∧ w.grownBy w' (some tb) := by
  have := cint_any tb s w h
  rw [hp] at this
  exact this

set_option maxRecDepth 100000 in
set_option maxHeartbeats 2000000 in
theorem citem_any (tb : Nat) (bf : Rc) (first : Bool) (s : List Int) (w : World) (h : LeftIs w tb 116 s) (h1 : -1152921504606846976 ≤ bf.at_ ∧ bf.at_ ≤ 1152921504606846976) (h2 : -1152921504606846976 ≤ bf.key ∧ bf.key ≤ 1152921504606846976) (h3 : -1152921504606846976 ≤ bf.val ∧ bf.val ≤ 1152921504606846976) :
    Calls Tryz.prog 92 #[.pointer (some ⟨tb, 0, none⟩), .agg #[.int .i64 bf.at_, .int .i64 bf.key, .int .i64 bf.val], .bool first] w (Reads tb 116 w ((dItem bf first s).map fun p => (itV p.1, p.2))) := by
  have ST0 := Lib.hid (CIt0.start bf h)
  have hby := h.byt
  obtain ⟨w2, hw2⟩ : ∃ w2, (w.alloc (.cells #[.int .i64 bf.at_, .int .i64 bf.key, .int .i64 bf.val] 38)).alloc (.cells #[.int .i64 0, .int .i64 0, .int .i64 0, .int .i64 0] 40) = w2 := ⟨_, rfl⟩
  rw [hw2] at ST0
  have b0 := cell_at_block (off := 0) ST0.out.hb rfl
  have HW2 := Lib.hid hw2
  have ne0 := World.new_ne w2 _ b0
  have ne1 : w.heap.size ≠ w2.heap.size := fun e => ne0 e.symm
  have ne2 : w.heap.size < w2.heap.size := ST0.out.lt.2.1
  clear h hw2
  cases hp : dNum s with
  | none =>
    have HF : Hid ((dItem bf first s) = none) := by show _ = _; simp [dItem, hp]
    go_enter Tryz.func92, Tryz.ntmps92
    go_upto_region 1 with fail
    rw [HW2.out]
    go_region_with (first | (go_at_call 90; refine (cnum_no _ (by with_unfolding_all exact ST0.out.left) hp).mono ?_; rintro e w3 ⟨rfl, hg3⟩; have HG := Lib.hid (ST0.out.g.then_ (grownBy_drew hg3) (fun _ e => .inr e)); go_simp; go_loud (refine dummy_ (P := Tryz.prog) (md := .any) (a := ⟨#[], []⟩) (w := w) ⟨rfl, by show Reads tb _ w _ _ _; rw [HF.out]; exact ⟨rfl, HG.out⟩⟩ ?_)) | (go_at_call 90; refine (cnum_no _ (by with_unfolding_all exact (ST0.out.box 0 0 0 0).left) hp).mono ?_; rintro e w3 ⟨rfl, hg3⟩; have HG := Lib.hid ((ST0.out.box 0 0 0 0).g.then_ (grownBy_drew hg3) (fun _ e => .inr e)); go_simp; go_loud (refine dummy_ (P := Tryz.prog) (md := .any) (a := ⟨#[], []⟩) (w := w) ⟨rfl, by show Reads tb _ w _ _ _; rw [HF.out]; exact ⟨rfl, HG.out⟩⟩ ?_)))
    all_goals trivial
  | some p0 =>
    obtain ⟨a, s1⟩ := p0
    obtain ⟨a0, a1, hby1, _⟩ := dNum_back hby hp
    have ea : IntKind.i64.wrap (bf.at_ + a) = bf.at_ + a := IntWalk.i64_in _ (by omega)
    go_enter Tryz.func92, Tryz.ntmps92
    go_upto_region 1 with fail
    rw [HW2.out]
    go_cut [7] (fun s7 wx => ∃ xb : Nat, s7 = .pointer (some ⟨xb, 0, none⟩) ∧ CIt tb (w.heap.size + 1) xb w.heap.size bf w wx (bf.at_ + a) 0 0 0 s1)
    case first =>
      go_region_held3 (fun w' => w'.cell? ⟨w.heap.size, 0, none⟩ = some (.int .i64 bf.at_)) (go_keep)
        (first | (go_at_call 90; refine (cnum_yes _ (by with_unfolding_all exact ST0.out.left) hp).mono ?_; rintro e w3 ⟨rfl, hl3, hg3⟩; have T := ST0.out.turn hl3 (grownBy_drew hg3); have b3 := cell_at_block (off := 0) T.hb rfl; have HT := Lib.hid T; clear hl3 hg3 T) | (go_at_call 90; refine (cnum_yes _ (by with_unfolding_all exact (ST0.out.box 0 0 0 0).left) hp).mono ?_; rintro e w3 ⟨rfl, hl3, hg3⟩; have T := (ST0.out.box 0 0 0 0).turn hl3 (grownBy_drew hg3); have b3 := cell_at_block (off := 0) T.hb rfl; have f0 := free_at_block (off := 0) T.hx; have f1 := free_at_block (off := 1) T.hx; have f2 := free_at_block (off := 2) T.hx; have f3 := free_at_block (off := 3) T.hx; have x0 := cell_at_block (off := 0) T.hx rfl; have x1 := cell_at_block (off := 1) T.hx rfl; have x2 := cell_at_block (off := 2) T.hx rfl; have x3 := cell_at_block (off := 3) T.hx rfl; have HT := Lib.hid T; clear hl3 hg3 T))
      all_goals (go_wp2_with fail; go_meet)
      · exact ⟨_, rfl, HT.out.box _ _ _ _⟩
      · exact ⟨_, rfl, HT.out.four (bf.at_ + a) 0 0 0⟩
    case rest =>
      obtain ⟨xb, rfl, T⟩ := hcut
      have HT1 := Lib.hid T
      have cx0 := cell_at_block (off := 0) T.hx rfl
      have cx1 := cell_at_block (off := 1) T.hx rfl
      have cx2 := cell_at_block (off := 2) T.hx rfl
      have cx3 := cell_at_block (off := 3) T.hx rfl
      have cb0 := cell_at_block (off := 0) T.hb rfl
      have cb1 := cell_at_block (off := 1) T.hb rfl
      have cb2 := cell_at_block (off := 2) T.hb rfl
      have cf0 := free_at_block (off := 0) T.hx
      have cf1 := free_at_block (off := 1) T.hx
      have cf2 := free_at_block (off := 2) T.hx
      have cf3 := free_at_block (off := 3) T.hx
      clear T ne0 ne1 ne2 b0
      cases hfi : first with
      | true =>
        have hsm : (!first && (bf.at_ + a == bf.at_)) = false := by rw [hfi]; rfl
        cases hk : dInt s1 with
        | none =>
          have HF : Hid ((dItem bf first s) = none) := by show _ = _; simp [dItem, dKey, hp, hsm, hk]
          clear hsm
          go_wp2_with (go_at_call 114; (with_reducible refine (cint_no _ (by with_unfolding_all exact HT1.out.left) hk).mono ?_); rintro e wz ⟨rfl, hg⟩; have HG := Lib.hid (HT1.out.g.then_ hg (fun _ e => .inr e)); clear hg)
          refine ⟨rfl, ?_⟩
          show Reads tb _ w _ _ _
          rw [HF.out]
          exact ⟨rfl, HG.out⟩
        | some pk =>
          obtain ⟨k, s2⟩ := pk
          have C := Lib.hid (cint_yes _ HT1.out.left hk)
          have HSM := Lib.hid hsm
          clear hsm
          go_wp2_with fail
          (with_reducible refine C.out.mono ?_)
          rintro e w4 ⟨rfl, hl, hg⟩
          clear C
          clear cx0 cx1 cx2 cx3 cf0 cf1 cf2 cf3 cb0 cb1 cb2
          have T2 := HT1.out.turn hl hg
          have HT2 := Lib.hid (T2.set 1 (k) (a' := (bf.at_ + a)) (b' := k) (c' := 0) (d' := 0) rfl)
          have px0 := cell_at_block (off := 0) T2.hx rfl
          have px1 := cell_at_block (off := 1) T2.hx rfl
          have px2 := cell_at_block (off := 2) T2.hx rfl
          have px3 := cell_at_block (off := 3) T2.hx rfl
          have pb0 := cell_at_block (off := 0) T2.hb rfl
          have pb1 := cell_at_block (off := 1) T2.hb rfl
          have pb2 := cell_at_block (off := 2) T2.hb rfl
          have pf0 := free_at_block (off := 0) T2.hx
          have pf1 := free_at_block (off := 1) T2.hx
          have pf2 := free_at_block (off := 2) T2.hx
          have pf3 := free_at_block (off := 3) T2.hx
          clear hl hg T2
          cases hv : dInt s2 with
          | none =>
            have HF : Hid ((dItem bf first s) = none) := by show _ = _; simp [dItem, dKey, hp, HSM.out, hk, hv]
            go_wp2_with (go_at_call 114; (with_reducible refine (cint_no _ (by with_unfolding_all exact HT2.out.left) hv).mono ?_); rintro e wz ⟨rfl, hg⟩; have HG := Lib.hid (HT2.out.g.then_ hg (fun _ e => .inr e)); clear hg)
            refine ⟨rfl, ?_⟩
            show Reads tb _ w _ _ _
            rw [HF.out]
            exact ⟨rfl, HG.out⟩
          | some pv =>
            obtain ⟨v, s3⟩ := pv
            have C := Lib.hid (cint_yes _ HT2.out.left hv)
            go_wp2_with fail
            (with_reducible refine C.out.mono ?_)
            rintro e w5 ⟨rfl, hl, hg⟩
            clear C
            clear px0 px1 px2 px3 pf0 pf1 pf2 pf3 pb0 pb1 pb2
            have T3 := HT2.out.turn hl hg
            have HT3 := Lib.hid (T3.set 2 (v) (a' := (bf.at_ + a)) (b' := k) (c' := v) (d' := 0) rfl)
            have qx0 := cell_at_block (off := 0) T3.hx rfl
            have qx1 := cell_at_block (off := 1) T3.hx rfl
            have qx2 := cell_at_block (off := 2) T3.hx rfl
            have qx3 := cell_at_block (off := 3) T3.hx rfl
            have qb0 := cell_at_block (off := 0) T3.hb rfl
            have qb1 := cell_at_block (off := 1) T3.hb rfl
            have qb2 := cell_at_block (off := 2) T3.hb rfl
            have qf0 := free_at_block (off := 0) T3.hx
            have qf1 := free_at_block (off := 1) T3.hx
            have qf2 := free_at_block (off := 2) T3.hx
            have qf3 := free_at_block (off := 3) T3.hx
            clear hl hg T3
            cases hn0 : dInt s3 with
            | none =>
              have HF : Hid ((dItem bf first s) = none) := by show _ = _; simp [dItem, dKey, hp, HSM.out, hk, hv, hn0]
              go_wp2_with (go_at_call 114; (with_reducible refine (cint_no _ (by with_unfolding_all exact HT3.out.left) hn0).mono ?_); rintro e wz ⟨rfl, hg⟩; have HG := Lib.hid (HT3.out.g.then_ hg (fun _ e => .inr e)); clear hg)
              refine ⟨rfl, ?_⟩
              show Reads tb _ w _ _ _
              rw [HF.out]
              exact ⟨rfl, HG.out⟩
            | some pn =>
              obtain ⟨n, s4⟩ := pn
              have HF : Hid ((dItem bf first s) = some (⟨⟨bf.at_ + a, k, v⟩, n⟩, s4)) := by show _ = _; simp [dItem, dKey, hp, HSM.out, hk, hv, hn0]
              have C := Lib.hid (cint_yes _ HT3.out.left hn0)
              go_wp2_with fail
              (with_reducible refine C.out.mono ?_)
              rintro e wy ⟨rfl, hl, hg⟩
              clear C
              have TN := HT3.out.turn hl hg
              have HTN := Lib.hid (TN.set 3 (n) (a' := (bf.at_ + a)) (b' := k) (c' := v) (d' := n) rfl)
              have yx0 := cell_at_block (off := 0) TN.hx rfl
              have yx1 := cell_at_block (off := 1) TN.hx rfl
              have yx2 := cell_at_block (off := 2) TN.hx rfl
              have yx3 := cell_at_block (off := 3) TN.hx rfl
              have yb0 := cell_at_block (off := 0) TN.hb rfl
              have yb1 := cell_at_block (off := 1) TN.hb rfl
              have yb2 := cell_at_block (off := 2) TN.hb rfl
              have yf0 := free_at_block (off := 0) TN.hx
              have yf1 := free_at_block (off := 1) TN.hx
              have yf2 := free_at_block (off := 2) TN.hx
              have yf3 := free_at_block (off := 3) TN.hx
              clear hl hg TN
              have d0 := cell_at_block (off := 0) HTN.out.hr rfl
              have e0 := free_at_block (off := 0) HTN.out.hr
              have d1 := cell_at_block (off := 1) HTN.out.hr rfl
              have e1 := free_at_block (off := 1) HTN.out.hr
              have d2 := cell_at_block (off := 2) HTN.out.hr rfl
              have e2 := free_at_block (off := 2) HTN.out.hr
              have d3 := cell_at_block (off := 3) HTN.out.hr rfl
              have e3 := free_at_block (off := 3) HTN.out.hr
              have ne3 := HTN.out.xr
              have ne4 : xb ≠ tb := HTN.out.nx
              clear yf0 yf1 yf2
              go_wp2_with fail
              refine bodyPost_ret (results_cell_row rfl _ _ (w.heap.size + 1) 40 #[.int .i64 (bf.at_ + a), .int .i64 (k), .int .i64 (v), .int .i64 n] (0, 0) _ rfl (set4 HTN.out.hr _ _ _ _).1 Tryz.underlying40 rfl (by kernel_rfl)) rfl ?_
              show Reads tb _ w _ _ _
              rw [HF.out]
              exact ⟨rfl, HTN.out.fin _ _ _ _⟩
      | false =>
        cases hq : (bf.at_ + a == bf.at_) with
        | false =>
          have hsm : (!first && (bf.at_ + a == bf.at_)) = false := by rw [hq]; simp
          cases hk : dInt s1 with
          | none =>
            have HF : Hid ((dItem bf first s) = none) := by show _ = _; simp [dItem, dKey, hp, hsm, hk]
            clear hsm
            go_wp2_with (go_at_call 114; (with_reducible refine (cint_no _ (by with_unfolding_all exact HT1.out.left) hk).mono ?_); rintro e wz ⟨rfl, hg⟩; have HG := Lib.hid (HT1.out.g.then_ hg (fun _ e => .inr e)); clear hg)
            refine ⟨rfl, ?_⟩
            show Reads tb _ w _ _ _
            rw [HF.out]
            exact ⟨rfl, HG.out⟩
          | some pk =>
            obtain ⟨k, s2⟩ := pk
            have C := Lib.hid (cint_yes _ HT1.out.left hk)
            have HSM := Lib.hid hsm
            clear hsm
            go_wp2_with fail
            (with_reducible refine C.out.mono ?_)
            rintro e w4 ⟨rfl, hl, hg⟩
            clear C
            clear cx0 cx1 cx2 cx3 cf0 cf1 cf2 cf3 cb0 cb1 cb2
            have T2 := HT1.out.turn hl hg
            have HT2 := Lib.hid (T2.set 1 (k) (a' := (bf.at_ + a)) (b' := k) (c' := 0) (d' := 0) rfl)
            have px0 := cell_at_block (off := 0) T2.hx rfl
            have px1 := cell_at_block (off := 1) T2.hx rfl
            have px2 := cell_at_block (off := 2) T2.hx rfl
            have px3 := cell_at_block (off := 3) T2.hx rfl
            have pb0 := cell_at_block (off := 0) T2.hb rfl
            have pb1 := cell_at_block (off := 1) T2.hb rfl
            have pb2 := cell_at_block (off := 2) T2.hb rfl
            have pf0 := free_at_block (off := 0) T2.hx
            have pf1 := free_at_block (off := 1) T2.hx
            have pf2 := free_at_block (off := 2) T2.hx
            have pf3 := free_at_block (off := 3) T2.hx
            clear hl hg T2
            cases hv : dInt s2 with
            | none =>
              have HF : Hid ((dItem bf first s) = none) := by show _ = _; simp [dItem, dKey, hp, HSM.out, hk, hv]
              go_wp2_with (go_at_call 114; (with_reducible refine (cint_no _ (by with_unfolding_all exact HT2.out.left) hv).mono ?_); rintro e wz ⟨rfl, hg⟩; have HG := Lib.hid (HT2.out.g.then_ hg (fun _ e => .inr e)); clear hg)
              refine ⟨rfl, ?_⟩
              show Reads tb _ w _ _ _
              rw [HF.out]
              exact ⟨rfl, HG.out⟩
            | some pv =>
              obtain ⟨v, s3⟩ := pv
              have C := Lib.hid (cint_yes _ HT2.out.left hv)
              go_wp2_with fail
              (with_reducible refine C.out.mono ?_)
              rintro e w5 ⟨rfl, hl, hg⟩
              clear C
              clear px0 px1 px2 px3 pf0 pf1 pf2 pf3 pb0 pb1 pb2
              have T3 := HT2.out.turn hl hg
              have HT3 := Lib.hid (T3.set 2 (v) (a' := (bf.at_ + a)) (b' := k) (c' := v) (d' := 0) rfl)
              have qx0 := cell_at_block (off := 0) T3.hx rfl
              have qx1 := cell_at_block (off := 1) T3.hx rfl
              have qx2 := cell_at_block (off := 2) T3.hx rfl
              have qx3 := cell_at_block (off := 3) T3.hx rfl
              have qb0 := cell_at_block (off := 0) T3.hb rfl
              have qb1 := cell_at_block (off := 1) T3.hb rfl
              have qb2 := cell_at_block (off := 2) T3.hb rfl
              have qf0 := free_at_block (off := 0) T3.hx
              have qf1 := free_at_block (off := 1) T3.hx
              have qf2 := free_at_block (off := 2) T3.hx
              have qf3 := free_at_block (off := 3) T3.hx
              clear hl hg T3
              cases hn0 : dInt s3 with
              | none =>
                have HF : Hid ((dItem bf first s) = none) := by show _ = _; simp [dItem, dKey, hp, HSM.out, hk, hv, hn0]
                go_wp2_with (go_at_call 114; (with_reducible refine (cint_no _ (by with_unfolding_all exact HT3.out.left) hn0).mono ?_); rintro e wz ⟨rfl, hg⟩; have HG := Lib.hid (HT3.out.g.then_ hg (fun _ e => .inr e)); clear hg)
                refine ⟨rfl, ?_⟩
                show Reads tb _ w _ _ _
                rw [HF.out]
                exact ⟨rfl, HG.out⟩
              | some pn =>
                obtain ⟨n, s4⟩ := pn
                have HF : Hid ((dItem bf first s) = some (⟨⟨bf.at_ + a, k, v⟩, n⟩, s4)) := by show _ = _; simp [dItem, dKey, hp, HSM.out, hk, hv, hn0]
                have C := Lib.hid (cint_yes _ HT3.out.left hn0)
                go_wp2_with fail
                (with_reducible refine C.out.mono ?_)
                rintro e wy ⟨rfl, hl, hg⟩
                clear C
                have TN := HT3.out.turn hl hg
                have HTN := Lib.hid (TN.set 3 (n) (a' := (bf.at_ + a)) (b' := k) (c' := v) (d' := n) rfl)
                have yx0 := cell_at_block (off := 0) TN.hx rfl
                have yx1 := cell_at_block (off := 1) TN.hx rfl
                have yx2 := cell_at_block (off := 2) TN.hx rfl
                have yx3 := cell_at_block (off := 3) TN.hx rfl
                have yb0 := cell_at_block (off := 0) TN.hb rfl
                have yb1 := cell_at_block (off := 1) TN.hb rfl
                have yb2 := cell_at_block (off := 2) TN.hb rfl
                have yf0 := free_at_block (off := 0) TN.hx
                have yf1 := free_at_block (off := 1) TN.hx
                have yf2 := free_at_block (off := 2) TN.hx
                have yf3 := free_at_block (off := 3) TN.hx
                clear hl hg TN
                have d0 := cell_at_block (off := 0) HTN.out.hr rfl
                have e0 := free_at_block (off := 0) HTN.out.hr
                have d1 := cell_at_block (off := 1) HTN.out.hr rfl
                have e1 := free_at_block (off := 1) HTN.out.hr
                have d2 := cell_at_block (off := 2) HTN.out.hr rfl
                have e2 := free_at_block (off := 2) HTN.out.hr
                have d3 := cell_at_block (off := 3) HTN.out.hr rfl
                have e3 := free_at_block (off := 3) HTN.out.hr
                have ne3 := HTN.out.xr
                have ne4 : xb ≠ tb := HTN.out.nx
                clear yf0 yf1 yf2
                go_wp2_with fail
                refine bodyPost_ret (results_cell_row rfl _ _ (w.heap.size + 1) 40 #[.int .i64 (bf.at_ + a), .int .i64 (k), .int .i64 (v), .int .i64 n] (0, 0) _ rfl (set4 HTN.out.hr _ _ _ _).1 Tryz.underlying40 rfl (by kernel_rfl)) rfl ?_
                show Reads tb _ w _ _ _
                rw [HF.out]
                exact ⟨rfl, HTN.out.fin _ _ _ _⟩
        | true =>
          have hsm : (!first && (bf.at_ + a == bf.at_)) = true := by rw [hfi, hq]; rfl
          have HSM := Lib.hid hsm
          clear hsm
          cases hk : dNum s1 with
          | none =>
            have HF : Hid ((dItem bf first s) = none) := by show _ = _; simp [dItem, dKey, hp, HSM.out, hk]
            go_upto_region 4 with fail
            go_region_with (go_at_call 90; refine (cnum_no _ (by with_unfolding_all exact HT1.out.left) hk).mono ?_; rintro e wz ⟨rfl, hg⟩; have HG := Lib.hid (HT1.out.g.then_ (grownBy_drew hg) (fun _ e => .inr e)); go_simp; refine dummy_ (P := Tryz.prog) (md := .any) (a := ⟨#[], []⟩) (w := w) ⟨rfl, by show Reads tb _ w _ _ _; rw [HF.out]; exact ⟨rfl, HG.out⟩⟩ ?_)
            all_goals trivial
          | some pk =>
            obtain ⟨kk, s2⟩ := pk
            obtain ⟨k0, k1, hby2, _⟩ := dNum_back hby1 hk
            have ek : IntKind.i64.wrap (bf.key + kk) = bf.key + kk := IntWalk.i64_in _ (by omega)
            go_upto_region 4 with fail
            have ng0 : xb ≠ w.heap.size := HT1.out.xbb
            go_region_held3 (fun w' => w'.cell? ⟨w.heap.size, 1, none⟩ = some (.int .i64 bf.key)) (go_keep)
              ((go_at_call 90; refine (cnum_yes _ (by with_unfolding_all exact HT1.out.left) hk).mono ?_; rintro e wz ⟨rfl, hl, hg⟩; have T := HT1.out.turn hl (grownBy_drew hg); have pf0 := free_at_block (off := 0) T.hx; have pf1 := free_at_block (off := 1) T.hx; have pf2 := free_at_block (off := 2) T.hx; have pf3 := free_at_block (off := 3) T.hx; have px0 := cell_at_block (off := 0) T.hx rfl; have px1 := cell_at_block (off := 1) T.hx rfl; have px2 := cell_at_block (off := 2) T.hx rfl; have px3 := cell_at_block (off := 3) T.hx rfl; have pb0 := cell_at_block (off := 0) T.hb rfl; have pb1 := cell_at_block (off := 1) T.hb rfl; have pb2 := cell_at_block (off := 2) T.hb rfl; have HT2 := Lib.hid (T.set 1 ((bf.key + kk)) (a' := (bf.at_ + a)) (b' := (bf.key + kk)) (c' := 0) (d' := 0) rfl); clear hl hg T))
            clear cx0 cx1 cx2 cx3 cf0 cf1 cf2 cf3 cb0 cb1 cb2
            cases hkq : (bf.key + kk == bf.key) with
            | false =>
              cases hv : dInt s2 with
              | none =>
                have HF : Hid ((dItem bf first s) = none) := by show _ = _; simp [dItem, dKey, hp, HSM.out, hk, hkq, hv]
                go_wp2_with (go_at_call 114; (with_reducible refine (cint_no _ (by with_unfolding_all exact HT2.out.left) hv).mono ?_); rintro e wz ⟨rfl, hg⟩; have HG := Lib.hid (HT2.out.g.then_ hg (fun _ e => .inr e)); clear hg)
                refine ⟨rfl, ?_⟩
                show Reads tb _ w _ _ _
                rw [HF.out]
                exact ⟨rfl, HG.out⟩
              | some pv =>
                obtain ⟨v, s3⟩ := pv
                have C := Lib.hid (cint_yes _ HT2.out.left hv)
                go_wp2_with fail
                (with_reducible refine C.out.mono ?_)
                rintro e w5 ⟨rfl, hl, hg⟩
                clear C
                clear px0 px1 px2 px3 pf0 pf1 pf2 pf3 pb0 pb1 pb2
                have T3 := HT2.out.turn hl hg
                have HT3 := Lib.hid (T3.set 2 (v) (a' := (bf.at_ + a)) (b' := (bf.key + kk)) (c' := v) (d' := 0) rfl)
                have qx0 := cell_at_block (off := 0) T3.hx rfl
                have qx1 := cell_at_block (off := 1) T3.hx rfl
                have qx2 := cell_at_block (off := 2) T3.hx rfl
                have qx3 := cell_at_block (off := 3) T3.hx rfl
                have qb0 := cell_at_block (off := 0) T3.hb rfl
                have qb1 := cell_at_block (off := 1) T3.hb rfl
                have qb2 := cell_at_block (off := 2) T3.hb rfl
                have qf0 := free_at_block (off := 0) T3.hx
                have qf1 := free_at_block (off := 1) T3.hx
                have qf2 := free_at_block (off := 2) T3.hx
                have qf3 := free_at_block (off := 3) T3.hx
                clear hl hg T3
                cases hn0 : dInt s3 with
                | none =>
                  have HF : Hid ((dItem bf first s) = none) := by show _ = _; simp [dItem, dKey, hp, HSM.out, hk, hkq, hv, hn0]
                  go_wp2_with (go_at_call 114; (with_reducible refine (cint_no _ (by with_unfolding_all exact HT3.out.left) hn0).mono ?_); rintro e wz ⟨rfl, hg⟩; have HG := Lib.hid (HT3.out.g.then_ hg (fun _ e => .inr e)); clear hg)
                  refine ⟨rfl, ?_⟩
                  show Reads tb _ w _ _ _
                  rw [HF.out]
                  exact ⟨rfl, HG.out⟩
                | some pn =>
                  obtain ⟨n, s4⟩ := pn
                  have HF : Hid ((dItem bf first s) = some (⟨⟨bf.at_ + a, (bf.key + kk), v⟩, n⟩, s4)) := by show _ = _; simp [dItem, dKey, hp, HSM.out, hk, hkq, hv, hn0]
                  have C := Lib.hid (cint_yes _ HT3.out.left hn0)
                  go_wp2_with fail
                  (with_reducible refine C.out.mono ?_)
                  rintro e wy ⟨rfl, hl, hg⟩
                  clear C
                  have TN := HT3.out.turn hl hg
                  have HTN := Lib.hid (TN.set 3 (n) (a' := (bf.at_ + a)) (b' := (bf.key + kk)) (c' := v) (d' := n) rfl)
                  have yx0 := cell_at_block (off := 0) TN.hx rfl
                  have yx1 := cell_at_block (off := 1) TN.hx rfl
                  have yx2 := cell_at_block (off := 2) TN.hx rfl
                  have yx3 := cell_at_block (off := 3) TN.hx rfl
                  have yb0 := cell_at_block (off := 0) TN.hb rfl
                  have yb1 := cell_at_block (off := 1) TN.hb rfl
                  have yb2 := cell_at_block (off := 2) TN.hb rfl
                  have yf0 := free_at_block (off := 0) TN.hx
                  have yf1 := free_at_block (off := 1) TN.hx
                  have yf2 := free_at_block (off := 2) TN.hx
                  have yf3 := free_at_block (off := 3) TN.hx
                  clear hl hg TN
                  have d0 := cell_at_block (off := 0) HTN.out.hr rfl
                  have e0 := free_at_block (off := 0) HTN.out.hr
                  have d1 := cell_at_block (off := 1) HTN.out.hr rfl
                  have e1 := free_at_block (off := 1) HTN.out.hr
                  have d2 := cell_at_block (off := 2) HTN.out.hr rfl
                  have e2 := free_at_block (off := 2) HTN.out.hr
                  have d3 := cell_at_block (off := 3) HTN.out.hr rfl
                  have e3 := free_at_block (off := 3) HTN.out.hr
                  have ne3 := HTN.out.xr
                  have ne4 : xb ≠ tb := HTN.out.nx
                  clear yf0 yf1 yf2
                  go_wp2_with fail
                  refine bodyPost_ret (results_cell_row rfl _ _ (w.heap.size + 1) 40 #[.int .i64 (bf.at_ + a), .int .i64 ((bf.key + kk)), .int .i64 (v), .int .i64 n] (0, 0) _ rfl (set4 HTN.out.hr _ _ _ _).1 Tryz.underlying40 rfl (by kernel_rfl)) rfl ?_
                  show Reads tb _ w _ _ _
                  rw [HF.out]
                  exact ⟨rfl, HTN.out.fin _ _ _ _⟩
            | true =>
              cases hv : dNum s2 with
              | none =>
                have HF : Hid ((dItem bf first s) = none) := by show _ = _; simp [dItem, dKey, hp, HSM.out, hk, hkq, hv]
                go_upto_region 7 with fail
                go_region_with (go_at_call 90; refine (cnum_no _ (by with_unfolding_all exact HT2.out.left) hv).mono ?_; rintro e wz ⟨rfl, hg⟩; have HG := Lib.hid (HT2.out.g.then_ (grownBy_drew hg) (fun _ e => .inr e)); go_simp; refine dummy_ (P := Tryz.prog) (md := .any) (a := ⟨#[], []⟩) (w := w) ⟨rfl, by show Reads tb _ w _ _ _; rw [HF.out]; exact ⟨rfl, HG.out⟩⟩ ?_)
                all_goals trivial
              | some pv =>
                obtain ⟨vv, s3⟩ := pv
                obtain ⟨v0, v1, hby3, _⟩ := dNum_back hby2 hv
                have ev : IntKind.i64.wrap (bf.val + vv) = bf.val + vv := IntWalk.i64_in _ (by omega)
                go_upto_region 7 with fail
                go_region_held3 (fun w' => w'.cell? ⟨w.heap.size, 2, none⟩ = some (.int .i64 bf.val)) (go_keep)
                  ((go_at_call 90; refine (cnum_yes _ (by with_unfolding_all exact HT2.out.left) hv).mono ?_; rintro e wz ⟨rfl, hl, hg⟩; have T := HT2.out.turn hl (grownBy_drew hg); have qf0 := free_at_block (off := 0) T.hx; have qf1 := free_at_block (off := 1) T.hx; have qf2 := free_at_block (off := 2) T.hx; have qf3 := free_at_block (off := 3) T.hx; have qx0 := cell_at_block (off := 0) T.hx rfl; have qx1 := cell_at_block (off := 1) T.hx rfl; have qx2 := cell_at_block (off := 2) T.hx rfl; have qx3 := cell_at_block (off := 3) T.hx rfl; have qb0 := cell_at_block (off := 0) T.hb rfl; have qb1 := cell_at_block (off := 1) T.hb rfl; have qb2 := cell_at_block (off := 2) T.hb rfl; have HT3 := Lib.hid (T.set 2 ((bf.val + vv)) (a' := (bf.at_ + a)) (b' := (bf.key + kk)) (c' := (bf.val + vv)) (d' := 0) rfl); clear hl hg T))
                clear px0 px1 px2 px3 pf0 pf1 pf2 pf3 pb0 pb1 pb2
                cases hn0 : dInt s3 with
                | none =>
                  have HF : Hid ((dItem bf first s) = none) := by show _ = _; simp [dItem, dKey, hp, HSM.out, hk, hkq, hv, hn0]
                  go_wp2_with (go_at_call 114; (with_reducible refine (cint_no _ (by with_unfolding_all exact HT3.out.left) hn0).mono ?_); rintro e wz ⟨rfl, hg⟩; have HG := Lib.hid (HT3.out.g.then_ hg (fun _ e => .inr e)); clear hg)
                  refine ⟨rfl, ?_⟩
                  show Reads tb _ w _ _ _
                  rw [HF.out]
                  exact ⟨rfl, HG.out⟩
                | some pn =>
                  obtain ⟨n, s4⟩ := pn
                  have HF : Hid ((dItem bf first s) = some (⟨⟨bf.at_ + a, (bf.key + kk), (bf.val + vv)⟩, n⟩, s4)) := by show _ = _; simp [dItem, dKey, hp, HSM.out, hk, hkq, hv, hn0]
                  have C := Lib.hid (cint_yes _ HT3.out.left hn0)
                  go_wp2_with fail
                  (with_reducible refine C.out.mono ?_)
                  rintro e wy ⟨rfl, hl, hg⟩
                  clear C
                  have TN := HT3.out.turn hl hg
                  have HTN := Lib.hid (TN.set 3 (n) (a' := (bf.at_ + a)) (b' := (bf.key + kk)) (c' := (bf.val + vv)) (d' := n) rfl)
                  have yx0 := cell_at_block (off := 0) TN.hx rfl
                  have yx1 := cell_at_block (off := 1) TN.hx rfl
                  have yx2 := cell_at_block (off := 2) TN.hx rfl
                  have yx3 := cell_at_block (off := 3) TN.hx rfl
                  have yb0 := cell_at_block (off := 0) TN.hb rfl
                  have yb1 := cell_at_block (off := 1) TN.hb rfl
                  have yb2 := cell_at_block (off := 2) TN.hb rfl
                  have yf0 := free_at_block (off := 0) TN.hx
                  have yf1 := free_at_block (off := 1) TN.hx
                  have yf2 := free_at_block (off := 2) TN.hx
                  have yf3 := free_at_block (off := 3) TN.hx
                  clear hl hg TN
                  have d0 := cell_at_block (off := 0) HTN.out.hr rfl
                  have e0 := free_at_block (off := 0) HTN.out.hr
                  have d1 := cell_at_block (off := 1) HTN.out.hr rfl
                  have e1 := free_at_block (off := 1) HTN.out.hr
                  have d2 := cell_at_block (off := 2) HTN.out.hr rfl
                  have e2 := free_at_block (off := 2) HTN.out.hr
                  have d3 := cell_at_block (off := 3) HTN.out.hr rfl
                  have e3 := free_at_block (off := 3) HTN.out.hr
                  have ne3 := HTN.out.xr
                  have ne4 : xb ≠ tb := HTN.out.nx
                  clear yf0 yf1 yf2
                  go_wp2_with fail
                  refine bodyPost_ret (results_cell_row rfl _ _ (w.heap.size + 1) 40 #[.int .i64 (bf.at_ + a), .int .i64 ((bf.key + kk)), .int .i64 ((bf.val + vv)), .int .i64 n] (0, 0) _ rfl (set4 HTN.out.hr _ _ _ _).1 Tryz.underlying40 rfl (by kernel_rfl)) rfl ?_
                  show Reads tb _ w _ _ _
                  rw [HF.out]
                  exact ⟨rfl, HTN.out.fin _ _ _ _⟩
end Go.Proofs.Bg
end

section
/- The contracts of Read's reader and of Read. -/
namespace Go.Proofs.Bg
open Go.RowKit

theorem Own.mono {α : Type} {enc : α → List Value} {sz : Nat} {e : TypeId} {base base' : Nat} {w : World} {v : Value} {l : List α} (h : Own enc sz e base w v l) (hb : base' ≤ base) : Own enc sz e base' w v l := World.ownsRow.mono h hb
/-- Bounds of a record that has been read. -/
def Small (k : Nat) (r : Rc) : Prop := (-(k : Int) * 34359738368 ≤ r.at_ ∧ r.at_ ≤ k * 34359738368) ∧ (-(k : Int) * 34359738368 ≤ r.key ∧ r.key ≤ k * 34359738368) ∧ (-(k : Int) * 34359738368 ≤ r.val ∧ r.val ≤ k * 34359738368)
theorem dKey_small {same : Bool} {b v : Int} {s r : List Int} {k : Nat} (hb : Byt s) (h0 : -(k : Int) * 34359738368 ≤ b ∧ b ≤ k * 34359738368) (h : dKey same b s = some (v, r)) : (-((k + 1 : Nat) : Int) * 34359738368 ≤ v ∧ v ≤ ((k + 1 : Nat) : Int) * 34359738368) ∧ Byt r := by
  unfold dKey at h
  split at h
  · cases hn : dNum s with
    | none => rw [hn] at h; cases h
    | some p =>
      obtain ⟨n, t⟩ := p
      rw [hn] at h
      cases h
      obtain ⟨n0, n1, n2, _⟩ := dNum_back hb hn
      exact ⟨by omega, n2⟩
  · obtain ⟨h1, h2, h3, _⟩ := dInt_back hb h
    exact ⟨by omega, h3⟩
theorem dItem_small {bf : Rc} {first : Bool} {s r : List Int} {x : It} {k : Nat} (hb : Byt s) (h0 : Small k bf) (h : dItem bf first s = some (x, r)) : Small (k + 1) x.r ∧ Byt r := by
  unfold dItem at h
  cases h1 : dNum s with
  | none => rw [h1] at h; cases h
  | some p =>
    obtain ⟨a, s1⟩ := p
    rw [h1] at h; simp only at h
    obtain ⟨a0, a1, hb1, _⟩ := dNum_back hb h1
    cases h2 : dKey (!first && (bf.at_ + a == bf.at_)) bf.key s1 with
    | none => rw [h2] at h; cases h
    | some p2 =>
      obtain ⟨kk, s2⟩ := p2
      rw [h2] at h; simp only at h
      obtain ⟨k1, hb2⟩ := dKey_small (k := k) hb1 h0.2.1 h2
      cases h3 : dKey ((!first && (bf.at_ + a == bf.at_)) && (kk == bf.key)) bf.val s2 with
      | none => rw [h3] at h; cases h
      | some p3 =>
        obtain ⟨vv, s3⟩ := p3
        rw [h3] at h; simp only at h
        obtain ⟨v1, hb3⟩ := dKey_small (k := k) hb2 h0.2.2 h3
        cases h4 : dInt s3 with
        | none => rw [h4] at h; cases h
        | some p4 =>
          obtain ⟨nn, s4⟩ := p4
          rw [h4] at h
          cases h
          obtain ⟨_, _, hb4, _⟩ := dInt_back hb3 h4
          obtain ⟨⟨g0, g1⟩, _, _⟩ := h0
          exact ⟨⟨⟨by simp only; omega, by simp only; omega⟩, k1, v1⟩, hb4⟩
theorem dAll_snoc {m : Nat} {s r : List Int} {L : List It} {x : It} (h : dItem (lastR L) L.isEmpty s = some (x, r)) : dAll (m + 1) s L = dAll m r (L ++ [x]) := by rw [dAll, h]
theorem citem_yes {tb : Nat} {bf : Rc} {first : Bool} {s r : List Int} {x : It} (w : World) (h : LeftIs w tb 116 s) (h1 : -1152921504606846976 ≤ bf.at_ ∧ bf.at_ ≤ 1152921504606846976) (h2 : -1152921504606846976 ≤ bf.key ∧ bf.key ≤ 1152921504606846976) (h3 : -1152921504606846976 ≤ bf.val ∧ bf.val ≤ 1152921504606846976) (hp : dItem bf first s = some (x, r)) : Calls Tryz.prog 92 #[.pointer (some ⟨tb, 0, none⟩), .agg #[.int .i64 bf.at_, .int .i64 bf.key, .int .i64 bf.val], .bool first] w fun e w' => e = .returned (.agg #[.int .i64 x.r.at_, .int .i64 x.r.key, .int .i64 x.r.val, .int .i64 x.n]) ∧ LeftIs w' tb 116 r ∧ w.grownBy w' (some tb) := by
  have := citem_any tb bf first s w h h1 h2 h3
  rw [hp] at this
  exact this
theorem citem_no {tb : Nat} {bf : Rc} {first : Bool} {s : List Int} (w : World) (h : LeftIs w tb 116 s) (h1 : -1152921504606846976 ≤ bf.at_ ∧ bf.at_ ≤ 1152921504606846976) (h2 : -1152921504606846976 ≤ bf.key ∧ bf.key ≤ 1152921504606846976) (h3 : -1152921504606846976 ≤ bf.val ∧ bf.val ≤ 1152921504606846976) (hp : dItem bf first s = none) : Calls Tryz.prog 92 #[.pointer (some ⟨tb, 0, none⟩), .agg #[.int .i64 bf.at_, .int .i64 bf.key, .int .i64 bf.val], .bool first] w fun e w' => e = .panicked wrongChain ∧ w.grownBy w' (some tb) := by
  have := citem_any tb bf first s w h h1 h2 h3
  rw [hp] at this
  exact this

def endB (p : Option (List It × List Int)) : Option (List It) := match p with | some (l, []) => some l | _ => none
theorem dBag_num {s r : List Int} {M : Nat} (h : dNum s = some ((M : Int), r)) (h3 : (M : Int) ≤ 300) : dBag s = endB (dAll M r []) := by
  simp only [dBag, h]
  rw [if_pos h3, Int.toNat_natCast]
  rfl
theorem dBag_long {s r : List Int} {m : Int} (h : dNum s = some (m, r)) (h3 : ¬ m ≤ 300) : dBag s = none := by
  simp only [dBag, h]
  rw [if_neg h3]
/-- What the loop holds: m items of M are read. -/
structure CRel (tb bb base M : Nat) (w : World) (R : Option (List It × List Int)) (rest : List Int) (L : List It) (v : Value) (wr : World) : Prop where
  own : Own It.vs 4 40 (bb + 1) wr v L
  left : LeftIs wr tb 116 rest
  hb : wr.heap[bb]? = some (.cells #[.int .i64 (lastR L).at_, .int .i64 (lastR L).key, .int .i64 (lastR L).val] 38)
  g : w.grownBy wr (some tb)
  r : dAll (M - L.length) rest L = R
  le : L.length ≤ M
  small : Small L.length (lastR L)
  by_ : Byt rest
theorem CRel.next {tb bb base M : Nat} {w : World} {R : Option (List It × List Int)} {rest r : List Int} {L : List It} {x : It} {v v4 : Value} {wr w3 w4 : World} {o o' : Obj} (h : CRel tb bb base M w R rest L v wr) (hlt : L.length < M) (htb : tb < w.heap.size) (hbb : w.heap.size ≤ bb)
    (hl : LeftIs w3 tb 116 r) (hg : wr.grownBy w3 (some tb)) (hown4 : Own It.vs 4 40 (bb + 1) w4 v4 (L ++ [x])) (hg4 : ((w3.alloc o).alloc o').grownBy w4 v.ownBlock) (hi : dItem (lastR L) L.isEmpty rest = some (x, r)) :
    CRel tb bb base M w R r (L ++ [x]) v4 (((w4.setCell ⟨bb, 0, none⟩ (.int .i64 x.r.at_)).setCell ⟨bb, 1, none⟩ (.int .i64 x.r.key)).setCell ⟨bb, 2, none⟩ (.int .i64 x.r.val)) := by
  have hsm := dItem_small h.by_ h.small hi
  have hB : Below w3.heap.size w3 ((w3.alloc o).alloc o') := ((Below.refl _ _).alloc (Nat.le_refl _) _).alloc (by simp) _
  have hgB : w3.grownBy ((w3.alloc o).alloc o') (some tb) := ⟨hB.os, hB.tape, hB.output, hB.size, fun i hi _ => hB.block i hi⟩
  have lbb : bb < wr.heap.size := (Array.getElem?_eq_some_iff.1 h.hb).1
  have lbb3 : bb < w3.heap.size := Nat.lt_of_lt_of_le lbb hg.size
  have hown3 : Own It.vs 4 40 (bb + 1) w3 v L := h.own.grown hg (.inr (fun e => by have := (h.own.blk _ e).1; omega))
  have hne : ∀ k, v.ownBlock = some k → bb + 1 ≤ k := fun k e => (h.own.blk k e).1
  have b3 : w3.heap[bb]? = some (.cells #[.int .i64 (lastR L).at_, .int .i64 (lastR L).key, .int .i64 (lastR L).val] 38) := (hg.block bb lbb (fun e => by have := Option.some.inj e; omega)).trans h.hb
  have b4 : w4.heap[bb]? = some (.cells #[.int .i64 (lastR L).at_, .int .i64 (lastR L).key, .int .i64 (lastR L).val] 38) := (hg4.block bb (by have := hB.size; omega) (fun e => by have := hne bb e.symm; omega)).trans ((hB.block bb lbb3).trans b3)
  obtain ⟨s1, s2⟩ := set3 b4 (.int .i64 x.r.at_) (.int .i64 x.r.key) (.int .i64 x.r.val)
  have g4 : w.grownBy w4 (some tb) := by
    have h3 := (h.g.then_ hg (fun _ e => .inr e)).then_ hgB (fun _ e => .inr e)
    exact ⟨hg4.os.trans h3.os, hg4.tape.trans h3.tape, hg4.output.trans h3.output, Nat.le_trans h3.size hg4.size, fun i hi hn => (hg4.block i (Nat.lt_of_lt_of_le hi h3.size) (fun e => by have := hne i e.symm; omega)).trans (h3.block i hi hn)⟩
  have l4 : LeftIs w4 tb 116 r := (hl.later (w' := (w3.alloc o).alloc o') (row := none) ⟨hB.os, hB.tape, hB.output, hB.size, fun i hi _ => hB.block i hi⟩ (fun x e => by cases e)).later hg4 (fun k e => by have := hne k e; omega)
  have hown5 := hown4.grown s2 (.inr (fun e => by have := (hown4.blk _ e).1; omega))
  exact ⟨hown5, l4.later s2 (fun k e => by have := Option.some.inj e; omega), by rw [lastR_snoc]; exact s1, World.grownBy.fresh g4 s2 hbb, by
      have e := h.r
      rw [show M - L.length = (M - (L ++ [x]).length) + 1 by simp; omega, dAll_snoc hi] at e
      exact e, by simp; omega, by rw [lastR_snoc]; simpa using hsm.1, hsm.2⟩

theorem CRel.mid {tb bb base M : Nat} {w : World} {R : Option (List It × List Int)} {rest : List Int} {L : List It} {v : Value} {wr w3 w4 : World} {o o' : Obj} (h : CRel tb bb base M w R rest L v wr) (htb : tb < w.heap.size) (hbb : w.heap.size ≤ bb) (hg : wr.grownBy w3 (some tb)) (hg4 : ((w3.alloc o).alloc o').grownBy w4 v.ownBlock) :
    w4.heap[bb]? = some (.cells #[.int .i64 (lastR L).at_, .int .i64 (lastR L).key, .int .i64 (lastR L).val] 38) ∧ w4.heap[w3.heap.size]? = some o := by
  have hB : Below w3.heap.size w3 ((w3.alloc o).alloc o') := ((Below.refl _ _).alloc (Nat.le_refl _) _).alloc (by simp) _
  have lbb : bb < wr.heap.size := (Array.getElem?_eq_some_iff.1 h.hb).1
  have lbb3 : bb < w3.heap.size := Nat.lt_of_lt_of_le lbb hg.size
  have hne : ∀ k, v.ownBlock = some k → bb + 1 ≤ k ∧ k < w3.heap.size := fun k e => ⟨(h.own.blk k e).1, Nat.lt_of_lt_of_le (h.own.blk k e).2 hg.size⟩
  have b3 : w3.heap[bb]? = some (.cells #[.int .i64 (lastR L).at_, .int .i64 (lastR L).key, .int .i64 (lastR L).val] 38) := (hg.block bb lbb (fun e => by have := Option.some.inj e; omega)).trans h.hb
  refine ⟨(hg4.block bb (by have := hB.size; omega) (fun e => by have := (hne bb e.symm).1; omega)).trans ((hB.block bb lbb3).trans b3), (hg4.block _ (by simp; omega) (fun e => by have := (hne _ e.symm).2; omega)).trans ?_⟩
  rw [Below.heap_alloc _ _ _ (by simp)]
  show (w3.heap.push _)[w3.heap.size]? = _
  simp

set_option maxRecDepth 100000 in
set_option maxHeartbeats 2000000 in
theorem read1_any (cb tb base : Nat) (s : List Int) (w : World) (h : LeftIs w tb 116 s) (hc : w.heap[cb]? = some (.cells #[.pointer (some ⟨tb, 0, none⟩)] 115)) (hct : cb ≠ tb) (hbase : base = w.heap.size) :
    Calls Tryz.prog 89 #[.pointer (some ⟨cb, 0, none⟩)] w (BagOut base tb w (dBag s)) := by
  have HC := Lib.hid hc
  have HCT := Lib.hid hct
  have HB := Lib.hid hbase
  have htb := h.lt
  have HBY := Lib.hid h.byt
  have cc := cell_at_block (off := 0) hc rfl
  cases hn : dNum s with
  | none =>
    have HF : Hid (dBag s = none) := by show _ = _; simp [dBag, hn]
    have C := Lib.hid (cnum_no _ h hn)
    clear hc h hct hbase hn htb
    go_enter Tryz.func89, Tryz.ntmps89
    go_wp2_with (go_at_call 90; (with_reducible refine C.out.mono ?_); rintro e w1 ⟨rfl, hg⟩; have HG := Lib.hid hg; clear hg)
    refine ⟨rfl, ?_⟩
    show BagOut _ _ _ _ _ _
    rw [HF.out]
    exact ⟨rfl, HG.out⟩
  | some p =>
    obtain ⟨m, s1⟩ := p
    obtain ⟨m0, m1, hby1, hx⟩ := dNum_back h.byt hn
    clear hx
    have C := Lib.hid (cnum_yes _ h hn)
    by_cases h3 : m ≤ 300
    · have hd : decide (m ≤ 300) = true := by simpa using h3
      obtain ⟨M, rfl⟩ : ∃ M : Nat, m = (M : Int) := ⟨m.toNat, by omega⟩
      obtain ⟨R, hR⟩ : ∃ R, dAll M s1 [] = R := ⟨_, rfl⟩
      have HF : Hid (dBag s = endB R) := by show _ = _; rw [dBag_num hn h3, hR]
      have HR := Lib.hid hR
      have HBY1 := Lib.hid hby1
      have HTB := Lib.hid htb
      have hM : M ≤ 300 := by omega
      clear hc h hct hbase hn h3 m0 m1 hR hby1 htb
      go_enter Tryz.func89, Tryz.ntmps89
      go_wp2_with (first | (go_at_call 90; (with_reducible refine C.out.mono ?_); rintro e w1 ⟨rfl, hl, hg⟩; have HG := Lib.hid hg; have HL := Lib.hid hl; clear hl hg) | (go_at_call 91; (with_reducible refine (need_yes _).mono ?_); rintro e w' ⟨rfl, rfl⟩))
      have HREL : Hid (CRel tb w1.heap.size base M w R s1 [] (.slice none 0 0) (w1.alloc (.cells #[.int .i64 0, .int .i64 0, .int .i64 0] 38))) := by
        have hB : Below w1.heap.size w1 (w1.alloc (.cells #[.int .i64 0, .int .i64 0, .int .i64 0] 38)) := (Below.refl _ _).alloc (Nat.le_refl _) _
        exact ⟨Own.nil _ _ _ _ _, HL.out.later (row := none) ⟨hB.os, hB.tape, hB.output, hB.size, fun i hi _ => hB.block i hi⟩ (fun x e => by cases e), new_block _ _ _, HG.out.then_ ⟨hB.os, hB.tape, hB.output, hB.size, fun i hi _ => hB.block i hi⟩ (fun _ e => .inr e), HR.out, by simp, by simp [Small, lastR, zeroRc], HBY1.out⟩
      go_loopw [3, 13] (fun v i wr => ∃ rest L, i = .int .i64 (L.length : Nat) ∧ CRel tb w1.heap.size base M w R rest L v wr) (fun _ i _ => M - (intOf i).toNat)
      case atStart => exact ⟨_, _, rfl, HREL.out⟩
      case round =>
        clear HREL cc
        obtain ⟨rest, L, rfl, hrel⟩ := hrel
        obtain ⟨A0, cap0, rfl⟩ := hrel.own.shape
        have hcb := (hrel.g.block cb (Array.getElem?_eq_some_iff.1 HC.out).1 (fun e => HCT.out (Option.some.inj e))).trans HC.out
        have cc := cell_at_block (off := 0) hcb rfl
        have b0 := cell_at_block (off := 0) hrel.hb rfl
        have b1 := cell_at_block (off := 1) hrel.hb rfl
        have b2 := cell_at_block (off := 2) hrel.hb rfl
        have hle := hrel.le
        have HRR := Lib.hid hrel
        clear hcb hrel
        by_cases hlt : L.length < M
        · have hsm := HRR.out.small
          have hw : IntKind.i64.wrap ((L.length : Int) + 1) = (L.length : Int) + 1 := IntWalk.i64_in _ (by omega)
          have q1 : -1152921504606846976 ≤ (lastR L).at_ ∧ (lastR L).at_ ≤ 1152921504606846976 := by unfold Small at hsm; omega
          have q2 : -1152921504606846976 ≤ (lastR L).key ∧ (lastR L).key ≤ 1152921504606846976 := by unfold Small at hsm; omega
          have q3 : -1152921504606846976 ≤ (lastR L).val ∧ (lastR L).val ≤ 1152921504606846976 := by unfold Small at hsm; omega
          have hbb : w.heap.size ≤ w1.heap.size := HG.out.size
          cases hi : dItem (lastR L) L.isEmpty rest with
          | none =>
            have HZ : Hid (R = none) := by
              show _ = _
              rw [← HRR.out.r, show M - L.length = (M - L.length - 1) + 1 by omega, dAll, hi]
            cases hL : L.isEmpty
            all_goals
              first | (have hk0 : (((L.length : Nat) : Int) == 0) = true := by (rw [List.isEmpty_iff.1 hL]; rfl)) | (have hk0 : (((L.length : Nat) : Int) == 0) = false := by (cases L with | nil => cases hL | cons _ _ => simp; omega))
              rw [hL] at hi
              have C2 := Lib.hid (citem_no _ HRR.out.left q1 q2 q3 hi)
              clear hi hL q1 q2 q3 hsm hw
              go_wp2_with (go_at_call 92; (with_reducible refine C2.out.mono ?_); rintro e w5 ⟨rfl, hg⟩; have HG5 := Lib.hid hg; clear hg)
              refine ⟨rfl, ?_⟩
              show BagOut _ _ _ _ _ _
              rw [HF.out, HZ.out]
              exact ⟨rfl, HRR.out.g.then_ HG5.out (fun _ e => .inr e)⟩
          | some q =>
            obtain ⟨x, r⟩ := q
            have HI := Lib.hid hi
            cases hL : L.isEmpty
            all_goals
              first | (have hk0 : (((L.length : Nat) : Int) == 0) = true := by (rw [List.isEmpty_iff.1 hL]; rfl)) | (have hk0 : (((L.length : Nat) : Int) == 0) = false := by (cases L with | nil => cases hL | cons _ _ => simp; omega))
              rw [hL] at hi
              have C2 := Lib.hid (citem_yes _ HRR.out.left q1 q2 q3 hi)
              have hln : L.length ≤ 300 := by omega
              clear hi hL q1 q2 q3 hsm
              go_wp2_with (first | (go_at_call 92; (with_reducible refine C2.out.mono ?_); rintro e w3 ⟨rfl, hl, hg⟩; have HL3 := Lib.hid hl; have HG3 := Lib.hid hg; have HO3 := Lib.hid (HRR.out.own.grown hg (.inr (fun e => by have := (HRR.out.own.blk _ e).1; have := HTB.out; omega))); clear hl hg) | (at_builtin; go_loud (refine wpList_app1 It.vs 4 40 _ 32 infoIt rfl (by decide) rfl _ _ _ rfl Tryz.underlying23 (w1.heap.size + 1) _ L rfl ((HO3.out.alloc _).alloc _) x _ _ rfl rfl (newAt _ _ _ _ (by simp)) (by simp [It.vs, Value.oneCell']) (by omega) (by unfold maxLen; omega) (by have := (Array.getElem?_eq_some_iff.1 HRR.out.hb).1; have := HG3.out.size; simp; omega) (fun v4 w4 hown4 hg4 _ => ?_)); obtain ⟨hb4, hx4⟩ := HRR.out.mid HTB.out hbb HG3.out hg4; have y0 := cell_at_block (off := 0) hx4 rfl; have y1 := cell_at_block (off := 1) hx4 rfl; have y2 := cell_at_block (off := 2) hx4 rfl; have g0 := free_at_block (off := 0) hb4; have g1 := free_at_block (off := 1) hb4; have g2 := free_at_block (off := 2) hb4; have k0 := cell_at_block (off := 0) hb4 rfl; have k1 := cell_at_block (off := 1) hb4 rfl; have k2 := cell_at_block (off := 2) hb4 rfl; have HN4 := Lib.hid (HRR.out.next hlt HTB.out hbb HL3.out HG3.out hown4 hg4 HI.out); clear hb4 hx4 hown4 hg4))
              exact ⟨⟨r, L ++ [x], by rw [List.length_append]; go_num, HN4.out⟩, by simp [intOf]; omega⟩
        · have hlen : L.length = M := by omega
          have HZ : Hid (R = some (L, rest)) := by
            show _ = _
            rw [← HRR.out.r, hlen, Nat.sub_self]
            rfl
          clear hlen
          have D := Lib.hid (done_any tb _ rest _ HRR.out.left)
          have hne : decide ((L.length : Int) < (M : Int)) = false := by simp; omega
          cases hr : rest with
          | nil =>
            rw [hr] at D HZ
            have HE : Hid (dBag s = some L) := by show _ = _; rw [HF.out, HZ.out]; rfl
            clear hr b0 b1 b2
            go_wp2_with (first | (go_at_call 61; (with_reducible refine D.out.mono ?_); rintro e w' ⟨rfl, rfl⟩) | (go_at_call 91; (with_reducible refine (need_yes _).mono ?_); rintro e w' ⟨rfl, rfl⟩))
            go_ret
            show BagOut _ _ _ _ _ _
            rw [HE.out]
            exact ⟨_, rfl, HRR.out.own.mono (base' := base) (by have := HG.out.size; have := HB.out; omega), HRR.out.g⟩
          | cons y t =>
            rw [hr] at D HZ
            have HE : Hid (dBag s = none) := by show _ = _; rw [HF.out, HZ.out]; rfl
            clear hr b0 b1 b2
            go_wp2_with (first | (go_at_call 61; (with_reducible refine D.out.mono ?_); rintro e w' ⟨rfl, rfl⟩) | (go_at_call 91; (with_reducible refine (need_no _).mono ?_); rintro e w' ⟨rfl, rfl⟩))
            refine ⟨rfl, ?_⟩
            show BagOut _ _ _ _ _ _
            rw [HE.out]
            exact ⟨rfl, HRR.out.g⟩
    · have hd : decide (m ≤ 300) = false := by simpa using h3
      have HF : Hid (dBag s = none) := dBag_long hn h3
      clear hc h hct hbase hn h3 m0 m1 hby1 htb
      go_enter Tryz.func89, Tryz.ntmps89
      go_wp2_with (first | (go_at_call 90; (with_reducible refine C.out.mono ?_); rintro e w1 ⟨rfl, hl, hg⟩; have HG := Lib.hid hg; clear hl hg) | (go_at_call 91; (with_reducible refine (need_no _).mono ?_); rintro e w' ⟨rfl, rfl⟩))
      refine ⟨rfl, ?_⟩
      show BagOut _ _ _ _ _ _
      rw [HF.out]
      exact ⟨rfl, HG.out⟩

/-- The worlds of Read: the bytes to read, the variable that holds them. -/
def readW (w : World) (A : Option Addr) (n cap : Nat) : World := (w.alloc (.cells #[.slice A n cap] 116)).alloc (.cells #[.pointer (some ⟨w.heap.size, 0, none⟩)] 115)
theorem readW_left (w : World) (A : Option Addr) (n cap : Nat) (s : List Int) (h : Rd bv 1 w 0 A n s) (hcap : n ≤ cap) (hin : 0 < n → ∀ b off, A = some ⟨b, off, none⟩ → b < w.heap.size) (hby : Byt s) : LeftIs (readW w A n cap) w.heap.size 116 s ∧ (readW w A n cap).heap[w.heap.size + 1]? = some (.cells #[.pointer (some ⟨w.heap.size, 0, none⟩)] 115) ∧ (readW w A n cap).heap.size = w.heap.size + 2 ∧ Below w.heap.size w (readW w A n cap) := by
  have hB : Below w.heap.size w (readW w A n cap) := ((Below.refl _ _).alloc (Nat.le_refl _) _).alloc (by simp) _
  have hl := h.len
  subst hl
  refine ⟨⟨A, cap, ?_, h.below hB, hin, hcap, hby⟩, ?_, by simp [readW], hB⟩
  · unfold readW
    rw [Below.heap_alloc _ _ _ (by simp)]
    exact new_block _ _ _
  · have := new_block (w.alloc (.cells #[.slice A s.length cap] 116)) #[.pointer (some ⟨w.heap.size, 0, none⟩)] 115
    simpa [readW] using this

set_option maxRecDepth 100000 in
theorem Read_any (A : Option Addr) (n cap : Nat) (s : List Int) (w : World) (hA : Rd bv 1 w 0 A n s) (hcap : n ≤ cap) (hin : 0 < n → ∀ b off, A = some ⟨b, off, none⟩ → b < w.heap.size) (hby : Byt s) :
    Calls Tryz.prog 42 #[.slice A n cap] w (RetBag w (readR s)) := by
  have hmf : ∀ (fn : Fn) (first cap : Array Value) (w : World), (Instr.makeFunc fn first cap).run Tryz.prog w = .ok (.func fn first cap) w := fun _ _ _ _ => rfl
  obtain ⟨hl, hc, hz, hbl⟩ := readW_left w A n cap s hA hcap hin hby
  have HP : Calls Tryz.prog 59 #[.func (.func 89) #[] #[.pointer (some ⟨w.heap.size + 1, 0, none⟩)]] (readW w A n cap) (RetRead w.heap.size (readW w A n cap) (readR s)) := by
    generalize readW w A n cap = W at *
    have hB : Below W.heap.size W ((W.alloc (.cells #[.slice none 0 0] 23)).alloc (.cells #[.int .i64 0] 24)) := ((Below.refl _ _).alloc (Nat.le_refl _) _).alloc (by simp) _
    refine read_read _ _ _ _ (by omega) ?_
    exact read1_any _ _ _ _ _ (hl.later (row := none) ⟨hB.os, hB.tape, hB.output, hB.size, fun i hi _ => hB.block i hi⟩ (fun x e => by cases e)) ((hB.block _ (by omega)).trans hc) (by omega) (by simp)
  have HPh := Lib.hid HP
  have HBL := Lib.hid hbl
  unfold readW at HPh
  clear HP hl hc hz hbl hA hcap hin hby
  go_enter Tryz.func42, Tryz.ntmps42
  go_wp2_with (go_at_call 59; (with_reducible refine HPh.out.mono ?_); rintro e w1 ⟨hg, A1, cap1, rfl, hr⟩; have HG := Lib.hid hg; have HR := Lib.hid hr; clear hg hr)
  go_ret2
  have HG1 : (readW w A n cap).grownBy w1 (some w.heap.size) := HG.out
  have HR1 : Rd It.vs 4 w1 (readW w A n cap).heap.size A1 (readR s).1.length (readR s).1 := HR.out
  have hb := HBL.out
  exact ⟨A1, cap1, rfl, HR1.low hb.size, hb.grown HG1 hb.size (fun k e => by cases e; omega)⟩
end Go.Proofs.Bg
end

section
/- The reference: Read. -/
namespace Go.Proofs.Bg
open Go.RowKit

/-- What one reading tells. -/
def Out1 (q : Option (Int × List Int)) (v : Int) (b b' : Bool) (r' : List Int) : Prop := (∃ m r, q = some (m, r) ∧ v = m ∧ b' = b ∧ r' = r) ∨ (q = none ∧ b' = true)
theorem item_out {bf : Rc} {first same same2 : Bool} {s0 s1 s2 s3 s4 : List Int} {a kr vr nn k v : Int} {b0 b1 b2 b3 b4 : Bool}
    (h1 : Out1 (dNum s0) a b0 b1 s1) (h2 : Out1 (if same then dNum s1 else dInt s1) kr b1 b2 s2) (h3 : Out1 (if same2 then dNum s2 else dInt s2) vr b2 b3 s3) (h4 : Out1 (dInt s3) nn b3 b4 s4)
    (hs : same = (!first && (bf.at_ + a == bf.at_))) (hk : k = if same then bf.key + kr else kr) (hs2 : same2 = (same && (k == bf.key))) (hv : v = if same2 then bf.val + vr else vr) :
    (b4 = false → b0 = false ∧ dItem bf first s0 = some (⟨⟨bf.at_ + a, k, v⟩, nn⟩, s4)) ∧ (b4 = true → b0 = false → dItem bf first s0 = none) := by
  rcases h1 with ⟨m, r, e1, rfl, rfl, rfl⟩ | ⟨e1, rfl⟩
  · have k2 : dKey (!first && (bf.at_ + a == bf.at_)) bf.key s1 = ((if same then dNum s1 else dInt s1).map fun q => (if same then bf.key + q.1 else q.1, q.2)) := by
      rw [← hs]
      unfold dKey
      cases same
      · simp
      · simp only [if_true]
        cases dNum s1 <;> rfl
    rcases h2 with ⟨m2, r2, e2, rfl, rfl, rfl⟩ | ⟨e2, rfl⟩
    · rw [e2] at k2
      simp only [Option.map_some, ← hk] at k2
      have k3 : dKey ((!first && (bf.at_ + a == bf.at_)) && (k == bf.key)) bf.val s2 = ((if same2 then dNum s2 else dInt s2).map fun q => (if same2 then bf.val + q.1 else q.1, q.2)) := by
        rw [← hs, ← hs2]
        unfold dKey
        cases same2
        · simp
        · simp only [if_true]
          cases dNum s2 <;> rfl
      rcases h3 with ⟨m3, r3, e3, rfl, rfl, rfl⟩ | ⟨e3, rfl⟩
      · rw [e3] at k3
        simp only [Option.map_some, ← hv] at k3
        rcases h4 with ⟨m4, r4, e4, rfl, rfl, rfl⟩ | ⟨e4, rfl⟩
        · refine ⟨fun h => ⟨h, ?_⟩, fun h h' => by simp_all⟩
          simp only [dItem, e1, k2, k3, e4]
        · refine ⟨(fun h => by cases h), fun _ _ => ?_⟩
          simp only [dItem, e1, k2, k3, e4]
      · rw [e3] at k3
        simp only [Option.map_none] at k3
        refine ⟨fun h => ?_, fun _ _ => by simp only [dItem, e1, k2, k3]⟩
        rcases h4 with ⟨m4, r4, e4, rfl, rfl, rfl⟩ | ⟨e4, rfl⟩ <;> cases h
    · rw [e2] at k2
      simp only [Option.map_none] at k2
      refine ⟨fun h => ?_, fun _ _ => by simp only [dItem, e1, k2]⟩
      rcases h3 with ⟨m3, r3, e3, rfl, rfl, rfl⟩ | ⟨e3, rfl⟩ <;> rcases h4 with ⟨m4, r4, e4, rfl, rfl, rfl⟩ | ⟨e4, rfl⟩ <;> cases h
  · refine ⟨fun h => ?_, fun _ _ => by simp only [dItem, e1]⟩
    rcases h2 with ⟨m2, r2, e2, rfl, rfl, rfl⟩ | ⟨e2, rfl⟩ <;> rcases h3 with ⟨m3, r3, e3, rfl, rfl, rfl⟩ | ⟨e3, rfl⟩ <;> rcases h4 with ⟨m4, r4, e4, rfl, rfl, rfl⟩ | ⟨e4, rfl⟩ <;> cases h

theorem RdrIs.drew1 {w : World} {rb : Nat} {A : Option Addr} {n cap : Nat} {s : List Int} {at_ : Nat} {bad : Bool} (h : RdrIs w rb A n cap s at_ bad) : RdrIs w.drew rb A n cap s at_ bad := ⟨h.hb, h.rd, h.ne, h.le, h.by_⟩
/-- What the loop holds. -/
structure QRel (rb : Nat) (A : Option Addr) (n cap : Nat) (s : List Int) (w0 : World) (N : Nat) (v : Value) (L : List It) (p : Nat) (bad : Bool) (w : World) : Prop where
  own : Own It.vs 4 40 (rb + 1) w v L
  rdr : RdrIs w rb A n cap s p bad
  below : Below w0.heap.size w0 w
  lo : w0.heap.size ≤ rb
  le : L.length ≤ N
  yes : bad = false → N ≤ 300 → endB (dAll (N - L.length) (s.drop p) L) = dBag s
  long : bad = false → ¬ N ≤ 300 → dBag s = none
  no : bad = true → dBag s = none
  small : L.length ≤ 300 → Small L.length (lastR L)
/-- What a round holds between two calls. -/
structure QSt (rb lb xb : Nat) (A : Option Addr) (n cap : Nat) (s : List Int) (w0 : World) (L : List It) (v : Value) (l0 l1 l2 : Int) (w : World) (p : Nat) (bad : Bool) (a b c d : Int) : Prop where
  rdr : RdrIs w rb A n cap s p bad
  hl : w.heap[lb]? = some (.cells #[.int .i64 l0, .int .i64 l1, .int .i64 l2] 38)
  hx : w.heap[xb]? = some (.cells #[.int .i64 a, .int .i64 b, .int .i64 c, .int .i64 d] 40)
  own : Own It.vs 4 40 (rb + 1) w v L
  below : Below w0.heap.size w0 w
  lo : w0.heap.size ≤ rb
  rl : rb < lb
  lx : lb < xb
  nv : ∀ k, v.ownBlock = some k → k < lb
theorem QRel.boxes {rb : Nat} {A : Option Addr} {n cap : Nat} {s : List Int} {w0 : World} {N : Nat} {v : Value} {L : List It} {p : Nat} {bad : Bool} {wr : World} (h : QRel rb A n cap s w0 N v L p bad wr) (l0 l1 l2 a b c d : Int) :
    QSt rb wr.heap.size (wr.heap.size + 1) A n cap s w0 L v l0 l1 l2 ((wr.alloc (.cells #[.int .i64 l0, .int .i64 l1, .int .i64 l2] 38)).alloc (.cells #[.int .i64 a, .int .i64 b, .int .i64 c, .int .i64 d] 40)) p bad a b c d := by
  have hB : Below wr.heap.size wr ((wr.alloc (.cells #[.int .i64 l0, .int .i64 l1, .int .i64 l2] 38)).alloc (.cells #[.int .i64 a, .int .i64 b, .int .i64 c, .int .i64 d] 40)) := ((Below.refl _ _).alloc (Nat.le_refl _) _).alloc (by simp) _
  refine ⟨h.rdr.later (row := none) ⟨hB.os, hB.tape, hB.output, hB.size, fun i hi _ => hB.block i hi⟩ (fun x e => by cases e), ?_, ?_, (h.own.alloc _).alloc _, (h.below.alloc h.below.size _).alloc (by have := h.below.size; simp; omega) _, h.lo, h.rdr.lt, by omega, fun k e => (h.own.blk k e).2⟩
  · rw [Below.heap_alloc _ _ _ (by simp)]
    exact new_block _ _ _
  · have := new_block (wr.alloc (.cells #[.int .i64 l0, .int .i64 l1, .int .i64 l2] 38)) #[.int .i64 a, .int .i64 b, .int .i64 c, .int .i64 d] 40
    simpa using this
theorem QSt.turn {rb lb xb : Nat} {A : Option Addr} {n cap : Nat} {s : List Int} {w0 : World} {L : List It} {v : Value} {l0 l1 l2 : Int} {w w' : World} {p p' : Nat} {bad bad' : Bool} {a b c d : Int} (h : QSt rb lb xb A n cap s w0 L v l0 l1 l2 w p bad a b c d) (hr : RdrIs w' rb A n cap s p' bad') (hg : w.grownBy w' (some rb)) : QSt rb lb xb A n cap s w0 L v l0 l1 l2 w' p' bad' a b c d where
  rdr := hr
  hl := (hg.block lb (Array.getElem?_eq_some_iff.1 h.hl).1 (fun e => by have := Option.some.inj e; have := h.rl; omega)).trans h.hl
  hx := (hg.block xb (Array.getElem?_eq_some_iff.1 h.hx).1 (fun e => by have := Option.some.inj e; have := h.rl; have := h.lx; omega)).trans h.hx
  own := h.own.grown hg (.inr (fun e => by have := (h.own.blk _ e).1; omega))
  below := h.below.grown hg h.below.size (fun k hk => by cases hk; exact h.lo)
  lo := h.lo
  rl := h.rl
  lx := h.lx
  nv := h.nv
theorem QSt.set {rb lb xb : Nat} {A : Option Addr} {n cap : Nat} {s : List Int} {w0 : World} {L : List It} {v : Value} {l0 l1 l2 : Int} {w : World} {p : Nat} {bad : Bool} {a b c d a' b' c' d' : Int} (h : QSt rb lb xb A n cap s w0 L v l0 l1 l2 w p bad a b c d) (j : Nat) (u : Int) (hc : (#[.int .i64 a, .int .i64 b, .int .i64 c, .int .i64 d] : Array Value).setIfInBounds j (.int .i64 u) = #[.int .i64 a', .int .i64 b', .int .i64 c', .int .i64 d']) : QSt rb lb xb A n cap s w0 L v l0 l1 l2 (w.setCell ⟨xb, j, none⟩ (.int .i64 u)) p bad a' b' c' d' := by
  obtain ⟨s1, s2⟩ := setCell_at (off := j) h.hx (.int .i64 u)
  rw [hc] at s1
  have hrl := h.rl
  have hlx := h.lx
  exact ⟨h.rdr.later s2 (fun x e => by have := Option.some.inj e; omega), (s2.block lb (Array.getElem?_eq_some_iff.1 h.hl).1 (fun e => by have := Option.some.inj e; omega)).trans h.hl, s1, h.own.grown s2 (.inr (fun e => by have := h.nv _ e; omega)), h.below.grown s2 h.below.size (fun k hk => by cases hk; have := h.lo; omega), h.lo, h.rl, h.lx, h.nv⟩
/-- The round's end: the item is appended. -/
theorem QSt.next {rb lb xb : Nat} {A : Option Addr} {n cap : Nat} {s : List Int} {w0 : World} {N : Nat} {L : List It} {v v4 : Value} {l0 l1 l2 : Int} {w w4 wr : World} {p p' : Nat} {bad' : Bool} {a b c d : Int} {o : Obj} (h : QSt rb lb xb A n cap s w0 L v l0 l1 l2 w p' bad' a b c d) (hrel : QRel rb A n cap s w0 N v L p false wr) (hlt : L.length < N)
    (hown4 : Own It.vs 4 40 (rb + 1) w4 v4 (L ++ [⟨⟨a, b, c⟩, d⟩])) (hg4 : (w.alloc o).grownBy w4 v.ownBlock)
    (hi : L.length ≤ 300 → (bad' = false → dItem (lastR L) L.isEmpty (s.drop p) = some (⟨⟨a, b, c⟩, d⟩, s.drop p')) ∧ (bad' = true → dItem (lastR L) L.isEmpty (s.drop p) = none)) (hsm : L.length ≤ 300 → Small (L.length + 1) ⟨a, b, c⟩) :
    QRel rb A n cap s w0 N v4 (L ++ [⟨⟨a, b, c⟩, d⟩]) p' bad' w4 := by
  have hB : Below w.heap.size w (w.alloc o) := (Below.refl _ _).alloc (Nat.le_refl _) _
  have hr1 := h.rdr.later (w' := w.alloc o) (row := none) ⟨hB.os, hB.tape, hB.output, hB.size, fun i hi _ => hB.block i hi⟩ (fun x e => by cases e)
  have hb1 := h.below.alloc h.below.size o
  refine ⟨hown4, hr1.later hg4 (fun k e => by have := (h.own.blk k e).1; omega), hb1.grown hg4 hb1.size (fun k e => by have := (h.own.blk k e).1; have := h.lo; omega), h.lo, by simp; omega, fun hb hN => ?_, fun hb hN => hrel.long rfl hN, fun hb => ?_, fun hl => ?_⟩
  · have e := hrel.yes rfl hN
    rw [← e, show N - L.length = (N - (L ++ [(⟨⟨a, b, c⟩, d⟩ : It)]).length) + 1 by simp; omega, dAll_snoc ((hi (by omega)).1 hb)]
  · by_cases hN : N ≤ 300
    · have e := hrel.yes rfl hN
      rw [← e, show N - L.length = (N - L.length - 1) + 1 by omega, dAll, (hi (by omega)).2 hb]
      rfl
    · exact hrel.long rfl hN
  · simp only [List.length_append, List.length_cons, List.length_nil] at hl ⊢
    rw [lastR_snoc]
    exact hsm (by omega)

/-- The last step of a round, in plain words. -/
theorem round_out {bf : Rc} {first same same2 : Bool} {s0 s1 s2 s3 s4 : List Int} {a kr vr nn X k v : Int} {b0 b1 b2 b3 b4 : Bool} {c : Nat}
    (h1 : Out1 (dNum s0) a b0 b1 s1) (h2 : Out1 (if same then dNum s1 else dInt s1) kr b1 b2 s2) (h3 : Out1 (if same2 then dNum s2 else dInt s2) vr b2 b3 s3) (h4 : Out1 (dInt s3) nn b3 b4 s4)
    (hb : b0 = false) (hs : same = (!first && (a == 0))) (hX : c ≤ 300 → X = bf.at_ + a) (hk : c ≤ 300 → k = if same then bf.key + kr else kr) (hs2 : same2 = (same && (k == bf.key))) (hv : c ≤ 300 → v = if same2 then bf.val + vr else vr) (hc : c ≤ 300) :
    (b4 = false → dItem bf first s0 = some (⟨⟨X, k, v⟩, nn⟩, s4)) ∧ (b4 = true → dItem bf first s0 = none) := by
  have e : (bf.at_ + a == bf.at_) = (a == 0) := by
    cases h : (a == 0)
    · simp at h ⊢; omega
    · simp at h ⊢; omega
  obtain ⟨q1, q2⟩ := item_out h1 h2 h3 h4 (by rw [e]; exact hs) (hk hc) hs2 (hv hc)
  rw [hX hc]
  exact ⟨fun h => (q1 h).2, fun h => q2 h hb⟩
theorem small_next {c : Nat} {bf : Rc} {a kr vr k v X : Int} {same same2 : Bool} (h : Small c bf) (ha : -17179869184 ≤ a ∧ a < 34359738368) (hkr : -17179869184 ≤ kr ∧ kr < 34359738368) (hvr : -17179869184 ≤ vr ∧ vr < 34359738368) (hX : X = bf.at_ + a) (hk : k = if same then bf.key + kr else kr) (hv : v = if same2 then bf.val + vr else vr) : Small (c + 1) ⟨X, k, v⟩ := by
  unfold Small at h ⊢
  subst hX
  refine ⟨by simp only; omega, ?_, ?_⟩
  · simp only; rw [hk]; split <;> omega
  · simp only; rw [hv]; split <;> omega
theorem small_wrap {c : Nat} {bf : Rc} {a : Int} (h : Small c bf) (hc : c ≤ 300) (ha : -17179869184 ≤ a ∧ a < 34359738368) : IntKind.i64.wrap (bf.at_ + a) = bf.at_ + a ∧ IntKind.i64.wrap (bf.key + a) = bf.key + a ∧ IntKind.i64.wrap (bf.val + a) = bf.val + a := by
  unfold Small at h
  exact ⟨IntWalk.i64_in _ (by omega), IntWalk.i64_in _ (by omega), IntWalk.i64_in _ (by omega)⟩

theorem lastR_get {L : List It} {y : It} (h : L[L.length - 1]? = some y) : lastR L = y.r := by
  rcases List.eq_nil_or_concat L with rfl | ⟨L', z, rfl⟩
  · cases h
  · rw [List.concat_eq_append] at h ⊢
    rw [lastR_snoc]
    simp at h
    rw [h]
theorem out1 {q : Option (Int × List Int)} {v : Int} {b b' : Bool} {s : List Int} {p' : Nat} (h : (∃ m r, q = some (m, r) ∧ v = m ∧ b' = b ∧ s.drop p' = r) ∨ (q = none ∧ b' = true)) : Out1 q v b b' (s.drop p') := h

set_option maxRecDepth 100000 in
set_option maxHeartbeats 8000000 in
theorem ReadRef_any (A : Option Addr) (n cap : Nat) (s : List Int) (w : World) (hA : Rd bv 1 w 0 A n s) (hin : 0 < n → ∀ b off, A = some ⟨b, off, none⟩ → b < w.heap.size) (hby : Byt s) :
    Calls Tryz.prog 43 #[.slice A n cap] w (RetBag w (readR s)) := by
  have hn63 := hA.le
  have hBx : Below w.heap.size w (w.alloc (.cells #[.slice A n cap, .int .i64 0, .bool false] 122)) := (Below.refl _ _).alloc (Nat.le_refl _) _
  have hrd0 : RdrIs (w.alloc (.cells #[.slice A n cap, .int .i64 0, .bool false] 122)) w.heap.size A n cap s 0 false := ⟨new_block _ _ _, hA.below hBx, hin, Nat.zero_le _, hby⟩
  have C0 := Lib.hid (rnum_any w.heap.size A n cap s 0 false _ hrd0)
  have HBX := Lib.hid hBx
  obtain ⟨rb, hrb⟩ : ∃ rb, w.heap.size = rb := ⟨_, rfl⟩
  have HLEN := Lib.hid hA.len
  clear hrd0 hBx hA hin hby
  go_enter Tryz.func43, Tryz.ntmps43
  go_wp2_with fail
  rw [hrb] at C0
  (with_reducible refine C0.out.mono ?_)
  rintro e w2 ⟨v0, p1, bad1, rfl, hr, hg, ⟨hv0, hv1⟩, hor⟩
  obtain ⟨N, rfl⟩ : ∃ N : Nat, v0 = (N : Int) := ⟨v0.toNat, by omega⟩
  have hrel0 : QRel rb A n cap s w N (.slice none 0 0) [] p1 bad1 w2 := by
    rw [List.drop_zero] at hor
    refine ⟨Own.nil _ _ _ _ _, hr, HBX.out.grown hg HBX.out.size (fun k e => by cases e; omega), by omega, by simp, fun hb hN => ?_, fun hb hN => ?_, fun hb => ?_, fun _ => by simp [Small, lastR, zeroRc]⟩
    · rcases hor with ⟨m, r, e1, rfl, rfl, e4⟩ | ⟨e1, rfl⟩
      · rw [dBag_num e1 (by omega), e4]; rfl
      · cases hb
    · rcases hor with ⟨m, r, e1, rfl, rfl, e4⟩ | ⟨e1, rfl⟩
      · exact dBag_long e1 (by omega)
      · cases hb
    · rcases hor with ⟨m, r, e1, e2, e3, e4⟩ | ⟨e1, e2⟩
      · rw [hb] at e3; cases e3
      · simp [dBag, e1]
  have HREL0 := Lib.hid hrel0
  have hN : (N : Int) < 34359738368 := hv1
  have hwsz : w.heap.size ≤ w2.heap.size := hrel0.below.size
  have HRB := Lib.hid hrb
  clear hrel0 hr hg hor C0 hv0 hv1 HBX hrb hwsz
  go_wp2_with fail
  go_loopw [5, 7] (fun v i wr => ∃ L p bad, i = .int .i64 (L.length : Nat) ∧ QRel rb A n cap s w N v L p bad wr) (fun _ i _ => N - (intOf i).toNat)
  case atStart => exact ⟨[], _, _, rfl, HREL0.out⟩
  case round =>
    clear HREL0
    obtain ⟨L, p, bad, rfl, hrel⟩ := hrel
    obtain ⟨A0, cap0, rfl⟩ := hrel.own.shape
    have HR := Lib.hid hrel
    have hle := hrel.le
    have c0 := cell_at_block (off := 0) hrel.rdr.hb rfl
    have c1 := cell_at_block (off := 1) hrel.rdr.hb rfl
    have c2 := cell_at_block (off := 2) hrel.rdr.hb rfl
    clear hrel
    cases bad with
    | true =>
      have HE : Hid (readR s = ([], 4)) := by show _ = _; unfold readR; rw [HR.out.no rfl]; rfl
      by_cases hlt : L.length < N
      all_goals
        go_wp2_with fail
        go_ret2
        rw [HE.out]
        exact ⟨none, 0, rfl, Rd.nil _ _ _, HR.out.below⟩
    | false =>
      by_cases hlt : L.length < N
      · have HLT0 := Lib.hid hlt
        by_cases h0 : L.length = 0
        · have HBF : Hid (lastR L = zeroRc) := by show _ = _; rw [List.length_eq_zero_iff.1 h0]; rfl
          have HFI : Hid (L.isEmpty = true) := by show _ = _; rw [List.length_eq_zero_iff.1 h0]; rfl
          have hg0 : decide ((0 : Int) < (L.length : Int)) = false := decide_eq_false (by omega)
          have hg0n : decide (0 < L.length) = false := decide_eq_false (by omega)
          have HLT := Lib.hid hlt
          have hl35 : L.length < 34359738368 := by omega
          have hld : decide ((L.length : Int) < (N : Int)) = true := decide_eq_true (by omega)
          clear h0
          have ST0 := Lib.hid (HR.out.boxes 0 0 0 0 0 0 0)
          have C := Lib.hid (rnum_any rb A n cap s p false _ ST0.out.rdr)
          go_wp2_with fail
          (with_reducible refine C.out.mono ?_)
          rintro e y1 ⟨a, p1, b1, rfl, hr, hg, hv1, ho⟩
          have T1 := ST0.out.turn hr hg
          have O1 := Lib.hid (out1 ho)
          clear hr hg ho C
          have ew : IntKind.i64.wrap a = a := IntWalk.i64_in _ (by omega)
          have ST1 := Lib.hid (T1.set 0 a (a' := a) (b' := 0) (c' := 0) (d' := 0) rfl)
          have t1x0 := cell_at_block (off := 0) T1.hx rfl
          have t1f0 := free_at_block (off := 0) T1.hx
          have t1x1 := cell_at_block (off := 1) T1.hx rfl
          have t1f1 := free_at_block (off := 1) T1.hx
          have t1x2 := cell_at_block (off := 2) T1.hx rfl
          have t1f2 := free_at_block (off := 2) T1.hx
          have t1x3 := cell_at_block (off := 3) T1.hx rfl
          have t1f3 := free_at_block (off := 3) T1.hx
          have t1b0 := cell_at_block (off := 0) T1.hl rfl
          have t1b1 := cell_at_block (off := 1) T1.hl rfl
          have t1b2 := cell_at_block (off := 2) T1.hl rfl
          clear T1
          have C := Lib.hid (rint_any rb A n cap s p1 b1 _ ST1.out.rdr)
          go_wp2_with fail
          (with_reducible refine C.out.mono ?_)
          rintro e y2 ⟨kr, p2, b2, rfl, hr, hg, hv2, ho⟩
          have T2 := ST1.out.turn hr hg
          have O2 := Lib.hid (out1 ho)
          clear hr hg ho C
          clear ew t1x0 t1f0 t1x1 t1f1 t1x2 t1f2 t1x3 t1f3 t1b0 t1b1 t1b2
          have ST2 := Lib.hid (T2.set 1 kr (a' := a) (b' := kr) (c' := 0) (d' := 0) rfl)
          have t2x0 := cell_at_block (off := 0) T2.hx rfl
          have t2f0 := free_at_block (off := 0) T2.hx
          have t2x1 := cell_at_block (off := 1) T2.hx rfl
          have t2f1 := free_at_block (off := 1) T2.hx
          have t2x2 := cell_at_block (off := 2) T2.hx rfl
          have t2f2 := free_at_block (off := 2) T2.hx
          have t2x3 := cell_at_block (off := 3) T2.hx rfl
          have t2f3 := free_at_block (off := 3) T2.hx
          have t2b0 := cell_at_block (off := 0) T2.hl rfl
          have t2b1 := cell_at_block (off := 1) T2.hl rfl
          have t2b2 := cell_at_block (off := 2) T2.hl rfl
          clear T2
          have C := Lib.hid (rint_any rb A n cap s p2 b2 _ ST2.out.rdr)
          go_wp2_with fail
          (with_reducible refine C.out.mono ?_)
          rintro e y3 ⟨vr, p3, b3, rfl, hr, hg, hv3, ho⟩
          have T3 := ST2.out.turn hr hg
          have O3 := Lib.hid (out1 ho)
          clear hr hg ho C
          clear t2x0 t2f0 t2x1 t2f1 t2x2 t2f2 t2x3 t2f3 t2b0 t2b1 t2b2
          have ST3 := Lib.hid (T3.set 2 vr (a' := a) (b' := kr) (c' := vr) (d' := 0) rfl)
          have t3x0 := cell_at_block (off := 0) T3.hx rfl
          have t3f0 := free_at_block (off := 0) T3.hx
          have t3x1 := cell_at_block (off := 1) T3.hx rfl
          have t3f1 := free_at_block (off := 1) T3.hx
          have t3x2 := cell_at_block (off := 2) T3.hx rfl
          have t3f2 := free_at_block (off := 2) T3.hx
          have t3x3 := cell_at_block (off := 3) T3.hx rfl
          have t3f3 := free_at_block (off := 3) T3.hx
          have t3b0 := cell_at_block (off := 0) T3.hl rfl
          have t3b1 := cell_at_block (off := 1) T3.hl rfl
          have t3b2 := cell_at_block (off := 2) T3.hl rfl
          clear T3
          have C := Lib.hid (rint_any rb A n cap s p3 b3 _ ST3.out.rdr)
          go_wp2_with fail
          (with_reducible refine C.out.mono ?_)
          rintro e y4 ⟨nn, p4, b4, rfl, hr, hg, hv4, ho⟩
          have T4 := ST3.out.turn hr hg
          have O4 := Lib.hid (out1 ho)
          clear hr hg ho C
          clear t3x0 t3f0 t3x1 t3f1 t3x2 t3f2 t3x3 t3f3 t3b0 t3b1 t3b2
          have ST4 := Lib.hid (T4.set 3 nn (a' := a) (b' := kr) (c' := vr) (d' := nn) rfl)
          have t4x0 := cell_at_block (off := 0) T4.hx rfl
          have t4f0 := free_at_block (off := 0) T4.hx
          have t4x1 := cell_at_block (off := 1) T4.hx rfl
          have t4f1 := free_at_block (off := 1) T4.hx
          have t4x2 := cell_at_block (off := 2) T4.hx rfl
          have t4f2 := free_at_block (off := 2) T4.hx
          have t4x3 := cell_at_block (off := 3) T4.hx rfl
          have t4f3 := free_at_block (off := 3) T4.hx
          have t4b0 := cell_at_block (off := 0) T4.hl rfl
          have t4b1 := cell_at_block (off := 1) T4.hl rfl
          have t4b2 := cell_at_block (off := 2) T4.hl rfl
          clear T4
          have lxb := ST4.out.lx
          have HL4 := Lib.hid (Array.getElem?_eq_some_iff.1 ST4.out.hx).1
          have hrl := ST4.out.rl
          go_wp2_with (at_builtin; go_loud (refine wpList_app1 It.vs 4 40 _ 32 infoIt rfl (by decide) rfl _ _ _ rfl Tryz.underlying23 (rb + 1) _ L rfl (ST4.out.own.alloc _) ⟨⟨a, kr, vr⟩, nn⟩ _ _ rfl rfl (newAt _ _ _ _ (by simp)) (by simp [It.vs, Value.oneCell']) (by omega) (by unfold maxLen; omega) (by have := HL4.out; simp at this ⊢; omega) (fun v4 w4 hown4 hg4 _ => ?_)))
          refine ⟨⟨L ++ [⟨⟨a, kr, vr⟩, nn⟩], p4, b4, by rw [List.length_append]; go_num, ST4.out.next HR.out hlt hown4 hg4 (fun hc => ?_) (fun hc => ?_)⟩, by simp [intOf]; omega⟩
          · rw [HBF.out, HFI.out]
            exact round_out (c := L.length) (same := false) (same2 := false) O1.out O2.out O3.out O4.out rfl rfl (fun _ => by simp [zeroRc]) (fun _ => rfl) rfl (fun _ => rfl) hc
          · have hsm := HR.out.small hc
            rw [HBF.out] at hsm
            exact small_next (a := a) (kr := kr) (vr := vr) (same := false) (same2 := false) hsm (by omega) (by omega) (by omega) ((fun _ => by simp [zeroRc]) hc) ((fun _ => rfl) hc) ((fun _ => rfl) hc)
        · obtain ⟨g, off0, y, e0, _, hy, d0, d1, d2, d3⟩ := ((HR.out.own.alloc (.cells #[.int .i64 0, .int .i64 0, .int .i64 0] 38)).rdOf It.vs_length).it_at (show L.length - 1 < L.length by omega)
          subst e0
          have HBF := Lib.hid (lastR_get hy)
          have HFI : Hid (L.isEmpty = false) := by
            show _ = _
            cases L with
            | nil => simp at h0
            | cons _ _ => rfl
          have hg0 : decide ((0 : Int) < (L.length : Int)) = true := decide_eq_true (by omega)
          have hg0n : decide (0 < L.length) = true := decide_eq_true (by omega)
          have hl35 : L.length < 34359738368 := by omega
          have hld : decide ((L.length : Int) < (N : Int)) = true := decide_eq_true (by omega)
          have hw : IntKind.i64.wrap ((L.length : Int) - 1) = ((L.length - 1 : Nat) : Int) := by rw [IntWalk.i64_in _ (by omega)]; omega
          have hw0 : (0 : Int) ≤ ((L.length - 1 : Nat) : Int) := by omega
          have hw1 : ((L.length - 1 : Nat) : Int) < (L.length : Int) := by omega
          have ST0 := Lib.hid (HR.out.boxes y.r.at_ y.r.key y.r.val 0 0 0 0)
          clear hy h0
          have C := Lib.hid (rnum_any rb A n cap s p false _ ST0.out.rdr)
          go_wp2_with fail
          (with_reducible refine C.out.mono ?_)
          rintro e y1 ⟨a, p1, b1, rfl, hr, hg, hv1, ho⟩
          have T1 := ST0.out.turn hr hg
          have O1 := Lib.hid (out1 ho)
          clear hr hg ho C
          obtain ⟨X, eX⟩ : ∃ u, IntKind.i64.wrap (y.r.at_ + a) = u := ⟨_, rfl⟩
          have HX := Lib.hid eX
          have ST1 := Lib.hid (T1.set 0 X (a' := X) (b' := 0) (c' := 0) (d' := 0) rfl)
          have t1x0 := cell_at_block (off := 0) T1.hx rfl
          have t1f0 := free_at_block (off := 0) T1.hx
          have t1x1 := cell_at_block (off := 1) T1.hx rfl
          have t1f1 := free_at_block (off := 1) T1.hx
          have t1x2 := cell_at_block (off := 2) T1.hx rfl
          have t1f2 := free_at_block (off := 2) T1.hx
          have t1x3 := cell_at_block (off := 3) T1.hx rfl
          have t1f3 := free_at_block (off := 3) T1.hx
          have t1b0 := cell_at_block (off := 0) T1.hl rfl
          have t1b1 := cell_at_block (off := 1) T1.hl rfl
          have t1b2 := cell_at_block (off := 2) T1.hl rfl
          clear T1
          have HSM := Lib.hid HR.out.small
          cases hq : (a == 0) with
          | false =>
            have HQ := Lib.hid hq
            have C := Lib.hid (rint_any rb A n cap s p1 b1 _ ST1.out.rdr)
            go_wp2_with fail
            (with_reducible refine C.out.mono ?_)
            rintro e y2 ⟨kr, p2, b2, rfl, hr, hg, hv2, ho⟩
            have T2 := ST1.out.turn hr hg
            have O2 := Lib.hid (out1 ho)
            clear hr hg ho C
            clear eX t1x0 t1f0 t1x1 t1f1 t1x2 t1f2 t1x3 t1f3 t1b0 t1b1 t1b2
            have ST2 := Lib.hid (T2.set 1 kr (a' := X) (b' := kr) (c' := 0) (d' := 0) rfl)
            have t2x0 := cell_at_block (off := 0) T2.hx rfl
            have t2f0 := free_at_block (off := 0) T2.hx
            have t2x1 := cell_at_block (off := 1) T2.hx rfl
            have t2f1 := free_at_block (off := 1) T2.hx
            have t2x2 := cell_at_block (off := 2) T2.hx rfl
            have t2f2 := free_at_block (off := 2) T2.hx
            have t2x3 := cell_at_block (off := 3) T2.hx rfl
            have t2f3 := free_at_block (off := 3) T2.hx
            have t2b0 := cell_at_block (off := 0) T2.hl rfl
            have t2b1 := cell_at_block (off := 1) T2.hl rfl
            have t2b2 := cell_at_block (off := 2) T2.hl rfl
            clear T2
            have C := Lib.hid (rint_any rb A n cap s p2 b2 _ ST2.out.rdr)
            go_wp2_with fail
            (with_reducible refine C.out.mono ?_)
            rintro e y3 ⟨vr, p3, b3, rfl, hr, hg, hv3, ho⟩
            have T3 := ST2.out.turn hr hg
            have O3 := Lib.hid (out1 ho)
            clear hr hg ho C
            clear t2x0 t2f0 t2x1 t2f1 t2x2 t2f2 t2x3 t2f3 t2b0 t2b1 t2b2
            have ST3 := Lib.hid (T3.set 2 vr (a' := X) (b' := kr) (c' := vr) (d' := 0) rfl)
            have t3x0 := cell_at_block (off := 0) T3.hx rfl
            have t3f0 := free_at_block (off := 0) T3.hx
            have t3x1 := cell_at_block (off := 1) T3.hx rfl
            have t3f1 := free_at_block (off := 1) T3.hx
            have t3x2 := cell_at_block (off := 2) T3.hx rfl
            have t3f2 := free_at_block (off := 2) T3.hx
            have t3x3 := cell_at_block (off := 3) T3.hx rfl
            have t3f3 := free_at_block (off := 3) T3.hx
            have t3b0 := cell_at_block (off := 0) T3.hl rfl
            have t3b1 := cell_at_block (off := 1) T3.hl rfl
            have t3b2 := cell_at_block (off := 2) T3.hl rfl
            clear T3
            have C := Lib.hid (rint_any rb A n cap s p3 b3 _ ST3.out.rdr)
            go_wp2_with fail
            (with_reducible refine C.out.mono ?_)
            rintro e y4 ⟨nn, p4, b4, rfl, hr, hg, hv4, ho⟩
            have T4 := ST3.out.turn hr hg
            have O4 := Lib.hid (out1 ho)
            clear hr hg ho C
            clear t3x0 t3f0 t3x1 t3f1 t3x2 t3f2 t3x3 t3f3 t3b0 t3b1 t3b2
            have ST4 := Lib.hid (T4.set 3 nn (a' := X) (b' := kr) (c' := vr) (d' := nn) rfl)
            have t4x0 := cell_at_block (off := 0) T4.hx rfl
            have t4f0 := free_at_block (off := 0) T4.hx
            have t4x1 := cell_at_block (off := 1) T4.hx rfl
            have t4f1 := free_at_block (off := 1) T4.hx
            have t4x2 := cell_at_block (off := 2) T4.hx rfl
            have t4f2 := free_at_block (off := 2) T4.hx
            have t4x3 := cell_at_block (off := 3) T4.hx rfl
            have t4f3 := free_at_block (off := 3) T4.hx
            have t4b0 := cell_at_block (off := 0) T4.hl rfl
            have t4b1 := cell_at_block (off := 1) T4.hl rfl
            have t4b2 := cell_at_block (off := 2) T4.hl rfl
            clear T4
            have lxb := ST4.out.lx
            have HL4 := Lib.hid (Array.getElem?_eq_some_iff.1 ST4.out.hx).1
            have hrl := ST4.out.rl
            go_wp2_with (at_builtin; go_loud (refine wpList_app1 It.vs 4 40 _ 32 infoIt rfl (by decide) rfl _ _ _ rfl Tryz.underlying23 (rb + 1) _ L rfl (ST4.out.own.alloc _) ⟨⟨X, kr, vr⟩, nn⟩ _ _ rfl rfl (newAt _ _ _ _ (by simp)) (by simp [It.vs, Value.oneCell']) (by omega) (by unfold maxLen; omega) (by have := HL4.out; simp at this ⊢; omega) (fun v4 w4 hown4 hg4 _ => ?_)))
            refine ⟨⟨L ++ [⟨⟨X, kr, vr⟩, nn⟩], p4, b4, by rw [List.length_append]; go_num, ST4.out.next HR.out hlt hown4 hg4 (fun hc => ?_) (fun hc => ?_)⟩, by simp [intOf]; omega⟩
            · rw [HBF.out, HFI.out]
              exact round_out (c := L.length) (same := false) (same2 := false) O1.out O2.out O3.out O4.out rfl (by rw [HQ.out]; rfl) (fun h => HX.out.symm.trans (small_wrap (by have e := HSM.out h; rwa [HBF.out] at e) h (by omega)).1) (fun _ => rfl) rfl (fun _ => rfl) hc
            · have hsm := HR.out.small hc
              rw [HBF.out] at hsm
              exact small_next (a := a) (kr := kr) (vr := vr) (same := false) (same2 := false) hsm (by omega) (by omega) (by omega) ((fun h => HX.out.symm.trans (small_wrap (by have e := HSM.out h; rwa [HBF.out] at e) h (by omega)).1) hc) ((fun _ => rfl) hc) ((fun _ => rfl) hc)
          | true =>
            have HQ := Lib.hid hq
            have nl := ST1.out.rl
            have nlx := ST1.out.lx
            have ne1 : wr.heap.size ≠ rb := by omega
            go_upto_region 15 with fail
            go_region_held3 (fun w' => w'.cell? ⟨wr.heap.size, 1, none⟩ = some (.int .i64 y.r.key)) (go_keep)
              ((go_at_call 93; refine (rnum_any rb A n cap s p1 b1 _ ST1.out.rdr.drew1).mono ?_; rintro e y2 ⟨kr, p2, b2, rfl, hr, hg, hv2, ho⟩; have T := ST1.out.turn hr (grownBy_drew hg); have O2 := Lib.hid (out1 ho); obtain ⟨K, eK⟩ : ∃ u, IntKind.i64.wrap (y.r.key + kr) = u := ⟨_, rfl⟩; have HK := Lib.hid eK; have t2x0 := cell_at_block (off := 0) T.hx rfl; have t2f0 := free_at_block (off := 0) T.hx; have t2x1 := cell_at_block (off := 1) T.hx rfl; have t2f1 := free_at_block (off := 1) T.hx; have t2x2 := cell_at_block (off := 2) T.hx rfl; have t2f2 := free_at_block (off := 2) T.hx; have t2x3 := cell_at_block (off := 3) T.hx rfl; have t2f3 := free_at_block (off := 3) T.hx; have t2b0 := cell_at_block (off := 0) T.hl rfl; have t2b1 := cell_at_block (off := 1) T.hl rfl; have t2b2 := cell_at_block (off := 2) T.hl rfl; have ST2 := Lib.hid (T.set 1 K (a' := X) (b' := K) (c' := 0) (d' := 0) rfl); clear hr hg ho T t1x0 t1f0 t1x1 t1f1 t1x2 t1f2 t1x3 t1f3 t1b0 t1b1 t1b2))
            clear eK
            cases hk : (K == y.r.key) with
            | false =>
              have HK2 := Lib.hid hk
              have C := Lib.hid (rint_any rb A n cap s p2 b2 _ ST2.out.rdr)
              go_wp2_with fail
              (with_reducible refine C.out.mono ?_)
              rintro e y3 ⟨vr, p3, b3, rfl, hr, hg, hv3, ho⟩
              have T3 := ST2.out.turn hr hg
              have O3 := Lib.hid (out1 ho)
              clear hr hg ho C
              clear t2x0 t2f0 t2x1 t2f1 t2x2 t2f2 t2x3 t2f3 t2b0 t2b1 t2b2
              have ST3 := Lib.hid (T3.set 2 vr (a' := X) (b' := K) (c' := vr) (d' := 0) rfl)
              have t3x0 := cell_at_block (off := 0) T3.hx rfl
              have t3f0 := free_at_block (off := 0) T3.hx
              have t3x1 := cell_at_block (off := 1) T3.hx rfl
              have t3f1 := free_at_block (off := 1) T3.hx
              have t3x2 := cell_at_block (off := 2) T3.hx rfl
              have t3f2 := free_at_block (off := 2) T3.hx
              have t3x3 := cell_at_block (off := 3) T3.hx rfl
              have t3f3 := free_at_block (off := 3) T3.hx
              have t3b0 := cell_at_block (off := 0) T3.hl rfl
              have t3b1 := cell_at_block (off := 1) T3.hl rfl
              have t3b2 := cell_at_block (off := 2) T3.hl rfl
              clear T3
              have C := Lib.hid (rint_any rb A n cap s p3 b3 _ ST3.out.rdr)
              go_wp2_with fail
              (with_reducible refine C.out.mono ?_)
              rintro e y4 ⟨nn, p4, b4, rfl, hr, hg, hv4, ho⟩
              have T4 := ST3.out.turn hr hg
              have O4 := Lib.hid (out1 ho)
              clear hr hg ho C
              clear t3x0 t3f0 t3x1 t3f1 t3x2 t3f2 t3x3 t3f3 t3b0 t3b1 t3b2
              have ST4 := Lib.hid (T4.set 3 nn (a' := X) (b' := K) (c' := vr) (d' := nn) rfl)
              have t4x0 := cell_at_block (off := 0) T4.hx rfl
              have t4f0 := free_at_block (off := 0) T4.hx
              have t4x1 := cell_at_block (off := 1) T4.hx rfl
              have t4f1 := free_at_block (off := 1) T4.hx
              have t4x2 := cell_at_block (off := 2) T4.hx rfl
              have t4f2 := free_at_block (off := 2) T4.hx
              have t4x3 := cell_at_block (off := 3) T4.hx rfl
              have t4f3 := free_at_block (off := 3) T4.hx
              have t4b0 := cell_at_block (off := 0) T4.hl rfl
              have t4b1 := cell_at_block (off := 1) T4.hl rfl
              have t4b2 := cell_at_block (off := 2) T4.hl rfl
              clear T4
              have lxb := ST4.out.lx
              have HL4 := Lib.hid (Array.getElem?_eq_some_iff.1 ST4.out.hx).1
              have hrl := ST4.out.rl
              go_wp2_with (at_builtin; go_loud (refine wpList_app1 It.vs 4 40 _ 32 infoIt rfl (by decide) rfl _ _ _ rfl Tryz.underlying23 (rb + 1) _ L rfl (ST4.out.own.alloc _) ⟨⟨X, K, vr⟩, nn⟩ _ _ rfl rfl (newAt _ _ _ _ (by simp)) (by simp [It.vs, Value.oneCell']) (by omega) (by unfold maxLen; omega) (by have := HL4.out; simp at this ⊢; omega) (fun v4 w4 hown4 hg4 _ => ?_)))
              refine ⟨⟨L ++ [⟨⟨X, K, vr⟩, nn⟩], p4, b4, by rw [List.length_append]; go_num, ST4.out.next HR.out hlt hown4 hg4 (fun hc => ?_) (fun hc => ?_)⟩, by simp [intOf]; omega⟩
              · rw [HBF.out, HFI.out]
                exact round_out (c := L.length) (same := true) (same2 := false) O1.out O2.out O3.out O4.out rfl (by rw [HQ.out]; rfl) (fun h => HX.out.symm.trans (small_wrap (by have e := HSM.out h; rwa [HBF.out] at e) h (by omega)).1) (fun h => HK.out.symm.trans (small_wrap (by have e := HSM.out h; rwa [HBF.out] at e) h (by omega)).2.1) (by rw [HK2.out]; rfl) (fun _ => rfl) hc
              · have hsm := HR.out.small hc
                rw [HBF.out] at hsm
                exact small_next (a := a) (kr := kr) (vr := vr) (same := true) (same2 := false) hsm (by omega) (by omega) (by omega) ((fun h => HX.out.symm.trans (small_wrap (by have e := HSM.out h; rwa [HBF.out] at e) h (by omega)).1) hc) ((fun h => HK.out.symm.trans (small_wrap (by have e := HSM.out h; rwa [HBF.out] at e) h (by omega)).2.1) hc) ((fun _ => rfl) hc)
            | true =>
              have HK2 := Lib.hid hk
              go_upto_region 18 with fail
              go_region_held3 (fun w' => w'.cell? ⟨wr.heap.size, 2, none⟩ = some (.int .i64 y.r.val)) (go_keep)
                ((go_at_call 93; refine (rnum_any rb A n cap s p2 b2 _ ST2.out.rdr.drew1).mono ?_; rintro e y3 ⟨vr, p3, b3, rfl, hr, hg, hv3, ho⟩; have T := ST2.out.turn hr (grownBy_drew hg); have O3 := Lib.hid (out1 ho); obtain ⟨V, eV⟩ : ∃ u, IntKind.i64.wrap (y.r.val + vr) = u := ⟨_, rfl⟩; have HV := Lib.hid eV; have t3x0 := cell_at_block (off := 0) T.hx rfl; have t3f0 := free_at_block (off := 0) T.hx; have t3x1 := cell_at_block (off := 1) T.hx rfl; have t3f1 := free_at_block (off := 1) T.hx; have t3x2 := cell_at_block (off := 2) T.hx rfl; have t3f2 := free_at_block (off := 2) T.hx; have t3x3 := cell_at_block (off := 3) T.hx rfl; have t3f3 := free_at_block (off := 3) T.hx; have t3b0 := cell_at_block (off := 0) T.hl rfl; have t3b1 := cell_at_block (off := 1) T.hl rfl; have t3b2 := cell_at_block (off := 2) T.hl rfl; have ST3 := Lib.hid (T.set 2 V (a' := X) (b' := K) (c' := V) (d' := 0) rfl); clear hr hg ho T t2x0 t2f0 t2x1 t2f1 t2x2 t2f2 t2x3 t2f3 t2b0 t2b1 t2b2))
              clear eV
              have C := Lib.hid (rint_any rb A n cap s p3 b3 _ ST3.out.rdr)
              go_wp2_with fail
              (with_reducible refine C.out.mono ?_)
              rintro e y4 ⟨nn, p4, b4, rfl, hr, hg, hv4, ho⟩
              have T4 := ST3.out.turn hr hg
              have O4 := Lib.hid (out1 ho)
              clear hr hg ho C
              clear t3x0 t3f0 t3x1 t3f1 t3x2 t3f2 t3x3 t3f3 t3b0 t3b1 t3b2
              have ST4 := Lib.hid (T4.set 3 nn (a' := X) (b' := K) (c' := V) (d' := nn) rfl)
              have t4x0 := cell_at_block (off := 0) T4.hx rfl
              have t4f0 := free_at_block (off := 0) T4.hx
              have t4x1 := cell_at_block (off := 1) T4.hx rfl
              have t4f1 := free_at_block (off := 1) T4.hx
              have t4x2 := cell_at_block (off := 2) T4.hx rfl
              have t4f2 := free_at_block (off := 2) T4.hx
              have t4x3 := cell_at_block (off := 3) T4.hx rfl
              have t4f3 := free_at_block (off := 3) T4.hx
              have t4b0 := cell_at_block (off := 0) T4.hl rfl
              have t4b1 := cell_at_block (off := 1) T4.hl rfl
              have t4b2 := cell_at_block (off := 2) T4.hl rfl
              clear T4
              have lxb := ST4.out.lx
              have HL4 := Lib.hid (Array.getElem?_eq_some_iff.1 ST4.out.hx).1
              have hrl := ST4.out.rl
              go_wp2_with (at_builtin; go_loud (refine wpList_app1 It.vs 4 40 _ 32 infoIt rfl (by decide) rfl _ _ _ rfl Tryz.underlying23 (rb + 1) _ L rfl (ST4.out.own.alloc _) ⟨⟨X, K, V⟩, nn⟩ _ _ rfl rfl (newAt _ _ _ _ (by simp)) (by simp [It.vs, Value.oneCell']) (by omega) (by unfold maxLen; omega) (by have := HL4.out; simp at this ⊢; omega) (fun v4 w4 hown4 hg4 _ => ?_)))
              refine ⟨⟨L ++ [⟨⟨X, K, V⟩, nn⟩], p4, b4, by rw [List.length_append]; go_num, ST4.out.next HR.out hlt hown4 hg4 (fun hc => ?_) (fun hc => ?_)⟩, by simp [intOf]; omega⟩
              · rw [HBF.out, HFI.out]
                exact round_out (c := L.length) (same := true) (same2 := true) O1.out O2.out O3.out O4.out rfl (by rw [HQ.out]; rfl) (fun h => HX.out.symm.trans (small_wrap (by have e := HSM.out h; rwa [HBF.out] at e) h (by omega)).1) (fun h => HK.out.symm.trans (small_wrap (by have e := HSM.out h; rwa [HBF.out] at e) h (by omega)).2.1) (by rw [HK2.out]; rfl) (fun h => HV.out.symm.trans (small_wrap (by have e := HSM.out h; rwa [HBF.out] at e) h (by omega)).2.2) hc
              · have hsm := HR.out.small hc
                rw [HBF.out] at hsm
                exact small_next (a := a) (kr := kr) (vr := vr) (same := true) (same2 := true) hsm (by omega) (by omega) (by omega) ((fun h => HX.out.symm.trans (small_wrap (by have e := HSM.out h; rwa [HBF.out] at e) h (by omega)).1) hc) ((fun h => HK.out.symm.trans (small_wrap (by have e := HSM.out h; rwa [HBF.out] at e) h (by omega)).2.1) hc) ((fun h => HV.out.symm.trans (small_wrap (by have e := HSM.out h; rwa [HBF.out] at e) h (by omega)).2.2) hc)
      · have hln : L.length = N := by omega
        have HZ : Hid (dBag s = if N ≤ 300 then endB (some (L, s.drop p)) else none) := by
          show _ = _
          split
          · rename_i h3
            rw [← HR.out.yes rfl h3, hln, Nat.sub_self]
            rfl
          · rename_i h3
            exact HR.out.long rfl h3
        have HLN := Lib.hid hln
        have hgt : decide ((L.length : Int) < (N : Int)) = false := decide_eq_false (by omega)
        clear hln
        by_cases hp : p = n
        · have HP := Lib.hid hp
          have hq : (((p : Nat) : Int) != (n : Int)) = false := by simp [hp]
          have hq2 : (p != n) = false := by simp [hp]
          have hdn : s.drop p = [] := by rw [hp, ← HLEN.out, List.drop_length]
          have HG := Lib.hid (fun w9 (h9 : Rd It.vs 4 w9 0 A0 L.length L) => Good_any A0 L.length cap0 L w9 h9)
          have HRD := Lib.hid (((HR.out.own.rdOf It.vs_length).low (Nat.zero_le _)))
          have HDN := Lib.hid hdn
          clear hp hdn
          cases hb : bagB L with
          | true =>
            have HE : Hid (readR s = (L, 0)) := by
              show _ = _
              unfold readR
              have hl3 := ((bagB_spec L).1 hb).2.2
              rw [HZ.out, HDN.out, if_pos (by have := HLN.out; omega)]
              simp [endB, readB, hb]
            have HBB := Lib.hid hb
            clear hb
            go_wp2_with (go_at_call 44; (with_reducible refine (HG.out _ HRD.out).mono ?_); rintro e w5 ⟨rfl, hb5⟩; rw [HBB.out]; have HB5 := Lib.hid hb5; clear hb5)
            go_ret2
            rw [HE.out]
            exact ⟨A0, cap0, rfl, (HR.out.own.rdOf It.vs_length).below HB5.out |>.low (by have := HR.out.lo; omega), bchain HR.out.below HB5.out⟩
          | false =>
            have HE : Hid (readR s = ([], 4)) := by
              show _ = _
              unfold readR
              rw [HZ.out, HDN.out]
              split
              · simp [endB, readB, hb]
              · rfl
            have HBB := Lib.hid hb
            clear hb
            go_wp2_with (go_at_call 44; (with_reducible refine (HG.out _ HRD.out).mono ?_); rintro e w5 ⟨rfl, hb5⟩; rw [HBB.out]; have HB5 := Lib.hid hb5; clear hb5)
            go_ret2
            rw [HE.out]
            exact ⟨none, 0, rfl, Rd.nil _ _ _, bchain HR.out.below HB5.out⟩
        · have hq : (((p : Nat) : Int) != (n : Int)) = true := by simp; omega
          have hq2 : (p != n) = true := by simpa using hp
          have HE : Hid (readR s = ([], 4)) := by
            show _ = _
            unfold readR
            rw [HZ.out]
            have hpl := HR.out.rdr.le
            have hdn : s.drop p ≠ [] := by
              intro e
              have := List.drop_eq_nil_iff.1 e
              rw [HLEN.out] at this
              omega
            split
            · cases h : s.drop p with
              | nil => exact absurd h hdn
              | cons _ _ => rfl
            · rfl
          clear hp
          go_wp2_with fail
          go_ret2
          rw [HE.out]
          exact ⟨none, 0, rfl, Rd.nil _ _ _, HR.out.below⟩

end Go.Proofs.Bg
end

section
/- What a call that returns a bag and an error leaves, the length named. -/
namespace Go.Proofs.Bg
open Go.RowKit
def RetL (w : World) (p : List It × Int) (e : Ending) (w' : World) : Prop :=
  (∃ A n cap, e = .returned (.tuple #[.slice A n cap, .int .i64 p.2]) ∧ Rd It.vs 4 w' w.heap.size A n p.1) ∧ Below w.heap.size w w'
theorem RetBag.lst {w w' : World} {p : List It × Int} {e : Ending} (h : RetBag w p e w') : RetL w p e w' := by
  obtain ⟨A, cap, he, hr, hb⟩ := h
  exact ⟨⟨A, _, cap, he, hr⟩, hb⟩
end Go.Proofs.Bg
end

section
/- BagReads: the walk of the law. -/
namespace Go.Proofs.Bg
open Go.RowKit

theorem Rd.block_lt {w : World} {A : Option Addr} {n : Nat} {l : List Int} (h : Rd bv 1 w 0 A n l) : 0 < n → ∀ b off, A = some ⟨b, off, none⟩ → b < w.heap.size := by
  intro h0 b off e
  obtain ⟨b2, off2, x, e2, _, _, hc⟩ := h.at_ h0
  rw [e] at e2
  cases e2
  exact World.block_lt_of_cell? w _ (hc 0 _ rfl)
theorem RetBytes.lst {w w' : World} {bs : List Int} {c : Int} {e : Ending} (h : RetBytes w (bs, c) e w') : (∃ A q cap, e = .returned (.tuple #[.slice A q cap, .int .i64 c]) ∧ Rd bv 1 w' 0 A q bs) ∧ Below w.heap.size w w' := by
  obtain ⟨A, cap, he, hr, hb⟩ := h
  exact ⟨⟨A, _, cap, he, hr.low (Nat.zero_le _)⟩, hb⟩
theorem conv_num {w : World} {A : Option Addr} {n cap : Nat} {xs : List Int} (h : Rd bv 1 w 0 A n xs) : (convert 59 9 (.slice A n cap)).run Tryz.prog w = .ok (.string (strOfNums xs)) w := by
  cases A with
  | none =>
    have h0 : n = 0 := by
      rcases Nat.eq_zero_or_pos n with h0 | h0
      · exact h0
      · obtain ⟨b, off, e, _⟩ := h.2.2 h0
        cases e
    subst h0
    have e : xs = [] := List.length_eq_zero_iff.1 h.len
    subst e
    exact run_convert_bytes_nil w _ _ Tryz.underlying59 Tryz.underlying5 0 cap _ Tryz.underlying9
  | some a =>
    rcases Nat.eq_zero_or_pos n with h0 | h0
    · subst h0
      have e : xs = [] := List.length_eq_zero_iff.1 h.len
      subst e
      rw [run_convert_bytes_string w 59 9 5 _ 0 cap Tryz.underlying59 Tryz.underlying5 Tryz.underlying9, run_bytesToString w _ 0 cap [] (run_loadCells_list (P := Tryz.prog) w a [] (fun j v hj => by simp at hj))]
      rfl
    · obtain ⟨b, off, e, _, hc⟩ := h.2.2 h0
      cases e
      refine run_convert_bytes_arg w _ _ Tryz.underlying59 Tryz.underlying5 b off n cap xs h.len (fun i hi => ?_) _ Tryz.underlying9
      have hi2 : i < xs.length := by rw [h.len]; exact hi
      have := hc i xs[i] (List.getElem?_eq_getElem hi2) 0 _ rfl
      simp only [Nat.mul_one, Nat.add_zero] at this
      rw [this, List.getD_eq_getElem?_getD, List.getElem?_eq_getElem hi2]
      rfl

set_option maxRecDepth 100000 in
set_option maxHeartbeats 4000000 in
theorem BagReads_any (A B : Option Addr) (n m capA capB : Nat) (a : List It) (l : List Int) (w : World) (hA : Rd It.vs 4 w 0 A n a) (hB : Rd bv 1 w 0 B m l) (hcap : m ≤ capB) (hby : Byt l) (ht : Tab w) :
    Calls Tryz.prog 9 #[.slice A n capA, .slice B m capB] w fun e w' => e = .returned (.bool true) ∧ Below w.heap.size w w' := by
  have HA := Lib.hid hA
  have HB := Lib.hid hB
  have HT := Lib.hid ht
  have HCAP := Lib.hid hcap
  have HBY := Lib.hid hby
  obtain ⟨⟨bs, cb⟩, hp⟩ : ∃ p, bytesR a = p := ⟨_, rfl⟩
  obtain ⟨⟨rs, cr⟩, hq⟩ : ∃ p, readR l = p := ⟨_, rfl⟩
  have HP := Lib.hid hp
  have HQ := Lib.hid hq
  clear hA hB ht hcap hby hp hq
  go_enter Tryz.func9, Tryz.ntmps9
  have C := Lib.hid (Bytes_any A n capA a w HA.out)
  rw [HP.out] at C
  replace C := Lib.hid (C.out.mono fun _ _ h => h.lst)
  go_wp2_with fail
  (with_reducible refine C.out.mono ?_)
  rintro e w1 ⟨⟨S1, q1, c1, rfl, hr⟩, hb⟩
  have HS0 := Lib.hid hb
  have HR1 := Lib.hid hr
  clear hr hb C
  have C := Lib.hid (BytesRef_any A n capA a w1 (HA.out.below HS0.out))
  rw [HP.out] at C
  replace C := Lib.hid (C.out.mono fun _ _ h => h.lst)
  go_wp2_with fail
  (with_reducible refine C.out.mono ?_)
  rintro e w2 ⟨⟨S2, q2, c2, rfl, hr⟩, hb⟩
  have HS1 := Lib.hid hb
  have HR2 := Lib.hid hr
  clear hr hb C
  have C := Lib.hid (Read_any B m capB l w2 (HB.out.below (bchain HS0.out HS1.out)) HCAP.out ((HB.out.below (bchain HS0.out HS1.out))).block_lt HBY.out)
  rw [HQ.out] at C
  replace C := Lib.hid (C.out.mono fun _ _ h => h.lst)
  go_wp2_with fail
  (with_reducible refine C.out.mono ?_)
  rintro e w3 ⟨⟨S3, q3, c3, rfl, hr⟩, hb⟩
  have HS2 := Lib.hid hb
  have HR3 := Lib.hid (hr.low (Nat.zero_le _))
  clear hr hb C
  have C := Lib.hid (ReadRef_any B m capB l w3 (HB.out.below (bchain HS0.out (bchain HS1.out HS2.out))) ((HB.out.below (bchain HS0.out (bchain HS1.out HS2.out)))).block_lt HBY.out)
  rw [HQ.out] at C
  replace C := Lib.hid (C.out.mono fun _ _ h => h.lst)
  go_wp2_with fail
  (with_reducible refine C.out.mono ?_)
  rintro e w4 ⟨⟨S4, q4, c4, rfl, hr⟩, hb⟩
  have HS3 := Lib.hid hb
  have HR4 := Lib.hid (hr.low (Nat.zero_le _))
  clear hr hb C
  have hcv1 := conv_num (cap := c1) (HR1.out.below (bchain HS1.out (bchain HS2.out HS3.out)))
  have hcv2 := conv_num (cap := c2) (HR2.out.below (bchain HS2.out HS3.out))
  have HE : Hid (decide (rs = rs) = true) := by show _ = _; simp
  have C := Lib.hid (Same_any S3 S4 q3 q4 c3 c4 rs rs w4 (HR3.out.below HS3.out) HR4.out)
  rw [HE.out] at C
  go_wp2_with fail
  (with_reducible refine C.out.mono ?_)
  rintro e w5 ⟨rfl, hb⟩
  have HS4 := Lib.hid hb
  clear hb C
  clear HE hcv1 hcv2
  have C := Lib.hid (known_any w5 (HT.out.below (bchain HS0.out (bchain HS1.out (bchain HS2.out (bchain HS3.out HS4.out))))))
  go_wp2_with fail
  (with_reducible refine C.out.mono ?_)
  rintro e w6 ⟨rfl, hb⟩
  have HS5 := Lib.hid hb
  clear hb C
  go_wp2_with fail
  go_ret
  exact ⟨rfl, (bchain HS0.out (bchain HS1.out (bchain HS2.out (bchain HS3.out (bchain HS4.out HS5.out)))))⟩
end Go.Proofs.Bg
end
