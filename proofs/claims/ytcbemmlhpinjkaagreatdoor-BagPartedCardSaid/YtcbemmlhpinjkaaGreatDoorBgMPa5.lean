/- Texts of our own, merged: BgDoR BgBetween BgCol BgShift BgCutR BgBags BgParts BgSameBags BgPartP BgRet BgLawParted. -/
import Derived.Test.YtcbemmlhpinjkaaGreatDoorBgMPa4
import Derived.RangeFuncNested
import Derived.RangeFuncBound
import Derived.RangeFuncCalls
import Derived.RangeFuncLeaves
import Derived.Shelf.Abstract
import Derived.Shelf.RegionOpen
import Derived.WalkKit
import Derived.OwnWalkIn
import Derived.TacticsInMore
import Derived.LoopNIn
import Derived.LoopIn
import Derived.Maps.AppendAt
import Derived.Test.YtcbemmlhpinjkaaGreatDoorBgMPa2
import Derived.Test.YtcbemmlhpinjkaaGreatDoorBgMPa1
import Derived.BigQuiet
import Derived.Test.YtcbemmlhpinjkaaGreatDoorBgMPa3
import Derived.Deep.RegionWith

section
/- The contracts of the reference's items and Do. -/
namespace Go.Proofs.Bg
open Go.RowKit

/-- What the loop of items holds. -/
def ItsRel (w : World) (L : List It) (v : Value) (wr : World) : Prop := Own It.vs 4 40 w.heap.size wr v L ∧ Below w.heap.size w wr

set_option maxRecDepth 100000 in
set_option maxHeartbeats 4000000 in
theorem itemsR_any (B : Option Addr) (m capB : Nat) (l : List Ed) (w : World) (hB : Rd Ed.vs 8 w 0 B m l) (hb : ∀ x ∈ l, -1000000000000000 ≤ x.n ∧ x.n ≤ 1000000000000000) (hm : m ≤ 600) :
    Calls Tryz.prog 82 #[.slice B m capB] w fun e w' => ∃ A n cap, e = .returned (.slice A n cap) ∧ Rd It.vs 4 w' w.heap.size A n (edIts l) ∧ Below w.heap.size w w' := by
  have HB := Lib.hid hB
  have HBD := Lib.hid hb
  have hmle := hB.le
  clear hB hb
  go_enter Tryz.func82, Tryz.ntmps82
  go_wp2_with fail
  go_loopw [3, 5, 8] (fun v _ i wr => ∃ k : Nat, k ≤ m ∧ i = .int .i64 k ∧ ItsRel w (edIts (l.take k)) v wr) (fun _ _ i _ => m - (intOf i).toNat)
  case atStart => exact ⟨0, by omega, rfl, by simpa [edIts] using Own.nil _ _ _ _ _, Below.refl _ _⟩
  case round =>
    obtain ⟨k, hk, rfl, hown, hBr⟩ := hrel
    obtain ⟨A3, cap3, rfl⟩ := hown.shape
    have hRk := HB.out.below hBr
    have HO := Lib.hid hown
    have HBR := Lib.hid hBr
    have hsz := hBr.size
    have hlen : (edIts (l.take k)).length ≤ 1200 := by
      have h1 := edIts_length (l.take k)
      have h2 := List.length_take_le k l
      omega
    clear hown hBr
    by_cases hlt : k < m
    · obtain ⟨b, off, x, rfl, hx, c0, c1, c2, c3, c4, c5, c6, c7⟩ := hRk.ed_at hlt
      have hxb := HBD.out x (List.mem_of_getElem? hx)
      have hwn : IntKind.i64.wrap (-x.n) = -x.n := IntWalk.i64_in _ (by omega)
      have HTK := Lib.hid (edIts_take hx)
      have HBX := Lib.hid (new_block wr #[.int .i64 x.d, .int .i64 x.old.at_, .int .i64 x.old.key, .int .i64 x.old.val, .int .i64 x.new.at_, .int .i64 x.new.key, .int .i64 x.new.val, .int .i64 x.n] 79)
      obtain ⟨f0, f1, f2, f3, f4, f5, f6, f7⟩ := box8 HBX.out
      generalize edIts (l.take k) = L at *
      clear hx hRk
      by_cases h1 : x.d = 1
      · have HEI : Hid (edIt x = [⟨x.new, x.n⟩]) := by show _ = _; simp [edIt, h1]
        rw [HEI.out] at HTK
        have q1 : (x.d != 1) = false := by simp [h1]
        have q2 : (x.d != 2) = true := by simp [h1]
        clear h1
        go_wp2_with (at_builtin; go_loud (refine wpList_app1 It.vs 4 40 _ 32 infoIt rfl (by decide) rfl _ _ _ rfl Tryz.underlying22 w.heap.size _ L rfl ((HO.out.alloc _).alloc _) ⟨x.new, x.n⟩ _ _ rfl rfl (newAt _ _ _ _ (by simp)) (by simp [It.vs, Value.oneCell']) (by omega) (by unfold maxLen; omega) (by simp; omega) (fun v4 w4 hown4 hg4 _ => ?_)))
        exact ⟨⟨k + 1, by omega, by go_num, by rw [HTK.out]; exact hown4, below_row ((HBR.out.alloc hsz _).alloc (by simp; omega) _) hg4 (fun j hj => (HO.out.blk j hj).1)⟩, by simp [intOf]; omega⟩
      · have q1 : (x.d != 1) = true := by simpa using h1
        by_cases h2 : x.d = 2
        · have HEI : Hid (edIt x = [⟨x.old, -x.n⟩]) := by show _ = _; simp [edIt, h2]
          rw [HEI.out] at HTK
          have q2 : (x.d != 2) = false := by simp [h2]
          clear h1 h2
          go_wp2_with (at_builtin; go_loud (refine wpList_app1 It.vs 4 40 _ 32 infoIt rfl (by decide) rfl _ _ _ rfl Tryz.underlying22 w.heap.size _ L rfl ((HO.out.alloc _).alloc _) ⟨x.old, -x.n⟩ _ _ rfl rfl (newAt _ _ _ _ (by simp)) (by simp [It.vs, Value.oneCell']) (by omega) (by unfold maxLen; omega) (by simp; omega) (fun v4 w4 hown4 hg4 _ => ?_)); have hk6 := (hg4.block wr.heap.size (by simp; omega) (fun e => by have := (HO.out.blk _ e.symm).2; omega)).trans ((Below.heap_alloc _ _ _ (by simp)).trans HBX.out); obtain ⟨e0, e1, e2, e3, e4, e5, e6, e7⟩ := box8 hk6; have HO4 := Lib.hid hown4; have HG4 := Lib.hid hg4; clear hown4 hg4 hk6)
          exact ⟨⟨k + 1, by omega, by go_num, by rw [HTK.out]; exact HO4.out, below_row ((HBR.out.alloc hsz _).alloc (by simp; omega) _) HG4.out (fun j hj => (HO.out.blk j hj).1)⟩, by simp [intOf]; omega⟩
        · have HEI : Hid (edIt x = [⟨x.old, -x.n⟩, ⟨x.new, x.n⟩]) := by show _ = _; simp [edIt, h1, h2]
          rw [HEI.out] at HTK
          have q2 : (x.d != 2) = true := by simpa using h2
          clear h1 h2
          go_wp2_with (first | (at_builtin; refine wpList_app1 It.vs 4 40 _ 32 infoIt rfl (by decide) rfl _ _ _ rfl Tryz.underlying22 w.heap.size _ L rfl ((HO.out.alloc _).alloc _) ⟨x.old, -x.n⟩ _ _ rfl rfl (newAt _ _ _ _ (by simp)) (by simp [It.vs, Value.oneCell']) (by omega) (by unfold maxLen; omega) (by simp; omega) (fun v4 w4 hown4 hg4 _ => ?_); have hk6 := (hg4.block wr.heap.size (by simp; omega) (fun e => by have := (HO.out.blk _ e.symm).2; omega)).trans ((Below.heap_alloc _ _ _ (by simp)).trans HBX.out); obtain ⟨e0, e1, e2, e3, e4, e5, e6, e7⟩ := box8 hk6; have HO4 := Lib.hid hown4; have HB4 := Lib.hid (below_row ((HBR.out.alloc hsz _).alloc (by simp; omega) _) hg4 (fun j hj => (HO.out.blk j hj).1)); clear hown4 hg4 hk6) | (at_builtin; go_loud (refine wpList_app1 It.vs 4 40 _ 32 infoIt rfl (by decide) rfl _ _ _ rfl Tryz.underlying22 w.heap.size _ (L ++ [⟨x.old, -x.n⟩]) rfl (HO4.out.alloc _) ⟨x.new, x.n⟩ _ _ rfl rfl (newAt _ _ _ _ rfl) (by simp [It.vs, Value.oneCell']) (by simp; omega) (by unfold maxLen; simp; omega) (by have := HB4.out.size; simp; omega) (fun v5 w5 hown5 hg5 _ => ?_)); have HO5 := Lib.hid hown5; have HG5 := Lib.hid hg5; clear hown5 hg5))
          refine ⟨⟨k + 1, by omega, by go_num, ?_, below_row (HB4.out.alloc HB4.out.size _) HG5.out (fun j hj => (HO4.out.blk j hj).1)⟩, by simp [intOf]; omega⟩
          have := HO5.out
          rw [HTK.out]
          simpa using this
    · have hk' : k = m := by omega
      subst hk'
      clear hRk hlt hlen
      have et : l.take k = l := List.take_of_length_le (by rw [HB.out.len]; exact Nat.le_refl _)
      rw [et] at HO
      have hr := HO.out.rdOf It.vs_length
      have HR := Lib.hid hr
      have HE : Hid ((edIts (l.take k)).length = (edIts l).length) := by show _ = _; rw [et]
      clear hr et
      go_wp2_with fail
      go_ret
      rw [HE.out]
      exact ⟨_, _, _, rfl, HR.out, HBR.out⟩

/-- What the reference's loop over edits holds. -/
def EdAll (w : World) (l : List Ed) (k : Nat) (wr : World) : Prop := (∀ x ∈ l.take k, edB x = true) ∧ Below w.heap.size w wr

set_option maxRecDepth 100000 in
set_option maxHeartbeats 8000000 in
theorem DoR_any (A B : Option Addr) (n m capA capB : Nat) (a : List It) (l : List Ed) (w : World) (hA : Rd It.vs 4 w 0 A n a) (hB : Rd Ed.vs 8 w 0 B m l) :
    Calls Tryz.prog 33 #[.slice A n capA, .slice B m capB] w (RetNew w (doR a l)) := by
  have Q1 := Lib.hid (Good_any A n capA a w hA)
  have HA := Lib.hid hA
  have HB := Lib.hid hB
  have hmle := hB.le
  clear hA hB
  cases ga : bagB a with
  | false =>
    have e1 : doR a l = ([], 2) := by simp [doR, ga]
    rw [e1]
    have GA := Lib.hid ga
    clear ga e1
    go_enter Tryz.func33, Tryz.ntmps33
    go_wp2_with (go_at_call 44; (with_reducible refine Q1.out.mono ?_); rintro e w1 ⟨rfl, hb1⟩; rw [GA.out]; have HB1 := Lib.hid hb1; clear hb1)
    go_ret2
    exact ⟨⟨none, 0, 0, rfl, Rd.nil _ _ _⟩, HB1.out⟩
  | true =>
    have GA := Lib.hid ga
    by_cases hm : 600 < m
    · have e1 : doR a l = ([], 2) := by
        have : ¬ l.length ≤ 600 := by rw [HB.out.len]; omega
        simp [doR, this]
      rw [e1]
      have hd : decide ((600 : Int) < (m : Int)) = true := by simp; omega
      clear ga e1 hm
      go_enter Tryz.func33, Tryz.ntmps33
      go_wp2_with (go_at_call 44; (with_reducible refine Q1.out.mono ?_); rintro e w1 ⟨rfl, hb1⟩; rw [GA.out]; have HB1 := Lib.hid hb1; clear hb1)
      go_ret2
      exact ⟨⟨none, 0, 0, rfl, Rd.nil _ _ _⟩, HB1.out⟩
    · have hd : decide ((600 : Int) < (m : Int)) = false := by simp; omega
      have hm6 : m ≤ 600 := by omega
      have hn3 : n ≤ 300 := by rw [← HA.out.len]; exact ((bagB_spec a).1 ga).2.2
      clear ga hm
      go_enter Tryz.func33, Tryz.ntmps33
      go_wp2_with fail
      (with_reducible refine Q1.out.mono ?_)
      rintro e w1 ⟨rfl, hb1⟩
      rw [GA.out]
      have HB1 := Lib.hid hb1
      clear hb1
      go_wp2_with fail
      go_loopw [7, 18] (fun _ i wr => ∃ k : Nat, k ≤ m ∧ i = .int .i64 k ∧ EdAll w l k wr) (fun _ i _ => m - (intOf i).toNat)
      case atStart => exact ⟨0, by omega, rfl, by simp, HB1.out⟩
      case round =>
        obtain ⟨k, hk, rfl, hall, hBr⟩ := hrel
        have hRk := HB.out.below hBr
        have HAL := Lib.hid hall
        have HBR := Lib.hid hBr
        clear hall hBr
        by_cases hlt : k < m
        · obtain ⟨b, off, x, rfl, hx, c0, c1, c2, c3, c4, c5, c6, c7⟩ := hRk.ed_at hlt
          have HX := Lib.hid hx
          have HBX := Lib.hid (new_block wr #[.int .i64 x.d, .int .i64 x.old.at_, .int .i64 x.old.key, .int .i64 x.old.val, .int .i64 x.new.at_, .int .i64 x.new.key, .int .i64 x.new.val, .int .i64 x.n] 79)
          obtain ⟨f0, f1, f2, f3, f4, f5, f6, f7⟩ := box8 HBX.out
          have C1 := Lib.hid (Edit_any x.d x.old.at_ x.old.key x.old.val x.new.at_ x.new.key x.new.val x.n (wr.alloc (.cells #[.int .i64 x.d, .int .i64 x.old.at_, .int .i64 x.old.key, .int .i64 x.old.val, .int .i64 x.new.at_, .int .i64 x.new.key, .int .i64 x.new.val, .int .i64 x.n] 79)))
          have HAB : Hid (Below w.heap.size w (wr.alloc (.cells #[.int .i64 x.d, .int .i64 x.old.at_, .int .i64 x.old.key, .int .i64 x.old.val, .int .i64 x.new.at_, .int .i64 x.new.key, .int .i64 x.new.val, .int .i64 x.n] 79))) := HBR.out.alloc HBR.out.size _
          clear hx hRk
          cases he : edB x with
          | false =>
            have E1 := Lib.hid (doR_false (a := a) (List.mem_of_getElem? HX.out) he)
            have HE := Lib.hid he
            clear he
            go_wp2_with (go_at_call 81; (with_reducible refine C1.out.mono ?_); rintro e w5 ⟨rfl, hb5⟩; rw [HE.out]; have HB5 := Lib.hid hb5; clear hb5)
            go_ret2
            rw [E1.out]
            exact ⟨⟨none, 0, 0, rfl, Rd.nil _ _ _⟩, bchain HAB.out HB5.out⟩
          | true =>
            have HE := Lib.hid he
            have HALL := Lib.hid (take_all HX.out HAL.out he)
            clear he
            go_wp2_with (go_at_call 81; (with_reducible refine C1.out.mono ?_); rintro e w5 ⟨rfl, hb5⟩; rw [HE.out]; have HB5 := Lib.hid hb5; clear hb5)
            exact ⟨⟨k + 1, by omega, by go_num, HALL.out, bchain HAB.out HB5.out⟩, by simp [intOf]; omega⟩
        · have hk' : k = m := by omega
          subst hk'
          clear hRk hlt
          have et : l.take k = l := List.take_of_length_le (by rw [HB.out.len]; exact Nat.le_refl _)
          rw [et] at HAL
          have hll : l.length ≤ 600 := by rw [HB.out.len]; exact hm6
          have HF := Lib.hid (fits_do GA.out HAL.out hll)
          have E1 : Hid (doR a l = longR (canon (a ++ edIts l))) := by show _ = _; rw [bagOr_long]; simp [doR, GA.out, hll, List.all_eq_true.2 HAL.out]
          have hel : (edIts l).length ≤ 1200 := by have := edIts_length l; omega
          have HLA : Hid (a.length = n) := HA.out.len
          have hbd : ∀ x ∈ l, -1000000000000000 ≤ x.n ∧ x.n ≤ 1000000000000000 := fun x hx => by have := (edB_spec (HAL.out x hx)); omega
          have HBD := Lib.hid hbd
          clear et hll hbd
          go_wp2_with (first | (at_builtin; refine wpList_appRd It.vs 4 It.vs_length (by decide) It.one 40 40 _ 32 infoIt rfl rfl _ _ _ _ rfl Tryz.underlying22 Tryz.underlying23 wr.heap.size _ [] rfl (Own.nil _ _ _ _ _) 0 n capA A a rfl (HA.out.below HBR.out) (by simp; omega) (by unfold maxLen; simp; omega) (Nat.le_refl _) (fun v5 w5 hown5 hg5 _ => ?_); rw [List.nil_append] at hown5; have hb5 : Below wr.heap.size wr w5 := (Below.refl _ _).grown hg5 (Nat.le_refl _) (fun k e => by cases e); have HB5 := Lib.hid (bchain HBR.out hb5); have HB45 := Lib.hid hb5; have HO5 := Lib.hid hown5; have C2 := Lib.hid (itemsR_any B k capB l w5 (HB.out.below HB5.out) HBD.out hm6); clear hown5 hg5 hb5) | (go_at_call 82; (with_reducible refine C2.out.mono ?_); rintro e w6 ⟨A6, n6, c6, rfl, hr6, hb6⟩; have HB6 := Lib.hid (bchain HB5.out hb6); have HB46 := Lib.hid (bchain HB45.out hb6); have HO6 := Lib.hid (HO5.out.below hb6); have HR6 := Lib.hid hr6; have hn6 : n6 ≤ 1200 := (by rw [← hr6.len]; exact hel); clear hr6 hb6 C2) | (at_builtin; go_loud (refine wpList_appRd It.vs 4 It.vs_length (by decide) It.one 40 40 _ 32 infoIt rfl rfl _ _ _ _ rfl Tryz.underlying22 Tryz.underlying22 wr.heap.size _ a rfl HO6.out _ n6 c6 A6 (edIts l) rfl HR6.out (by rw [HLA.out]; omega) (by rw [HLA.out]; unfold maxLen; omega) HB46.out.size (fun v7 w7 hown7 hg7 _ => ?_)); have HB7 := Lib.hid (below_row HB46.out hg7 (fun k e => (HO6.out.blk k e).1)); have HO7 := Lib.hid hown7; obtain ⟨A7, c7, rfl⟩ := hown7.shape; clear hown7 hg7))
          have hr7 := HO7.out.rdOf It.vs_length
          have hcp := HO7.out.capOf
          rw [List.length_append] at hr7 hcp
          have C3 := Lib.hid (Of_any A7 (a.length + (edIts l).length) c7 (a ++ edIts l) w7 (hr7.low (Nat.zero_le _)) hcp (by rw [HLA.out]; omega) HF.out)
          clear hr7 hcp
          (with_reducible refine C3.out.mono ?_)
          rintro e w8 ⟨A8, c8, rfl, hr8, hb8⟩
          have HL := Lib.hid (longLo_any w7.heap.size A8 _ c8 _ w8 hr8)
          have HB8 := Lib.hid (bchain (bchain HBR.out HB7.out) hb8)
          have HSZ : Hid (w.heap.size ≤ w7.heap.size) := (bchain HBR.out HB7.out).size
          clear hr8 hb8 C3
          generalize hq : longR (canon (a ++ edIts l)) = q at *
          generalize (canon (a ++ edIts l)).length = p at *
          clear hq
          go_wp2_with (go_at_call 51; (with_reducible refine HL.out.mono ?_); rintro e w9 ⟨⟨A9, n9, c9, rfl, hr9⟩, hb9⟩)
          go_ret2
          rw [E1.out]
          exact ⟨⟨_, _, _, rfl, hr9.low HSZ.out⟩, bchain HB8.out hb9⟩
end Go.Proofs.Bg
end

section
/- The contracts of between and of the iterator that it hands back. -/
namespace Go.Proofs.Bg
open Go.RowKit Go.Shelf
attribute [local go_sem] Oper.semAt_some

theorem cell_al {W : World} {a : Addr} {v : Value} (o : Obj) (h : W.cell? a = some v) : (W.alloc o).cell? a = some v := cell_kept h (World.grownBy_alloc W o none) (fun r e => by cases e)
theorem cutL_succ {l : List It} {k : Nat} {x : It} (lo hi : Int) (h : l[k]? = some x) : cutL (l.take (k + 1)) lo hi = cutL (l.take k) lo hi ++ (if lo ≤ x.r.at_ ∧ x.r.at_ < hi then [x] else []) := by
  rw [List.take_add_one, h]
  unfold cutL
  by_cases h1 : lo ≤ x.r.at_ <;> by_cases h2 : x.r.at_ < hi <;> simp [h1, h2]

/-- What a round that goes on keeps: what lies below n₀; the two boxes that the iterator reads. -/
def KeepB (n₀ b1 b2 : Nat) (lo hi : Int) (W W' : World) : Prop :=
  Below n₀ W W' ∧ (W.cell? ⟨b1, 0, none⟩ = some (.int .i64 lo) → W'.cell? ⟨b1, 0, none⟩ = some (.int .i64 lo)) ∧ (W.cell? ⟨b2, 0, none⟩ = some (.int .i64 hi) → W'.cell? ⟨b2, 0, none⟩ = some (.int .i64 hi))
theorem keepB_t {n₀ b1 b2 : Nat} {lo hi : Int} {A B C : World} (h : KeepB n₀ b1 b2 lo hi A B) (k : KeepB n₀ b1 b2 lo hi B C) : KeepB n₀ b1 b2 lo hi A C :=
  ⟨h.1.trans k.1, fun e => k.2.1 (h.2.1 e), fun e => k.2.2 (h.2.2 e)⟩
theorem keepB_b {w : World} {n₀ b1 b2 : Nat} {lo hi : Int} (hn : n₀ ≤ w.heap.size) (W : World) (l : Nat) (o o' : Obj) (hl : w.heap.size ≤ l) (ho : W.heap[l]? = some o) (hc : o.isCells = false) (hw : o.isWalk = false) : KeepB n₀ b1 b2 lo hi W (W.putObj l o') :=
  ⟨belowK_b (w := w) hn W l o o' hl ho hc hw, fun e => cell_kept e (grownBy_putObj' W l o') (fun r e' => by cases e'; exact ⟨o, ho, hc⟩), fun e => cell_kept e (grownBy_putObj' W l o') (fun r e' => by cases e'; exact ⟨o, ho, hc⟩)⟩

set_option maxRecDepth 100000 in
set_option maxHeartbeats 4000000 in
theorem between1_in (F : Fence) (n : Nat) (h1 : F.fn 111) (hro : F.round = none) (hn : 1 ≤ n) (l n₀ Bb Bf Bu : Nat) (A : Option Addr) (m cap : Nat) (lo hi : Int) (zs : List It) (J Jx : List It → World → Prop) (B0 : Nat) (hJ : AbidesFrom B0 J) (W : World)
    (hY : ∀ pre x W, J pre W → pre.length < zs.length → YieldAt F (n - 1) Tryz.prog l #[itV x] W fun e W' => (e = .returned (.bool true) ∧ J (pre ++ [x]) W' ∧ KeepB n₀ Bf Bu lo hi W W') ∨ (e = .returned (.bool false) ∧ Jx (pre ++ [x]) W'))
    (hBb : W.cell? ⟨Bb, 0, none⟩ = some (.slice A m cap)) (hBf : W.cell? ⟨Bf, 0, none⟩ = some (.int .i64 lo)) (hBu : W.cell? ⟨Bu, 0, none⟩ = some (.int .i64 hi)) (hn₀ : n₀ ≤ W.heap.size)
    (hA : ∀ W', Below n₀ W W' → Rd It.vs 4 W' 0 A m zs) (h0 : J [] W) :
    CallsIn F n Tryz.prog 111 #[.func (.yield l) #[] #[], .pointer (some ⟨Bb, 0, none⟩), .pointer (some ⟨Bf, 0, none⟩), .pointer (some ⟨Bu, 0, none⟩)] W fun e W' => (∃ v, e = .returned v) ∧ ((∃ ys, ys = cutL zs lo hi ∧ J ys W') ∨ (∃ pre, True ∧ Jx pre W')) := by
  have HY := Lib.hid hY
  have HA := Lib.hid hA
  have HJ := Lib.hid hJ
  have hmle := (hA W (Below.refl _ _)).le
  have HLN : Hid (zs.length = m) := (hA W (Below.refl _ _)).len
  clear hY hA hJ
  refine callsIn_of_wp Tryz.func111 rfl h1 ?_ hro
  simp only [Tryz.ntmps111, List.size_toArray, List.length_cons, List.length_nil, Nat.reduceAdd, Nat.reduceSub, Array.replicate_succ, Array.replicate_zero, List.push_toArray, List.append_toArray, List.nil_append, List.cons_append]
  gi_wp2
  gi_loopw [9] (fun i wr => ∃ k : Nat, k ≤ m ∧ i = .int .i64 k ∧ J (cutL (zs.take k) lo hi) wr ∧ Below n₀ W wr ∧ wr.cell? ⟨Bf, 0, none⟩ = some (.int .i64 lo) ∧ wr.cell? ⟨Bu, 0, none⟩ = some (.int .i64 hi)) (fun i _ => m - (intOf i).toNat)
  case atStart => exact ⟨0, Nat.zero_le _, rfl, by simpa [cutL] using h0, Below.refl _ _, hBf, hBu⟩
  case round =>
    obtain ⟨k, hk, rfl, hJs, hBr, hbf, hbu⟩ := hrel
    have hRk := HA.out wr hBr
    have hsz := hBr.size
    have HJs := Lib.hid hJs
    have HBR := Lib.hid hBr
    clear hJs hBr
    by_cases hlt : k < m
    · obtain ⟨b, off, x, rfl, _, hx, c0, c1, c2, c3⟩ := hRk.it_at hlt
      have HTK := Lib.hid (cutL_succ lo hi hx)
      have hlen : (cutL (zs.take k) lo hi).length < zs.length := by
        have h1 := cutL_length (zs.take k) lo hi
        have h2 := List.length_take_le k zs
        have := HLN.out
        omega
      have hbf2 := cell_al (.cells #[.int .i64 x.r.at_, .int .i64 x.r.key, .int .i64 x.r.val, .int .i64 x.n] 40) hbf
      have hbu2 := cell_al (.cells #[.int .i64 x.r.at_, .int .i64 x.r.key, .int .i64 x.r.val, .int .i64 x.n] 40) hbu
      generalize cutL (zs.take k) lo hi = L at *
      clear hx hRk
      by_cases h1 : lo ≤ x.r.at_
      · have q1 : decide (lo ≤ x.r.at_) = true := by simpa using h1
        by_cases h2 : x.r.at_ < hi
        · have q2 : decide (x.r.at_ < hi) = true := by simpa using h2
          rw [if_pos ⟨h1, h2⟩] at HTK
          clear h1 h2
          have hJ2 : J L (wr.alloc (.cells #[.int .i64 x.r.at_, .int .i64 x.r.key, .int .i64 x.r.val, .int .i64 x.n] 40)) := HJ.out L wr _ none HJs.out (World.grownBy_alloc _ _ _) (fun r e => by cases e)
          obtain ⟨fn, tmps, assign, body, hy, hR⟩ := HY.out L x _ hJ2 hlen
          simp only [itV, It.vs] at hy
          have HRR := Lib.hid hR
          clear hR hJ2
          gi_wp2
          refine HRR.out.mono ?_
          rintro e W3 (⟨rfl, hJ3, hk3⟩ | ⟨rfl, hJx3⟩)
          · have HJ3 := Lib.hid hJ3
            have HB3 := Lib.hid ((HBR.out.alloc (Nat.le_trans hn₀ hsz) _).trans hk3.1)
            have HF3 := Lib.hid (hk3.2.1 hbf2)
            have HU3 := Lib.hid (hk3.2.2 hbu2)
            clear hJ3 hk3
            gi_wp2
            go_roundw
            case rel => exact ⟨k + 1, by omega, by go_num, by rw [HTK.out]; exact HJ3.out, HB3.out, HF3.out, HU3.out⟩
            case measure => simp [intOf]; omega
          · gi_wp2
            refine bodyPost_ret (results_none rfl _ _ _) rfl ?_
            exact ⟨⟨_, rfl⟩, .inr ⟨_, trivial, hJx3⟩⟩
        · have q2 : decide (x.r.at_ < hi) = false := by simpa using h2
          rw [if_neg (fun h => h2 h.2)] at HTK
          clear h1 h2
          have HJ2 := Lib.hid (HJ.out L wr _ none HJs.out (World.grownBy_alloc wr (.cells #[.int .i64 x.r.at_, .int .i64 x.r.key, .int .i64 x.r.val, .int .i64 x.n] 40) _) (fun r e => by cases e))
          gi_wp2
          refine ⟨fun _ h => (by cases h), ?_⟩
          gi_wp2
          go_roundw
          case rel => exact ⟨k + 1, by omega, by go_num, by rw [HTK.out, List.append_nil]; exact HJ2.out, HBR.out.alloc (Nat.le_trans hn₀ hsz) _, hbf2, hbu2⟩
          case measure => simp [intOf]; omega
      · have q1 : decide (lo ≤ x.r.at_) = false := by simpa using h1
        rw [if_neg (fun h => h1 h.1)] at HTK
        clear h1
        have HJ2 := Lib.hid (HJ.out L wr _ none HJs.out (World.grownBy_alloc wr (.cells #[.int .i64 x.r.at_, .int .i64 x.r.key, .int .i64 x.r.val, .int .i64 x.n] 40) _) (fun r e => by cases e))
        gi_wp2
        refine ⟨fun _ h => (by cases h), ?_⟩
        gi_wp2
        go_roundw
        case rel => exact ⟨k + 1, by omega, by go_num, by rw [HTK.out, List.append_nil]; exact HJ2.out, HBR.out.alloc (Nat.le_trans hn₀ hsz) _, hbf2, hbu2⟩
        case measure => simp [intOf]; omega
    · obtain rfl : k = m := by omega
      have et : zs.take k = zs := List.take_of_length_le (by rw [HLN.out]; exact Nat.le_refl _)
      rw [et] at HJs
      gi_wp2
      go_end0
      exact ⟨⟨_, rfl⟩, .inl ⟨_, rfl, HJs.out⟩⟩
set_option maxHeartbeats 1000000 in
theorem between_in (F : Fence) (n : Nat) (h1 : F.fn 83) (hro : F.round = none) (A : Option Addr) (m cap : Nat) (lo hi : Int) (w : World) :
    CallsIn F n Tryz.prog 83 #[.slice A m cap, .int .i64 lo, .int .i64 hi] w fun e w' => e = .returned (.func (.func 111) #[] #[.pointer (some ⟨w.heap.size, 0, none⟩), .pointer (some ⟨w.heap.size + 1, 0, none⟩), .pointer (some ⟨w.heap.size + 2, 0, none⟩)]) ∧ w' = ((w.alloc (.cells #[.slice A m cap] 23)).alloc (.cells #[.int .i64 lo] 3)).alloc (.cells #[.int .i64 hi] 3) := by
  refine callsIn_of_wp Tryz.func83 rfl h1 ?_ hro
  simp only [Tryz.ntmps83, List.size_toArray, List.length_cons, List.length_nil, Nat.reduceAdd, Nat.reduceSub, Array.replicate_succ, Array.replicate_zero, List.push_toArray, List.append_toArray, List.nil_append, List.cons_append]
  gi_wp2
  go_ret
  exact ⟨rfl, rfl⟩

/-- The iterator's contract. -/
theorem between_stops (F : Fence) (n : Nat) (h1 : F.fn 111) (hro : F.round = none) (hn : 1 ≤ n) (n₀ Bb Bf Bu : Nat) (A : Option Addr) (m cap : Nat) (lo hi : Int) (zs : List It) (w : World)
    (hBb : w.cell? ⟨Bb, 0, none⟩ = some (.slice A m cap)) (hBf : w.cell? ⟨Bf, 0, none⟩ = some (.int .i64 lo)) (hBu : w.cell? ⟨Bu, 0, none⟩ = some (.int .i64 hi)) (hn₀ : n₀ ≤ w.heap.size)
    (hA : ∀ W', Below n₀ w W' → Rd It.vs 4 W' 0 A m zs) :
    SeqStopsK F n Tryz.prog 111 #[.pointer (some ⟨Bb, 0, none⟩), .pointer (some ⟨Bf, 0, none⟩), .pointer (some ⟨Bu, 0, none⟩)] (fun x : It => #[itV x]) (KeepB n₀ Bf Bu lo hi) (fun ys => ys = cutL zs lo hi) (fun _ => True) zs.length w := fun l J Jx W hW hJ _ hY h0 =>
  between1_in F n h1 hro hn l n₀ Bb Bf Bu A m cap lo hi zs J Jx _ hJ W hY ((hW.cell (World.block_lt_of_cell? w _ hBb)).trans hBb) ((hW.cell (World.block_lt_of_cell? w _ hBf)).trans hBf) ((hW.cell (World.block_lt_of_cell? w _ hBu)).trans hBu) (Nat.le_trans hn₀ hW.size) (fun W' h => hA W' ((hW.mono hn₀).trans h)) h0
end Go.Proofs.Bg
end

section
/- What a loop over an iterator collects; marks at a function's return. -/
namespace Go.Proofs.Bg
open Go.RowKit Go.Shelf
attribute [local go_sem] Oper.semAt_some

/-- 'append(s, x)' in a fence, x in a new block. -/
theorem wpListIn_app1 {α : Type} {F : Fence} {n : Nat} {P : Program} {w : World} {ops : Array Oper} {rest : List Oper} {o : Oper} {a : Act} {Q : Exit → Act → World → Prop} (enc : α → List Value) (sz : Nat) (e : TypeId) (z : Value) (bytes : Nat) (hinf : (P.info? e).map (fun i => (i.zero, i.size, i.bytes)) = some (some z, sz, bytes)) (hzs : z.cells.size = sz) (hsz : 0 < sz)
    (hgd : o.guard = none) (s x : Operand) (t : TypeId) (ho : o.op = .call { callee := .builtin .append, args := #[s, x], argTypes := #[t, t] }) (ht : P.underlying t = some (.slice e)) (base : Nat) (v : Value) (l : List α) (hs : a.eval s = v) (hown : Own enc sz e base w v l)
    (y : α) (ad : Addr) (c : Nat) (hx : a.eval x = .slice (some ad) 1 c) (hl : (enc y).length = sz) (hnews : ∀ j u, (enc y)[j]? = some u → w.cell? (ad.add j) = some u) (h1 : ∀ u ∈ enc y, u.oneCell' = true)
    (hbytes : (l.length + 1) * bytes ≤ 140737488355328) (h63 : l.length + 1 ≤ maxLen) (hbase : base ≤ w.heap.size)
    (h : ∀ v' w', Own enc sz e base w' v' (l ++ [y]) → w.grownBy w' v.ownBlock → wpListIn F n P ops Q rest (a.put o.dst v') w') : wpListIn F n P ops Q (o :: rest) a w := by
  obtain ⟨i, hi, hz0, hz1, hz2⟩ := info_parts hinf
  refine wpListIn_append_own w hgd s x t ho base e i z sz bytes ht hi hz0 hz1 hz2 hzs hsz v l.length (l.flatMap enc) hs hown ad 1 c (enc y) hx (by rw [hl]; omega) hnews h1 h63 hbytes hbase fun v' w' h2 h3 _ => h v' w' ?_ h3
  unfold Own
  rw [List.length_append, List.flatMap_append]
  simpa using h2

/-- Behind the marks: what was cells is as it was; below base nothing has turned. -/
structure Shut (base : Nat) (w w' : World) : Prop where
  below : Below base w w'
  same : ∀ (k : Nat) (o : Obj), w.heap[k]? = some o → o.isCells = true → w'.heap[k]? = some o
theorem Shut.refl (base : Nat) (w : World) : Shut base w w := ⟨Below.refl _ _, fun _ _ h _ => h⟩
theorem Shut.cell {base : Nat} {w w' : World} (h : Shut base w w') {a : Addr} {v : Value} (hc : w.cell? a = some v) : w'.cell? a = some v := by
  have hb : ∃ o, w.heap[a.block]? = some o ∧ o.isCells = true := by
    unfold World.cell? at hc
    split at hc
    · rename_i cs T fr hh
      exact ⟨_, hh, rfl⟩
    · cases hc
  obtain ⟨o, h1, h2⟩ := hb
  have h3 := h.same _ _ h1 h2
  unfold World.cell? at hc ⊢
  rw [h3]
  rw [h1] at hc
  exact hc
theorem Rd.shut {α : Type} {enc : α → List Value} {sz base lo n : Nat} {A : Option Addr} {w w' : World} {l : List α} (h : Rd enc sz w lo A n l) (hs : Shut base w w') : Rd enc sz w' lo A n l :=
  ⟨h.1, h.2.1, fun hn => by
    obtain ⟨b, off, e, hl, hc⟩ := h.2.2 hn
    exact ⟨b, off, e, hl, fun i x hx j v hv => hs.cell (hc i x hx j v hv)⟩⟩

def mark (D : Nat) : Deferred := { target := .collected D, args := #[] }
theorem leaves_marks {F : Fence} {n : Nat} {P : Program} {fn : Func} {tmps : Array Value} {R : Ending → World → Prop} {v : Value} (base : Nat) (hres : ∀ w, (results fn tmps).run P w = .ok v w) : ∀ (ds : List Nat) (w : World), ds.Nodup → (∀ D ∈ ds, base ≤ D ∧ w.heap[D]? = some (.deferred (some []))) → (∀ w', Shut base w w' → R (.returned v) w') → LeavesInM F n P fn tmps R (ds.map mark) .returning w
  | [], w, _, _, hR => ⟨v, hres w, hR w (Shut.refl _ _)⟩
  | D :: ds, w, hn, hd, hR => by
    obtain ⟨hb, hD⟩ := hd D List.mem_cons_self
    refine ⟨by simp, .inl ⟨D, _, rfl, run_takeDeferred hD, ?_⟩⟩
    refine leaves_marks base hres ds _ (List.nodup_cons.1 hn).2 (fun D' h' => ?_) (fun w' hw' => hR w' ⟨?_, fun k o hk ho => ?_⟩)
    · obtain ⟨h1, h2⟩ := hd D' (List.mem_cons_of_mem _ h')
      refine ⟨h1, (World.putObj_heap_other (fun e => ?_)).trans h2⟩
      subst e
      exact (List.nodup_cons.1 hn).1 h'
    · exact Below.trans (a := w) (B := base) (show Below base w (w.putObj D (.deferred none)) from ⟨rfl, rfl, rfl, by simp, fun i hi => World.putObj_heap_other (by omega)⟩) hw'.below
    · refine hw'.same k o ((World.putObj_heap_other (fun e => ?_)).trans hk) ho
      subst e
      rw [hD] at hk
      cases hk
      cases ho
theorem ret_marks {F : Fence} {n : Nat} {P : Program} {fn : Func} {tmps : Array Value} {R : Ending → World → Prop} {v : Value} {w : World} (base : Nat) (ds : List Nat) (hres : ∀ w, (results fn tmps).run P w = .ok v w) (hn : ds.Nodup) (hd : ∀ D ∈ ds, base ≤ D ∧ w.heap[D]? = some (.deferred (some []))) (hR : ∀ w', Shut base w w' → R (.returned v) w') : bodyPostM F n P fn R .ret { tmps := tmps, defers := ds.map mark } w :=
  leaves_marks base hres ds w hn hd hR
theorem ret_none {F : Fence} {n : Nat} {P : Program} {fn : Func} {tmps : Array Value} {R : Ending → World → Prop} {v : Value} {w : World} (hres : (results fn tmps).run P w = .ok v w) (hR : R (.returned v) w) : bodyPostM F n P fn R .ret { tmps := tmps, defers := [] } w := ⟨v, hres, hR⟩


/-- What the loop over between's iterator holds: the box of what has been collected, the iterator's two boxes. -/
structure ColI (base : Nat) (w : World) (Bo Bf Bu : Nat) (lo hi : Int) (L : List It) (W : World) : Prop where
  out : ∃ v, Boxed W Bo 23 v ∧ Own It.vs 4 40 base W v L
  bf : Boxed W Bf 3 (.int .i64 lo)
  bu : Boxed W Bu 3 (.int .i64 hi)
  below : Below base w W

theorem box_row {X : World} {row : Option Nat} (hr : ∀ r, row = some r → ∃ o : Obj, X.heap[r]? = some o ∧ o.isCells = false) {B : Nat} {t : TypeId} {v : Value} (h : Boxed X B t v) : some B ≠ row := fun e => by
  obtain ⟨o, ho, hc⟩ := hr B e.symm
  rw [show X.heap[B]? = _ from h] at ho
  cases ho
  cases hc
theorem own_row {α : Type} {enc : α → List Value} {sz : Nat} {T : TypeId} {base : Nat} {v : Value} {l : List α} {X : World} {row : Option Nat} (hr : ∀ r, row = some r → ∃ o : Obj, X.heap[r]? = some o ∧ o.isCells = false) (h : Own enc sz T base X v l) : v.ownBlock = none ∨ v.ownBlock ≠ row := by
  rcases h.2 with ⟨e, _⟩ | ⟨g, cap, cur, e, _, hb, _⟩
  · exact .inl (by rw [e]; rfl)
  · refine .inr fun e' => ?_
    rw [e] at e'
    obtain ⟨o, ho, hc⟩ := hr g e'.symm
    rw [hb] at ho
    cases ho
    cases hc
theorem ColI.from {base B : Nat} {w : World} {Bo Bf Bu : Nat} {lo hi : Int} {f : List It → List It} (hw : base ≤ w.heap.size) (hB : base ≤ B) : OwnFrom B (fun pre W => ColI base w Bo Bf Bu lo hi (f pre) W) := fun s X Y row h hg hr => by
  obtain ⟨v, hv, ho⟩ := h.out
  have hr' := fun r e => (hr r e).2
  exact ⟨⟨v, hv.kept hg (box_row hr' hv), ho.grown hg (own_row hr' ho)⟩, h.bf.kept hg (box_row hr' h.bf), h.bu.kept hg (box_row hr' h.bu), h.below.grown hg (Nat.le_trans hw h.below.size) (fun g e => Nat.le_trans hB (hr g e).1)⟩
theorem ColI.alloc {base : Nat} {w W : World} {Bo Bf Bu : Nat} {lo hi : Int} {L : List It} (h : ColI base w Bo Bf Bu lo hi L W) (hw : base ≤ w.heap.size) (o : Obj) : ColI base w Bo Bf Bu lo hi L (W.alloc o) := by
  obtain ⟨v, hv, ho⟩ := h.out
  exact ⟨⟨v, hv.alloc o, ho.alloc o⟩, h.bf.alloc o, h.bu.alloc o, h.below.alloc (Nat.le_trans hw h.below.size) o⟩
theorem ColI.set {base : Nat} {w W : World} {Bo Bf Bu Bx : Nat} {lo hi : Int} {L : List It} (h : ColI base w Bo Bf Bu lo hi L W) {v : Value} (hv : Boxed W Bo 23 v) (hne : v.ownBlock ≠ some Bx) (h1 : Bo ≠ Bx) (h2 : Bf ≠ Bx) (h3 : Bu ≠ Bx) (h4 : base ≤ Bx) (u : Value) :
    ColI base w Bo Bf Bu lo hi L (W.setCell ⟨Bx, 0, none⟩ u) ∧ Boxed (W.setCell ⟨Bx, 0, none⟩ u) Bo 23 v := by
  obtain ⟨v', hv', ho⟩ := h.out
  have e : v' = v := by
    have := (show W.heap[Bo]? = _ from hv').symm.trans hv
    simpa using this
  subst e
  exact ⟨⟨⟨v', hv'.other h1 u, ho.grown (grownBy_setCell' W Bx u) (.inr hne)⟩, h.bf.other h2 u, h.bu.other h3 u, h.below.setCell (p := ⟨Bx, 0, none⟩) h4 u⟩, hv'.other h1 u⟩
theorem ColI.at_ {base : Nat} {w W : World} {Bo Bf Bu : Nat} {lo hi : Int} {L : List It} (h : ColI base w Bo Bf Bu lo hi L W) {v : Value} (hv : Boxed W Bo 23 v) : Own It.vs 4 40 base W v L := by
  obtain ⟨v', hv', ho⟩ := h.out
  have e : v' = v := by
    have := (show W.heap[Bo]? = _ from hv').symm.trans hv
    simpa using this
  subst e
  exact ho
theorem ColI.app {base : Nat} {w W w2 : World} {Bo Bf Bu : Nat} {lo hi : Int} {L : List It} {y : It} {v v' : Value} {o : Obj} (h : ColI base w Bo Bf Bu lo hi L W) (hw : base ≤ w.heap.size) (hBo : base ≤ Bo) (hv : Boxed W Bo 23 v) (ho : Own It.vs 4 40 base W v L) (h1 : Bf ≠ Bo) (h2 : Bu ≠ Bo) (hown : Own It.vs 4 40 base w2 v' (L ++ [y])) (hg : (W.alloc o).grownBy w2 v.ownBlock) :
    Boxed w2 Bo 23 v ∧ KeepsOthers W (w2.setCell ⟨Bo, 0, none⟩ v') ∧ Below base W (w2.setCell ⟨Bo, 0, none⟩ v') ∧ ColI base w Bo Bf Bu lo hi (L ++ [y]) (w2.setCell ⟨Bo, 0, none⟩ v') := by
  obtain ⟨p1, p2, p3, p4, p5⟩ := hv.appended (by decide) ho (Nat.le_trans hw h.below.size) hBo hown hg
  have hoA := ho.alloc o
  exact ⟨p1, p4, p5, ⟨v', p2, p3⟩, ((h.bf.alloc o).kept hg ((h.bf.alloc o).not_row (by decide) hoA)).other h1 v', ((h.bu.alloc o).kept hg ((h.bu.alloc o).not_row (by decide) hoA)).other h2 v', h.below.trans p5⟩
theorem Boxed.past {base : Nat} {W w2 : World} {B B' : Nat} {t : TypeId} {u v x : Value} {L : List It} {o : Obj} (h : Boxed W B t u) (ht : t ≠ 40) (ho : Own It.vs 4 40 base W v L) (hg : (W.alloc o).grownBy w2 v.ownBlock) (hne : B ≠ B') : Boxed (w2.setCell ⟨B', 0, none⟩ x) B t u :=
  ((h.alloc o).kept hg ((h.alloc o).not_row ht (ho.alloc o))).other hne x
/-- The box of the loop's variable. -/
def ItBox (Bo Bx : Nat) (x : It) (W : World) : Prop :=
  W.heap[Bx]? = some (.cells #[.int .i64 x.r.at_, .int .i64 x.r.key, .int .i64 x.r.val, .int .i64 x.n] 40 (0, 0)) ∧ ∃ v, Boxed W Bo 23 v ∧ v.ownBlock ≠ some Bx
theorem ItBox.from (B Bo Bx : Nat) (x : It) : OwnFrom B (fun (_ : Unit) W => ItBox Bo Bx x W) := fun s X Y row h hg hr => by
  obtain ⟨hx, v, hv, hne⟩ := h
  have hr' := fun r e => (hr r e).2
  refine ⟨(hg.block Bx (Array.getElem?_eq_some_iff.1 hx).1 (fun e => ?_)).trans hx, v, hv.kept hg (box_row hr' hv), hne⟩
  obtain ⟨o, ho, hc⟩ := hr' Bx e.symm
  rw [hx] at ho
  cases ho
  cases hc
end Go.Proofs.Bg
end

section
/- The contract of Shift. -/
namespace Go.Proofs.Bg
open Go.RowKit Go.Shelf
attribute [local go_sem] Oper.semAt_some

def shW (c : Int) (x : It) : It := ⟨⟨wrap64 (x.r.at_ + c), x.r.key, x.r.val⟩, x.n⟩

set_option maxRecDepth 100000 in
set_option maxHeartbeats 4000000 in
theorem Shift_any (A : Option Addr) (m cap : Nat) (c : Int) (l : List It) (w : World) (hA : Rd It.vs 4 w 0 A m l) :
    Calls Tryz.prog 37 #[.slice A m cap, .int .i64 c] w (RetNew w (shiftR l c)) := by
  have HA := Lib.hid hA
  have HLA : Hid (l.length = m) := hA.len
  have hbw : Below w.heap.size w (w.alloc (.cells #[.int .i64 c] 3)) := (Below.refl _ w).alloc (Nat.le_refl _) _
  have Q1 := Lib.hid (isBag_any A m cap l _ (hA.below hbw))
  have HBW := Lib.hid hbw
  clear hA hbw
  refine (callsIn_wide (n := 6)).1 ?_
  refine callsIn_of_wp_marks Tryz.func37 rfl trivial ?_ rfl
  simp only [Tryz.ntmps37, List.size_toArray, List.length_cons, List.length_nil, Nat.reduceAdd, Nat.reduceSub, Array.replicate_succ, Array.replicate_zero, List.push_toArray, List.append_toArray, List.nil_append, List.cons_append]
  cases ga : bagB l with
  | false =>
    have e1 : shiftR l c = ([], 2) := by simp [shiftR, ga]
    rw [e1]
    have GA := Lib.hid ga
    clear ga e1
    gi_wp2_with (refine ⟨trivial, ?_⟩; gi_at_call 47; refine (callsIn_wide.2 Q1.out).mono ?_; rintro e w1 ⟨rfl, hb1⟩; rw [GA.out]; have HB1 := Lib.hid hb1; clear hb1)
    refine ret_none (results_tmp2 rfl _ _ _) ?_
    exact ⟨⟨_, _, _, rfl, Rd.nil _ _ _⟩, bchain HBW.out HB1.out⟩
  | true =>
    have hn300 : m ≤ 300 := by rw [← HLA.out]; exact bag_le ga
    have HT : Hid ((∀ b, withinB c (-200) 200 = b → shiftR l c = (if b = true then shiftL l c else [], 0))) := by
      intro b hb
      subst hb
      simp [shiftR, ga, withinB]
    have GA := Lib.hid ga
    clear ga
    cases gw : withinB c (-200) 200 with
    | false =>
      rw [HT.out _ gw]
      have GW := Lib.hid gw
      clear gw
      gi_wp2_with fail
      refine ⟨trivial, ?_⟩
      gi_at_call 47
      refine (callsIn_wide.2 Q1.out).mono ?_
      rintro e w1 ⟨rfl, hb1⟩
      rw [GA.out]
      have hcc : w1.cell? ⟨w.heap.size, 0, none⟩ = some (.int .i64 c) := (hb1.cell (p := ⟨w.heap.size, 0, none⟩) (by simp)).trans (newAt w [.int .i64 c] 3 _ rfl 0 _ rfl)
      have hcb := cell_al (.cells #[.slice none 0 0] 23) hcc
      have HB1 := Lib.hid (bchain HBW.out hb1)
      clear hb1
      gi_wp2_with (refine ⟨trivial, ?_⟩; gi_at_call 67; refine (callsIn_wide.2 (within_any c (-200) 200 _)).mono ?_; rintro e w2 ⟨rfl, rfl⟩; rw [GW.out])
      refine ret_none (results_tmp2 rfl _ _ _) ?_
      exact ⟨⟨_, _, _, rfl, Rd.nil _ _ _⟩, HB1.out.alloc HB1.out.size _⟩
    | true =>
      rw [HT.out _ gw]
      have GW := Lib.hid gw
      have hc200 : -200 ≤ c ∧ c ≤ 200 := by simpa [withinB] using gw
      clear gw
      gi_wp2_with fail
      refine ⟨trivial, ?_⟩
      gi_at_call 47
      refine (callsIn_wide.2 Q1.out).mono ?_
      rintro e w1 ⟨rfl, hb1⟩
      rw [GA.out]
      have hcc : w1.cell? ⟨w.heap.size, 0, none⟩ = some (.int .i64 c) := (hb1.cell (p := ⟨w.heap.size, 0, none⟩) (by simp)).trans (newAt w [.int .i64 c] 3 _ rfl 0 _ rfl)
      have hcb := cell_al (.cells #[.slice none 0 0] 23) hcc
      have HBX := Lib.hid hb1
      have HB1 := Lib.hid (bchain HBW.out hb1)
      clear hb1
      have w1n : IntKind.i64.wrap (-c) = -c := IntWalk.i64_in _ (by omega)
      have w2n : IntKind.i64.wrap (201 - c) = 201 - c := IntWalk.i64_in _ (by omega)
      gi_wp2_with (first | (refine ⟨trivial, ?_⟩; gi_at_call 67; refine (callsIn_wide.2 (within_any c (-200) 200 _)).mono ?_; rintro e w2 ⟨rfl, rfl⟩; rw [GW.out]) | (refine ⟨trivial, ?_⟩; gi_at_call 83; refine (between_in Fence.wide _ trivial rfl A m cap (-c) (201 - c) _).mono ?_; rintro e w2 ⟨rfl, rfl⟩))
      have bo := ((Boxed.new w1 23 (.slice none 0 0)).alloc (.cells #[.slice A m cap] 23)).alloc (.cells #[.int .i64 (-c)] 3) |>.alloc (.cells #[.int .i64 (201 - c)] 3)
      have bb := ((Boxed.new (w1.alloc (.cells #[.slice none 0 0] 23)) 23 (.slice A m cap)).alloc (.cells #[.int .i64 (-c)] 3)).alloc (.cells #[.int .i64 (201 - c)] 3)
      have bf := (Boxed.new ((w1.alloc (.cells #[.slice none 0 0] 23)).alloc (.cells #[.slice A m cap] 23)) 3 (.int .i64 (-c))).alloc (.cells #[.int .i64 (201 - c)] 3)
      have bu := Boxed.new (((w1.alloc (.cells #[.slice none 0 0] 23)).alloc (.cells #[.slice A m cap] 23)).alloc (.cells #[.int .i64 (-c)] 3)) 3 (.int .i64 (201 - c))
      have bn : Boxed w1 w.heap.size 3 (.int .i64 c) := (HBX.out.block _ (by simp)).trans (Boxed.new w 3 (.int .i64 c))
      replace bn := (((bn.alloc (.cells #[.slice none 0 0] 23)).alloc (.cells #[.slice A m cap] 23)).alloc (.cells #[.int .i64 (-c)] 3)).alloc (.cells #[.int .i64 (201 - c)] 3)
      have hs1 := HBX.out.size
      have hB0 : Below w.heap.size w ((((w1.alloc (.cells #[.slice none 0 0] 23)).alloc (.cells #[.slice A m cap] 23)).alloc (.cells #[.int .i64 (-c)] 3)).alloc (.cells #[.int .i64 (201 - c)] 3)) := (((HB1.out.alloc HB1.out.size _).alloc (by simp at hs1 ⊢; omega) _).alloc (by simp at hs1 ⊢; omega) _).alloc (by simp at hs1 ⊢; omega) _
      have hsz : ((((w1.alloc (.cells #[.slice none 0 0] 23)).alloc (.cells #[.slice A m cap] 23)).alloc (.cells #[.int .i64 (-c)] 3)).alloc (.cells #[.int .i64 (201 - c)] 3)).heap.size = w1.heap.size + 4 := by simp
      simp only [World.size_alloc] at bb bf bu hs1
      obtain ⟨W0, hW0⟩ : ∃ W0, (((w1.alloc (.cells #[.slice none 0 0] 23)).alloc (.cells #[.slice A m cap] 23)).alloc (.cells #[.int .i64 (-c)] 3)).alloc (.cells #[.int .i64 (201 - c)] 3) = W0 := ⟨_, rfl⟩
      rw [hW0] at bo bb bf bu bn hB0 hsz ⊢
      clear hW0 hcb hcc
      generalize w1.heap.size = s1 at *
      refine wpIn_rangeFunc_ownH rfl (by decide) (gf := 111) (lb := #[.pointer (some ⟨s1 + 1, 0, none⟩), .pointer (some ⟨s1 + 1 + 1, 0, none⟩), .pointer (some ⟨s1 + 1 + 2, 0, none⟩)]) rfl trivial (enters_of Tryz.func111 (by kernel_rfl) rfl)
        (between_stops Fence.wide _ trivial rfl (by decide) w.heap.size (s1 + 1) (s1 + 1 + 1) (s1 + 1 + 2) A m cap (-c) (201 - c) l W0 bb.cell bf.cell bu.cell hB0.size (fun W' h => HA.out.below (hB0.trans h))) keepB_t (keepB_b hB0.size) (Below.refl _ _) (fun _ => rfl)
        (fun pre W => ColI w.heap.size w s1 (s1 + 1 + 1) (s1 + 1 + 2) (-c) (201 - c) (pre.map (shW c)) W ∧ (Boxed W w.heap.size 3 (.int .i64 c) ∧ W0.heap.size ≤ W.heap.size))
        (fun _ _ _ => False)
        (OwnFrom.and (ColI.from (Nat.le_refl _) hB0.size) (OwnFrom.and (Go.Own.from (boxed_own _ _ _) _) (fun _ _ _ _ h hg _ => Nat.le_trans h hg.size)))
        (fun _ _ _ _ _ hs _ _ => hs)
        ⟨⟨⟨_, bo, Own.nil _ _ _ _ _⟩, bf, bu, hB0⟩, bn, Nat.le_refl _⟩
        (fun x a' W => ∃ Bx, W0.heap.size ≤ Bx ∧ ItBox s1 Bx x W ∧ a' = { tmps := #[.slice A m cap, .int .i64 c, undef, .pointer (some ⟨w.heap.size, 0, none⟩), .slice none 0 0, .int .i64 0, .pointer (some ⟨s1, 0, none⟩), .pointer (some ⟨Bx, 0, none⟩), .slice A m cap, .bool true, .bool false, .int .i64 c, .bool true, .bool false, undef, .slice A m cap, .int .i64 c, .int .i64 (-c), .int .i64 c, .int .i64 (201 - c), .func (.func 111) #[] #[.pointer (some ⟨s1 + 1, 0, none⟩), .pointer (some ⟨s1 + 1 + 1, 0, none⟩), .pointer (some ⟨s1 + 1 + 2, 0, none⟩)], itV x, undef, undef, undef, undef, undef, undef, undef, undef, undef, undef, undef, undef], defers := [] })
        (fun x a' _ X Y row hs hg hr => by obtain ⟨Bx, h1, h2, h3⟩ := hs; exact ⟨Bx, h1, ItBox.from _ s1 Bx x () X Y row h2 hg hr, h3⟩)
        ?assign ?body ?done ?stop
      case assign =>
        rintro ll pre x W K ⟨hc1, hn1, hz1⟩ hK
        simp only [itV, It.vs]
        have hnew := new_block W #[.int .i64 x.r.at_, .int .i64 x.r.key, .int .i64 x.r.val, .int .i64 x.n] 40
        gi_wp2
        obtain ⟨v, hv, ho⟩ := hc1.out
        have hsW := hc1.below.size
        have hs0 := hB0.size
        refine hK _ _ ((KeepsOthers.alloc _ _).from _) ⟨(Below.refl _ W).alloc hc1.below.size _, cell_al _, cell_al _⟩ ⟨hc1.alloc (Nat.le_refl _) _, hn1.alloc _, by simp; omega⟩ ⟨W.heap.size, hz1, ⟨hnew, v, hv.alloc _, fun e => by have := (ho.blk _ e).2; omega⟩, rfl⟩
      case body =>
        rintro ll pre x a' W hl ⟨r, hr⟩ ⟨hc1, hn1, hz1⟩ ⟨Bx, hBx, ⟨hbx, v, hv, hne⟩, rfl⟩ hlt
        have bc := hn1.cell
        have bvc := hv.cell
        have d0 := cell_at_block (off := 0) hbx rfl
        have d1 := cell_at_block (off := 1) hbx rfl
        have d2 := cell_at_block (off := 2) hbx rfl
        have d3 := cell_at_block (off := 3) hbx rfl
        have z0 := free_at_block (off := 0) hbx
        have hbase : w.heap.size ≤ Bx := Nat.le_trans hB0.size hBx
        have hs1x : s1 + 4 ≤ Bx := by omega
        obtain ⟨Av, cv, rfl⟩ := (hc1.at_ hv).shape
        obtain ⟨hcS, hvS⟩ := hc1.set hv hne (by omega) (by omega) (by omega) hbase (.int .i64 (wrap64 (x.r.at_ + c)))
        have hoS := hcS.at_ hvS
        have hsW := hcS.below.size
        have hnS := hn1.other (B' := Bx) (by omega) (.int .i64 (wrap64 (x.r.at_ + c)))
        have hlm : (pre.map (shW c)).length ≤ 300 := by
          have := HLA.out
          rw [List.length_map]
          omega
        have hme : (pre ++ [x]).map (shW c) = pre.map (shW c) ++ [shW c x] := by simp
        have HME := Lib.hid hme
        have HKF := Lib.hid (KeepsOthers.setCell W ⟨Bx, 0, none⟩ (.int .i64 (wrap64 (x.r.at_ + c))))
        have HKB := Lib.hid ((Below.refl w.heap.size W).setCell (p := ⟨Bx, 0, none⟩) hbase (.int .i64 (wrap64 (x.r.at_ + c))))
        have HNS := Lib.hid hnS
        have HCS := Lib.hid hcS
        clear hme hnS hcS hlt
        generalize pre.map (shW c) = L at *
        gi_wp2_with (gi_at_builtin; (refine wpListIn_app1 It.vs 4 40 _ 32 infoIt rfl (by decide) rfl _ _ _ rfl Tryz.underlying23 w.heap.size _ L rfl (hoS.alloc _) (shW c x) _ _ rfl rfl (newAt _ _ _ _ (by simp)) (by simp [It.vs, Value.oneCell']) (by omega) (by unfold maxLen; omega) (by simp; omega) ?_; intro v' w2 hown' hg'; obtain ⟨p1, p2, p3, p4⟩ := HCS.out.app (Nat.le_refl _) (by omega) hvS hoS (by omega) (by omega) hown' hg'; have HP2 := Lib.hid p2; have HP3 := Lib.hid p3; have HP4 := Lib.hid p4; have HZ2 := Lib.hid (Nat.le_trans hz1 (Nat.le_trans HKF.out.size p2.size)); have HN2 := Lib.hid (Boxed.past (B' := s1) (x := v') HNS.out (by decide) hoS hg' (by omega)); obtain ⟨Av', cv', rfl⟩ := hown'.shape; have bc1 := p1.cell; have bz1 := p1.frozen; clear p2 p3 p4 hown' hg'))
        have HLE : Hid ((L ++ [shW c x]).length = L.length + 1) := by show _ = _; simp
        rw [← HLE.out]
        exact ⟨(HKF.out.trans HP2.out).from _, ⟨HKB.out.trans HP3.out, fun _ => HP4.out.bf.cell, fun _ => HP4.out.bu.cell⟩, by rw [HME.out]; exact HP4.out, HN2.out, HZ2.out⟩
      case done =>
        rintro D ys W hD rfl ⟨hc1, hn1, hz1⟩ hK
        obtain ⟨v, hv, ho⟩ := hc1.out
        have hvc := hv.cell
        obtain ⟨Av, cv, rfl⟩ := ho.shape
        have hr := ho.rdOf It.vs_length
        have HB := Lib.hid hc1.below
        have HS : Hid ((cutL l (-c) (201 - c)).map (shW c) = shiftL l c) := by
          show _ = _
          unfold shiftL
          refine List.map_congr_left fun x hx => ?_
          have := bag_at GA.out x (List.mem_filter.1 hx).1
          unfold shW shI
          rw [show wrap64 (x.r.at_ + c) = x.r.at_ + c from IntWalk.wrap64_in _ (by omega)]
        generalize ((cutL l (-c) (201 - c)).map (shW c)).length = q at hr hvc ⊢
        rw [HS.out] at hr
        have HR := Lib.hid hr
        clear hr ho hc1 hn1 hv
        gi_wp2
        refine ret_marks w.heap.size [D] (fun w => results_tmp2 rfl _ _ w) (by simp) (by simpa using ⟨by omega, hK⟩) ?_
        intro w' hw'
        exact ⟨⟨_, _, _, rfl, HR.out.shut hw'⟩, HB.out.trans hw'.below⟩
      case stop =>
        rintro D c pre W _ _ h _
        exact h.elim
end Go.Proofs.Bg
end

section
/- The contracts of the reference's Times, Cut, Later. -/
namespace Go.Proofs.Bg
open Go.RowKit

set_option maxRecDepth 100000 in
set_option maxHeartbeats 2000000 in
theorem Times_any (A : Option Addr) (n cap : Nat) (ts : List Int) (w : World) (hA : Rd iv 1 w 0 A n ts) :
    Calls Tryz.prog 84 #[.slice A n cap] w fun e w' => e = .returned (.bool (timesB ts)) ∧ Below w.heap.size w w' := by
  have HA := Lib.hid hA
  have hle := hA.le
  have HLN : Hid (ts.length = n) := hA.len
  clear hA
  go_enter Tryz.func84, Tryz.ntmps84
  go_wp2_with fail
  go_loopw [3] (fun i wr => ∃ k : Nat, (k + 1 ≤ n ∨ k = 0) ∧ i = .int .i64 (k + 1 : Nat) ∧ incB ts (k + 1) = true ∧ Below w.heap.size w wr) (fun i _ => n - (intOf i).toNat)
  case atStart => exact ⟨0, .inr rfl, rfl, incB_one _, Below.refl _ _⟩
  case round =>
    obtain ⟨k, hk, rfl, hin, hBr⟩ := hrel
    have hRk := HA.out.below hBr
    have HIN := Lib.hid hin
    have HBR := Lib.hid hBr
    clear hin hBr
    by_cases hlt : k + 1 < n
    · obtain ⟨b, off, x, e0, _, hx, c0⟩ := hRk.int_at (k := k) (by omega)
      obtain ⟨b', off', y, e1, _, hy, c1⟩ := hRk.int_at hlt
      subst e0
      cases e1
      have HX := Lib.hid hx
      have HY := Lib.hid hy
      clear hx hy hRk
      have ei : IntKind.i64.wrap (((k + 1 : Nat) : Int) - 1) = k := by rw [IntWalk.i64_in _ (by omega)]; omega
      by_cases hc : y ≤ x
      · have hd : decide (y ≤ x) = true := by simpa using hc
        have HF : Hid (timesB ts = false) := by
          show _ = _
          unfold timesB
          rw [incB_false (k := k + 1) (by omega) (by rw [HLN.out]; exact hlt) (by unfold tAt; rw [Nat.add_sub_cancel, HX.out, HY.out]; simpa using hc)]
          rfl
        clear hc
        go_wp2_with fail
        go_region
        go_wp2_with fail
        go_ret
        rw [HF.out]
        exact ⟨rfl, HBR.out.drew⟩
      · have hd : decide (y ≤ x) = false := by simpa using hc
        have HN : Hid (incB ts (k + 1 + 1) = true) := by
          show _ = _
          rw [incB_succ, HIN.out]
          unfold tAt
          rw [Nat.add_sub_cancel, HX.out, HY.out]
          simp
          omega
        clear hc
        go_wp2_with fail
        go_region
        go_wp2_with fail
        exact ⟨⟨k + 1, by omega, by go_num, HN.out, HBR.out.drew⟩, by simp [intOf]; omega⟩
    · have HF : Hid (timesB ts = decide (n ≤ 40)) := by
        show _ = _
        unfold timesB
        rw [HLN.out]
        rcases hk with h | h
        · have e : k + 1 = n := by omega
          rw [← e, HIN.out]
          rfl
        · subst h
          have hn : n = 0 ∨ n = 1 := by omega
          rcases hn with h | h <;> subst h
          · rfl
          · rw [incB_one]; rfl
      clear hRk hk
      go_wp2_with fail
      go_ret
      rw [HF.out]
      exact ⟨by show Ending.returned (.bool (decide ((n : Int) ≤ 40))) = _; congr 2; rw [decide_eq_decide]; omega, HBR.out⟩

set_option maxRecDepth 100000 in
set_option maxHeartbeats 2000000 in
theorem Cut_any (A : Option Addr) (n cap : Nat) (lo hi : Int) (l : List It) (w : World) (hA : Rd It.vs 4 w 0 A n l) (hn : n ≤ 300) :
    Calls Tryz.prog 46 #[.slice A n cap, .int .i64 lo, .int .i64 hi] w fun e w' => ∃ v, e = .returned v ∧ Own It.vs 4 40 w.heap.size w' v (cutR l lo hi) ∧ Below w.heap.size w w' := by
  have HA := Lib.hid hA
  have hle := hA.le
  have HLN : Hid (l.length = n) := hA.len
  clear hA
  go_enter Tryz.func46, Tryz.ntmps46
  go_wp2_with fail
  go_loopw [7, 12] (fun v i wr => ∃ k : Nat, k ≤ n ∧ i = .int .i64 k ∧ ItsRel w (cutR (l.take k) lo hi) v wr) (fun _ i _ => n - (intOf i).toNat)
  case atStart => exact ⟨0, by omega, rfl, by simpa [cutR] using Own.nil _ _ _ _ _, Below.refl _ _⟩
  case round =>
    obtain ⟨k, hk, rfl, hown, hBr⟩ := hrel
    obtain ⟨A3, cap3, rfl⟩ := hown.shape
    have hRk := HA.out.below hBr
    have HO := Lib.hid hown
    have HBR := Lib.hid hBr
    have hsz := hBr.size
    have hlen : (cutR (l.take k) lo hi).length ≤ 300 := by
      have h1 := cutR_length (l.take k) lo hi
      have h2 := List.length_take_le k l
      omega
    clear hown hBr
    by_cases hlt : k < n
    · obtain ⟨b, off, x, rfl, _, hx, c0, c1, c2, c3⟩ := hRk.it_at hlt
      have HTK := Lib.hid (cutR_succ lo hi hx)
      generalize cutR (l.take k) lo hi = L at *
      clear hx hRk
      by_cases h1 : lo ≤ x.r.at_
      · have q1 : decide (lo ≤ x.r.at_) = true := by simpa using h1
        by_cases h2 : x.r.at_ ≤ hi
        · have q2 : decide (x.r.at_ ≤ hi) = true := by simpa using h2
          rw [if_pos ⟨h1, h2⟩] at HTK
          clear h1 h2
          go_wp2_with (at_builtin; go_loud (refine wpList_app1 It.vs 4 40 _ 32 infoIt rfl (by decide) rfl _ _ _ rfl Tryz.underlying23 w.heap.size _ L rfl ((HO.out.alloc _).alloc _) x _ _ rfl rfl (newAt _ _ _ _ (by simp)) (by simp [It.vs, Value.oneCell']) (by omega) (by unfold maxLen; omega) (by simp; omega) (fun v4 w4 hown4 hg4 _ => ?_)))
          exact ⟨⟨k + 1, by omega, by go_num, by rw [HTK.out]; exact hown4, below_row ((HBR.out.alloc hsz _).alloc (by simp; omega) _) hg4 (fun j hj => (HO.out.blk j hj).1)⟩, by simp [intOf]; omega⟩
        · have q2 : decide (x.r.at_ ≤ hi) = false := by simpa using h2
          rw [if_neg (fun h => h2 h.2)] at HTK
          clear h1 h2
          go_wp2_with fail
          exact ⟨⟨k + 1, by omega, by go_num, by rw [HTK.out, List.append_nil]; exact HO.out.alloc _, HBR.out.alloc hsz _⟩, by simp [intOf]; omega⟩
      · have q1 : decide (lo ≤ x.r.at_) = false := by simpa using h1
        rw [if_neg (fun h => h1 h.1)] at HTK
        clear h1
        go_wp2_with fail
        exact ⟨⟨k + 1, by omega, by go_num, by rw [HTK.out, List.append_nil]; exact HO.out.alloc _, HBR.out.alloc hsz _⟩, by simp [intOf]; omega⟩
    · have hk' : k = n := by omega
      subst hk'
      clear hRk hlt
      have et : l.take k = l := List.take_of_length_le (by rw [HLN.out]; exact Nat.le_refl _)
      rw [et] at HO
      have HE : Hid ((cutR (l.take k) lo hi).length = (cutR l lo hi).length) := by show _ = _; rw [et]
      clear et
      go_wp2_with fail
      go_ret
      rw [HE.out]
      exact ⟨_, rfl, HO.out, HBR.out⟩

set_option maxRecDepth 100000 in
set_option maxHeartbeats 2000000 in
theorem Later_any (A : Option Addr) (n cap : Nat) (c : Int) (l : List It) (w : World) (hA : Rd It.vs 4 w 0 A n l) (hb : ∀ x ∈ l, 0 ≤ x.r.at_ ∧ x.r.at_ ≤ 200) (hn : n ≤ 300) :
    Calls Tryz.prog 85 #[.slice A n cap, .int .i64 c] w fun e w' => ∃ v, e = .returned v ∧ Own It.vs 4 40 w.heap.size w' v (laterL l (clampT c)) ∧ Below w.heap.size w w' := by
  have HA := Lib.hid hA
  have HBD := Lib.hid hb
  have hle := hA.le
  have HLN : Hid (l.length = n) := hA.len
  clear hA hb
  have hcl : -201 ≤ clampT c ∧ clampT c ≤ 201 := by unfold clampT; omega
  have HC : Hid (min (max c (-201)) 201 = clampT c) := rfl
  go_enter Tryz.func85, Tryz.ntmps85
  go_wp2_with fail
  go_loopw [5, 10] (fun v i wr => ∃ k : Nat, k ≤ n ∧ i = .int .i64 k ∧ ItsRel w (laterL (l.take k) (clampT c)) v wr) (fun _ i _ => n - (intOf i).toNat)
  case atStart => exact ⟨0, by omega, rfl, by simpa [laterL] using Own.nil _ _ _ _ _, Below.refl _ _⟩
  case round =>
    obtain ⟨k, hk, rfl, hown, hBr⟩ := hrel
    obtain ⟨A3, cap3, rfl⟩ := hown.shape
    have hRk := HA.out.below hBr
    have HO := Lib.hid hown
    have HBR := Lib.hid hBr
    have hsz := hBr.size
    have hlen : (laterL (l.take k) (clampT c)).length ≤ 300 := by
      have h1 := laterL_length (l.take k) (clampT c)
      have h2 := List.length_take_le k l
      omega
    clear hown hBr
    by_cases hlt : k < n
    · obtain ⟨b, off, x, rfl, _, hx, c0, c1, c2, c3⟩ := hRk.it_at hlt
      have hat := HBD.out x (List.mem_of_getElem? hx)
      have HTK := Lib.hid (laterL_succ (clampT c) hx)
      generalize laterL (l.take k) (clampT c) = L at *
      clear hx hRk
      have C := Lib.hid (fun w1 => Rec_any ⟨x.r.at_ + clampT c, x.r.key, x.r.val⟩ w1)
      cases hq : recB (shI (clampT c) x).r with
      | true =>
        have HQ : Hid (recB ⟨x.r.at_ + clampT c, x.r.key, x.r.val⟩ = true) := hq
        rw [hq, if_pos rfl] at HTK
        clear hq
        go_wp2_with fail
        have HBX := Lib.hid (new_block wr #[.int .i64 (x.r.at_ + clampT c), .int .i64 x.r.key, .int .i64 x.r.val, .int .i64 x.n] 40)
        have HC2 := Lib.hid (C.out (wr.alloc (.cells #[.int .i64 (x.r.at_ + clampT c), .int .i64 x.r.key, .int .i64 x.r.val, .int .i64 x.n] 40)))
        rw [HQ.out] at HC2
        refine HC2.out.mono ?_
        rintro e w3 ⟨rfl, hb3⟩
        obtain ⟨d0, d1, d2, d3⟩ := box4 hb3
        have HO3 := Lib.hid ((HO.out.alloc _).below hb3)
        have HBR3 := Lib.hid (bchain (HBR.out.alloc hsz _) hb3)
        clear hb3 C HC2 HQ HBX
        have hsz3 := HBR3.out.size
        go_wp2_with (at_builtin; go_loud (refine wpList_app1 It.vs 4 40 _ 32 infoIt rfl (by decide) rfl _ _ _ rfl Tryz.underlying23 w.heap.size _ L rfl (HO3.out.alloc _) (shI (clampT c) x) _ _ rfl rfl (newAt _ _ _ _ (by simp)) (by simp [It.vs, Value.oneCell']) (by omega) (by unfold maxLen; omega) (by simp; omega) (fun v4 w4 hown4 hg4 _ => ?_)))
        exact ⟨⟨k + 1, by omega, by go_num, by rw [HTK.out]; exact hown4, below_row (HBR3.out.alloc hsz3 _) hg4 (fun j hj => (HO3.out.blk j hj).1)⟩, by simp [intOf]; omega⟩
      | false =>
        have HQ : Hid (recB ⟨x.r.at_ + clampT c, x.r.key, x.r.val⟩ = false) := hq
        rw [hq, if_neg (by simp)] at HTK
        clear hq
        go_wp2_with fail
        have HC2 := Lib.hid (C.out (wr.alloc (.cells #[.int .i64 (x.r.at_ + clampT c), .int .i64 x.r.key, .int .i64 x.r.val, .int .i64 x.n] 40)))
        rw [HQ.out] at HC2
        refine HC2.out.mono ?_
        rintro e w3 ⟨rfl, hb3⟩
        have HO3 := Lib.hid ((HO.out.alloc _).below hb3)
        have HBR3 := Lib.hid (bchain (HBR.out.alloc hsz _) hb3)
        clear hb3 C HC2 HQ
        go_wp2_with fail
        exact ⟨⟨k + 1, by omega, by go_num, by rw [HTK.out, List.append_nil]; exact HO3.out, HBR3.out⟩, by simp [intOf]; omega⟩
    · have hk' : k = n := by omega
      subst hk'
      clear hRk hlt
      have et : l.take k = l := List.take_of_length_le (by rw [HLN.out]; exact Nat.le_refl _)
      rw [et] at HO
      have HE : Hid ((laterL (l.take k) (clampT c)).length = (laterL l (clampT c)).length) := by show _ = _; rw [et]
      clear et
      go_wp2_with fail
      go_ret
      rw [HE.out]
      exact ⟨_, rfl, HO.out, HBR.out⟩
end Go.Proofs.Bg
end

section
/- Lists of bags in memory; the contracts of the reference's Parts, Shift, SameBags. -/
namespace Go.Proofs.Bg
open Go.RowKit

/-- A slice's three words. -/
structure Sl where
  A : Option Addr
  n : Nat
  cap : Nat
def Sl.v (s : Sl) : Value := .slice s.A s.n s.cap
def Sl.vs (s : Sl) : List Value := [.slice s.A s.n s.cap]
theorem Sl.vs_length (s : Sl) : s.vs.length = 1 := rfl
theorem infoBag : (Tryz.prog.info? 23).map (fun i => (i.zero, i.size, i.bytes)) = some (some (.slice none 0 0), 1, 24) := by kernel_rfl

theorem own_ne {α β : Type} {enc : α → List Value} {enc' : β → List Value} {sz sz' : Nat} {T T' : TypeId} {base base' : Nat} {w : World} {v v' : Value} {l : List α} {l' : List β} (h : Own enc sz T base w v l) (h' : Own enc' sz' T' base' w v' l') (hT : T ≠ T') : v.ownBlock = none ∨ v.ownBlock ≠ v'.ownBlock := by
  rcases h.2 with ⟨e, _⟩ | ⟨g, cap, cur, e, _, hb, _⟩
  · exact .inl (by rw [e]; rfl)
  · refine .inr fun ee => ?_
    rcases h'.2 with ⟨e', _⟩ | ⟨g', cap', cur', e', _, hb', _⟩
    · rw [e, e'] at ee; cases ee
    · rw [e, e'] at ee
      have : g = g' := Option.some.inj ee
      subst this
      rw [hb] at hb'
      cases hb'
      exact hT rfl

/-- The slices ss hold the bags ls, each in a block of the call's own. -/
def Bags (base : Nat) (w : World) (ss : List Sl) (ls : List (List It)) : Prop :=
  ss.length = ls.length ∧ ∀ (i : Nat) (s : Sl) (l : List It), ss[i]? = some s → ls[i]? = some l → Own It.vs 4 40 base w s.v l
theorem Bags.nil (base : Nat) (w : World) : Bags base w [] [] := ⟨rfl, fun i s l h => by simp at h⟩
theorem Bags.below {base : Nat} {w w' : World} {ss : List Sl} {ls : List (List It)} (h : Bags base w ss ls) (hb : Below w.heap.size w w') : Bags base w' ss ls := ⟨h.1, fun i s l h1 h2 => (h.2 i s l h1 h2).below hb⟩
theorem Bags.alloc {base : Nat} {w : World} {ss : List Sl} {ls : List (List It)} (h : Bags base w ss ls) (o : Obj) : Bags base (w.alloc o) ss ls := ⟨h.1, fun i s l h1 h2 => (h.2 i s l h1 h2).alloc o⟩
theorem Bags.grown {base base' : Nat} {w w' : World} {ss : List Sl} {ls : List (List It)} {v : Value} {tt : List Sl} (h : Bags base w ss ls) (ho : Own Sl.vs 1 23 base' w v tt) (hg : w.grownBy w' v.ownBlock) : Bags base w' ss ls :=
  ⟨h.1, fun i s l h1 h2 => (h.2 i s l h1 h2).grown hg (own_ne (h.2 i s l h1 h2) ho (by decide))⟩
theorem Bags.snoc {base : Nat} {w : World} {ss : List Sl} {ls : List (List It)} (h : Bags base w ss ls) {s : Sl} {l : List It} (ho : Own It.vs 4 40 base w s.v l) : Bags base w (ss ++ [s]) (ls ++ [l]) := by
  refine ⟨by simp [h.1], fun i s' l' h1 h2 => ?_⟩
  by_cases hi : i < ss.length
  · rw [List.getElem?_append_left hi] at h1
    rw [List.getElem?_append_left (by rw [← h.1]; exact hi)] at h2
    exact h.2 i s' l' h1 h2
  · have e : i = ss.length := by
      have := (List.getElem?_eq_some_iff.1 h1).1
      simp at this
      omega
    subst e
    rw [List.getElem?_append_right (Nat.le_refl _)] at h1
    rw [h.1, List.getElem?_append_right (Nat.le_refl _)] at h2
    simp at h1 h2
    subst h1 h2
    exact ho

/-- What Parts leaves. -/
def RetBags (w : World) (p : List (List It) × Int) (e : Ending) (w' : World) : Prop :=
  (∃ A q cap ss, e = .returned (.tuple #[.slice A q cap, .int .i64 p.2]) ∧ Rd Sl.vs 1 w' w.heap.size A q ss ∧ Bags w.heap.size w' ss p.1) ∧ Below w.heap.size w w'

/-- What the loop of the reference's Parts holds. -/
def PaRel (w : World) (l : List It) (ts : List Int) (k : Nat) (v : Value) (wr : World) : Prop :=
  ∃ ss, Own Sl.vs 1 23 w.heap.size wr v ss ∧ Bags w.heap.size wr ss (partsTo l ts k) ∧ Below w.heap.size w wr

theorem own_app {w : World} {b0 : Nat} {W w' : World} {v v' : Value} {ss : List Sl} {ls : List (List It)} {s : Sl} {l : List It} (hO : Own Sl.vs 1 23 b0 W v ss) (hB : Bags b0 W ss ls) (hP : Own It.vs 4 40 b0 W s.v l) (hb : Below w.heap.size w W) (hb0 : w.heap.size ≤ b0) {o : Obj} (hO' : Own Sl.vs 1 23 b0 w' v' (ss ++ [s])) (hg : (W.alloc o).grownBy w' v.ownBlock) :
    Own Sl.vs 1 23 b0 w' v' (ss ++ [s]) ∧ Bags b0 w' (ss ++ [s]) (ls ++ [l]) ∧ Below w.heap.size w w' :=
  ⟨hO', ((hB.snoc hP).alloc o).grown (hO.alloc o) hg, below_row (hb.alloc hb.size o) hg (fun g e => Nat.le_trans hb0 (hO.blk g e).1)⟩

set_option maxRecDepth 100000 in
set_option maxHeartbeats 4000000 in
theorem PartsR_any (A B : Option Addr) (n m capA capB : Nat) (l : List It) (ts : List Int) (w : World) (hA : Rd It.vs 4 w 0 A n l) (hB : Rd iv 1 w 0 B m ts) (hts : ∀ x ∈ ts, -9223372036854775808 ≤ x ∧ x ≤ 9223372036854775807) :
    Calls Tryz.prog 36 #[.slice A n capA, .slice B m capB] w (RetBags w (partsR l ts)) := by
  have Q1 := Lib.hid (Good_any A n capA l w hA)
  have HA := Lib.hid hA
  have HB := Lib.hid hB
  have HLN : Hid (ts.length = m) := hB.len
  have HLA : Hid (l.length = n) := hA.len
  have hmle := hB.le
  have HTS := Lib.hid hts
  clear hA hB hts
  cases ga : bagB l with
  | false =>
    have e1 : partsR l ts = ([], 2) := by simp [partsR, ga]
    rw [e1]
    have GA := Lib.hid ga
    clear ga e1
    go_enter Tryz.func36, Tryz.ntmps36
    go_wp2_with (go_at_call 44; (with_reducible refine Q1.out.mono ?_); rintro e w1 ⟨rfl, hb1⟩; rw [GA.out]; have HB1 := Lib.hid hb1; clear hb1)
    go_ret2
    exact ⟨⟨_, _, _, _, rfl, Rd.nil _ _ _, Bags.nil _ _⟩, HB1.out⟩
  | true =>
    cases gt : timesB ts with
    | false =>
      have e1 : partsR l ts = ([], 2) := by simp [partsR, gt]
      rw [e1]
      have GA := Lib.hid ga
      have GT := Lib.hid gt
      clear ga gt e1
      go_enter Tryz.func36, Tryz.ntmps36
      go_wp2_with fail
      (with_reducible refine Q1.out.mono ?_)
      rintro e w1 ⟨rfl, hb1⟩
      rw [GA.out]
      have Q2 := Lib.hid (Times_any B m capB ts w1 (HB.out.below hb1))
      have HB1 := Lib.hid hb1
      clear hb1
      go_wp2_with (go_at_call 84; (with_reducible refine Q2.out.mono ?_); rintro e w2 ⟨rfl, hb2⟩; rw [GT.out]; have HB2 := Lib.hid hb2; clear hb2)
      go_ret2
      exact ⟨⟨_, _, _, _, rfl, Rd.nil _ _ _, Bags.nil _ _⟩, bchain HB1.out HB2.out⟩
    | true =>
      have hinc : incB ts ts.length = true ∧ ts.length ≤ 40 := by simpa [timesB] using gt
      have hm40 : m ≤ 40 := by rw [← HLN.out]; exact hinc.2
      have hn300 : n ≤ 300 := by rw [← HLA.out]; exact bag_le ga
      have HINC := Lib.hid hinc.1
      have E1 : Hid (partsR l ts = (partsTo l ts (m + 1), 0)) := by show _ = _; rw [← HLN.out]; simp [partsR, ga, gt]
      have GA := Lib.hid ga
      have GT := Lib.hid gt
      clear ga gt hinc
      go_enter Tryz.func36, Tryz.ntmps36
      go_wp2_with fail
      (with_reducible refine Q1.out.mono ?_)
      rintro e w1 ⟨rfl, hb1⟩
      rw [GA.out]
      have Q2 := Lib.hid (Times_any B m capB ts w1 (HB.out.below hb1))
      have HB1 := Lib.hid hb1
      clear hb1
      go_wp2_with fail
      (with_reducible refine Q2.out.mono ?_)
      rintro e w2 ⟨rfl, hb2⟩
      rw [GT.out]
      have HB2 := Lib.hid (bchain HB1.out hb2)
      clear hb2
      go_wp2_with fail
      go_loopw [6, 7, 21] (fun v f i wr => ∃ k : Nat, k ≤ m ∧ i = .int .i64 k ∧ f = .int .i64 (fromR ts k) ∧ PaRel w l ts k v wr) (fun _ _ i _ => m - (intOf i).toNat)
      case atStart => exact ⟨0, by omega, rfl, rfl, [], Own.nil _ _ _ _ _, Bags.nil _ _, HB2.out⟩
      case round =>
        obtain ⟨k, hk, rfl, rfl, ss, hown, hbags, hBr⟩ := hrel
        obtain ⟨A3, cap3, rfl⟩ := hown.shape
        have hRk := HB.out.below hBr
        have HAr := Lib.hid (HA.out.below hBr)
        have HO := Lib.hid hown
        have HBG := Lib.hid hbags
        have HBR := Lib.hid hBr
        have hsz := hBr.size
        have hlen : ss.length ≤ 40 := by rw [hbags.1, partsTo_length]; omega
        clear hown hBr hbags
        by_cases hlt : k < m
        · obtain ⟨b, off, t, rfl, _, hx, c0⟩ := hRk.int_at hlt
          have HT : Hid (tAt ts k = t) := by show _ = _; unfold tAt; rw [hx]; rfl
          have HP := Lib.hid (ref_part GA.out HINC.out (k := k) (by rw [HLN.out]; exact hlt))
          have HFS : Hid (fromR ts (k + 1) = if fromR ts k < tAt ts k then tAt ts k else fromR ts k) := rfl
          have HPS := Lib.hid (partsTo_succ l ts k)
          rw [HT.out] at HP HFS
          have HF0 := fromR_nonneg ts k
          have htb := HTS.out t (List.mem_of_getElem? hx)
          generalize fromR ts k = F at *
          clear hx hRk
          by_cases hc : F < t
          · have hd : decide (F < t) = true := by simpa using hc
            rw [if_pos hc] at HP HFS
            rw [HP.out] at HPS
            have ht1 : IntKind.i64.wrap (t - 1) = t - 1 := IntWalk.i64_in _ (by omega)
            have C := Lib.hid (Cut_any A n capA F (t - 1) l wr HAr.out hn300)
            clear hc
            go_wp2_with fail
            (with_reducible refine C.out.mono ?_)
            rintro e w3 ⟨v3, rfl, hown3, hb3⟩
            have HP3 := Lib.hid (hown3.low hsz)
            obtain ⟨A4, c4, rfl⟩ := hown3.shape
            have HO3 := Lib.hid (HO.out.below hb3)
            have HBG3 := Lib.hid (HBG.out.below hb3)
            have HBR3 := Lib.hid (bchain HBR.out hb3)
            have hsz3 := HBR3.out.size
            clear hown3 hb3 C
            generalize (cutR l F (t - 1)).length = LC at *
            go_wp2_with (at_builtin; go_loud (refine wpList_app1 Sl.vs 1 23 _ 24 infoBag rfl (by decide) rfl _ _ _ rfl Tryz.underlying53 w.heap.size _ ss rfl (HO3.out.alloc _) ⟨A4, LC, c4⟩ _ _ rfl rfl (newAt _ _ _ _ (by simp)) (by simp [Sl.vs, Value.oneCell']) (by omega) (by unfold maxLen; omega) (by simp; omega) (fun v4 w4 hown4 hg4 _ => ?_)))
            obtain ⟨q1, q2, q3⟩ := own_app HO3.out HBG3.out (s := ⟨A4, LC, c4⟩) HP3.out HBR3.out (Nat.le_refl _) hown4 hg4
            exact ⟨⟨k + 1, by omega, by go_num, by rw [HFS.out], _, q1, by rw [HPS.out]; exact q2, q3⟩, by simp [intOf]; omega⟩
          · have hd : decide (F < t) = false := by simpa using hc
            rw [if_neg hc] at HP HFS
            rw [HP.out] at HPS
            clear hc
            go_wp2_with (at_builtin; go_loud (refine wpList_app1 Sl.vs 1 23 _ 24 infoBag rfl (by decide) rfl _ _ _ rfl Tryz.underlying53 w.heap.size _ ss rfl (HO.out.alloc _) ⟨none, 0, 0⟩ _ _ rfl rfl (newAt _ _ _ _ (by simp)) (by simp [Sl.vs, Value.oneCell']) (by omega) (by unfold maxLen; omega) (by simp; omega) (fun v4 w4 hown4 hg4 _ => ?_)))
            obtain ⟨q1, q2, q3⟩ := own_app HO.out HBG.out (s := ⟨none, 0, 0⟩) (Own.nil _ _ _ _ _) HBR.out (Nat.le_refl _) hown4 hg4
            exact ⟨⟨k + 1, by omega, by go_num, by rw [HFS.out], _, q1, by rw [HPS.out]; exact q2, q3⟩, by simp [intOf]; omega⟩
        · have hk' : k = m := by omega
          subst hk'
          have HP := Lib.hid (ref_last GA.out HINC.out)
          rw [HLN.out] at HP
          have HPS := Lib.hid (partsTo_succ l ts k)
          rw [HP.out] at HPS
          have HF0 := fromR_nonneg ts k
          generalize fromR ts k = F at *
          have C := Lib.hid (Cut_any A n capA F 200 l wr HAr.out hn300)
          clear hRk hlt
          go_wp2_with fail
          (with_reducible refine C.out.mono ?_)
          rintro e w3 ⟨v3, rfl, hown3, hb3⟩
          have HP3 := Lib.hid (hown3.low hsz)
          obtain ⟨A4, c4, rfl⟩ := hown3.shape
          have HO3 := Lib.hid (HO.out.below hb3)
          have HBG3 := Lib.hid (HBG.out.below hb3)
          have HBR3 := Lib.hid (bchain HBR.out hb3)
          have hsz3 := HBR3.out.size
          clear hown3 hb3 C
          generalize (cutR l F 200).length = LC at *
          go_wp2_with (at_builtin; go_loud (refine wpList_app1 Sl.vs 1 23 _ 24 infoBag rfl (by decide) rfl _ _ _ rfl Tryz.underlying53 w.heap.size _ ss rfl (HO3.out.alloc _) ⟨A4, LC, c4⟩ _ _ rfl rfl (newAt _ _ _ _ (by simp)) (by simp [Sl.vs, Value.oneCell']) (by omega) (by unfold maxLen; omega) (by simp; omega) (fun v4 w4 hown4 hg4 _ => ?_)))
          obtain ⟨q1, q2, q3⟩ := own_app HO3.out HBG3.out (s := ⟨A4, LC, c4⟩) HP3.out HBR3.out (Nat.le_refl _) hown4 hg4
          obtain ⟨A5, c5, rfl⟩ := hown4.shape
          have HR5 := Lib.hid (q1.rdOf Sl.vs_length)
          rw [← HPS.out] at q2
          have HQ2 := Lib.hid q2
          have HQ3 := Lib.hid q3
          clear q1 q2 q3 hg4 hown4
          go_wp2_with fail
          go_ret2
          rw [E1.out]
          exact ⟨⟨_, _, _, _, rfl, HR5.out, HQ2.out⟩, HQ3.out⟩

set_option maxRecDepth 100000 in
theorem ShiftR_any (A : Option Addr) (n cap : Nat) (c : Int) (l : List It) (w : World) (hA : Rd It.vs 4 w 0 A n l) :
    Calls Tryz.prog 38 #[.slice A n cap, .int .i64 c] w (RetNew w (shiftR l c)) := by
  have Q1 := Lib.hid (Good_any A n cap l w hA)
  have HA := Lib.hid hA
  have HLA : Hid (l.length = n) := hA.len
  clear hA
  cases ga : bagB l with
  | false =>
    have e1 : shiftR l c = ([], 2) := by simp [shiftR, ga]
    rw [e1]
    have GA := Lib.hid ga
    clear ga e1
    go_enter Tryz.func38, Tryz.ntmps38
    go_wp2_with (go_at_call 44; (with_reducible refine Q1.out.mono ?_); rintro e w1 ⟨rfl, hb1⟩; rw [GA.out]; have HB1 := Lib.hid hb1; clear hb1)
    go_ret2
    exact ⟨⟨_, _, _, rfl, Rd.nil _ _ _⟩, HB1.out⟩
  | true =>
    have e1 : shiftR l c = (laterL l (clampT c), 0) := by rw [later_shift ga]; simp [shiftR, ga]
    rw [e1]
    have hn300 : n ≤ 300 := by rw [← HLA.out]; exact bag_le ga
    have GA := Lib.hid ga
    clear ga e1
    go_enter Tryz.func38, Tryz.ntmps38
    go_wp2_with fail
    (with_reducible refine Q1.out.mono ?_)
    rintro e w1 ⟨rfl, hb1⟩
    rw [GA.out]
    have Q2 := Lib.hid (Later_any A n cap c l w1 (HA.out.below hb1) (bag_at GA.out) hn300)
    have HB1 := Lib.hid hb1
    clear hb1
    generalize laterL l (clampT c) = L at *
    go_wp2_with fail
    (with_reducible refine Q2.out.mono ?_)
    rintro e w2 ⟨v, rfl, hown, hb2⟩
    obtain ⟨A2, c2, rfl⟩ := hown.shape
    have hr := hown.rdOf It.vs_length
    have HR := Lib.hid (hr.low HB1.out.size)
    have HB2 := Lib.hid (bchain HB1.out hb2)
    clear hown hb2 hr
    go_wp2_with fail
    go_ret2
    exact ⟨⟨_, _, _, rfl, HR.out⟩, HB2.out⟩
end Go.Proofs.Bg
end

section
/- The contract of Parts. -/
namespace Go.Proofs.Bg
open Go.RowKit Go.Shelf
attribute [local go_sem] Oper.semAt_some

theorem Own.shut {α : Type} {enc : α → List Value} {sz : Nat} {T : TypeId} {base b2 : Nat} {w w' : World} {v : Value} {l : List α} (h : Own enc sz T base w v l) (hs : Shut b2 w w') : Own enc sz T base w' v l :=
  ⟨h.1, h.2.imp_right fun ⟨g, cap, cur, e, hb, hg, rest⟩ => ⟨g, cap, cur, e, hb, hs.same g _ hg rfl, rest⟩⟩
theorem Bags.shut {base b2 : Nat} {w w' : World} {ss : List Sl} {ls : List (List It)} (h : Bags base w ss ls) (hs : Shut b2 w w') : Bags base w' ss ls := ⟨h.1, fun i s l h1 h2 => (h.2 i s l h1 h2).shut hs⟩
theorem mark_grown {α : Type} {enc : α → List Value} {sz : Nat} {T : TypeId} {base : Nat} {W w4 : World} {v : Value} {l : List α} {o : Obj} {D : Nat} {x : Option (List Deferred)} (ho : Own enc sz T base W v l) (hD : W.heap[D]? = some (.deferred x)) (hg : (W.alloc o).grownBy w4 v.ownBlock) : w4.heap[D]? = some (.deferred x) := by
  have hl := (Array.getElem?_eq_some_iff.1 hD).1
  refine (hg.block D (by simp; omega) fun e => ?_).trans ((Below.heap_alloc W _ D hl).trans hD)
  rcases ho.2 with ⟨e', _⟩ | ⟨g, cap, cur, e', _, hb, _⟩
  · rw [e'] at e; cases e
  · rw [e'] at e
    have : D = g := Option.some.inj e
    subst this
    rw [hb] at hD
    cases hD

/-- What the second loop of Parts holds: the parts so far; the marks of the loops over iterators. -/
def MarkRel (w : World) (l : List It) (ts : List Int) (ds : List Nat) (k : Nat) (v : Value) (wr : World) : Prop :=
  PaRel w l ts k v wr ∧ ds.Nodup ∧ ∀ D ∈ ds, w.heap.size ≤ D ∧ wr.heap[D]? = some (.deferred (some []))

set_option maxRecDepth 100000 in
set_option maxHeartbeats 4000000 in
theorem Parts_any (A B : Option Addr) (n m capA capB : Nat) (l : List It) (ts : List Int) (w : World) (hA : Rd It.vs 4 w 0 A n l) (hB : Rd iv 1 w 0 B m ts) :
    Calls Tryz.prog 35 #[.slice A n capA, .slice B m capB] w (RetBags w (partsR l ts)) := by
  have Q1 := Lib.hid (isBag_any A n capA l w hA)
  have HA := Lib.hid hA
  have HB := Lib.hid hB
  have HLN : Hid (ts.length = m) := hB.len
  have HLA : Hid (l.length = n) := hA.len
  have hmle := hB.le
  clear hA hB
  refine (callsIn_wide (n := 6)).1 ?_
  refine callsIn_of_wp_marks Tryz.func35 rfl trivial ?_ rfl
  simp only [Tryz.ntmps35, List.size_toArray, List.length_cons, List.length_nil, Nat.reduceAdd, Nat.reduceSub, Array.replicate_succ, Array.replicate_zero, List.push_toArray, List.append_toArray, List.nil_append, List.cons_append]
  cases ga : bagB l with
  | false =>
    have e1 : partsR l ts = ([], 2) := by simp [partsR, ga]
    rw [e1]
    have GA := Lib.hid ga
    clear ga e1
    gi_wp2_with (refine ⟨trivial, ?_⟩; gi_at_call 47; refine (callsIn_wide.2 Q1.out).mono ?_; rintro e w1 ⟨rfl, hb1⟩; rw [GA.out]; have HB1 := Lib.hid hb1; clear hb1)
    refine ret_none (results_tmp2 rfl _ _ _) ?_
    exact ⟨⟨_, _, _, _, rfl, Rd.nil _ _ _, Bags.nil _ _⟩, HB1.out⟩
  | true =>
    have hn300 : n ≤ 300 := by rw [← HLA.out]; exact bag_le ga
    by_cases h40 : m ≤ 40
    · have hd40 : decide ((40 : Int) < (m : Int)) = false := by simp; omega
      have GA := Lib.hid ga
      have HP : Hid (∀ b, incB ts m = b → partsR l ts = if b then (partsTo l ts (m + 1), 0) else ([], 2)) := by
        intro b hb
        subst hb
        unfold partsR timesB
        rw [ga, HLN.out]
        have : decide (m ≤ 40) = true := by simpa using h40
        rw [this]
        simp
      clear ga
      gi_wp2_with (refine ⟨trivial, ?_⟩; gi_at_call 47; refine (callsIn_wide.2 Q1.out).mono ?_; rintro e w1 ⟨rfl, hb1⟩; rw [GA.out]; have HB1 := Lib.hid hb1; clear hb1)
      gi_loopw [6] (fun i wr => ∃ k : Nat, (k + 1 ≤ m ∨ k = 0) ∧ i = .int .i64 (k + 1 : Nat) ∧ incB ts (k + 1) = true ∧ Below w.heap.size w wr) (fun i _ => m - (intOf i).toNat)
      case atStart => exact ⟨0, .inr rfl, rfl, incB_one _, HB1.out⟩
      case round =>
        obtain ⟨k, hk, rfl, hin, hBr⟩ := hrel
        have hRk := HB.out.below hBr
        have HIN := Lib.hid hin
        have HBR := Lib.hid hBr
        clear hin hBr
        by_cases hlt : k + 1 < m
        · obtain ⟨b, off, x, e0, _, hx, c0⟩ := hRk.int_at (k := k) (by omega)
          obtain ⟨b', off', y, e1, _, hy, c1⟩ := hRk.int_at hlt
          subst e0
          cases e1
          have HX := Lib.hid hx
          have HY := Lib.hid hy
          clear hx hy hRk
          have ei : IntKind.i64.wrap (((k + 1 : Nat) : Int) - 1) = k := by rw [IntWalk.i64_in _ (by omega)]; omega
          by_cases hc : y ≤ x
          · have hd : decide (y ≤ x) = true := by simpa using hc
            have HF : Hid (partsR l ts = ([], 2)) := by
              show _ = _
              rw [HP.out false (incB_false (k := k + 1) (by omega) hlt (by unfold tAt; rw [Nat.add_sub_cancel, HX.out, HY.out]; simpa using hc))]
              rfl
            rw [HF.out]
            clear hc HF
            gi_wp2
            gi_region
            gi_wp2
            refine ret_none (results_tmp2 rfl _ _ _) ?_
            exact ⟨⟨_, _, _, _, rfl, Rd.nil _ _ _, Bags.nil _ _⟩, HBR.out.drew⟩
          · have hd : decide (y ≤ x) = false := by simpa using hc
            have HN : Hid (incB ts (k + 1 + 1) = true) := by
              show _ = _
              rw [incB_succ, HIN.out]
              unfold tAt
              rw [Nat.add_sub_cancel, HX.out, HY.out]
              simp
              omega
            clear hc
            gi_wp2
            gi_region
            gi_wp2
            exact ⟨⟨k + 1, by omega, by go_num, HN.out, HBR.out.drew⟩, by simp [intOf]; omega⟩
        · have HI : Hid (incB ts m = true) := by
            show _ = _
            rcases hk with h | h
            · rw [show m = k + 1 by omega, HIN.out]
            · subst h
              have hn : m = 0 ∨ m = 1 := by omega
              rcases hn with h | h <;> subst h
              · rfl
              · exact incB_one ts
          have HP2 := Lib.hid (HP.out true HI.out)
          clear HP
          generalize k + 1 = k1 at *
          clear hk HIN hRk
          gi_wp2
          refine wpIn_loop (fun a w' => ∃ (k : Nat) (ds : List Nat) (v x8 x9 x10 x11 x12 x40 x41 x42 x43 x44 x45 x46 x47 x48 x49 x50 x51 x52 x53 x54 x55 x56 x57 x58 x59 x60 x61 x62 x63 x64 x65 : Value), k ≤ m + 1 ∧ a = { tmps := #[.slice A n capA, .slice B m capB, undef, undef, u4, u5, .int .i64 (k1 : Nat), v, x8, x9, x10, x11, x12, .slice A n capA, .bool true, .bool false, .bool false, .slice B m capB, .int .i64 (m : Nat), .bool false, .bool false, .int .i64 (k1 : Nat), .slice B m capB, .int .i64 (m : Nat), .bool false, u25, u26, u27, u28, u29, u30, u31, u32, u33, u34, u35, u36, .slice B m capB, .int .i64 (m : Nat), .int .i64 ((m : Int) + 1), x40, x41, x42, x43, x44, x45, x46, x47, x48, x49, x50, x51, x52, x53, x54, x55, x56, x57, x58, x59, x60, x61, x62, x63, x64, x65, undef], defers := ds.map mark } ∧ (k ≤ m → x8 = .int .i64 (fromP ts k)) ∧ x40 = .int .i64 (k : Nat) ∧ MarkRel w l ts ds k v w') (fun a _ => m + 1 - (intOf (a.tmps.getD 40 undef)).toNat) ?_ ?_
          · exact ⟨0, [], _, _, _, _, _, _, _, _, _, _, _, _, _, _, _, _, _, _, _, _, _, _, _, _, _, _, _, _, _, _, _, _, by omega, rfl, fun _ => rfl, rfl, ⟨[], Own.nil _ _ _ _ _, Bags.nil _ _, HBR.out⟩, by simp, by simp⟩
          · rintro a wp ⟨k, ds, v, x8, x9, x10, x11, x12, x40, x41, x42, x43, x44, x45, x46, x47, x48, x49, x50, x51, x52, x53, x54, x55, x56, x57, x58, x59, x60, x61, x62, x63, x64, x65, hk, rfl, hx8, rfl, ⟨ss, hown, hbags, hBr⟩, hnd, hds⟩
            obtain ⟨A3, cap3, rfl⟩ := hown.shape
            have hlen : ss.length = k := by rw [hbags.1, partsTo_length]
            rw [hlen] at hown ⊢
            have HO := Lib.hid hown
            have HBG := Lib.hid hbags
            have HB2 := Lib.hid hBr
            have HND := Lib.hid hnd
            have HDS := Lib.hid hds
            have HPS := Lib.hid (partsTo_succ l ts k)
            have HFS : Hid (fromP ts (k + 1) = tAt ts k) := by show _ = _; unfold fromP; simp
            have HFU : Hid (k < m → untilP ts k = tAt ts k) := fun h => by unfold untilP; rw [HLN.out, if_pos h]
            have HFM : Hid (k = m → untilP ts k = 9223372036854775807) := fun h => by unfold untilP; rw [HLN.out, if_neg (by omega)]; rfl
            have hRk := HB.out.below hBr
            clear hown hbags hBr hnd hds HBR
            by_cases hlt : k < m
            · obtain ⟨b, off, t, rfl, _, hx, c0⟩ := hRk.int_at hlt
              have HT : Hid (tAt ts k = t) := by show _ = _; unfold tAt; rw [hx]; rfl
              have hd1 : decide ((k : Int) < (m : Int) + 1) = true := by simp; omega
              clear hx hRk
              unfold partAt at HPS
              rw [HFU.out hlt, HT.out] at HPS
              rw [HT.out] at HFS
              clear HFU HFM HT
              have hklt : k ≤ m := by omega
              obtain rfl := hx8 hklt
              clear hx8
              generalize fromP ts k = F at *
              gi_wp2_with (refine ⟨trivial, ?_⟩; gi_at_call 83; refine (between_in Fence.wide _ trivial rfl A n capA F t _).mono ?_; rintro e w2 ⟨rfl, rfl⟩)
              have bo := (((Boxed.new wp 23 (.slice none 0 0)).alloc (.cells #[.slice A n capA] 23)).alloc (.cells #[.int .i64 F] 3)).alloc (.cells #[.int .i64 t] 3)
              have bb := ((Boxed.new (wp.alloc (.cells #[.slice none 0 0] 23)) 23 (.slice A n capA)).alloc (.cells #[.int .i64 F] 3)).alloc (.cells #[.int .i64 t] 3)
              have bf := (Boxed.new ((wp.alloc (.cells #[.slice none 0 0] 23)).alloc (.cells #[.slice A n capA] 23)) 3 (.int .i64 F)).alloc (.cells #[.int .i64 t] 3)
              have bu := Boxed.new (((wp.alloc (.cells #[.slice none 0 0] 23)).alloc (.cells #[.slice A n capA] 23)).alloc (.cells #[.int .i64 F] 3)) 3 (.int .i64 t)
              have hB0 : Below wp.heap.size wp ((((wp.alloc (.cells #[.slice none 0 0] 23)).alloc (.cells #[.slice A n capA] 23)).alloc (.cells #[.int .i64 F] 3)).alloc (.cells #[.int .i64 t] 3)) := (((((Below.refl _ wp).alloc (Nat.le_refl _) _).alloc (by simp) _).alloc (by simp; omega) _).alloc (by simp; omega) _)
              have hsz : ((((wp.alloc (.cells #[.slice none 0 0] 23)).alloc (.cells #[.slice A n capA] 23)).alloc (.cells #[.int .i64 F] 3)).alloc (.cells #[.int .i64 t] 3)).heap.size = wp.heap.size + 4 := by simp
              simp only [World.size_alloc] at bb bf bu
              obtain ⟨W0, hW0⟩ : ∃ W0, (((wp.alloc (.cells #[.slice none 0 0] 23)).alloc (.cells #[.slice A n capA] 23)).alloc (.cells #[.int .i64 F] 3)).alloc (.cells #[.int .i64 t] 3) = W0 := ⟨_, rfl⟩
              rw [hW0] at bo bb bf bu hB0 hsz ⊢
              clear hW0
              have hsw := HB2.out.size
              generalize hs1 : wp.heap.size = s1 at *
              have HS1 := Lib.hid hs1
              clear hs1
              refine wpIn_rangeFunc_ownH rfl (by decide) (gf := 111) (lb := #[.pointer (some ⟨s1 + 1, 0, none⟩), .pointer (some ⟨s1 + 1 + 1, 0, none⟩), .pointer (some ⟨s1 + 1 + 2, 0, none⟩)]) rfl trivial (enters_of Tryz.func111 (by kernel_rfl) rfl)
                (between_stops Fence.wide _ trivial rfl (by decide) s1 (s1 + 1) (s1 + 1 + 1) (s1 + 1 + 2) A n capA F t l W0 bb.cell bf.cell bu.cell (by omega) (fun W' h => HA.out.below (HB2.out.trans ((hB0.mono (by omega)).trans (h.mono (by omega)))))) keepB_t (keepB_b (by omega)) (Below.refl _ _) (fun _ => rfl)
                (fun pre W => ColI s1 wp s1 (s1 + 1 + 1) (s1 + 1 + 2) F t pre W ∧ W0.heap.size ≤ W.heap.size)
                (fun _ _ _ => False)
                (OwnFrom.and (ColI.from (f := fun pre => pre) (Nat.le_of_eq HS1.out.symm) (by omega)) (fun _ _ _ _ h hg _ => Nat.le_trans h hg.size))
                (fun _ _ _ _ _ hs _ _ => hs)
                ⟨⟨⟨_, bo, Own.nil _ _ _ _ _⟩, bf, bu, hB0⟩, Nat.le_refl _⟩
                (fun x a' W => ∃ Bx, W0.heap.size ≤ Bx ∧ ItBox s1 Bx x W ∧ a' = { tmps := #[.slice A n capA, .slice (some ⟨b, off, none⟩) m capB, undef, undef, u4, u5, .int .i64 (k1 : Nat), .slice A3 k cap3, .int .i64 F, .int .i64 (k : Nat), .int .i64 t, .pointer (some ⟨s1, 0, none⟩), .pointer (some ⟨Bx, 0, none⟩), .slice A n capA, .bool true, .bool false, .bool false, .slice (some ⟨b, off, none⟩) m capB, .int .i64 (m : Nat), .bool false, .bool false, .int .i64 (k1 : Nat), .slice (some ⟨b, off, none⟩) m capB, .int .i64 (m : Nat), .bool false, u25, u26, u27, u28, u29, u30, u31, u32, u33, u34, u35, u36, .slice (some ⟨b, off, none⟩) m capB, .int .i64 (m : Nat), .int .i64 ((m : Int) + 1), .int .i64 (k : Nat), .bool true, .int .i64 (k : Nat), .int .i64 (k : Nat), .slice (some ⟨b, off, none⟩) m capB, .int .i64 (m : Nat), .bool true, .slice (some ⟨b, off, none⟩) m capB, .int .i64 (k : Nat), .pointer (some ⟨b, off + k, none⟩), .int .i64 t, .slice A n capA, .int .i64 F, .int .i64 t, .func (.func 111) #[] #[.pointer (some ⟨s1 + 1, 0, none⟩), .pointer (some ⟨s1 + 1 + 1, 0, none⟩), .pointer (some ⟨s1 + 1 + 2, 0, none⟩)], itV x, x56, x57, x58, x59, x60, x61, x62, x63, x64, x65, undef], defers := [] })
                (fun x a' _ X Y row hs hg hr => by obtain ⟨Bx, h1, h2, h3⟩ := hs; exact ⟨Bx, h1, ItBox.from _ s1 Bx x () X Y row h2 hg hr, h3⟩)
                ?assign ?body ?done ?stop
              case assign =>
                rintro ll pre x W K ⟨hc1, hz1⟩ hK
                simp only [itV, It.vs]
                have hnew := new_block W #[.int .i64 x.r.at_, .int .i64 x.r.key, .int .i64 x.r.val, .int .i64 x.n] 40
                obtain ⟨v, hv, ho⟩ := hc1.out
                gi_wp2
                refine hK _ _ ((KeepsOthers.alloc _ _).from _) ⟨(Below.refl _ W).alloc (by omega) _, cell_al _, cell_al _⟩ ⟨hc1.alloc (Nat.le_of_eq HS1.out.symm) _, by simp; omega⟩ ⟨W.heap.size, hz1, ⟨hnew, v, hv.alloc _, fun e => by have := (ho.blk _ e).2; omega⟩, rfl⟩
              case body =>
                rintro ll pre x a' W hl ⟨r, hr⟩ ⟨hc1, hz1⟩ ⟨Bx, hBx, ⟨hbx, v, hv, hne⟩, rfl⟩ hlt
                have bvc := hv.cell
                have d0 := cell_at_block (off := 0) hbx rfl
                have d1 := cell_at_block (off := 1) hbx rfl
                have d2 := cell_at_block (off := 2) hbx rfl
                have d3 := cell_at_block (off := 3) hbx rfl
                obtain ⟨Av, cv, rfl⟩ := (hc1.at_ hv).shape
                have hoS := hc1.at_ hv
                have hlm : pre.length ≤ 300 := by
                  have := HLA.out
                  omega
                have HCS := Lib.hid hc1
                clear hc1 hlt
                gi_wp2_with (gi_at_builtin; (refine wpListIn_app1 It.vs 4 40 _ 32 infoIt rfl (by decide) rfl _ _ _ rfl Tryz.underlying23 s1 _ pre rfl (hoS.alloc _) x _ _ rfl rfl (newAt _ _ _ _ (by simp)) (by simp [It.vs, Value.oneCell']) (by omega) (by unfold maxLen; omega) (by simp; omega) ?_; intro v' w2 hown' hg'; obtain ⟨p1, p2, p3, p4⟩ := HCS.out.app (Nat.le_of_eq HS1.out.symm) (Nat.le_refl _) hv hoS (by omega) (by omega) hown' hg'; have HP2 := Lib.hid p2; have HP3 := Lib.hid p3; have HP4 := Lib.hid p4; have HZ2 := Lib.hid (Nat.le_trans hz1 p2.size); obtain ⟨Av', cv', rfl⟩ := hown'.shape; have bc1 := p1.cell; have bz1 := p1.frozen; clear p2 p3 p4 hown' hg'))
                have HLE : Hid ((pre ++ [x]).length = pre.length + 1) := by show _ = _; simp
                rw [← HLE.out]
                exact ⟨HP2.out.from _, ⟨HP3.out, fun _ => HP4.out.bf.cell, fun _ => HP4.out.bu.cell⟩, HP4.out, HZ2.out⟩
              case done =>
                rintro D ys W hD rfl ⟨hc1, hz1⟩ hK
                obtain ⟨v, hv, ho⟩ := hc1.out
                have hvc := hv.cell
                obtain ⟨Av, cv, rfl⟩ := ho.shape
                have hbW : Below wp.heap.size wp W := by rw [HS1.out]; exact hc1.below
                have hbW2 := bchain HB2.out hbW
                have hO := HO.out.below hbW
                have hG := HBG.out.below hbW
                have hP : Own It.vs 4 40 w.heap.size W (Sl.v ⟨Av, (cutL l F t).length, cv⟩) (cutL l F t) := ho.low (by omega)
                have hm1 : ∀ D' ∈ ds, w.heap.size ≤ D' ∧ W.heap[D']? = some (.deferred (some [])) := fun D' h' => by
                  obtain ⟨h1, h2⟩ := HDS.out D' h'
                  exact ⟨h1, (hbW.block D' (Array.getElem?_eq_some_iff.1 h2).1).trans h2⟩
                have hm2 : D ∉ ds := fun h' => by
                  have := (Array.getElem?_eq_some_iff.1 (HDS.out D h').2).1
                  have := HS1.out
                  omega
                have HO2 := Lib.hid hO
                have HG2 := Lib.hid hG
                have HP := Lib.hid hP
                have HBW := Lib.hid hbW2
                have HM1 := Lib.hid hm1
                have HM2 := Lib.hid hm2
                have HKD := Lib.hid hK
                have hszW := hbW2.size
                clear hO hG hP hbW hbW2 hm1 hm2 hK hc1 ho hv
                generalize (cutL l F t).length = q at *
                gi_wp2_with (gi_at_builtin; go_loud (refine wpListIn_app1 Sl.vs 1 23 _ 24 infoBag rfl (by decide) rfl _ _ _ rfl Tryz.underlying53 w.heap.size _ ss rfl (HO2.out.alloc _) ⟨Av, q, cv⟩ _ _ rfl rfl (newAt _ _ _ _ (by simp)) (by simp [Sl.vs, Value.oneCell']) (by omega) (by unfold maxLen; omega) (by simp; omega) ?_; intro v4 w4 hown4 hg4; have HO4 := Lib.hid (own_app HO2.out HG2.out (s := ⟨Av, q, cv⟩) HP.out HBW.out (Nat.le_refl _) hown4 hg4); have HMG := Lib.hid (fun (D' : Nat) (h : W.heap[D']? = some (Obj.deferred (some []))) => mark_grown HO2.out h hg4); clear hown4 hg4))
                obtain ⟨q1, q2, q3⟩ := HO4.out
                refine ⟨⟨k + 1, D :: ds, _, _, _, _, _, _, _, _, _, _, _, _, _, _, _, _, _, _, _, _, _, _, _, _, _, _, _, _, _, _, _, _, by omega, rfl, fun _ => by rw [HFS.out], by go_num, ⟨_, q1, by rw [HPS.out]; exact q2, q3⟩, List.nodup_cons.2 ⟨HM2.out, HND.out⟩, fun D' h' => ?_⟩, by simp [intOf] <;> omega⟩
                rcases List.mem_cons.1 h' with rfl | h'
                · exact ⟨by omega, HMG.out _ HKD.out⟩
                · exact ⟨(HM1.out D' h').1, HMG.out _ (HM1.out D' h').2⟩
              case stop =>
                rintro D c pre W _ _ h _
                exact h.elim
            · by_cases hkm : k = m
              · have hd1 : decide ((k : Int) < (m : Int) + 1) = true := by simp; omega
                have hd2 : decide ((k : Int) < (m : Int)) = false := by simp; omega
                have hklt : k ≤ m := by omega
                unfold partAt at HPS
                rw [HFM.out hkm] at HPS
                clear HFU HFM hRk HFS
                obtain rfl := hx8 hklt
                clear hx8 hlt
                generalize fromP ts k = F at *
                subst hkm
                gi_wp2_with (refine ⟨trivial, ?_⟩; gi_at_call 83; refine (between_in Fence.wide _ trivial rfl A n capA F 9223372036854775807 _).mono ?_; rintro e w2 ⟨rfl, rfl⟩)
                have bo := (((Boxed.new wp 23 (.slice none 0 0)).alloc (.cells #[.slice A n capA] 23)).alloc (.cells #[.int .i64 F] 3)).alloc (.cells #[.int .i64 9223372036854775807] 3)
                have bb := ((Boxed.new (wp.alloc (.cells #[.slice none 0 0] 23)) 23 (.slice A n capA)).alloc (.cells #[.int .i64 F] 3)).alloc (.cells #[.int .i64 9223372036854775807] 3)
                have bf := (Boxed.new ((wp.alloc (.cells #[.slice none 0 0] 23)).alloc (.cells #[.slice A n capA] 23)) 3 (.int .i64 F)).alloc (.cells #[.int .i64 9223372036854775807] 3)
                have bu := Boxed.new (((wp.alloc (.cells #[.slice none 0 0] 23)).alloc (.cells #[.slice A n capA] 23)).alloc (.cells #[.int .i64 F] 3)) 3 (.int .i64 9223372036854775807)
                have hB0 : Below wp.heap.size wp ((((wp.alloc (.cells #[.slice none 0 0] 23)).alloc (.cells #[.slice A n capA] 23)).alloc (.cells #[.int .i64 F] 3)).alloc (.cells #[.int .i64 9223372036854775807] 3)) := (((((Below.refl _ wp).alloc (Nat.le_refl _) _).alloc (by simp) _).alloc (by simp; omega) _).alloc (by simp; omega) _)
                have hsz : ((((wp.alloc (.cells #[.slice none 0 0] 23)).alloc (.cells #[.slice A n capA] 23)).alloc (.cells #[.int .i64 F] 3)).alloc (.cells #[.int .i64 9223372036854775807] 3)).heap.size = wp.heap.size + 4 := by simp
                simp only [World.size_alloc] at bb bf bu
                obtain ⟨W0, hW0⟩ : ∃ W0, (((wp.alloc (.cells #[.slice none 0 0] 23)).alloc (.cells #[.slice A n capA] 23)).alloc (.cells #[.int .i64 F] 3)).alloc (.cells #[.int .i64 9223372036854775807] 3) = W0 := ⟨_, rfl⟩
                rw [hW0] at bo bb bf bu hB0 hsz ⊢
                clear hW0
                have hsw := HB2.out.size
                generalize hs1 : wp.heap.size = s1 at *
                have HS1 := Lib.hid hs1
                clear hs1
                refine wpIn_rangeFunc_ownH rfl (by decide) (gf := 111) (lb := #[.pointer (some ⟨s1 + 1, 0, none⟩), .pointer (some ⟨s1 + 1 + 1, 0, none⟩), .pointer (some ⟨s1 + 1 + 2, 0, none⟩)]) rfl trivial (enters_of Tryz.func111 (by kernel_rfl) rfl)
                  (between_stops Fence.wide _ trivial rfl (by decide) s1 (s1 + 1) (s1 + 1 + 1) (s1 + 1 + 2) A n capA F 9223372036854775807 l W0 bb.cell bf.cell bu.cell (by omega) (fun W' h => HA.out.below (HB2.out.trans ((hB0.mono (by omega)).trans (h.mono (by omega)))))) keepB_t (keepB_b (by omega)) (Below.refl _ _) (fun _ => rfl)
                  (fun pre W => ColI s1 wp s1 (s1 + 1 + 1) (s1 + 1 + 2) F 9223372036854775807 pre W ∧ W0.heap.size ≤ W.heap.size)
                  (fun _ _ _ => False)
                  (OwnFrom.and (ColI.from (f := fun pre => pre) (Nat.le_of_eq HS1.out.symm) (by omega)) (fun _ _ _ _ h hg _ => Nat.le_trans h hg.size))
                  (fun _ _ _ _ _ hs _ _ => hs)
                  ⟨⟨⟨_, bo, Own.nil _ _ _ _ _⟩, bf, bu, hB0⟩, Nat.le_refl _⟩
                  (fun x a' W => ∃ Bx, W0.heap.size ≤ Bx ∧ ItBox s1 Bx x W ∧ a' = { tmps := #[.slice A n capA, .slice B k capB, undef, undef, u4, u5, .int .i64 (k1 : Nat), .slice A3 k cap3, .int .i64 F, .int .i64 (k : Nat), .int .i64 9223372036854775807, .pointer (some ⟨s1, 0, none⟩), .pointer (some ⟨Bx, 0, none⟩), .slice A n capA, .bool true, .bool false, .bool false, .slice B k capB, .int .i64 (k : Nat), .bool false, .bool false, .int .i64 (k1 : Nat), .slice B k capB, .int .i64 (k : Nat), .bool false, u25, u26, u27, u28, u29, u30, u31, u32, u33, u34, u35, u36, .slice B k capB, .int .i64 (k : Nat), .int .i64 ((k : Int) + 1), .int .i64 (k : Nat), .bool true, .int .i64 (k : Nat), .int .i64 (k : Nat), .slice B k capB, .int .i64 (k : Nat), .bool false, x47, x48, x49, x50, .slice A n capA, .int .i64 F, .int .i64 9223372036854775807, .func (.func 111) #[] #[.pointer (some ⟨s1 + 1, 0, none⟩), .pointer (some ⟨s1 + 1 + 1, 0, none⟩), .pointer (some ⟨s1 + 1 + 2, 0, none⟩)], itV x, x56, x57, x58, x59, x60, x61, x62, x63, x64, x65, undef], defers := [] })
                  (fun x a' _ X Y row hs hg hr => by obtain ⟨Bx, h1, h2, h3⟩ := hs; exact ⟨Bx, h1, ItBox.from _ s1 Bx x () X Y row h2 hg hr, h3⟩)
                  ?assign ?body ?done ?stop
                case assign =>
                  rintro ll pre x W K ⟨hc1, hz1⟩ hK
                  simp only [itV, It.vs]
                  have hnew := new_block W #[.int .i64 x.r.at_, .int .i64 x.r.key, .int .i64 x.r.val, .int .i64 x.n] 40
                  obtain ⟨v, hv, ho⟩ := hc1.out
                  gi_wp2
                  refine hK _ _ ((KeepsOthers.alloc _ _).from _) ⟨(Below.refl _ W).alloc (by omega) _, cell_al _, cell_al _⟩ ⟨hc1.alloc (Nat.le_of_eq HS1.out.symm) _, by simp; omega⟩ ⟨W.heap.size, hz1, ⟨hnew, v, hv.alloc _, fun e => by have := (ho.blk _ e).2; omega⟩, rfl⟩
                case body =>
                  rintro ll pre x a' W hl ⟨r, hr⟩ ⟨hc1, hz1⟩ ⟨Bx, hBx, ⟨hbx, v, hv, hne⟩, rfl⟩ hlt
                  have bvc := hv.cell
                  have d0 := cell_at_block (off := 0) hbx rfl
                  have d1 := cell_at_block (off := 1) hbx rfl
                  have d2 := cell_at_block (off := 2) hbx rfl
                  have d3 := cell_at_block (off := 3) hbx rfl
                  obtain ⟨Av, cv, rfl⟩ := (hc1.at_ hv).shape
                  have hoS := hc1.at_ hv
                  have hlm : pre.length ≤ 300 := by
                    have := HLA.out
                    omega
                  have HCS := Lib.hid hc1
                  clear hc1 hlt
                  gi_wp2_with (gi_at_builtin; (refine wpListIn_app1 It.vs 4 40 _ 32 infoIt rfl (by decide) rfl _ _ _ rfl Tryz.underlying23 s1 _ pre rfl (hoS.alloc _) x _ _ rfl rfl (newAt _ _ _ _ (by simp)) (by simp [It.vs, Value.oneCell']) (by omega) (by unfold maxLen; omega) (by simp; omega) ?_; intro v' w2 hown' hg'; obtain ⟨p1, p2, p3, p4⟩ := HCS.out.app (Nat.le_of_eq HS1.out.symm) (Nat.le_refl _) hv hoS (by omega) (by omega) hown' hg'; have HP2 := Lib.hid p2; have HP3 := Lib.hid p3; have HP4 := Lib.hid p4; have HZ2 := Lib.hid (Nat.le_trans hz1 p2.size); obtain ⟨Av', cv', rfl⟩ := hown'.shape; have bc1 := p1.cell; have bz1 := p1.frozen; clear p2 p3 p4 hown' hg'))
                  have HLE : Hid ((pre ++ [x]).length = pre.length + 1) := by show _ = _; simp
                  rw [← HLE.out]
                  exact ⟨HP2.out.from _, ⟨HP3.out, fun _ => HP4.out.bf.cell, fun _ => HP4.out.bu.cell⟩, HP4.out, HZ2.out⟩
                case done =>
                  rintro D ys W hD rfl ⟨hc1, hz1⟩ hK
                  obtain ⟨v, hv, ho⟩ := hc1.out
                  have hvc := hv.cell
                  obtain ⟨Av, cv, rfl⟩ := ho.shape
                  have hbW : Below wp.heap.size wp W := by rw [HS1.out]; exact hc1.below
                  have hbW2 := bchain HB2.out hbW
                  have hO := HO.out.below hbW
                  have hG := HBG.out.below hbW
                  have hP : Own It.vs 4 40 w.heap.size W (Sl.v ⟨Av, (cutL l F 9223372036854775807).length, cv⟩) (cutL l F 9223372036854775807) := ho.low (by omega)
                  have hm1 : ∀ D' ∈ ds, w.heap.size ≤ D' ∧ W.heap[D']? = some (.deferred (some [])) := fun D' h' => by
                    obtain ⟨h1, h2⟩ := HDS.out D' h'
                    exact ⟨h1, (hbW.block D' (Array.getElem?_eq_some_iff.1 h2).1).trans h2⟩
                  have hm2 : D ∉ ds := fun h' => by
                    have := (Array.getElem?_eq_some_iff.1 (HDS.out D h').2).1
                    have := HS1.out
                    omega
                  have HO2 := Lib.hid hO
                  have HG2 := Lib.hid hG
                  have HP := Lib.hid hP
                  have HBW := Lib.hid hbW2
                  have HM1 := Lib.hid hm1
                  have HM2 := Lib.hid hm2
                  have HKD := Lib.hid hK
                  have hszW := hbW2.size
                  clear hO hG hP hbW hbW2 hm1 hm2 hK hc1 ho hv
                  generalize (cutL l F 9223372036854775807).length = q at *
                  gi_wp2_with (gi_at_builtin; go_loud (refine wpListIn_app1 Sl.vs 1 23 _ 24 infoBag rfl (by decide) rfl _ _ _ rfl Tryz.underlying53 w.heap.size _ ss rfl (HO2.out.alloc _) ⟨Av, q, cv⟩ _ _ rfl rfl (newAt _ _ _ _ (by simp)) (by simp [Sl.vs, Value.oneCell']) (by omega) (by unfold maxLen; omega) (by simp; omega) ?_; intro v4 w4 hown4 hg4; have HO4 := Lib.hid (own_app HO2.out HG2.out (s := ⟨Av, q, cv⟩) HP.out HBW.out (Nat.le_refl _) hown4 hg4); have HMG := Lib.hid (fun (D' : Nat) (h : W.heap[D']? = some (Obj.deferred (some []))) => mark_grown HO2.out h hg4); clear hown4 hg4))
                  obtain ⟨q1, q2, q3⟩ := HO4.out
                  refine ⟨⟨k + 1, D :: ds, _, _, _, _, _, _, _, _, _, _, _, _, _, _, _, _, _, _, _, _, _, _, _, _, _, _, _, _, _, _, _, _, by omega, rfl, fun h => absurd h (by omega), by go_num, ⟨_, q1, by rw [HPS.out]; exact q2, q3⟩, List.nodup_cons.2 ⟨HM2.out, HND.out⟩, fun D' h' => ?_⟩, by simp [intOf] <;> omega⟩
                  rcases List.mem_cons.1 h' with rfl | h'
                  · exact ⟨by omega, HMG.out _ HKD.out⟩
                  · exact ⟨(HM1.out D' h').1, HMG.out _ (HM1.out D' h').2⟩
                case stop =>
                  rintro D c pre W _ _ h _
                  exact h.elim
              · have hd1 : decide ((k : Int) < (m : Int) + 1) = false := by simp; omega
                clear HFU HFM hRk HFS HPS hx8
                have hkk : k = m + 1 := by omega
                subst hkk
                clear hlt hkm hk
                have hr := HO.out.rdOf Sl.vs_length
                rw [hlen] at hr
                have HR := Lib.hid hr
                clear hr
                gi_wp2
                refine ret_marks w.heap.size ds (fun w => results_tmp2 rfl _ _ w) HND.out HDS.out ?_
                intro w' hw'
                rw [HP2.out]
                exact ⟨⟨_, _, _, ss, rfl, HR.out.shut hw', HBG.out.shut hw'⟩, HB2.out.trans hw'.below⟩
    · have e1 : partsR l ts = ([], 2) := by
        have : decide (m ≤ 40) = false := by simpa using h40
        unfold partsR timesB
        rw [HLN.out, this]
        simp
      rw [e1]
      have GA := Lib.hid ga
      have hd40 : decide ((40 : Int) < (m : Int)) = true := by simp; omega
      clear ga e1
      gi_wp2_with (refine ⟨trivial, ?_⟩; gi_at_call 47; refine (callsIn_wide.2 Q1.out).mono ?_; rintro e w1 ⟨rfl, hb1⟩; rw [GA.out]; have HB1 := Lib.hid hb1; clear hb1)
      refine ret_none (results_tmp2 rfl _ _ _) ?_
      exact ⟨⟨_, _, _, _, rfl, Rd.nil _ _ _, Bags.nil _ _⟩, HB1.out⟩
end Go.Proofs.Bg
end

section
/- The contract of the reference's SameBags, at lists that are the same. -/
namespace Go.Proofs.Bg
open Go.RowKit

theorem Rd.sl_at {w : World} {lo n : Nat} {A : Option Addr} {l : List Sl} (h : Rd Sl.vs 1 w lo A n l) {k : Nat} (hk : k < n) :
    ∃ b off s, A = some ⟨b, off, none⟩ ∧ l[k]? = some s ∧ w.cell? ⟨b, off + k, none⟩ = some (.slice s.A s.n s.cap) := by
  obtain ⟨b, off, x, e, hlo, hx, hc⟩ := h.at_ hk
  exact ⟨b, off, x, e, hx, by have := hc 0 _ rfl; simpa using this⟩
theorem Bags.rd {base : Nat} {w : World} {ss : List Sl} {ls : List (List It)} (h : Bags base w ss ls) {i : Nat} {s : Sl} {l : List It} (hs : ss[i]? = some s) (hl : ls[i]? = some l) : Rd It.vs 4 w 0 s.A s.n l := by
  have ho := h.2 i s l hs hl
  obtain ⟨A, cap, e⟩ := ho.shape
  obtain ⟨A', n', c'⟩ := s
  simp only [Sl.v, Value.slice.injEq] at e
  obtain ⟨rfl, rfl, rfl⟩ := e
  have := ho.rdOf It.vs_length
  exact this.low (Nat.zero_le _)

set_option maxRecDepth 100000 in
set_option maxHeartbeats 4000000 in
theorem SameBags_any (A B : Option Addr) (n m capA capB : Nat) (ss tt : List Sl) (ls : List (List It)) (b1 b2 : Nat) (w : World) (hA : Rd Sl.vs 1 w 0 A n ss) (hB : Rd Sl.vs 1 w 0 B m tt) (hS : Bags b1 w ss ls) (hT : Bags b2 w tt ls) :
    Calls Tryz.prog 39 #[.slice A n capA, .slice B m capB] w fun e w' => e = .returned (.bool true) ∧ Below w.heap.size w w' := by
  have HA := Lib.hid hA
  have HB := Lib.hid hB
  have HS := Lib.hid hS
  have HT := Lib.hid hT
  have hnm : n = m := by rw [← hA.len, ← hB.len, hS.1, hT.1]
  have HLN : Hid (ls.length = n) := by show _ = _; rw [← hS.1, hA.len]
  have hle := hA.le
  subst hnm
  clear hA hB hS hT
  go_enter Tryz.func39, Tryz.ntmps39
  go_wp2_with fail
  go_loopw [13] (fun i wr => ∃ k : Nat, k ≤ n ∧ i = .int .i64 k ∧ Below w.heap.size w wr) (fun i _ => n - (intOf i).toNat)
  case atStart => exact ⟨0, by omega, rfl, Below.refl _ _⟩
  case round =>
    obtain ⟨k, hk, rfl, hBr⟩ := hrel
    have HBR := Lib.hid hBr
    clear hBr
    by_cases hlt : k < n
    · obtain ⟨bA, oA, s, rfl, hs, c0⟩ := (HA.out.below HBR.out).sl_at hlt
      obtain ⟨bB, oB, t, rfl, ht, d0⟩ := (HB.out.below HBR.out).sl_at hlt
      have hl : ls[k]? = some (ls[k]'(by rw [HLN.out]; exact hlt)) := List.getElem?_eq_getElem _
      generalize ls[k]'(by rw [HLN.out]; exact hlt) = l at hl
      have hr1 := (HS.out.rd hs hl).below HBR.out
      have hr2 := (HT.out.rd ht hl).below HBR.out
      have Q := Lib.hid (fun w1 (hb : Below wr.heap.size wr w1) => Same_any s.A t.A s.n t.n s.cap t.cap l l w1 (hr1.below hb) (hr2.below hb))
      have HD : Hid (decide (l = l) = true) := by show _ = _; simp
      rw [HD.out] at Q
      clear hs ht hl hr1 hr2 HD
      go_wp2_with fail
      go_region_with (go_at_call 13; (with_reducible refine (Q.out _ (by repeat' first | exact Below.refl _ _ | refine Below.drew ?_)).mono ?_); rintro e w3 ⟨rfl, hb3⟩)
      all_goals go_wp2_with fail
      all_goals exact ⟨⟨k + 1, by omega, by go_num, bchain HBR.out.drew hb3⟩, by simp [intOf]; omega⟩
    · have hk' : k = n := by omega
      subst hk'
      clear hlt
      go_wp2_with fail
      go_ret
      exact ⟨rfl, HBR.out⟩
end Go.Proofs.Bg
end

section
/- Plain law: the parts of a bag; parts of a sum; there and back. No program, no memory. -/
namespace Go.Proofs.Bg

theorem rcmp_at {x y : Rc} (h : rcmp x y < 0) : x.at_ ≤ y.at_ := by
  rw [rcmp_neg] at h
  omega
theorem bag_sorted {a : List It} (h : bagB a = true) : a.Pairwise (fun x y => x.r.at_ ≤ y.r.at_) := by
  have h1 := ((bagB_spec a).1 h).2.1
  unfold Incr at h1
  rw [List.pairwise_map] at h1
  exact h1.imp rcmp_at
def upTo (a : List It) (u : Int) : List It := a.filter (fun x => decide (x.r.at_ < u))
theorem upTo_cut {u v : Int} (huv : u ≤ v) : ∀ {a : List It}, a.Pairwise (fun x y => x.r.at_ ≤ y.r.at_) → upTo a u ++ cutL a u v = upTo a v
  | [], _ => rfl
  | x :: r, h => by
    obtain ⟨h1, h2⟩ := List.pairwise_cons.1 h
    by_cases hx : x.r.at_ < u
    · have ih := upTo_cut huv h2
      have e1 : upTo (x :: r) u = x :: upTo r u := by unfold upTo; rw [List.filter_cons_of_pos (by simpa using hx)]
      have e2 : cutL (x :: r) u v = cutL r u v := by unfold cutL; rw [List.filter_cons_of_neg (by simp; omega)]
      have e3 : upTo (x :: r) v = x :: upTo r v := by unfold upTo; rw [List.filter_cons_of_pos (by simp; omega)]
      rw [e1, e2, e3, List.cons_append, ih]
    · have e1 : upTo (x :: r) u = [] := by
        unfold upTo
        rw [List.filter_eq_nil_iff]
        intro y hy
        rcases List.mem_cons.1 hy with rfl | hy
        · simpa using hx
        · have := h1 y hy
          simp
          omega
      rw [e1, List.nil_append]
      unfold cutL upTo
      refine filter_eq fun y hy => ?_
      have : u ≤ y.r.at_ := by
        rcases List.mem_cons.1 hy with rfl | hy
        · omega
        · have := h1 y hy
          omega
      simp [this]
theorem upTo_min {a : List It} (h : bagB a = true) : upTo a minT = [] := by
  unfold upTo
  rw [List.filter_eq_nil_iff]
  intro x hx
  have := bag_at h x hx
  unfold minT
  simp
  omega
theorem upTo_max {a : List It} (h : bagB a = true) : upTo a maxT = a := by
  unfold upTo
  rw [List.filter_eq_self]
  intro x hx
  have := bag_at h x hx
  unfold maxT
  simp
  omega
def I64L (ts : List Int) : Prop := ∀ x ∈ ts, -9223372036854775808 ≤ x ∧ x ≤ 9223372036854775807
theorem tAt_in {ts : List Int} (h : I64L ts) {k : Nat} (hk : k < ts.length) : minT ≤ tAt ts k ∧ tAt ts k ≤ maxT := by
  unfold tAt minT maxT
  rw [List.getElem?_eq_getElem hk]
  exact h _ (List.getElem_mem hk)
theorem from_until {ts : List Int} (h : I64L ts) (hi : incB ts ts.length = true) {k : Nat} (hk : k ≤ ts.length) : fromP ts k ≤ untilP ts k := by
  unfold fromP untilP
  by_cases h0 : k = 0
  · subst h0
    by_cases hl : 0 < ts.length
    · simp only [hl, if_true]
      exact (tAt_in h hl).1
    · simp only [hl, if_true, if_false]
      decide
  · rw [if_neg h0]
    by_cases hl : k < ts.length
    · rw [if_pos hl]
      exact Int.le_of_lt (incB_at hi (by omega) hl)
    · rw [if_neg hl]
      exact (tAt_in h (by omega)).2
/-- The first parts together. -/
theorem parts_flat {a : List It} (ha : bagB a = true) {ts : List Int} (h : I64L ts) (hi : incB ts ts.length = true) : ∀ k, k ≤ ts.length → (partsTo a ts k).flatten = upTo a (fromP ts k)
  | 0, _ => (upTo_min ha).symm
  | k + 1, hk => by
    have ih := parts_flat ha h hi k (by omega)
    have hf : fromP ts (k + 1) = untilP ts k := by
      unfold fromP untilP
      rw [if_neg (by omega), if_pos (by omega)]
      rfl
    rw [partsTo_succ, List.flatten_append, ih, hf]
    simp only [List.flatten_cons, List.flatten_nil, List.append_nil]
    exact upTo_cut (from_until h hi (by omega)) (bag_sorted ha)
theorem parts_all {a : List It} (ha : bagB a = true) {ts : List Int} (h : I64L ts) (hi : incB ts ts.length = true) : (partsTo a ts (ts.length + 1)).flatten = a := by
  rw [partsTo_succ, List.flatten_append, parts_flat ha h hi _ (Nat.le_refl _)]
  simp only [List.flatten_cons, List.flatten_nil, List.append_nil]
  have hu : untilP ts ts.length = maxT := by unfold untilP; rw [if_neg (by omega)]
  have := upTo_cut (from_until h hi (Nat.le_refl _)) (bag_sorted ha)
  unfold partAt
  rw [this, hu]
  exact upTo_max ha
theorem part_in {a : List It} {ts : List Int} {k : Nat} {y : It} (h : y ∈ partAt a ts k) : (0 < k → tAt ts (k - 1) ≤ y.r.at_) ∧ (k < ts.length → y.r.at_ < tAt ts k) := by
  have := (List.mem_filter.1 h).2
  simp at this
  refine ⟨fun h0 => ?_, fun h1 => ?_⟩
  · have e : fromP ts k = tAt ts (k - 1) := by unfold fromP; rw [if_neg (by omega)]
    omega
  · have e : untilP ts k = tAt ts k := by unfold untilP; rw [if_pos h1]
    omega

theorem sumN_cut (l : List It) (lo hi : Int) (k : Rc) : sumN (cutL l lo hi) k = if lo ≤ k.at_ ∧ k.at_ < hi then sumN l k else 0 := by
  unfold cutL
  induction l with
  | nil => simp [sumN]
  | cons x r ih =>
    by_cases hx : lo ≤ x.r.at_ ∧ x.r.at_ < hi
    · rw [List.filter_cons_of_pos (by simpa using hx)]
      simp only [sumN, ih]
      by_cases hk : x.r = k
      · subst hk
        rw [if_pos hx, if_pos hx]
      · simp only [if_neg hk, Int.zero_add]
    · rw [List.filter_cons_of_neg (by simp; omega)]
      simp only [sumN, ih]
      by_cases hk : x.r = k
      · subst hk
        rw [if_neg hx, if_neg hx]
      · rw [if_neg hk, Int.zero_add]
theorem canon_cut (l l' : List It) (lo hi : Int) : canon (cutL l lo hi ++ cutL l' lo hi) = cutL (canon (l ++ l')) lo hi :=
  (IsBag.eq ⟨incr_filter _ (canon_is (l ++ l')).incr, fun x hx => (canon_is (l ++ l')).not0 x (List.mem_filter.1 hx).1, fun k => by
    have e := sumN_cut (canon (l ++ l')) lo hi k
    unfold cutL at e
    rw [e, sumN_append, sumN_cut, sumN_cut, (canon_is (l ++ l')).sums, sumN_append]
    split <;> simp⟩).symm
theorem add_cut {a b : List It} (h : (addR a b).2 = 0) (lo hi : Int) : addR (cutL a lo hi) (cutL b lo hi) = (cutL (addR a b).1 lo hi, 0) := by
  obtain ⟨ha, hb, hc, e⟩ := addR_ok h
  rw [e]
  have h1 : bagB (cutL a lo hi) = true := bagB_filter _ ha
  have h2 : bagB (cutL b lo hi) = true := bagB_filter _ hb
  have h3 : bagB (cutL (canon (a ++ b)) lo hi) = true := bagB_filter _ hc
  simp only [addR, h1, h2, bagOr, errOr, canon_cut, h3]
  rfl

theorem rcmp_sh (c : Int) (x y : It) (h : rcmp x.r y.r < 0) : rcmp (shI c x).r (shI c y).r < 0 := by
  rw [rcmp_neg] at h ⊢
  unfold shI
  simp only
  omega
theorem bagB_shift {a : List It} (h : bagB a = true) (c : Int) : bagB (shiftL a c) = true := by
  have hc : bagB (cutL a (-c) (201 - c)) = true := bagB_filter _ h
  rw [bagB_spec] at hc ⊢
  obtain ⟨h1, h2, h3⟩ := hc
  unfold shiftL
  refine ⟨fun x hx => ?_, ?_, by simpa using h3⟩
  · obtain ⟨y, hy, rfl⟩ := List.mem_map.1 hx
    have hb := (itB_spec y).1 (h1 y hy)
    have hm := (List.mem_filter.1 hy).2
    simp at hm
    rw [itB_spec]
    refine ⟨⟨?_, ?_, hb.1.2.2⟩, hb.2⟩
    · show 0 ≤ y.r.at_ + c
      omega
    · show y.r.at_ + c ≤ 200
      omega
  · unfold Incr at h2 ⊢
    rw [List.map_map, List.pairwise_map]
    rw [List.pairwise_map] at h2
    exact h2.imp fun {x y} hxy => by
      exact rcmp_sh c x y hxy
theorem shift_back {a : List It} (h : bagB a = true) {c : Int} (h1 : -200 ≤ c) (h2 : c ≤ 200) : shiftR (shiftL a c) (-c) = (cutR a (max 0 (-c)) (min 200 (200 - c)), 0) := by
  have hs := bagB_shift h c
  have e1 : shiftR (shiftL a c) (-c) = (shiftL (shiftL a c) (-c), 0) := by
    unfold shiftR
    rw [hs, if_pos rfl, if_pos (by omega)]
  rw [e1]
  congr 1
  have ha := bag_at h
  have e2 : cutL (shiftL a c) (- -c) (201 - -c) = shiftL a c := by
    unfold cutL
    rw [List.filter_eq_self]
    intro x hx
    obtain ⟨y, hy, rfl⟩ := List.mem_map.1 hx
    have hm := (List.mem_filter.1 hy)
    have := ha y hm.1
    show (decide (- -c ≤ y.r.at_ + c) && decide (y.r.at_ + c < 201 - -c)) = true
    simp
    omega
  have e3 : shiftL (shiftL a c) (-c) = cutL a (-c) (201 - c) := by
    show (cutL (shiftL a c) (- -c) (201 - -c)).map (shI (-c)) = _
    rw [e2]
    show ((cutL a (-c) (201 - c)).map (shI c)).map (shI (-c)) = _
    rw [List.map_map]
    conv => rhs; rw [← List.map_id (cutL a (-c) (201 - c))]
    refine List.map_congr_left fun x _ => ?_
    show shI (-c) (shI c x) = x
    unfold shI
    simp only
    rw [show x.r.at_ + c + -c = x.r.at_ by omega]
  rw [e3]
  unfold cutL cutR
  refine filter_eq fun x hx => ?_
  have := ha x hx
  rw [Bool.eq_iff_iff]
  simp only [Bool.and_eq_true, decide_eq_true_eq]
  omega
end Go.Proofs.Bg
end

section
/- What a call that returns a bag and an error leaves, the length named. -/
namespace Go.Proofs.Bg
open Go.RowKit
def RetL (w : World) (p : List It × Int) (e : Ending) (w' : World) : Prop :=
  (∃ A n cap, e = .returned (.tuple #[.slice A n cap, .int .i64 p.2]) ∧ Rd It.vs 4 w' w.heap.size A n p.1) ∧ Below w.heap.size w w'
theorem RetBag.lst {w w' : World} {p : List It × Int} {e : Ending} (h : RetBag w p e w') : RetL w p e w' := by
  obtain ⟨A, cap, he, hr, hb⟩ := h
  exact ⟨⟨A, _, cap, he, hr⟩, hb⟩
end Go.Proofs.Bg
end

section
/- BagParted: the walk of the law. -/
namespace Go.Proofs.Bg
open Go.RowKit

theorem partsR_bad {l : List It} {ts : List Int} (h : (bagB l && timesB ts) = false) : partsR l ts = ([], 2) := by unfold partsR; rw [h]; rfl
theorem partsR_ok {l : List It} {ts : List Int} (h : (bagB l && timesB ts) = true) : partsR l ts = (partsTo l ts (ts.length + 1), 0) := by unfold partsR; rw [h]; rfl
theorem Bags.q {b lo q : Nat} {w w' : World} {A : Option Addr} {ss : List Sl} {ls : List (List It)} (h : Bags b w ss ls) (hr : Rd Sl.vs 1 w' lo A q ss) : q = ls.length := by rw [← hr.len, h.1]
def AllRel (w2 : World) (L : List It) (v : Value) (wr : World) : Prop := Own It.vs 4 40 w2.heap.size wr v L ∧ Below w2.heap.size w2 wr
theorem flat_succ (a : List It) (ts : List Int) (k : Nat) : (partsTo a ts (k + 1)).flatten = (partsTo a ts k).flatten ++ partAt a ts k := by rw [partsTo_succ, List.flatten_append]; simp
theorem partsTo_at (a : List It) (ts : List Int) {k n : Nat} (h : k < n) : (partsTo a ts n)[k]? = some (partAt a ts k) := by simp [partsTo, h]
theorem flat_len {a : List It} (ha : bagB a = true) {ts : List Int} (h : I64L ts) (hi : incB ts ts.length = true) {k : Nat} (hk : k ≤ ts.length) : ((partsTo a ts (k + 1)).flatten).length ≤ 300 := by
  have h1 := parts_all ha h hi
  have h2 := bag_le ha
  by_cases he : k = ts.length
  · rw [he, h1]; exact h2
  · have h3 := parts_flat ha h hi (k + 1) (by omega)
    rw [h3]
    exact Nat.le_trans (List.length_filter_le _ _) h2

set_option maxRecDepth 100000 in
set_option maxHeartbeats 16000000 in
theorem BagParted_any (A B D : Option Addr) (n m p capA capB capD : Nat) (a b : List It) (ts : List Int) (z : Int) (w : World) (hA : Rd It.vs 4 w 0 A n a) (hB : Rd It.vs 4 w 0 B m b) (hD : Rd iv 1 w 0 D p ts) (hts : I64L ts) (hz : -128 ≤ z ∧ z ≤ 127) (ht : Tab w) :
    Calls Tryz.prog 10 #[.slice A n capA, .slice B m capB, .slice D p capD, .int .i8 z] w fun e w' => e = .returned (.bool true) ∧ Below w.heap.size w w' := by
  have HA := Lib.hid hA
  have HB := Lib.hid hB
  have HD := Lib.hid hD
  have HT := Lib.hid ht
  have HTS := Lib.hid hts
  have HLD : Hid (ts.length = p) := hD.len
  have hple := hD.le
  clear hA hB hD ht hts
  cases h0 : (bagB a && timesB ts) with
  | false =>
    have E0 := Lib.hid (partsR_bad h0)
    clear h0
    have C := Lib.hid (Parts_any A D n p capA capD a ts w HA.out HD.out)
    rw [E0.out] at C
    go_enter Tryz.func10, Tryz.ntmps10
    go_wp2_with fail
    (with_reducible refine C.out.mono ?_)
    rintro e w1 ⟨⟨A1, q1, c1, ss, rfl, hr1, hg1⟩, hb⟩
    have hq := hg1.q hr1
    simp at hq
    subst hq
    have HS0 := Lib.hid hb
    clear hb C hr1 hg1
    have C := Lib.hid (known_any w1 (HT.out.below HS0.out))
    go_wp2_with fail
    (with_reducible refine C.out.mono ?_)
    rintro e w2 ⟨rfl, hb⟩
    have HS1 := Lib.hid hb
    clear hb C
    go_wp2_with fail
    go_ret
    exact ⟨rfl, (bchain HS0.out HS1.out)⟩
  | true =>
    have E0 : Hid (partsR a ts = (partsTo a ts (p + 1), 0)) := by show _ = _; rw [← HLD.out]; exact partsR_ok h0
    have hga : bagB a = true := by simp at h0; exact h0.1
    have hti : incB ts ts.length = true ∧ ts.length ≤ 40 := by
      simp only [Bool.and_eq_true] at h0
      simpa [timesB] using h0.2
    have GA := Lib.hid hga
    have HINC := Lib.hid hti.1
    have HTB : Hid (timesB ts = true) := by show _ = _; unfold timesB; rw [hti.1]; simpa using hti.2
    have hp40 : p ≤ 40 := by rw [← HLD.out]; exact hti.2
    have hn300 : n ≤ 300 := by rw [← HA.out.len]; exact bag_le hga
    have hwp : IntKind.i64.wrap ((p : Int) + 1) = (p : Int) + 1 := IntWalk.i64_in _ (by omega)
    clear h0 hga hti
    have C := Lib.hid (Parts_any A D n p capA capD a ts w HA.out HD.out)
    rw [E0.out] at C
    go_enter Tryz.func10, Tryz.ntmps10
    go_wp2_with fail
    (with_reducible refine C.out.mono ?_)
    rintro e w1 ⟨⟨A1, q1, c1, ss, rfl, hr1, hg1⟩, hb⟩
    have hq := hg1.q hr1
    rw [partsTo_length] at hq
    subst hq
    have HR1 := Lib.hid (hr1.low (Nat.zero_le _))
    have HG1 := Lib.hid hg1
    have HS0 := Lib.hid hb
    clear hb C hr1 hg1
    have C := Lib.hid (Good_any A n capA a w1 (HA.out.below HS0.out))
    rw [GA.out] at C
    go_wp2_with fail
    (with_reducible refine C.out.mono ?_)
    rintro e w2 ⟨rfl, hb⟩
    have HS1 := Lib.hid hb
    clear hb C
    have HB2 := Lib.hid (bchain HS0.out HS1.out)
    go_wp2_with fail
    go_loopw [11, 65] (fun v i wr => ∃ k : Nat, k ≤ p + 1 ∧ i = .int .i64 k ∧ AllRel w2 (partsTo a ts k).flatten v wr) (fun _ i _ => p + 1 - (intOf i).toNat)
    case atStart => exact ⟨0, by omega, rfl, Own.nil _ _ _ _ _, Below.refl _ _⟩
    case round =>
      obtain ⟨k, hk, rfl, hown, hBr⟩ := hrel
      obtain ⟨A3, cap3, rfl⟩ := hown.shape
      have HO := Lib.hid hown
      have HS2 := Lib.hid hBr
      have hsz := hBr.size
      have HB3 := Lib.hid (bchain HB2.out hBr)
      have HB13 := Lib.hid (bchain HS1.out hBr)
      clear hown hBr
      by_cases hlt : k < p + 1
      · have hfl : ((partsTo a ts (k + 1)).flatten).length ≤ 300 := flat_len GA.out HTS.out HINC.out (by rw [HLD.out]; omega)
        have hfs := flat_succ a ts k
        obtain ⟨bS, oS, ⟨sA, sn, sc⟩, rfl, hs, cS⟩ := (HR1.out.below HB13.out).sl_at hlt
        have hrp : Rd It.vs 4 wr 0 sA sn (partAt a ts k) := (HG1.out.below HB13.out).rd hs (partsTo_at a ts hlt)
        have HRP := Lib.hid hrp
        have hpl : (partAt a ts k).length = sn := hrp.len
        have HPI : Hid (∀ y ∈ partAt a ts k, (0 < k → tAt ts (k - 1) ≤ y.r.at_) ∧ (k < p → y.r.at_ < tAt ts k)) := fun y hy => by
          have := part_in hy
          rw [HLD.out] at this
          exact this
        rw [hfs, List.length_append, hpl] at hfl
        have HFS := Lib.hid hfs
        clear hfs hs hrp
        generalize partAt a ts k = PK at *
        generalize (partsTo a ts k).flatten = LF at *
        clear hpl
        dsimp only at cS
        go_wp2_with fail
        obtain ⟨wo, rfl⟩ : ∃ u : World, u = wr := ⟨_, rfl⟩
        go_loopw [72] (fun j wr => ∃ jj : Nat, jj ≤ sn ∧ j = .int .i64 jj ∧ Below wo.heap.size wo wr) (fun j _ => sn - (intOf j).toNat)
        case atStart => exact ⟨0, by omega, rfl, Below.refl _ _⟩
        case round =>
          obtain ⟨jj, hj, rfl, hBi⟩ := hrel
          have HBI := Lib.hid hBi
          have hszi := hBi.size
          have HRI := Lib.hid (HRP.out.below hBi)
          clear hBi
          by_cases hjl : jj < sn
          · obtain ⟨bP, oP, y, rfl, _, hy, d0, d1, d2, d3⟩ := HRI.out.it_at hjl
            obtain ⟨hi0, hi1⟩ := HPI.out y (List.mem_of_getElem? hy)
            have HBX := Lib.hid (new_block wr #[.int .i64 y.r.at_, .int .i64 y.r.key, .int .i64 y.r.val, .int .i64 y.n] 40)
            have f0 := cell_at_block (off := 0) HBX.out rfl
            have hB5 : Below w.heap.size w (wr.alloc (.cells #[.int .i64 y.r.at_, .int .i64 y.r.key, .int .i64 y.r.val, .int .i64 y.n] 40)) := (bchain HB3.out HBI.out).alloc (bchain HB3.out HBI.out).size _
            have hB6 : Below wo.heap.size wo (wr.alloc (.cells #[.int .i64 y.r.at_, .int .i64 y.r.key, .int .i64 y.r.val, .int .i64 y.n] 40)) := HBI.out.alloc hszi _
            have HB6 := Lib.hid hB6
            have hRD := HD.out.below hB5
            clear hy hB5 hB6
            by_cases hk0 : 0 < k
            · have ek0 : decide ((0 : Int) < (k : Int)) = true := by simp; omega
              have ek0n : decide (0 < k) = true := by simp; omega
              have ek1 : IntKind.i64.wrap ((k : Int) - 1) = ((k - 1 : Nat) : Int) := by rw [IntWalk.i64_in _ (by omega)]; omega
              have ek2 : (0 : Int) ≤ ((k - 1 : Nat) : Int) := by omega
              have ek3 : ((k - 1 : Nat) : Int) < (p : Int) := by omega
              obtain ⟨bD, oD, t, rfl, _, hx, cD⟩ := hRD.int_at (k := k - 1) (by omega)
              have et : tAt ts (k - 1) = t := by unfold tAt; rw [hx]; rfl
              have q1 : decide (y.r.at_ < t) = false := by have := hi0 hk0; simp; omega
              by_cases hkp : k < p
              · have ek4 : decide ((k : Int) < (p : Int)) = true := by simp; omega
                have ek4n : decide (k < p) = true := by simp; omega
                obtain ⟨bD', oD', u, e1, _, hx', cD'⟩ := hRD.int_at hkp
                cases e1
                have eu : tAt ts k = u := by unfold tAt; rw [hx']; rfl
                have q2 : decide (u ≤ y.r.at_) = false := by have := hi1 hkp; simp; omega
                have ek5 : (0 : Int) ≤ (k : Int) := by omega
                have ek6 : (k : Int) < (p : Int) := by omega
                clear hi0 hi1 hx hx' et eu hk0 hkp hRD
                go_wp2_with fail
                go_quiet (fail)
                go_wp2_with fail
                exact ⟨⟨jj + 1, by omega, by go_num, below_drewN HB6.out _⟩, by simp [intOf]; omega⟩
              · have ek4 : decide ((k : Int) < (p : Int)) = false := by simp; omega
                have ek4n : decide (k < p) = false := by simp; omega
                clear hi0 hi1 hx et hk0 hkp hRD
                go_wp2_with fail
                go_quiet (fail)
                go_wp2_with fail
                exact ⟨⟨jj + 1, by omega, by go_num, below_drewN HB6.out _⟩, by simp [intOf]; omega⟩
            · have ek0 : decide ((0 : Int) < (k : Int)) = false := by simp; omega
              have ek0n : decide (0 < k) = false := by simp; omega
              by_cases hkp : k < p
              · have ek4 : decide ((k : Int) < (p : Int)) = true := by simp; omega
                have ek4n : decide (k < p) = true := by simp; omega
                obtain ⟨bD', oD', u, rfl, _, hx', cD'⟩ := hRD.int_at hkp
                have eu : tAt ts k = u := by unfold tAt; rw [hx']; rfl
                have q2 : decide (u ≤ y.r.at_) = false := by have := hi1 hkp; simp; omega
                have ek5 : (0 : Int) ≤ (k : Int) := by omega
                have ek6 : (k : Int) < (p : Int) := by omega
                clear hi0 hi1 hx' eu hk0 hkp hRD
                go_wp2_with fail
                go_quiet (fail)
                go_wp2_with fail
                exact ⟨⟨jj + 1, by omega, by go_num, below_drewN HB6.out _⟩, by simp [intOf]; omega⟩
              · have ek4 : decide ((k : Int) < (p : Int)) = false := by simp; omega
                have ek4n : decide (k < p) = false := by simp; omega
                clear hi0 hi1 hk0 hkp hRD
                go_wp2_with fail
                go_quiet (fail)
                go_wp2_with fail
                exact ⟨⟨jj + 1, by omega, by go_num, below_drewN HB6.out _⟩, by simp [intOf]; omega⟩
          · have hj' : jj = sn := by omega
            subst hj'
            clear hjl
            have HOI := Lib.hid (HO.out.below HBI.out)
            have HSI := Lib.hid (bchain HS2.out HBI.out)
            go_wp2_with (at_builtin; go_loud (refine wpList_appRd It.vs 4 It.vs_length (by decide) It.one 40 40 _ 32 infoIt rfl rfl _ _ _ _ rfl Tryz.underlying23 Tryz.underlying23 w2.heap.size _ LF rfl HOI.out 0 jj sc sA PK rfl HRI.out (by omega) (by unfold maxLen; omega) (by have := HSI.out.size; omega) (fun v4 w4 hown4 hg4 _ => ?_)))
            exact ⟨⟨k + 1, by omega, by go_num, by rw [HFS.out]; exact hown4, below_row HSI.out hg4 (fun j' hj' => (HOI.out.blk j' hj').1)⟩, by simp [intOf]; omega⟩
      · have hk' : k = p + 1 := by omega
        subst hk'
        have HALL : Hid ((partsTo a ts (p + 1)).flatten = a) := by show _ = _; rw [← HLD.out]; exact parts_all GA.out HTS.out HINC.out
        have FA : Hid ((addR a b).2 = 0 → bagB (addR a b).1 = true ∧ ∀ lo hi, addR (cutL a lo hi) (cutL b lo hi) = (cutL (addR a b).1 lo hi, 0)) := fun h => ⟨by rw [(addR_ok h).2.2.2]; exact (addR_ok h).2.2.1, fun lo hi => add_cut h lo hi⟩
        have FP : Hid ((partsR b ts).2 = 0 → (partsR b ts).1 = partsTo b ts (p + 1)) := fun h => by
          unfold partsR at h ⊢
          rw [← HLD.out]
          split at h
          · rename_i hc; rw [if_pos hc]
          · cases h
        have FS : Hid (shiftR a z = (shiftL a z, 0)) := by show _ = _; unfold shiftR; rw [GA.out, if_pos rfl, if_pos (by omega)]
        have FB : Hid (shiftR (shiftL a z) (-z) = (cutR a (max 0 (-z)) (min 200 (200 - z)), 0)) := shift_back GA.out (by omega) (by omega)
        have hwz : IntKind.i64.wrap z = z := IntWalk.i64_in _ (by omega)
        have hwn : IntKind.i64.wrap (-z) = -z := IntWalk.i64_in _ (by omega)
        have hwl : IntKind.i64.wrap (200 - z) = 200 - z := IntWalk.i64_in _ (by omega)
        have hra := HO.out.rdOf It.vs_length
        rw [HALL.out] at hra
        have HRA := Lib.hid (hra.low (Nat.zero_le _))
        have hal : (partsTo a ts (p + 1)).flatten.length = a.length := by rw [HALL.out]
        rw [hal]
        clear hra hlt hal hsz
        obtain ⟨w3, rfl⟩ : ∃ u : World, u = wr := ⟨_, rfl⟩
        clear HB3 HB13
        generalize hx : addR a b = x at *
        have HX := Lib.hid hx
        clear hx
        generalize hx : partsR b ts = y at *
        have HY := Lib.hid hx
        clear hx
        obtain ⟨l2, e2⟩ := x
        obtain ⟨lm, e3⟩ := y
        dsimp only at FA FP
        have HE : Hid (decide (a = a) = true) := by show _ = _; simp
        have C := Lib.hid (Equal_any A3 A a.length n cap3 capA a a w3 HRA.out (HA.out.below (bchain HS0.out (bchain HS1.out HS2.out))))
        rw [HE.out] at C
        go_wp2_with fail
        (with_reducible refine C.out.mono ?_)
        rintro e w4 ⟨rfl, hb⟩
        have HS3 := Lib.hid hb
        clear hb C
        clear HE
        have C := Lib.hid ((Add_any A B n m capA capB a b w4 (HA.out.below (bchain HS0.out (bchain HS1.out (bchain HS2.out HS3.out)))) (HB.out.below (bchain HS0.out (bchain HS1.out (bchain HS2.out HS3.out))))).mono fun _ _ h => h.lst)
        rw [HX.out] at C
        go_wp2_with fail
        (with_reducible refine C.out.mono ?_)
        rintro e w5 ⟨⟨S11, q11, c11, rfl, hr⟩, hb⟩
        have HS4 := Lib.hid hb
        have HR11 := Lib.hid (hr.low (Nat.zero_le _))
        clear hr
        clear hb C
        have C := Lib.hid (Parts_any B D m p capB capD b ts w5 (HB.out.below (bchain HS0.out (bchain HS1.out (bchain HS2.out (bchain HS3.out HS4.out))))) (HD.out.below (bchain HS0.out (bchain HS1.out (bchain HS2.out (bchain HS3.out HS4.out))))))
        rw [HY.out] at C
        go_wp2_with fail
        (with_reducible refine C.out.mono ?_)
        rintro e w6 ⟨⟨A5, q5, c5, tt, rfl, hr, hg⟩, hb⟩
        have HS5 := Lib.hid hb
        have HQ5 := Lib.hid (hg.q hr)
        have HR5 := Lib.hid (hr.low (Nat.zero_le _))
        have HG5 := Lib.hid hg
        clear hr hg
        clear hb C
        by_cases hz2 : e2 = 0 ∧ e3 = 0
        · obtain ⟨rfl, rfl⟩ := hz2
          obtain ⟨g2, hac⟩ := FA.out (by trivial)
          have elm := FP.out (by trivial)
          subst elm
          have HAC := Lib.hid hac
          have E9 : Hid (partsR l2 ts = (partsTo l2 ts (p + 1), 0)) := by show _ = _; rw [← HLD.out]; exact partsR_ok (by rw [g2, HTB.out]; rfl)
          have hq5 := HQ5.out
          rw [partsTo_length] at hq5
          subst hq5
          clear FA FP HQ5 hac g2
          have C := Lib.hid (Parts_any S11 D q11 p c11 capD l2 ts w6 (HR11.out.below HS5.out) (HD.out.below (bchain HS0.out (bchain HS1.out (bchain HS2.out (bchain HS3.out (bchain HS4.out HS5.out)))))))
          rw [E9.out] at C
          go_wp2_with fail
          (with_reducible refine C.out.mono ?_)
          rintro e w7 ⟨⟨A7, q7, c7, uu, rfl, hr, hg⟩, hb⟩
          have HS6 := Lib.hid hb
          have hq7 := hg.q hr
          rw [partsTo_length] at hq7
          subst hq7
          have HR7 := Lib.hid (hr.low (Nat.zero_le _))
          have HG7 := Lib.hid hg
          clear hr hg
          clear hb C
          go_wp2_with fail
          go_loopw [156] (fun i wr => ∃ k : Nat, k ≤ p + 1 ∧ i = .int .i64 k ∧ Below w7.heap.size w7 wr) (fun i _ => p + 1 - (intOf i).toNat)
          case atStart => exact ⟨0, by omega, rfl, Below.refl _ _⟩
          case round =>
            obtain ⟨k, hk, rfl, hBr⟩ := hrel
            have HS7 := Lib.hid hBr
            clear hBr
            by_cases hlt : k < p + 1
            · have HC1 := Lib.hid (bchain HS1.out (bchain HS2.out (bchain HS3.out (bchain HS4.out (bchain HS5.out (bchain HS6.out HS7.out))))))
              have HC5 := Lib.hid (bchain HS6.out HS7.out)
              obtain ⟨bS, oS, ⟨sA, sn, sc⟩, rfl, hs, cS⟩ := (HR1.out.below HC1.out).sl_at hlt
              obtain ⟨bT, oT, ⟨tA, tn, tc⟩, rfl, ht, cT⟩ := (HR5.out.below HC5.out).sl_at hlt
              obtain ⟨bU, oU, ⟨uA, un, uc⟩, rfl, hu, cU⟩ := (HR7.out.below HS7.out).sl_at hlt
              have hr1 : Rd It.vs 4 wr 0 sA sn (partAt a ts k) := (HG1.out.below HC1.out).rd hs (partsTo_at a ts hlt)
              have hr2 : Rd It.vs 4 wr 0 tA tn (partAt b ts k) := (HG5.out.below HC5.out).rd ht (partsTo_at b ts hlt)
              have hr3 : Rd It.vs 4 wr 0 uA un (partAt l2 ts k) := (HG7.out.below HS7.out).rd hu (partsTo_at l2 ts hlt)
              have Q : ∀ w9, Below wr.heap.size wr w9 → Calls Tryz.prog 24 #[.slice sA sn sc, .slice tA tn tc] w9 (RetL w9 (partAt l2 ts k, 0)) := fun w9 hb9 => by
                have h := (Add_any sA tA sn tn sc tc (partAt a ts k) (partAt b ts k) w9 (hr1.below hb9) (hr2.below hb9)).mono fun _ _ h => h.lst
                have e : addR (partAt a ts k) (partAt b ts k) = (partAt l2 ts k, 0) := HAC.out _ _
                rw [e] at h
                exact h
              have HQ := Lib.hid Q
              have HR3 := Lib.hid hr3
              clear Q hr1 hr2 hr3 hs ht hu
              dsimp only at cS cT cU
              generalize partAt l2 ts k = PL at *
              go_wp2_with fail
              go_region_with (go_at_call 24; (with_reducible refine (HQ.out _ (by repeat' first | exact Below.refl _ _ | refine Below.drew ?_)).mono ?_); rintro e w9 ⟨⟨S9, q9, c9, rfl, hr9⟩, hb9⟩)
              all_goals have HE : Hid (decide (PL = PL) = true) := by show _ = _; simp
              all_goals have HB9 := Lib.hid hb9
              all_goals have HB8 := Lib.hid (bchain (Below.refl wr.heap.size wr).drew hb9)
              all_goals have C := Lib.hid (Equal_any S9 uA q9 un c9 uc PL PL w9 (hr9.low (Nat.zero_le _)) (HR3.out.below HB8.out))
              all_goals rw [HE.out] at C
              all_goals have cU9 := (HB8.out.cell (p := ⟨bU, oU + k, none⟩) (World.block_lt_of_cell? wr _ cU)).trans cU
              all_goals clear hr9 hb9 HE
              all_goals go_wp2_with fail
              all_goals (with_reducible refine C.out.mono ?_)
              all_goals rintro e w10 ⟨rfl, hb10⟩
              all_goals have HB10 := Lib.hid (bchain HS7.out (bchain HB8.out hb10))
              all_goals clear hb10 C
              all_goals go_wp2_with fail
              all_goals exact ⟨⟨k + 1, by omega, by go_num, HB10.out⟩, by simp [intOf]; omega⟩
            · have hk9 : k = p + 1 := by omega
              subst hk9
              clear hlt
              obtain ⟨w8, rfl⟩ : ∃ u : World, u = wr := ⟨_, rfl⟩
              have C := Lib.hid (Shift_any A n capA z a w8 (HA.out.below (bchain HS0.out (bchain HS1.out (bchain HS2.out (bchain HS3.out (bchain HS4.out (bchain HS5.out (bchain HS6.out HS7.out)))))))))
              rw [FS.out] at C
              go_wp2_with fail
              (with_reducible refine C.out.mono ?_)
              rintro e w9 ⟨⟨T1, r1, k1, rfl, hr⟩, hb⟩
              have HS8 := Lib.hid hb
              have HT1 := Lib.hid (hr.low (Nat.zero_le _))
              clear hr
              clear hb C
              have C := Lib.hid (Shift_any T1 r1 k1 (-z) (shiftL a z) w9 HT1.out)
              rw [FB.out] at C
              go_wp2_with fail
              (with_reducible refine C.out.mono ?_)
              rintro e w10 ⟨⟨T2, r2, k2, rfl, hr⟩, hb⟩
              have HS9 := Lib.hid hb
              have HT2 := Lib.hid (hr.low (Nat.zero_le _))
              clear hr
              clear hb C
              have C := Lib.hid (Cut_any A n capA (max 0 (-z)) (min 200 (200 - z)) a w10 (HA.out.below (bchain HS0.out (bchain HS1.out (bchain HS2.out (bchain HS3.out (bchain HS4.out (bchain HS5.out (bchain HS6.out (bchain HS7.out (bchain HS8.out HS9.out)))))))))) hn300)
              go_wp2_with fail
              (with_reducible refine C.out.mono ?_)
              rintro e w11 ⟨v, rfl, hown, hb⟩
              have HS10 := Lib.hid hb
              obtain ⟨T3, k3, rfl⟩ := hown.shape
              have HT3 := Lib.hid ((hown.rdOf It.vs_length).low (Nat.zero_le _))
              clear hown
              clear hb C
              have HLC := Lib.hid HT2.out.len
              have HE : Hid (decide ((cutR a (max 0 (-z)) (min 200 (200 - z))) = (cutR a (max 0 (-z)) (min 200 (200 - z)))) = true) := by show _ = _; simp
              have C := Lib.hid (Equal_any T2 T3 r2 (cutR a (max 0 (-z)) (min 200 (200 - z))).length k2 k3 (cutR a (max 0 (-z)) (min 200 (200 - z))) (cutR a (max 0 (-z)) (min 200 (200 - z))) w11 (HT2.out.below HS10.out) HT3.out)
              rw [HE.out] at C
              go_wp2_with fail
              (with_reducible refine C.out.mono ?_)
              rintro e w12 ⟨rfl, hb⟩
              have HS11 := Lib.hid hb
              clear hb C
              clear HE
              have C := Lib.hid (known_any w12 (HT.out.below (bchain HS0.out (bchain HS1.out (bchain HS2.out (bchain HS3.out (bchain HS4.out (bchain HS5.out (bchain HS6.out (bchain HS7.out (bchain HS8.out (bchain HS9.out (bchain HS10.out HS11.out)))))))))))))
              go_wp2_with fail
              (with_reducible refine C.out.mono ?_)
              rintro e w13 ⟨rfl, hb⟩
              have HS12 := Lib.hid hb
              clear hb C
              go_wp2_with fail
              go_ret
              exact ⟨rfl, (bchain HS0.out (bchain HS1.out (bchain HS2.out (bchain HS3.out (bchain HS4.out (bchain HS5.out (bchain HS6.out (bchain HS7.out (bchain HS8.out (bchain HS9.out (bchain HS10.out (bchain HS11.out HS12.out))))))))))))⟩
        · have h1 : (e2 == 0) = true ∨ (e2 == 0) = false := by cases (e2 == 0) <;> simp
          clear FA FP
          rcases h1 with h1 | h1
          · have h3 : (e3 == 0) = false := by
              simp at h1 ⊢
              omega
            clear hz2
            have C := Lib.hid (Shift_any A n capA z a w6 (HA.out.below (bchain HS0.out (bchain HS1.out (bchain HS2.out (bchain HS3.out (bchain HS4.out HS5.out)))))))
            rw [FS.out] at C
            go_wp2_with fail
            (with_reducible refine C.out.mono ?_)
            rintro e w7 ⟨⟨T1, r1, k1, rfl, hr⟩, hb⟩
            have HS6 := Lib.hid hb
            have HT1 := Lib.hid (hr.low (Nat.zero_le _))
            clear hr
            clear hb C
            have C := Lib.hid (Shift_any T1 r1 k1 (-z) (shiftL a z) w7 HT1.out)
            rw [FB.out] at C
            go_wp2_with fail
            (with_reducible refine C.out.mono ?_)
            rintro e w8 ⟨⟨T2, r2, k2, rfl, hr⟩, hb⟩
            have HS7 := Lib.hid hb
            have HT2 := Lib.hid (hr.low (Nat.zero_le _))
            clear hr
            clear hb C
            have C := Lib.hid (Cut_any A n capA (max 0 (-z)) (min 200 (200 - z)) a w8 (HA.out.below (bchain HS0.out (bchain HS1.out (bchain HS2.out (bchain HS3.out (bchain HS4.out (bchain HS5.out (bchain HS6.out HS7.out)))))))) hn300)
            go_wp2_with fail
            (with_reducible refine C.out.mono ?_)
            rintro e w9 ⟨v, rfl, hown, hb⟩
            have HS8 := Lib.hid hb
            obtain ⟨T3, k3, rfl⟩ := hown.shape
            have HT3 := Lib.hid ((hown.rdOf It.vs_length).low (Nat.zero_le _))
            clear hown
            clear hb C
            have HLC := Lib.hid HT2.out.len
            have HE : Hid (decide ((cutR a (max 0 (-z)) (min 200 (200 - z))) = (cutR a (max 0 (-z)) (min 200 (200 - z)))) = true) := by show _ = _; simp
            have C := Lib.hid (Equal_any T2 T3 r2 (cutR a (max 0 (-z)) (min 200 (200 - z))).length k2 k3 (cutR a (max 0 (-z)) (min 200 (200 - z))) (cutR a (max 0 (-z)) (min 200 (200 - z))) w9 (HT2.out.below HS8.out) HT3.out)
            rw [HE.out] at C
            go_wp2_with fail
            (with_reducible refine C.out.mono ?_)
            rintro e w10 ⟨rfl, hb⟩
            have HS9 := Lib.hid hb
            clear hb C
            clear HE
            have C := Lib.hid (known_any w10 (HT.out.below (bchain HS0.out (bchain HS1.out (bchain HS2.out (bchain HS3.out (bchain HS4.out (bchain HS5.out (bchain HS6.out (bchain HS7.out (bchain HS8.out HS9.out)))))))))))
            go_wp2_with fail
            (with_reducible refine C.out.mono ?_)
            rintro e w11 ⟨rfl, hb⟩
            have HS10 := Lib.hid hb
            clear hb C
            go_wp2_with fail
            go_ret
            exact ⟨rfl, (bchain HS0.out (bchain HS1.out (bchain HS2.out (bchain HS3.out (bchain HS4.out (bchain HS5.out (bchain HS6.out (bchain HS7.out (bchain HS8.out (bchain HS9.out HS10.out))))))))))⟩
          · clear hz2
            have C := Lib.hid (Shift_any A n capA z a w6 (HA.out.below (bchain HS0.out (bchain HS1.out (bchain HS2.out (bchain HS3.out (bchain HS4.out HS5.out)))))))
            rw [FS.out] at C
            go_wp2_with fail
            (with_reducible refine C.out.mono ?_)
            rintro e w7 ⟨⟨T1, r1, k1, rfl, hr⟩, hb⟩
            have HS6 := Lib.hid hb
            have HT1 := Lib.hid (hr.low (Nat.zero_le _))
            clear hr
            clear hb C
            have C := Lib.hid (Shift_any T1 r1 k1 (-z) (shiftL a z) w7 HT1.out)
            rw [FB.out] at C
            go_wp2_with fail
            (with_reducible refine C.out.mono ?_)
            rintro e w8 ⟨⟨T2, r2, k2, rfl, hr⟩, hb⟩
            have HS7 := Lib.hid hb
            have HT2 := Lib.hid (hr.low (Nat.zero_le _))
            clear hr
            clear hb C
            have C := Lib.hid (Cut_any A n capA (max 0 (-z)) (min 200 (200 - z)) a w8 (HA.out.below (bchain HS0.out (bchain HS1.out (bchain HS2.out (bchain HS3.out (bchain HS4.out (bchain HS5.out (bchain HS6.out HS7.out)))))))) hn300)
            go_wp2_with fail
            (with_reducible refine C.out.mono ?_)
            rintro e w9 ⟨v, rfl, hown, hb⟩
            have HS8 := Lib.hid hb
            obtain ⟨T3, k3, rfl⟩ := hown.shape
            have HT3 := Lib.hid ((hown.rdOf It.vs_length).low (Nat.zero_le _))
            clear hown
            clear hb C
            have HLC := Lib.hid HT2.out.len
            have HE : Hid (decide ((cutR a (max 0 (-z)) (min 200 (200 - z))) = (cutR a (max 0 (-z)) (min 200 (200 - z)))) = true) := by show _ = _; simp
            have C := Lib.hid (Equal_any T2 T3 r2 (cutR a (max 0 (-z)) (min 200 (200 - z))).length k2 k3 (cutR a (max 0 (-z)) (min 200 (200 - z))) (cutR a (max 0 (-z)) (min 200 (200 - z))) w9 (HT2.out.below HS8.out) HT3.out)
            rw [HE.out] at C
            go_wp2_with fail
            (with_reducible refine C.out.mono ?_)
            rintro e w10 ⟨rfl, hb⟩
            have HS9 := Lib.hid hb
            clear hb C
            clear HE
            have C := Lib.hid (known_any w10 (HT.out.below (bchain HS0.out (bchain HS1.out (bchain HS2.out (bchain HS3.out (bchain HS4.out (bchain HS5.out (bchain HS6.out (bchain HS7.out (bchain HS8.out HS9.out)))))))))))
            go_wp2_with fail
            (with_reducible refine C.out.mono ?_)
            rintro e w11 ⟨rfl, hb⟩
            have HS10 := Lib.hid hb
            clear hb C
            go_wp2_with fail
            go_ret
            exact ⟨rfl, (bchain HS0.out (bchain HS1.out (bchain HS2.out (bchain HS3.out (bchain HS4.out (bchain HS5.out (bchain HS6.out (bchain HS7.out (bchain HS8.out (bchain HS9.out HS10.out))))))))))⟩
end Go.Proofs.Bg
end
