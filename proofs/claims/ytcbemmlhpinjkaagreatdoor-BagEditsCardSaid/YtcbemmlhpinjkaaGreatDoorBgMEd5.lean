/- Texts of our own, merged: BgDo BgDoR BgEditsOf BgLawEdits. -/
import Derived.Test.YtcbemmlhpinjkaaGreatDoorBgMEd4
import Derived.StillTactics
import Derived.Deep.RegionHeld3
import Derived.Deep.AppendLies
import Derived.Deep.CutBlock
import Derived.Deep.DeepCutAuto
import Derived.Test.YtcbemmlhpinjkaaGreatDoorBgMEd2

section
/- The contracts of Do, and of the reference's items and Do. -/
namespace Go.Proofs.Bg
open Go.RowKit

theorem recB_spec (r : Rc) : recB r = true ↔ 0 ≤ r.at_ ∧ r.at_ ≤ 200 ∧ -1000000000 ≤ r.key ∧ r.key ≤ 1000000000 ∧ -1000000000 ≤ r.val ∧ r.val ≤ 1000000000 := by
  simp [recB, withinB]
  omega
theorem recB_ok {r : Rc} (h : recB r = true) : r.ok := by
  rw [recB_spec] at h
  unfold Rc.ok I64
  omega
theorem edB_recs {x : Ed} (h : edB x = true) : (x.d ≠ 1 → recB x.old = true) ∧ (x.d ≠ 2 → recB x.new = true) := by
  unfold edB at h
  rw [Bool.and_eq_true] at h
  obtain ⟨_, h2⟩ := h
  split at h2
  · rename_i h1
    rw [Bool.and_eq_true] at h2
    exact ⟨fun h => absurd h1 h, fun _ => h2.1⟩
  · rename_i h1
    split at h2
    · rename_i h3
      rw [Bool.and_eq_true] at h2
      exact ⟨fun _ => h2.1, fun h => absurd h3 h⟩
    · split at h2
      · rw [Bool.and_eq_true, Bool.and_eq_true] at h2
        exact ⟨fun _ => h2.1, fun _ => h2.2.1⟩
      · cases h2
theorem edIt_ok {x : Ed} (h : edB x = true) : ∀ y ∈ edIt x, y.r.ok ∧ -1000000 ≤ y.n ∧ y.n ≤ 1000000 := by
  obtain ⟨h1, h2, _⟩ := edB_spec h
  obtain ⟨h3, h4⟩ := edB_recs h
  intro y hy
  unfold edIt at hy
  rcases List.mem_append.1 hy with hy | hy
  · split at hy
    · cases hy
    · rename_i hd
      rw [List.mem_singleton.1 hy]
      exact ⟨recB_ok (h3 hd), by simp only; omega, by simp only; omega⟩
  · split at hy
    · cases hy
    · rename_i hd
      rw [List.mem_singleton.1 hy]
      exact ⟨recB_ok (h4 hd), by simp only; omega, by simp only; omega⟩
theorem edIt_length (x : Ed) : (edIt x).length ≤ 2 := by
  unfold edIt
  split <;> split <;> simp
theorem edIts_length (l : List Ed) : (edIts l).length ≤ 2 * l.length := by
  induction l with
  | nil => simp [edIts]
  | cons x r ih =>
    have := edIt_length x
    rw [edIts_cons, List.length_append, List.length_cons]
    omega
theorem fits_do {a : List It} {l : List Ed} (ha : bagB a = true) (hl : ∀ x ∈ l, edB x = true) (hlen : l.length ≤ 600) : Fits (a ++ edIts l) := by
  rw [bagB_spec] at ha
  have h : ∀ y ∈ a ++ edIts l, y.r.ok ∧ -1000000 ≤ y.n ∧ y.n ≤ 1000000 := fun y hy => by
    rcases List.mem_append.1 hy with hy | hy
    · have h1 := ha.1 y hy
      exact ⟨itB_ok h1, by have := (itB_spec y).1 h1; omega, by have := (itB_spec y).1 h1; omega⟩
    · obtain ⟨x, hx, hy⟩ := List.mem_flatMap.1 hy
      exact edIt_ok (hl x hx) y hy
  refine ⟨fun y hy => (h y hy).1, 1000000, by omega, fun y hy => (h y hy).2, ?_⟩
  have := edIts_length l
  rw [List.length_append]
  omega
theorem edIts_take {l : List Ed} {k : Nat} {x : Ed} (h : l[k]? = some x) : edIts (l.take (k + 1)) = edIts (l.take k) ++ edIt x := by
  rw [List.take_add_one, h, edIts_append]
  simp [edIts]
theorem take_all {l : List Ed} {k : Nat} {x : Ed} (h : l[k]? = some x) (h1 : ∀ y ∈ l.take k, edB y = true) (h2 : edB x = true) : ∀ y ∈ l.take (k + 1), edB y = true := fun y hy => by
  rw [List.take_add_one, h] at hy
  rcases List.mem_append.1 hy with hy | hy
  · exact h1 y hy
  · simp at hy
    rw [hy]
    exact h2
theorem doR_false {a : List It} {l : List Ed} {x : Ed} (hx : x ∈ l) (h : edB x = false) : doR a l = ([], 2) := by
  have : l.all edB = false := List.all_eq_false.2 ⟨x, hx, by simp [h]⟩
  simp [doR, this]
theorem SumIs.grown {w w' : World} {r : Nat} {L : List It} {row : Option Nat} (h : SumIs w r L) (hg : w.grownBy w' row) (hne : some r ≠ row) : SumIs w' r L := by
  obtain ⟨kv, hm, rest⟩ := h
  exact ⟨kv, hm.grown hg hne, rest⟩

/-- What the loop of Do holds. -/
def DoRel (w : World) (r : Nat) (a : List It) (l : List Ed) (k : Nat) (wr : World) : Prop :=
  (∀ x ∈ l.take k, edB x = true) ∧ SumIs wr r (a ++ edIts (l.take k)) ∧ Below w.heap.size w wr

set_option maxRecDepth 100000 in
set_option maxHeartbeats 8000000 in
theorem Do_any (A B : Option Addr) (n m capA capB : Nat) (a : List It) (l : List Ed) (w : World) (hA : Rd It.vs 4 w 0 A n a) (hB : Rd Ed.vs 8 w 0 B m l) :
    Calls Tryz.prog 32 #[.slice A n capA, .slice B m capB] w (RetBag w (doR a l)) := by
  have Q1 := Lib.hid (isBag_any A n capA a w hA)
  have HA := Lib.hid hA
  have HB := Lib.hid hB
  have hmle := hB.le
  clear hA hB
  cases ga : bagB a with
  | false =>
    have e1 : doR a l = ([], 2) := by simp [doR, ga]
    rw [e1]
    have GA := Lib.hid ga
    clear ga e1
    go_enter Tryz.func32, Tryz.ntmps32
    go_wp2_with (go_at_call 47; (with_reducible refine Q1.out.mono ?_); rintro e w1 ⟨rfl, hb1⟩; rw [GA.out]; have HB1 := Lib.hid hb1; clear hb1)
    go_ret2
    exact ⟨none, 0, rfl, Rd.nil _ _ _, HB1.out⟩
  | true =>
    have GA := Lib.hid ga
    by_cases hm : 600 < m
    · have e1 : doR a l = ([], 2) := by
        have : ¬ l.length ≤ 600 := by rw [HB.out.len]; omega
        simp [doR, this]
      rw [e1]
      have hd : decide ((600 : Int) < (m : Int)) = true := by simp; omega
      clear ga e1 hm
      go_enter Tryz.func32, Tryz.ntmps32
      go_wp2_with (go_at_call 47; (with_reducible refine Q1.out.mono ?_); rintro e w1 ⟨rfl, hb1⟩; rw [GA.out]; have HB1 := Lib.hid hb1; clear hb1)
      go_ret2
      exact ⟨none, 0, rfl, Rd.nil _ _ _, HB1.out⟩
    · have hd : decide ((600 : Int) < (m : Int)) = false := by simp; omega
      have hm6 : m ≤ 600 := by omega
      clear ga hm
      go_enter Tryz.func32, Tryz.ntmps32
      go_wp2_with fail
      (with_reducible refine Q1.out.mono ?_)
      rintro e w1 ⟨rfl, hb1⟩
      rw [GA.out]
      have HB1 := Lib.hid hb1
      clear hb1
      have hR3 := rdBs1 (capA := capA) 23 (HA.out.below HB1.out)
      have e2 : allIt [⟨A, n, capA, a⟩] = a := by simp [allIt]
      have hfa : Fits (a ++ edIts []) := fits_do GA.out (by simp) (by simp)
      have HAd := Lib.hid (added_any w1.heap.size 1 1 _ _ rfl hR3 (by rw [e2]; simpa [edIts] using hfa) (by omega))
      rw [e2] at HAd
      clear hR3 e2 hfa
      go_wp2_with (go_at_call 68; (with_reducible refine HAd.out.mono ?_); rintro e w4 ⟨rfl, hs4, hb4⟩)
      rw [World.size_alloc] at hs4
      have HB4 := Lib.hid (bchain (bchain HB1.out (below_new _ _)) hb4)
      have hr0 : w.heap.size ≤ w1.heap.size + 1 := by have := HB1.out.size; omega
      generalize w1.heap.size + 1 = r at *
      have HS4 := Lib.hid hs4
      have HR0 := Lib.hid hr0
      clear hs4 hb4 HAd hr0
      go_loopw [8, 22] (fun _ i wr => ∃ k : Nat, k ≤ m ∧ i = .int .i64 k ∧ DoRel w r a l k wr) (fun _ i _ => m - (intOf i).toNat)
      case atStart => exact ⟨0, by omega, rfl, by simp, by simpa [edIts] using HS4.out, HB4.out⟩
      case round =>
        clear HS4
        obtain ⟨k, hk, rfl, hall, hS, hBr⟩ := hrel
        have hRk := HB.out.below hBr
        have HAL := Lib.hid hall
        have HS := Lib.hid hS
        have HBR := Lib.hid hBr
        have hrl := hS.lt
        clear hall hS hBr
        by_cases hlt : k < m
        · obtain ⟨b, off, x, rfl, hx, c0, c1, c2, c3, c4, c5, c6, c7⟩ := hRk.ed_at hlt
          have HX := Lib.hid hx
          have HBX := Lib.hid (new_block wr #[.int .i64 x.d, .int .i64 x.old.at_, .int .i64 x.old.key, .int .i64 x.old.val, .int .i64 x.new.at_, .int .i64 x.new.key, .int .i64 x.new.val, .int .i64 x.n] 79)
          obtain ⟨f0, f1, f2, f3, f4, f5, f6, f7⟩ := box8 HBX.out
          have C1 := Lib.hid (isEdit_any x.d x.old.at_ x.old.key x.old.val x.new.at_ x.new.key x.new.val x.n (wr.alloc (.cells #[.int .i64 x.d, .int .i64 x.old.at_, .int .i64 x.old.key, .int .i64 x.old.val, .int .i64 x.new.at_, .int .i64 x.new.key, .int .i64 x.new.val, .int .i64 x.n] 79)))
          have HAB : Hid (Below w.heap.size w (wr.alloc (.cells #[.int .i64 x.d, .int .i64 x.old.at_, .int .i64 x.old.key, .int .i64 x.old.val, .int .i64 x.new.at_, .int .i64 x.new.key, .int .i64 x.new.val, .int .i64 x.n] 79))) := HBR.out.alloc HBR.out.size _
          have HS1 := Lib.hid (HS.out.alloc (.cells #[.int .i64 x.d, .int .i64 x.old.at_, .int .i64 x.old.key, .int .i64 x.old.val, .int .i64 x.new.at_, .int .i64 x.new.key, .int .i64 x.new.val, .int .i64 x.n] 79))
          clear hx hRk
          cases he : edB x with
          | false =>
            have E1 := Lib.hid (doR_false (a := a) (List.mem_of_getElem? HX.out) he)
            have HE := Lib.hid he
            clear he
            go_wp2_with (go_at_call 80; (with_reducible refine C1.out.mono ?_); rintro e w5 ⟨rfl, hb5⟩; rw [HE.out]; have HB5 := Lib.hid hb5; clear hb5)
            go_ret2
            rw [E1.out]
            exact ⟨none, 0, rfl, Rd.nil _ _ _, bchain HAB.out HB5.out⟩
          | true =>
            have HE := Lib.hid he
            have HALL := Lib.hid (take_all HX.out HAL.out he)
            have hft := fits_do GA.out HALL.out (by rw [List.length_take]; omega)
            rw [edIts_take HX.out] at hft
            have HFT := Lib.hid hft
            have HTK := Lib.hid (edIts_take HX.out)
            obtain ⟨n1, n2, h3⟩ := edB_spec he
            have hwn : IntKind.i64.wrap (-x.n) = -x.n := IntWalk.i64_in _ (by omega)
            have hrs : r < wr.heap.size := hrl
            clear he hft
            rcases h3 with h3 | h3 | ⟨h3, h4⟩
            · have HEI : Hid (edIt x = [⟨x.new, x.n⟩]) := by show _ = _; simp [edIt, h3]
              rw [HEI.out] at HFT HTK
              have q1 : (x.d != 1) = false := by simp [h3]
              have q2 : (x.d != 2) = true := by simp [h3]
              have hp := HFT.out.put (P := a ++ edIts (l.take k)) (x := ⟨x.new, x.n⟩) (rest := []) (by simp)
              have HP := Lib.hid hp
              clear h3 hp
              go_wp2_with (first | (go_at_call 80; (with_reducible refine C1.out.mono ?_); rintro e w5 ⟨rfl, hb5⟩; rw [HE.out]; have hk5 := block_keep (w := w) HBX.out hb5; obtain ⟨g0, g1, g2, g3, g4, g5, g6, g7⟩ := box8 hk5; have HB5 := Lib.hid hb5; have hc0 := put_sum r _ ⟨x.new, x.n⟩ w5 (HS1.out.below hb5) HP.out.1 HP.out.2; dsimp only at hc0; have HC2 := Lib.hid hc0; clear hc0; clear hb5 hk5) | (go_at_call 48; (with_reducible refine HC2.out.mono ?_); rintro e w6 ⟨rfl, hs6, hg6⟩; have HS6 := Lib.hid hs6; have HG6 := Lib.hid hg6; clear hs6 hg6))
              refine ⟨⟨k + 1, by omega, by go_num, HALL.out, by rw [HTK.out, ← List.append_assoc]; exact HS6.out, below_row (bchain HAB.out HB5.out) HG6.out (fun g e => by cases e; exact HR0.out)⟩, by simp [intOf]; omega⟩
            · have HEI : Hid (edIt x = [⟨x.old, -x.n⟩]) := by show _ = _; simp [edIt, h3]
              rw [HEI.out] at HFT HTK
              have q1 : (x.d != 1) = true := by simp [h3]
              have q2 : (x.d != 2) = false := by simp [h3]
              have hp := HFT.out.put (P := a ++ edIts (l.take k)) (x := ⟨x.old, -x.n⟩) (rest := []) (by simp)
              have HP := Lib.hid hp
              clear h3 hp
              go_wp2_with (first | (go_at_call 80; (with_reducible refine C1.out.mono ?_); rintro e w5 ⟨rfl, hb5⟩; rw [HE.out]; have hk5 := block_keep (w := w) HBX.out hb5; obtain ⟨g0, g1, g2, g3, g4, g5, g6, g7⟩ := box8 hk5; have HK5 := Lib.hid hk5; have HB5 := Lib.hid hb5; have hc0 := put_sum r _ ⟨x.old, -x.n⟩ w5 (HS1.out.below hb5) HP.out.1 HP.out.2; dsimp only at hc0; have HC2 := Lib.hid hc0; clear hc0; clear hb5 hk5) | (go_at_call 48; (with_reducible refine HC2.out.mono ?_); rintro e w6 ⟨rfl, hs6, hg6⟩; have hk6 := (hg6.block wr.heap.size (Array.getElem?_eq_some_iff.1 HK5.out).1 (fun e => by cases e; omega)).trans HK5.out; obtain ⟨e0, e1, e2, e3, e4, e5, e6, e7⟩ := box8 hk6; have HS6 := Lib.hid hs6; have HG6 := Lib.hid hg6; clear hs6 hg6 hk6))
              refine ⟨⟨k + 1, by omega, by go_num, HALL.out, by rw [HTK.out, ← List.append_assoc]; exact HS6.out, below_row (bchain HAB.out HB5.out) HG6.out (fun g e => by cases e; exact HR0.out)⟩, by simp [intOf]; omega⟩
            · have HEI : Hid (edIt x = [⟨x.old, -x.n⟩, ⟨x.new, x.n⟩]) := by show _ = _; simp [edIt, h3]
              rw [HEI.out] at HFT HTK
              have q1 : (x.d != 1) = true := by simp [h3]
              have q2 : (x.d != 2) = true := by simp [h3]
              have hp := HFT.out.put (P := a ++ edIts (l.take k)) (x := ⟨x.old, -x.n⟩) (rest := [⟨x.new, x.n⟩]) (by simp)
              have HP := Lib.hid hp
              have hp2 := HFT.out.put (P := (a ++ edIts (l.take k)) ++ [⟨x.old, -x.n⟩]) (x := ⟨x.new, x.n⟩) (rest := []) (by simp)
              have HP2 := Lib.hid hp2
              clear h3 h4 hp hp2
              go_wp2_with fail
              (with_reducible refine C1.out.mono ?_)
              rintro e w5 ⟨rfl, hb5⟩
              rw [HE.out]
              have hk5 := block_keep (w := w) HBX.out hb5
              obtain ⟨g0, g1, g2, g3, g4, g5, g6, g7⟩ := box8 hk5
              have HK5 := Lib.hid hk5
              have HB5 := Lib.hid hb5
              have hc0 := put_sum r _ ⟨x.old, -x.n⟩ w5 (HS1.out.below hb5) HP.out.1 HP.out.2
              dsimp only at hc0
              have HC2 := Lib.hid hc0
              clear hc0 hb5 hk5
              go_wp2_with fail
              (with_reducible refine HC2.out.mono ?_)
              clear HC2
              rintro e w6 ⟨rfl, hs6, hg6⟩
              have hk6 := (hg6.block wr.heap.size (Array.getElem?_eq_some_iff.1 HK5.out).1 (fun e => by cases e; omega)).trans HK5.out
              obtain ⟨e0, e1, e2, e3, e4, e5, e6, e7⟩ := box8 hk6
              have HG6 := Lib.hid hg6
              have hc0 := put_sum r _ ⟨x.new, x.n⟩ w6 hs6 HP2.out.1 HP2.out.2
              dsimp only at hc0
              have HC3 := Lib.hid hc0
              clear hs6 hg6 hk6 hc0 g0 g1 g2 g3 g4 g5 g6 g7
              go_wp2_with fail
              (with_reducible refine HC3.out.mono ?_)
              clear HC3
              rintro e w7 ⟨rfl, hs7, hg7⟩
              have HS7 := Lib.hid hs7
              have HG7 := Lib.hid hg7
              clear hs7 hg7
              go_wp2_with fail
              refine ⟨⟨k + 1, by omega, by go_num, HALL.out, ?_, below_row (below_row (bchain HAB.out HB5.out) HG6.out (fun g e => by cases e; exact HR0.out)) HG7.out (fun g e => by cases e; exact HR0.out)⟩, by simp [intOf]; omega⟩
              have := HS7.out
              rw [HTK.out]
              simpa using this
        · have hk' : k = m := by omega
          subst hk'
          clear hRk hlt
          have et : l.take k = l := List.take_of_length_le (by rw [HB.out.len]; exact Nat.le_refl _)
          rw [et] at HS HAL
          have hll : l.length ≤ 600 := by rw [HB.out.len]; exact hm6
          have hf := fits_do GA.out HAL.out hll
          have E1 : Hid (doR a l = (bagOr (a ++ edIts l), errOr (a ++ edIts l))) := by show _ = _; simp [doR, GA.out, hll, List.all_eq_true.2 HAL.out]
          have hlen : (a ++ edIts l).length * 32 ≤ 140737488355328 := by
            have h1 := ((bagB_spec a).1 GA.out).2.2
            have h2 := edIts_length l
            rw [List.length_append]; omega
          have HC := Lib.hid (bag_sum r _ wr HS.out hf.ok hlen)
          clear et hll hf hlen
          generalize a ++ edIts l = L at *
          go_wp2_with (go_at_call 50; (with_reducible refine HC.out.mono ?_); rintro e w5 ⟨A5, cap5, rfl, hr5, hb5⟩)
          go_ret2
          rw [E1.out]
          exact ⟨A5, cap5, rfl, hr5.low HBR.out.size, bchain HBR.out hb5⟩
end Go.Proofs.Bg
end

section
/- The contracts of the reference's items and Do. -/
namespace Go.Proofs.Bg
open Go.RowKit

/-- What the loop of items holds. -/
def ItsRel (w : World) (L : List It) (v : Value) (wr : World) : Prop := Own It.vs 4 40 w.heap.size wr v L ∧ Below w.heap.size w wr

set_option maxRecDepth 100000 in
set_option maxHeartbeats 4000000 in
theorem itemsR_any (B : Option Addr) (m capB : Nat) (l : List Ed) (w : World) (hB : Rd Ed.vs 8 w 0 B m l) (hb : ∀ x ∈ l, -1000000000000000 ≤ x.n ∧ x.n ≤ 1000000000000000) (hm : m ≤ 600) :
    Calls Tryz.prog 82 #[.slice B m capB] w fun e w' => ∃ A n cap, e = .returned (.slice A n cap) ∧ Rd It.vs 4 w' w.heap.size A n (edIts l) ∧ Below w.heap.size w w' := by
  have HB := Lib.hid hB
  have HBD := Lib.hid hb
  have hmle := hB.le
  clear hB hb
  go_enter Tryz.func82, Tryz.ntmps82
  go_wp2_with fail
  go_loopw [3, 5, 8] (fun v _ i wr => ∃ k : Nat, k ≤ m ∧ i = .int .i64 k ∧ ItsRel w (edIts (l.take k)) v wr) (fun _ _ i _ => m - (intOf i).toNat)
  case atStart => exact ⟨0, by omega, rfl, by simpa [edIts] using Own.nil _ _ _ _ _, Below.refl _ _⟩
  case round =>
    obtain ⟨k, hk, rfl, hown, hBr⟩ := hrel
    obtain ⟨A3, cap3, rfl⟩ := hown.shape
    have hRk := HB.out.below hBr
    have HO := Lib.hid hown
    have HBR := Lib.hid hBr
    have hsz := hBr.size
    have hlen : (edIts (l.take k)).length ≤ 1200 := by
      have h1 := edIts_length (l.take k)
      have h2 := List.length_take_le k l
      omega
    clear hown hBr
    by_cases hlt : k < m
    · obtain ⟨b, off, x, rfl, hx, c0, c1, c2, c3, c4, c5, c6, c7⟩ := hRk.ed_at hlt
      have hxb := HBD.out x (List.mem_of_getElem? hx)
      have hwn : IntKind.i64.wrap (-x.n) = -x.n := IntWalk.i64_in _ (by omega)
      have HTK := Lib.hid (edIts_take hx)
      have HBX := Lib.hid (new_block wr #[.int .i64 x.d, .int .i64 x.old.at_, .int .i64 x.old.key, .int .i64 x.old.val, .int .i64 x.new.at_, .int .i64 x.new.key, .int .i64 x.new.val, .int .i64 x.n] 79)
      obtain ⟨f0, f1, f2, f3, f4, f5, f6, f7⟩ := box8 HBX.out
      generalize edIts (l.take k) = L at *
      clear hx hRk
      by_cases h1 : x.d = 1
      · have HEI : Hid (edIt x = [⟨x.new, x.n⟩]) := by show _ = _; simp [edIt, h1]
        rw [HEI.out] at HTK
        have q1 : (x.d != 1) = false := by simp [h1]
        have q2 : (x.d != 2) = true := by simp [h1]
        clear h1
        go_wp2_with (at_builtin; go_loud (refine wpList_app1 It.vs 4 40 _ 32 infoIt rfl (by decide) rfl _ _ _ rfl Tryz.underlying22 w.heap.size _ L rfl ((HO.out.alloc _).alloc _) ⟨x.new, x.n⟩ _ _ rfl rfl (newAt _ _ _ _ (by simp)) (by simp [It.vs, Value.oneCell']) (by omega) (by unfold maxLen; omega) (by simp; omega) (fun v4 w4 hown4 hg4 _ => ?_)))
        exact ⟨⟨k + 1, by omega, by go_num, by rw [HTK.out]; exact hown4, below_row ((HBR.out.alloc hsz _).alloc (by simp; omega) _) hg4 (fun j hj => (HO.out.blk j hj).1)⟩, by simp [intOf]; omega⟩
      · have q1 : (x.d != 1) = true := by simpa using h1
        by_cases h2 : x.d = 2
        · have HEI : Hid (edIt x = [⟨x.old, -x.n⟩]) := by show _ = _; simp [edIt, h2]
          rw [HEI.out] at HTK
          have q2 : (x.d != 2) = false := by simp [h2]
          clear h1 h2
          go_wp2_with (at_builtin; go_loud (refine wpList_app1 It.vs 4 40 _ 32 infoIt rfl (by decide) rfl _ _ _ rfl Tryz.underlying22 w.heap.size _ L rfl ((HO.out.alloc _).alloc _) ⟨x.old, -x.n⟩ _ _ rfl rfl (newAt _ _ _ _ (by simp)) (by simp [It.vs, Value.oneCell']) (by omega) (by unfold maxLen; omega) (by simp; omega) (fun v4 w4 hown4 hg4 _ => ?_)); have hk6 := (hg4.block wr.heap.size (by simp; omega) (fun e => by have := (HO.out.blk _ e.symm).2; omega)).trans ((Below.heap_alloc _ _ _ (by simp)).trans HBX.out); obtain ⟨e0, e1, e2, e3, e4, e5, e6, e7⟩ := box8 hk6; have HO4 := Lib.hid hown4; have HG4 := Lib.hid hg4; clear hown4 hg4 hk6)
          exact ⟨⟨k + 1, by omega, by go_num, by rw [HTK.out]; exact HO4.out, below_row ((HBR.out.alloc hsz _).alloc (by simp; omega) _) HG4.out (fun j hj => (HO.out.blk j hj).1)⟩, by simp [intOf]; omega⟩
        · have HEI : Hid (edIt x = [⟨x.old, -x.n⟩, ⟨x.new, x.n⟩]) := by show _ = _; simp [edIt, h1, h2]
          rw [HEI.out] at HTK
          have q2 : (x.d != 2) = true := by simpa using h2
          clear h1 h2
          go_wp2_with (first | (at_builtin; refine wpList_app1 It.vs 4 40 _ 32 infoIt rfl (by decide) rfl _ _ _ rfl Tryz.underlying22 w.heap.size _ L rfl ((HO.out.alloc _).alloc _) ⟨x.old, -x.n⟩ _ _ rfl rfl (newAt _ _ _ _ (by simp)) (by simp [It.vs, Value.oneCell']) (by omega) (by unfold maxLen; omega) (by simp; omega) (fun v4 w4 hown4 hg4 _ => ?_); have hk6 := (hg4.block wr.heap.size (by simp; omega) (fun e => by have := (HO.out.blk _ e.symm).2; omega)).trans ((Below.heap_alloc _ _ _ (by simp)).trans HBX.out); obtain ⟨e0, e1, e2, e3, e4, e5, e6, e7⟩ := box8 hk6; have HO4 := Lib.hid hown4; have HB4 := Lib.hid (below_row ((HBR.out.alloc hsz _).alloc (by simp; omega) _) hg4 (fun j hj => (HO.out.blk j hj).1)); clear hown4 hg4 hk6) | (at_builtin; go_loud (refine wpList_app1 It.vs 4 40 _ 32 infoIt rfl (by decide) rfl _ _ _ rfl Tryz.underlying22 w.heap.size _ (L ++ [⟨x.old, -x.n⟩]) rfl (HO4.out.alloc _) ⟨x.new, x.n⟩ _ _ rfl rfl (newAt _ _ _ _ rfl) (by simp [It.vs, Value.oneCell']) (by simp; omega) (by unfold maxLen; simp; omega) (by have := HB4.out.size; simp; omega) (fun v5 w5 hown5 hg5 _ => ?_)); have HO5 := Lib.hid hown5; have HG5 := Lib.hid hg5; clear hown5 hg5))
          refine ⟨⟨k + 1, by omega, by go_num, ?_, below_row (HB4.out.alloc HB4.out.size _) HG5.out (fun j hj => (HO4.out.blk j hj).1)⟩, by simp [intOf]; omega⟩
          have := HO5.out
          rw [HTK.out]
          simpa using this
    · have hk' : k = m := by omega
      subst hk'
      clear hRk hlt hlen
      have et : l.take k = l := List.take_of_length_le (by rw [HB.out.len]; exact Nat.le_refl _)
      rw [et] at HO
      have hr := HO.out.rdOf It.vs_length
      have HR := Lib.hid hr
      have HE : Hid ((edIts (l.take k)).length = (edIts l).length) := by show _ = _; rw [et]
      clear hr et
      go_wp2_with fail
      go_ret
      rw [HE.out]
      exact ⟨_, _, _, rfl, HR.out, HBR.out⟩

/-- What the reference's loop over edits holds. -/
def EdAll (w : World) (l : List Ed) (k : Nat) (wr : World) : Prop := (∀ x ∈ l.take k, edB x = true) ∧ Below w.heap.size w wr

set_option maxRecDepth 100000 in
set_option maxHeartbeats 8000000 in
theorem DoR_any (A B : Option Addr) (n m capA capB : Nat) (a : List It) (l : List Ed) (w : World) (hA : Rd It.vs 4 w 0 A n a) (hB : Rd Ed.vs 8 w 0 B m l) :
    Calls Tryz.prog 33 #[.slice A n capA, .slice B m capB] w (RetNew w (doR a l)) := by
  have Q1 := Lib.hid (Good_any A n capA a w hA)
  have HA := Lib.hid hA
  have HB := Lib.hid hB
  have hmle := hB.le
  clear hA hB
  cases ga : bagB a with
  | false =>
    have e1 : doR a l = ([], 2) := by simp [doR, ga]
    rw [e1]
    have GA := Lib.hid ga
    clear ga e1
    go_enter Tryz.func33, Tryz.ntmps33
    go_wp2_with (go_at_call 44; (with_reducible refine Q1.out.mono ?_); rintro e w1 ⟨rfl, hb1⟩; rw [GA.out]; have HB1 := Lib.hid hb1; clear hb1)
    go_ret2
    exact ⟨⟨none, 0, 0, rfl, Rd.nil _ _ _⟩, HB1.out⟩
  | true =>
    have GA := Lib.hid ga
    by_cases hm : 600 < m
    · have e1 : doR a l = ([], 2) := by
        have : ¬ l.length ≤ 600 := by rw [HB.out.len]; omega
        simp [doR, this]
      rw [e1]
      have hd : decide ((600 : Int) < (m : Int)) = true := by simp; omega
      clear ga e1 hm
      go_enter Tryz.func33, Tryz.ntmps33
      go_wp2_with (go_at_call 44; (with_reducible refine Q1.out.mono ?_); rintro e w1 ⟨rfl, hb1⟩; rw [GA.out]; have HB1 := Lib.hid hb1; clear hb1)
      go_ret2
      exact ⟨⟨none, 0, 0, rfl, Rd.nil _ _ _⟩, HB1.out⟩
    · have hd : decide ((600 : Int) < (m : Int)) = false := by simp; omega
      have hm6 : m ≤ 600 := by omega
      have hn3 : n ≤ 300 := by rw [← HA.out.len]; exact ((bagB_spec a).1 ga).2.2
      clear ga hm
      go_enter Tryz.func33, Tryz.ntmps33
      go_wp2_with fail
      (with_reducible refine Q1.out.mono ?_)
      rintro e w1 ⟨rfl, hb1⟩
      rw [GA.out]
      have HB1 := Lib.hid hb1
      clear hb1
      go_wp2_with fail
      go_loopw [7, 18] (fun _ i wr => ∃ k : Nat, k ≤ m ∧ i = .int .i64 k ∧ EdAll w l k wr) (fun _ i _ => m - (intOf i).toNat)
      case atStart => exact ⟨0, by omega, rfl, by simp, HB1.out⟩
      case round =>
        obtain ⟨k, hk, rfl, hall, hBr⟩ := hrel
        have hRk := HB.out.below hBr
        have HAL := Lib.hid hall
        have HBR := Lib.hid hBr
        clear hall hBr
        by_cases hlt : k < m
        · obtain ⟨b, off, x, rfl, hx, c0, c1, c2, c3, c4, c5, c6, c7⟩ := hRk.ed_at hlt
          have HX := Lib.hid hx
          have HBX := Lib.hid (new_block wr #[.int .i64 x.d, .int .i64 x.old.at_, .int .i64 x.old.key, .int .i64 x.old.val, .int .i64 x.new.at_, .int .i64 x.new.key, .int .i64 x.new.val, .int .i64 x.n] 79)
          obtain ⟨f0, f1, f2, f3, f4, f5, f6, f7⟩ := box8 HBX.out
          have C1 := Lib.hid (Edit_any x.d x.old.at_ x.old.key x.old.val x.new.at_ x.new.key x.new.val x.n (wr.alloc (.cells #[.int .i64 x.d, .int .i64 x.old.at_, .int .i64 x.old.key, .int .i64 x.old.val, .int .i64 x.new.at_, .int .i64 x.new.key, .int .i64 x.new.val, .int .i64 x.n] 79)))
          have HAB : Hid (Below w.heap.size w (wr.alloc (.cells #[.int .i64 x.d, .int .i64 x.old.at_, .int .i64 x.old.key, .int .i64 x.old.val, .int .i64 x.new.at_, .int .i64 x.new.key, .int .i64 x.new.val, .int .i64 x.n] 79))) := HBR.out.alloc HBR.out.size _
          clear hx hRk
          cases he : edB x with
          | false =>
            have E1 := Lib.hid (doR_false (a := a) (List.mem_of_getElem? HX.out) he)
            have HE := Lib.hid he
            clear he
            go_wp2_with (go_at_call 81; (with_reducible refine C1.out.mono ?_); rintro e w5 ⟨rfl, hb5⟩; rw [HE.out]; have HB5 := Lib.hid hb5; clear hb5)
            go_ret2
            rw [E1.out]
            exact ⟨⟨none, 0, 0, rfl, Rd.nil _ _ _⟩, bchain HAB.out HB5.out⟩
          | true =>
            have HE := Lib.hid he
            have HALL := Lib.hid (take_all HX.out HAL.out he)
            clear he
            go_wp2_with (go_at_call 81; (with_reducible refine C1.out.mono ?_); rintro e w5 ⟨rfl, hb5⟩; rw [HE.out]; have HB5 := Lib.hid hb5; clear hb5)
            exact ⟨⟨k + 1, by omega, by go_num, HALL.out, bchain HAB.out HB5.out⟩, by simp [intOf]; omega⟩
        · have hk' : k = m := by omega
          subst hk'
          clear hRk hlt
          have et : l.take k = l := List.take_of_length_le (by rw [HB.out.len]; exact Nat.le_refl _)
          rw [et] at HAL
          have hll : l.length ≤ 600 := by rw [HB.out.len]; exact hm6
          have HF := Lib.hid (fits_do GA.out HAL.out hll)
          have E1 : Hid (doR a l = longR (canon (a ++ edIts l))) := by show _ = _; rw [bagOr_long]; simp [doR, GA.out, hll, List.all_eq_true.2 HAL.out]
          have hel : (edIts l).length ≤ 1200 := by have := edIts_length l; omega
          have HLA : Hid (a.length = n) := HA.out.len
          have hbd : ∀ x ∈ l, -1000000000000000 ≤ x.n ∧ x.n ≤ 1000000000000000 := fun x hx => by have := (edB_spec (HAL.out x hx)); omega
          have HBD := Lib.hid hbd
          clear et hll hbd
          go_wp2_with (first | (at_builtin; refine wpList_appRd It.vs 4 It.vs_length (by decide) It.one 40 40 _ 32 infoIt rfl rfl _ _ _ _ rfl Tryz.underlying22 Tryz.underlying23 wr.heap.size _ [] rfl (Own.nil _ _ _ _ _) 0 n capA A a rfl (HA.out.below HBR.out) (by simp; omega) (by unfold maxLen; simp; omega) (Nat.le_refl _) (fun v5 w5 hown5 hg5 _ => ?_); rw [List.nil_append] at hown5; have hb5 : Below wr.heap.size wr w5 := (Below.refl _ _).grown hg5 (Nat.le_refl _) (fun k e => by cases e); have HB5 := Lib.hid (bchain HBR.out hb5); have HB45 := Lib.hid hb5; have HO5 := Lib.hid hown5; have C2 := Lib.hid (itemsR_any B k capB l w5 (HB.out.below HB5.out) HBD.out hm6); clear hown5 hg5 hb5) | (go_at_call 82; (with_reducible refine C2.out.mono ?_); rintro e w6 ⟨A6, n6, c6, rfl, hr6, hb6⟩; have HB6 := Lib.hid (bchain HB5.out hb6); have HB46 := Lib.hid (bchain HB45.out hb6); have HO6 := Lib.hid (HO5.out.below hb6); have HR6 := Lib.hid hr6; have hn6 : n6 ≤ 1200 := (by rw [← hr6.len]; exact hel); clear hr6 hb6 C2) | (at_builtin; go_loud (refine wpList_appRd It.vs 4 It.vs_length (by decide) It.one 40 40 _ 32 infoIt rfl rfl _ _ _ _ rfl Tryz.underlying22 Tryz.underlying22 wr.heap.size _ a rfl HO6.out _ n6 c6 A6 (edIts l) rfl HR6.out (by rw [HLA.out]; omega) (by rw [HLA.out]; unfold maxLen; omega) HB46.out.size (fun v7 w7 hown7 hg7 _ => ?_)); have HB7 := Lib.hid (below_row HB46.out hg7 (fun k e => (HO6.out.blk k e).1)); have HO7 := Lib.hid hown7; obtain ⟨A7, c7, rfl⟩ := hown7.shape; clear hown7 hg7))
          have hr7 := HO7.out.rdOf It.vs_length
          have hcp := HO7.out.capOf
          rw [List.length_append] at hr7 hcp
          have C3 := Lib.hid (Of_any A7 (a.length + (edIts l).length) c7 (a ++ edIts l) w7 (hr7.low (Nat.zero_le _)) hcp (by rw [HLA.out]; omega) HF.out)
          clear hr7 hcp
          (with_reducible refine C3.out.mono ?_)
          rintro e w8 ⟨A8, c8, rfl, hr8, hb8⟩
          have HL := Lib.hid (longLo_any w7.heap.size A8 _ c8 _ w8 hr8)
          have HB8 := Lib.hid (bchain (bchain HBR.out HB7.out) hb8)
          have HSZ : Hid (w.heap.size ≤ w7.heap.size) := (bchain HBR.out HB7.out).size
          clear hr8 hb8 C3
          generalize hq : longR (canon (a ++ edIts l)) = q at *
          generalize (canon (a ++ edIts l)).length = p at *
          clear hq
          go_wp2_with (go_at_call 51; (with_reducible refine HL.out.mono ?_); rintro e w9 ⟨⟨A9, n9, c9, rfl, hr9⟩, hb9⟩)
          go_ret2
          rw [E1.out]
          exact ⟨⟨_, _, _, rfl, hr9.low HSZ.out⟩, bchain HB8.out hb9⟩
end Go.Proofs.Bg
end

section
/- The contracts of the reference's EditsOf and Edits. -/
namespace Go.Proofs.Bg
open Go.RowKit

theorem own_win_ne {base b : Nat} {w : World} {v : Value} {L : List Ed} {A : Option Addr} {cap : Nat} {l : List It} (h : Own Ed.vs 8 79 base w v L) (hw : Win b w A cap l) (hl : l ≠ []) : v.ownBlock ≠ some b := by
  obtain ⟨_, _, c, hb⟩ := hw.blk hl
  rcases h.2 with ⟨rfl, _⟩ | ⟨g, cap', cur, rfl, _, hg, _⟩
  · simp [Value.ownBlock]
  · intro e
    have : g = b := Option.some.inj e
    subst this
    rw [hb] at hg
    have := Obj.cells.inj (Option.some.inj hg)
    exact absurd this.2.1 (by decide)
/-- What the inner loops of EditsOf hold. -/
structure ERel (w2 : World) (L : List Ed) (l1 l2 : List It) (A1 : Option Addr) (c1 : Nat) (A2 : Option Addr) (c2 : Nat) (v : Value) (wr : World) : Prop where
  own : Own Ed.vs 8 79 w2.heap.size wr v L
  win1 : ∃ b, Win b wr A1 c1 l1
  win2 : ∃ b, Win b wr A2 c2 l2
  below : Below w2.heap.size w2 wr
theorem ERel.app {w2 : World} {L L' : List Ed} {l1 l2 : List It} {A1 A2 : Option Addr} {c1 c2 : Nat} {v v' : Value} {wr W w' : World} (h : ERel w2 L l1 l2 A1 c1 A2 c2 v wr) (h0 : wr.grownBy W none) (hg : W.grownBy w' v.ownBlock) (ho : Own Ed.vs 8 79 w2.heap.size w' v' L') : ERel w2 L' l1 l2 A1 c1 A2 c2 v' w' where
  own := ho
  win1 := by
    obtain ⟨b, hw⟩ := h.win1
    exact ⟨b, (hw.kept h0 (fun _ e => by cases e)).kept hg (fun hl => own_win_ne h.own hw hl)⟩
  win2 := by
    obtain ⟨b, hw⟩ := h.win2
    exact ⟨b, (hw.kept h0 (fun _ e => by cases e)).kept hg (fun hl => own_win_ne h.own hw hl)⟩
  below := (h.below.grown h0 h.below.size (fun k e => by cases e)).grown hg (Nat.le_trans h.below.size h0.size) (fun k e => (h.own.blk k e).1)
/-- What the outer loop of EditsOf holds. -/
def EoRel (w2 : World) (d : List It) (k : Nat) (v : Value) (wr : World) : Prop :=
  ∃ L, L = ((keysL d).take k).flatMap (edKey d) ∧ L.length ≤ 1200 * k ∧ Own Ed.vs 8 79 w2.heap.size wr v L ∧ Below w2.heap.size w2 wr
theorem keysL_length (l : List It) : (keysL l).length ≤ l.length := by
  have hi : ∀ (k : Int) (m : List Int), (insI k m).length ≤ m.length + 1 := fun k m => by
    induction m with
    | nil => simp [insI]
    | cons y r ih => rw [insI]; repeat' split; all_goals simp; try omega
  induction l with
  | nil => simp [keysL]
  | cons x r ih => rw [keysL]; have := hi x.r.key (keysL r); simp; omega
/-- The lists of a key, so far. -/
def missTo (d : List It) (k : Int) (j : Nat) : List It := missL (d.take j) k
def thereTo (d : List It) (k : Int) (j : Nat) : List It := thereL (d.take j) k
theorem side_succ {d : List It} {j : Nat} {x : It} (k : Int) (h : d[j]? = some x) :
    missTo d k (j + 1) = missTo d k j ++ (if k = x.r.key ∧ x.n < 0 then [⟨x.r, -x.n⟩] else []) ∧ thereTo d k (j + 1) = thereTo d k j ++ (if k = x.r.key ∧ ¬ x.n < 0 then [x] else []) := by
  have ht : d.take (j + 1) = d.take j ++ [x] := by rw [List.take_add_one, h]; rfl
  have h1 := sideL_snoc (d.take j) x k false
  have h2 := sideL_snoc (d.take j) x k true
  unfold missTo thereTo
  rw [ht]
  simp only [sideL, Bool.false_eq_true, if_false, if_true] at h1 h2
  constructor
  · rw [h1]
    by_cases hk : k = x.r.key <;> by_cases hn : x.n < 0 <;> simp [hk, hn, sideI, negIt]
  · rw [h2]
    by_cases hk : k = x.r.key <;> by_cases hn : x.n < 0 <;> simp [hk, hn, sideI]
theorem side_len (d : List It) (k : Int) (j : Nat) : (missTo d k j).length ≤ j ∧ (thereTo d k j).length ≤ j := by
  have h1 := missL_length (d.take j) k
  have h2 := thereL_length (d.take j) k
  have h3 := List.length_take_le j d
  exact ⟨by unfold missTo; omega, by unfold thereTo; omega⟩
theorem diff_comm (a b : List It) : canon (b ++ a.map negIt) = diffL a b := canon_comm b (a.map negIt)

set_option maxRecDepth 100000 in
set_option maxHeartbeats 8000000 in
theorem EditsOf_any (A B : Option Addr) (n m capA capB : Nat) (a b : List It) (w : World) (hA : Rd It.vs 4 w 0 A n a) (hB : Rd It.vs 4 w 0 B m b) (ha : bagB a = true) (hb : bagB b = true) :
    Calls Tryz.prog 79 #[.slice A n capA, .slice B m capB] w fun e w' => ∃ A' q cap', e = .returned (.slice A' q cap') ∧ Rd Ed.vs 8 w' w.heap.size A' q (editsL (diffL a b)) ∧ Below w.heap.size w w' := by
  have HA := Lib.hid hA
  have HB := Lib.hid hB
  have hspA := (bagB_spec a).1 ha
  have hn3 : n ≤ 300 := by rw [← hA.len]; exact hspA.2.2
  have hm3 : m ≤ 300 := by rw [← hB.len]; exact ((bagB_spec b).1 hb).2.2
  have hfit : Fits (b ++ a.map negIt) := fits_two hb (bagB_neg ha)
  have HFIT := Lib.hid hfit
  have hdok := diff_ok ha hb
  have HDOK := Lib.hid hdok
  have HDC := Lib.hid (diff_comm a b)
  have C1 := Lib.hid (NegR_any A n capA a w hA (fun x hx => by have := (itB_spec x).1 (hspA.1 x hx); omega) (by omega))
  obtain ⟨i0, hi0, hz0, hz1, hz2⟩ := info_parts infoEd
  clear hA hB ha hb hspA hfit hdok
  go_enter Tryz.func79, Tryz.ntmps79
  go_wp2_with fail
  (with_reducible refine C1.out.mono ?_)
  rintro e w1 ⟨A1, c1, rfl, hr1, hb1⟩
  have C2 := Lib.hid (AddR_any B A1 m n capB c1 b (a.map negIt) w1 (HB.out.below hb1) (hr1.low (Nat.zero_le _)) (by omega) HFIT.out)
  rw [HDC.out] at C2
  have HB1 := Lib.hid hb1
  clear hr1 hb1 C1
  generalize hd : diffL a b = d at *
  have HD := Lib.hid hd
  clear hd
  have hdl : d.length ≤ 600 := HDOK.out.len
  generalize hq : d.length = q at *
  have HQ := Lib.hid hq
  clear hq
  go_wp2_with fail
  (with_reducible refine C2.out.mono ?_)
  rintro e w2 ⟨A2, c2, rfl, hr2, hb2⟩
  have HR2 := Lib.hid (hr2.low (Nat.zero_le _))
  have C3 := Lib.hid (keysE_any A2 q c2 d w2 (hr2.low (Nat.zero_le _)) (by omega))
  have HB2 := Lib.hid (bchain HB1.out hb2)
  clear hr2 hb2 C2
  go_wp2_with fail
  (with_reducible refine C3.out.mono ?_)
  rintro e w3 ⟨A3, p, c3, rfl, hr3, hb3⟩
  have HR3 := Lib.hid (hr3.low (Nat.zero_le _))
  have hpl : p ≤ 600 := by rw [← hr3.len]; have := keysL_length d; have := HQ.out; omega
  have HRD := Lib.hid (HR2.out.below hb3)
  have HB3 := Lib.hid (bchain HB2.out hb3)
  clear hr3 hb3 C3
  go_wp2_with fail
  go_loopw [6, 8, 9, 10, 25] (fun v _ _ _ i wr => ∃ k : Nat, k ≤ p ∧ i = .int .i64 k ∧ EoRel w3 d k v wr) (fun _ _ _ _ i _ => p - (intOf i).toNat)
  case atStart => exact ⟨0, by omega, rfl, [], rfl, Nat.le_refl _, Own.nil _ _ _ _ _, Below.refl _ _⟩
  case round =>
    obtain ⟨k, hk, rfl, L, hL, hLl, hown, hBr⟩ := hrel
    obtain ⟨A6, c6, rfl⟩ := hown.shape
    have hRk := HR3.out.below hBr
    have HRDk := Lib.hid (HRD.out.below hBr)
    have HBr := Lib.hid hBr
    have HOW := Lib.hid hown
    have HL := Lib.hid hL
    have hsz0 := hBr.size
    clear hBr hown hL
    by_cases hlt : k < p
    · obtain ⟨bk, ok, key, rfl, _, hkey, ck⟩ := hRk.int_at hlt
      have HKEY := Lib.hid hkey
      clear hkey hRk
      generalize hlq : L.length = lq at *
      have HLQ := Lib.hid hlq
      clear hlq
      go_wp2_with fail
      obtain ⟨wo, rfl⟩ : ∃ wo : World, wo = wr := ⟨_, rfl⟩
      go_loopw [9, 10, 12, 31] (fun v u _ i wi => ∃ j : Nat, j ≤ q ∧ i = .int .i64 j ∧ Two wo (missTo d key j) (thereTo d key j) v u wi) (fun _ _ _ i _ => q - (intOf i).toNat)
      case atStart => exact ⟨0, by omega, rfl, by simpa [missTo, thereTo, missL, thereL] using Two.start wo⟩
      case round =>
        obtain ⟨j, hj, rfl, hT⟩ := hrel
        obtain ⟨A9, c9, rfl⟩ := hT.a.shape
        obtain ⟨A10, c10, rfl⟩ := hT.b.shape
        have hRj := HRDk.out.below hT.below
        have HT := Lib.hid hT
        have hsz := hT.below.size
        have hlen := side_len d key j
        clear hT
        by_cases hjl : j < q
        · obtain ⟨bx, ox, x, rfl, _, hx, x0, x1, x2, x3⟩ := hRj.it_at hjl
          have hs := side_succ key hx
          have hxo := (HDOK.out.ok x (List.mem_of_getElem? hx)).2
          have hwn : IntKind.i64.wrap (-x.n) = -x.n := IntWalk.i64_in _ (by omega)
          have hxb := new_block wr #[.int .i64 x.r.at_, .int .i64 x.r.key, .int .i64 x.r.val, .int .i64 x.n] 40
          have f0 := cell_at_block (off := 0) hxb rfl
          have f1 := cell_at_block (off := 1) hxb rfl
          have f2 := cell_at_block (off := 2) hxb rfl
          have f3 := cell_at_block (off := 3) hxb rfl
          clear hxb hx hRj
          generalize missTo d key j = I at *
          generalize thereTo d key j = J at *
          by_cases hkx : key = x.r.key
          · have he : (x.r.key == key) = true := by simp [hkx]
            by_cases hng : x.n < 0
            · have hdn : decide (x.n < 0) = true := by simpa using hng
              rw [if_pos ⟨hkx, hng⟩, if_neg (fun h => h.2 hng), List.append_nil] at hs
              have HS := Lib.hid hs
              clear hs hkx hng hxo
              go_wp2_with (at_builtin; go_loud (refine wpList_app1 It.vs 4 40 _ 32 infoIt rfl (by decide) rfl _ _ _ rfl Tryz.underlying22 wo.heap.size _ I rfl ((HT.out.a.alloc _).alloc _) ⟨x.r, -x.n⟩ _ _ rfl rfl (newAt _ _ _ _ (by simp)) (by simp [It.vs, Value.oneCell']) (by omega) (by unfold maxLen; omega) (by simp; omega) (fun v4 w4 hown4 hg4 hl4 => ?_)))
              exact ⟨⟨j + 1, by omega, by go_num, by rw [HS.out.1, HS.out.2]; exact ((HT.out.alloc _).alloc _).app hown4 hg4 hl4⟩, by simp [intOf]; omega⟩
            · have hdn : decide (x.n < 0) = false := by simpa using hng
              rw [if_neg (fun h => hng h.2), if_pos ⟨hkx, hng⟩, List.append_nil] at hs
              have HS := Lib.hid hs
              clear hs hkx hng hxo
              go_wp2_with (at_builtin; go_loud (refine wpList_app1 It.vs 4 40 _ 32 infoIt rfl (by decide) rfl _ _ _ rfl Tryz.underlying22 wo.heap.size _ J rfl ((HT.out.b.alloc _).alloc _) x _ _ rfl rfl (newAt _ _ _ _ (by simp)) (by simp [It.vs, Value.oneCell']) (by omega) (by unfold maxLen; omega) (by simp; omega) (fun v4 w4 hown4 hg4 hl4 => ?_)))
              exact ⟨⟨j + 1, by omega, by go_num, by rw [HS.out.1, HS.out.2]; exact (((HT.out.alloc _).alloc _).swap.app hown4 hg4 hl4).swap⟩, by simp [intOf]; omega⟩
          · have he : (x.r.key == key) = false := by simp; omega
            rw [if_neg (fun h => hkx h.1), if_neg (fun h => hkx h.1), List.append_nil, List.append_nil] at hs
            have HS := Lib.hid hs
            clear hs hkx hxo
            go_wp2_with fail
            exact ⟨⟨j + 1, by omega, by go_num, by rw [HS.out.1, HS.out.2]; exact HT.out.alloc _⟩, by simp [intOf]; omega⟩
        · have hj' : j = q := by omega
          subst hj'
          clear hRj hjl
          have et : d.take j = d := List.take_of_length_le (by rw [HQ.out]; exact Nat.le_refl _)
          have e1 : missTo d key j = missL d key := by unfold missTo; rw [et]
          have e2 : thereTo d key j = thereL d key := by unfold thereTo; rw [et]
          rw [e1, e2] at HT hlen ⊢
          have hp1 : PosL (missL d key) := sideL_pos HDOK.out key false
          have hp2 : PosL (thereL d key) := sideL_pos HDOK.out key true
          have hR : L ++ turnF ((missL d key).length + (thereL d key).length + 1) (missL d key) (thereL d key) = L ++ edKey d key := rfl
          have hEK : ((keysL d).take (k + 1)).flatMap (edKey d) = L ++ edKey d key := by rw [HL.out, List.take_add_one, HKEY.out]; simp
          have hEL : (L ++ edKey d key).length ≤ 1200 * (k + 1) := by
            have := edKey_length d key
            have := HLQ.out
            have := HQ.out
            rw [List.length_append]
            omega
          have HER : Hid (ERel w3 L (missL d key) (thereL d key) A9 c9 A10 c10 (.slice A6 lq c6) wr) := ⟨HOW.out.below HT.out.below, ⟨_, Own.win HT.out.a 0⟩, ⟨_, Own.win HT.out.b 0⟩, HBr.out.trans (HT.out.below.mono hsz0)⟩
          have HP1 := Lib.hid hp1
          have HP2 := Lib.hid hp2
          have HLEN := Lib.hid hlen
          have HR0 := Lib.hid hR
          have HEK := Lib.hid hEK
          have HEL := Lib.hid hEL
          clear et e1 e2 hp1 hp2 hR hEK hEL
          generalize edKey d key = EK at *
          generalize missL d key = m0 at *
          generalize thereL d key = t0 at *
          go_upto_block 4 with fail
          go_cut [6, 9, 10] (fun v v0 v1 wc => ∃ (m1 m2 : List It) (LL : List Ed) (B1 : Option Addr) (k1 : Nat) (B2 : Option Addr) (k2 : Nat), v0 = .slice B1 m1.length k1 ∧ v1 = .slice B2 m2.length k2 ∧ ERel w3 LL m1 m2 B1 k1 B2 k2 v wc ∧ LL ++ (m1.map goneE ++ m2.map sayE) = L ++ EK ∧ LL.length + m1.length + m2.length ≤ lq + m0.length + t0.length)
          case first =>
            go_wp2_with fail
            go_loopw [6, 9, 10, 13] (fun v v0 v1 _ wr => ∃ f l1 l2 LL A1 cap1 A2 cap2, v0 = .slice A1 l1.length cap1 ∧ v1 = .slice A2 l2.length cap2 ∧ ERel w3 LL l1 l2 A1 cap1 A2 cap2 v wr ∧ LL ++ turnF f l1 l2 = L ++ EK ∧ l1.length + l2.length < f ∧ LL.length + l1.length + l2.length ≤ lq + m0.length + t0.length ∧ PosL l1 ∧ PosL l2) (fun _ v0 v1 _ _ => lenOf v0 + lenOf v1)
            case atStart => exact ⟨_, m0, t0, L, _, _, _, _, rfl, rfl, HER.out, HR0.out, by omega, by have := HLQ.out; omega, HP1.out, HP2.out⟩
            case round =>
              clear HER HR0 HP1 HP2
              obtain ⟨f, m1, m2, LL, B1, k1, B2, k2, rfl, rfl, hrel, hRR, hf, hsl, hq1, hq2⟩ := hrel
              obtain ⟨B3, k3, rfl⟩ := hrel.own.shape
              have HR := Lib.hid hrel
              have HRR0 := Lib.hid hRR
              have HQ1 := Lib.hid hq1
              have HQ2 := Lib.hid hq2
              have HSL := Lib.hid hsl
              clear hrel hRR hq1 hq2 hsl
              have hf' : ∃ f', f = f' + 1 := ⟨f - 1, by omega⟩
              obtain ⟨f, rfl⟩ := hf'
              by_cases hm1 : m1 = []
              · have HF : Hid (LL ++ (m1.map goneE ++ m2.map sayE) = L ++ EK) := by show _ = _; rw [← HRR0.out, turnF_out (.inl hm1)]
                have hd1 : decide (0 < m1.length) = false := by rw [hm1]; rfl
                clear hm1 HRR0 HQ1 HQ2
                go_wp2_with fail
                go_meet
                exact ⟨_, _, _, _, _, _, _, rfl, rfl, HR.out, HF.out, HSL.out⟩
              · have hd1 : decide (0 < m1.length) = true := by cases m1 with | nil => exact absurd rfl hm1 | cons _ _ => simp
                by_cases hm2 : m2 = []
                · have HF : Hid (LL ++ (m1.map goneE ++ m2.map sayE) = L ++ EK) := by show _ = _; rw [← HRR0.out, turnF_out (.inr hm2)]
                  have hd2 : decide (0 < m2.length) = false := by rw [hm2]; rfl
                  clear hm1 hm2 HRR0 HQ1 HQ2
                  go_wp2_with fail
                  go_meet
                  exact ⟨_, _, _, _, _, _, _, rfl, rfl, HR.out, HF.out, HSL.out⟩
                · obtain ⟨x, r, rfl⟩ : ∃ x r, m1 = x :: r := by cases m1 with | nil => exact absurd rfl hm1 | cons x r => exact ⟨x, r, rfl⟩
                  obtain ⟨y, s, rfl⟩ : ∃ y s, m2 = y :: s := by cases m2 with | nil => exact absurd rfl hm2 | cons y s => exact ⟨y, s, rfl⟩
                  clear hm1 hm2 hd1
                  obtain ⟨b1, hw1⟩ := HR.out.win1
                  obtain ⟨b2, hw2⟩ := HR.out.win2
                  have ag := own_win_ne HR.out.own hw1 (by simp)
                  have ak := own_win_ne HR.out.own hw2 (by simp)
                  obtain ⟨o1, d1, rfl, hc1, hl1, hb1, x0, x1, x2, x3⟩ := hw1.head
                  obtain ⟨o2, d2, rfl, hc2, hl2, hb2, y0, y1, y2, y3⟩ := hw2.head
                  obtain ⟨p1, p2⟩ := HQ1.out x List.mem_cons_self
                  obtain ⟨q1, q2⟩ := HQ2.out y List.mem_cons_self
                  have hm1 : 0 < min x.n y.n := by omega
                  have hm2 : min x.n y.n ≤ x.n := by omega
                  have hm3 : min x.n y.n ≤ y.n := by omega
                  have hown : wr.ownsRow w3.heap.size 79 8 (.slice B3 LL.length k3) LL.length (LL.flatMap Ed.vs) := HR.out.own
                  have hsz3 := HR.out.below.size
                  have hLs : LL.length + 1 ≤ 1000000 := by have := HSL.out; simp only [List.length_cons] at *; omega
                  have lg := World.block_lt_of_cell? wr _ x0
                  have lk := World.block_lt_of_cell? wr _ y0
                  have HW1 := Lib.hid hw1
                  have HW2 := Lib.hid hw2
                  clear hb1 hb2 hw1 hw2
                  simp only [List.length_cons]
                  go_wp2_with fail
                  go_region
                  generalize hkm : min x.n y.n = km at *
                  have HK := Lib.hid hkm
                  go_wp2_with fail
                  go_region_held3 (fun w' => w'.cell? ⟨b1, o1, none⟩ = some (.int .i64 x.r.at_) ∧ w'.cell? ⟨b1, o1 + 1, none⟩ = some (.int .i64 x.r.key) ∧ w'.cell? ⟨b1, o1 + 2, none⟩ = some (.int .i64 x.r.val) ∧ w'.cell? ⟨b2, o2, none⟩ = some (.int .i64 y.r.at_) ∧ w'.cell? ⟨b2, o2 + 1, none⟩ = some (.int .i64 y.r.key) ∧ w'.cell? ⟨b2, o2 + 2, none⟩ = some (.int .i64 y.r.val))
                    (first
                      | go_keep
                      | (go_split_ands
                         refine ⟨?_, ?_, ?_, ?_, ?_, ?_⟩
                         · (rw [hgrow.cell_far _ (by simp; omega) (Ne.symm ag)]; assumption)
                         · (rw [hgrow.cell_far _ (by simp; omega) (Ne.symm ag)]; assumption)
                         · (rw [hgrow.cell_far _ (by simp; omega) (Ne.symm ag)]; assumption)
                         · (rw [hgrow.cell_far _ (by simp; omega) (Ne.symm ak)]; assumption)
                         · (rw [hgrow.cell_far _ (by simp; omega) (Ne.symm ak)]; assumption)
                         · (rw [hgrow.cell_far _ (by simp; omega) (Ne.symm ak)]; assumption)))
                    ((refine step_append_lies _ (by rfl) _ _ _ (by rfl) w3.heap.size 79 i0 _ 8 64 Tryz.underlying46 hi0 hz0 hz1 hz2 rfl (by omega) (.slice B3 LL.length k3) LL.length (LL.flatMap Ed.vs) (by rfl) ((hown.alloc _).drew)
                        ⟨wr.heap.size, 0, none⟩ 1 1 [.int .i64 3, .int .i64 x.r.at_, .int .i64 x.r.key, .int .i64 x.r.val, .int .i64 y.r.at_, .int .i64 y.r.key, .int .i64 y.r.val, .int .i64 km] (by rfl) (by rfl) (World.news_of_block (cs := #[.int .i64 3, .int .i64 x.r.at_, .int .i64 x.r.key, .int .i64 x.r.val, .int .i64 y.r.at_, .int .i64 y.r.key, .int .i64 y.r.val, .int .i64 km]) (t := 79) (fr := (0, 0)) (heap_alloc_new wr _)) (by simp [Value.oneCell'])
                        (by omega) (by unfold maxLen; omega) (by omega) (by simp; omega) (wr.heap.size + 1) (by simp) ?_; intro gg cap w5 hown1 hgrow hat hltg))
                  have HL1 : Hid (km ≤ x.n ∧ km ≤ y.n ∧ (km = x.n ∨ km = y.n) ∧ 0 < km) := ⟨by omega, by omega, by omega, by omega⟩
                  have hwr1 : wr.grownBy w5 (Value.slice B3 LL.length k3).ownBlock := ⟨hgrow.os, hgrow.tape, hgrow.output, Nat.le_trans (by simp) hgrow.size, fun i hi hne => (hgrow.block i (by simp; omega) hne).trans (Below.heap_alloc _ _ _ hi)⟩
                  have HO1 := Lib.hid (own_ed (L := LL) (e := ⟨3, x.r, y.r, km⟩) hown1 rfl rfl)
                  have AP := HR.out.app (World.grownBy.refl _ _) hwr1 HO1.out
                  have HAP := Lib.hid AP
                  have HWA1 := Lib.hid (HW1.out.kept hwr1 (fun _ => ag))
                  have HWA2 := Lib.hid (HW2.out.kept hwr1 (fun _ => ak))
                  have HRR : Hid (LL ++ [⟨3, x.r, y.r, km⟩] ++ turnF f (lessL (x :: r) km) (lessL (y :: s) km) = L ++ EK) := by
                    show _ = _
                    rw [← HRR0.out, turnF, HK.out]
                    simp
                  have hrl : r.length ≤ 1000000 ∧ s.length ≤ 1000000 := by
                    have h1 := HSL.out
                    simp only [List.length_cons] at h1
                    exact ⟨by omega, by omega⟩
                  have LS1 := Lib.hid (without_any b1 _ k1 x r km w5 HWA1.out (by omega) hrl.1)
                  clear AP hwr1 hgrow hown1 hown x0 x1 x2 x3 y0 y1 y2 y3 hm1 hm2 hm3 hat ag ak
                  go_wp2_with fail
                  (with_reducible refine LS1.out.mono ?_)
                  rintro e w6 ⟨A5, c5, rfl, hwin5, hb5⟩
                  have HW5 := Lib.hid hwin5
                  have HB5 := Lib.hid hb5
                  have LS2 := Lib.hid (without_any b2 _ k2 y s km w6 (HWA2.out.below hb5) (by omega) hrl.2)
                  clear hwin5 hb5 LS1
                  go_wp2_with fail
                  (with_reducible refine LS2.out.mono ?_)
                  rintro e w7 ⟨A7, c7, rfl, hwin7, hb7⟩
                  have HW7 := Lib.hid hwin7
                  have HB7 := Lib.hid hb7
                  have e1 := lessL_length x r km
                  have e2 := lessL_length y s km
                  have HP1 := Lib.hid (PosL.less HQ1.out HL1.out.2.2.2 HL1.out.1)
                  have HP2 := Lib.hid (PosL.less HQ2.out HL1.out.2.2.2 HL1.out.2.1)
                  clear hwin7 hb7 LS2
                  generalize lessL (x :: r) km = M1 at *
                  generalize lessL (y :: s) km = M2 at *
                  have lens : M1.length + M2.length < r.length + 1 + (s.length + 1) ∧ M1.length ≤ r.length + 1 ∧ M2.length ≤ s.length + 1 := by
                    have := HL1.out.2.2.1
                    split at e1 <;> split at e2 <;> omega
                  have HLN := Lib.hid lens
                  clear e1 e2 lens
                  go_wp2_with fail
                  refine ⟨⟨f, M1, M2, LL ++ [⟨3, x.r, y.r, km⟩], A5, c5, A7, c7, rfl, rfl, ⟨(HO1.out.below HB5.out).below HB7.out, ?_, HW7.out, HAP.out.below.trans ((bchain HB5.out HB7.out).mono HAP.out.below.size)⟩, HRR.out, ?_, ?_, HP1.out, HP2.out⟩, by have := HLN.out; simp [lenOf]; omega⟩
                  · obtain ⟨bb, hh⟩ := HW5.out
                    exact ⟨bb, hh.below HB7.out⟩
                  · have := HLN.out; simp only [List.length_cons] at hf; omega
                  · have := HLN.out; have := HSL.out; simp only [List.length_cons, List.length_append, List.length_nil] at *; omega
          case rest =>
            clear HER HR0 HP1 HP2
            obtain ⟨m1, m2, LL, B1, k1, B2, k2, rfl, rfl, hrel, hRR, hsl⟩ := hcut
            obtain ⟨B3, k3, rfl⟩ := hrel.own.shape
            have HR := Lib.hid hrel
            have HF := Lib.hid hRR
            have HSL := Lib.hid hsl
            have hbig : lq + m0.length + t0.length ≤ 900000 := by omega
            have HSZ : Hid (LL.length + m1.length + m2.length ≤ lq + m0.length + t0.length) := HSL.out
            clear hrel hRR hsl
            go_wp2_with fail
            go_loopw [6, 15, 102] (fun v _ ii wi => ∃ z : Nat, z ≤ m1.length ∧ ii = .int .i64 z ∧ ERel w3 (LL ++ (m1.take z).map goneE) m1 m2 B1 k1 B2 k2 v wi) (fun _ _ ii _ => m1.length - (intOf ii).toNat)
            case atStart => exact ⟨0, by omega, rfl, by simpa using HR.out⟩
            case round =>
              clear HR
              obtain ⟨z, hz, rfl, hor⟩ := hrel
              obtain ⟨A7, cap7, rfl⟩ := hor.own.shape
              have OR := Lib.hid hor
              have hle := (Win.any hor.win1).2.1
              by_cases hzl : z < m1.length
              · obtain ⟨bx, ox, x, rfl, _, hx, x0, x1, x2, x3⟩ := (Win.any hor.win1).it_at hzl
                have ht : LL ++ (m1.take (z + 1)).map goneE = (LL ++ (m1.take z).map goneE) ++ [goneE x] := by rw [List.take_add_one, hx]; simp
                have hll : (LL ++ (m1.take z).map goneE).length + 1 ≤ 1000000 := by
                  have := HSZ.out
                  simp only [List.length_append, List.length_map, List.length_take]
                  omega
                have hown := hor.own
                have hs1 := hor.below.size
                generalize LL ++ (m1.take z).map goneE = LG at *
                have HTT := Lib.hid ht
                clear ht hx hor
                generalize hM : m1.length = M at *
                have HM := Lib.hid hM
                clear hM
                go_wp2_with (at_builtin; go_loud (refine wpList_app1 Ed.vs 8 79 _ 64 infoEd rfl (by decide) rfl _ _ _ rfl Tryz.underlying46 w3.heap.size _ LG rfl ((hown.alloc _).alloc _) (goneE x) _ _ rfl rfl (newAt _ _ _ _ (by simp)) (by simp [Ed.vs, goneE, zRc, Value.oneCell']) (by omega) (by unfold maxLen; omega) (by simp; omega) (fun v4 w4 hown4 hg4 _ => ?_)))
                refine ⟨⟨z + 1, by have := HM.out; omega, by go_num, ?_⟩, by have := HM.out; simp [intOf]; omega⟩
                rw [HTT.out]
                exact OR.out.app (alloc2_none _ _ _) hg4 hown4
              · have hz' : z = m1.length := by omega
                subst hz'
                simp only [List.take_length] at OR ⊢
                clear hor hzl hz
                generalize hLL : (LL ++ m1.map goneE).length = QL at *
                clear hLL
                go_wp2_with fail
                go_loopw [6, 17, 117] (fun v _ ii wi => ∃ z : Nat, z ≤ m2.length ∧ ii = .int .i64 z ∧ ERel w3 ((LL ++ m1.map goneE) ++ (m2.take z).map sayE) m1 m2 B1 k1 B2 k2 v wi) (fun _ _ ii _ => m2.length - (intOf ii).toNat)
                case atStart => exact ⟨0, by omega, rfl, by simpa using OR.out⟩
                case round =>
                  clear OR
                  obtain ⟨z, hz, rfl, hor⟩ := hrel
                  obtain ⟨A7, cap7, rfl⟩ := hor.own.shape
                  have OR := Lib.hid hor
                  have hle := (Win.any hor.win2).2.1
                  by_cases hzl : z < m2.length
                  · obtain ⟨bx, ox, x, rfl, _, hx, x0, x1, x2, x3⟩ := (Win.any hor.win2).it_at hzl
                    have ht : (LL ++ m1.map goneE) ++ (m2.take (z + 1)).map sayE = ((LL ++ m1.map goneE) ++ (m2.take z).map sayE) ++ [sayE x] := by rw [List.take_add_one, hx]; simp
                    have hll : ((LL ++ m1.map goneE) ++ (m2.take z).map sayE).length + 1 ≤ 1000000 := by
                      have := HSZ.out
                      simp only [List.length_append, List.length_map, List.length_take]
                      omega
                    have hown := hor.own
                    have hs1 := hor.below.size
                    generalize (LL ++ m1.map goneE) ++ (m2.take z).map sayE = LG at *
                    have HTT := Lib.hid ht
                    clear ht hx hor
                    generalize hM : m2.length = M at *
                    have HM := Lib.hid hM
                    clear hM
                    go_wp2_with (at_builtin; go_loud (refine wpList_app1 Ed.vs 8 79 _ 64 infoEd rfl (by decide) rfl _ _ _ rfl Tryz.underlying46 w3.heap.size _ LG rfl ((hown.alloc _).alloc _) (sayE x) _ _ rfl rfl (newAt _ _ _ _ (by simp)) (by simp [Ed.vs, sayE, zRc, Value.oneCell']) (by omega) (by unfold maxLen; omega) (by simp; omega) (fun v4 w4 hown4 hg4 _ => ?_)))
                    refine ⟨⟨z + 1, by have := HM.out; omega, by go_num, ?_⟩, by have := HM.out; simp [intOf]; omega⟩
                    rw [HTT.out]
                    exact OR.out.app (alloc2_none _ _ _) hg4 hown4
                  · have hz' : z = m2.length := by omega
                    subst hz'
                    simp only [List.take_length] at OR ⊢
                    clear hor hzl hz
                    generalize hLL : ((LL ++ m1.map goneE) ++ m2.map sayE).length = QL at *
                    clear hLL
                    go_wp2_with fail
                    have o := OR.out.own
                    rw [List.append_assoc, HF.out] at o
                    refine ⟨⟨k + 1, by omega, by go_num, L ++ EK, HEK.out.symm, HEL.out, o, OR.out.below⟩, by simp [intOf]; omega⟩
    · have hk' : k = p := by omega
      subst hk'
      clear hRk hlt
      have et : (keysL d).take k = keysL d := List.take_of_length_le (by rw [HR3.out.len]; exact Nat.le_refl _)
      have hLe : L = editsL d := by rw [HL.out, et]; rfl
      have hr := HOW.out.rdOf Ed.vs_length
      rw [hLe] at hr
      have HRF := Lib.hid hr
      have HE : Hid (L.length = (editsL d).length) := by show _ = _; rw [hLe]
      clear et hLe hr
      generalize hlq : L.length = lq at *
      go_wp2_with fail
      go_ret
      rw [← HE.out] at HRF
      rw [HD.out]
      exact ⟨_, _, _, rfl, HRF.out.low HB3.out.size, bchain HB3.out HBr.out⟩

/-- What the reference's Edits leaves. -/
def RetEdN (w : World) (p : List Ed × Int) (e : Ending) (w' : World) : Prop :=
  (∃ A n cap, e = .returned (.tuple #[.slice A n cap, .int .i64 p.2]) ∧ Rd Ed.vs 8 w' w.heap.size A n p.1) ∧ Below w.heap.size w w'
def BigRel (w : World) (l : List Ed) (k : Nat) (wr : World) : Prop := bigE (l.take k) = false ∧ Below w.heap.size w wr

set_option maxRecDepth 100000 in
set_option maxHeartbeats 4000000 in
theorem EditsR_any (A B : Option Addr) (n m capA capB : Nat) (a b : List It) (w : World) (hA : Rd It.vs 4 w 0 A n a) (hB : Rd It.vs 4 w 0 B m b) :
    Calls Tryz.prog 31 #[.slice A n capA, .slice B m capB] w (RetEdN w (editsR a b)) := by
  have Q1 := Lib.hid (Good_any A n capA a w hA)
  have HA := Lib.hid hA
  have HB := Lib.hid hB
  clear hA hB
  cases ga : bagB a with
  | false =>
    have e1 : editsR a b = ([], 2) := by simp [editsR, ga]
    rw [e1]
    have GA := Lib.hid ga
    clear ga e1
    go_enter Tryz.func31, Tryz.ntmps31
    go_wp2_with (go_at_call 44; (with_reducible refine Q1.out.mono ?_); rintro e w1 ⟨rfl, hb1⟩; rw [GA.out]; have HB1 := Lib.hid hb1; clear hb1)
    go_ret2
    exact ⟨⟨_, _, _, rfl, Rd.nil _ _ _⟩, HB1.out⟩
  | true =>
    cases gb : bagB b with
    | false =>
      have e1 : editsR a b = ([], 2) := by simp [editsR, gb]
      rw [e1]
      have GA := Lib.hid ga
      have GB := Lib.hid gb
      clear ga gb e1
      go_enter Tryz.func31, Tryz.ntmps31
      go_wp2_with fail
      (with_reducible refine Q1.out.mono ?_)
      rintro e w1 ⟨rfl, hb1⟩
      rw [GA.out]
      have Q2 := Lib.hid (Good_any B m capB b w1 (HB.out.below hb1))
      have HB1 := Lib.hid hb1
      clear hb1
      go_wp2_with (go_at_call 44; (with_reducible refine Q2.out.mono ?_); rintro e w2 ⟨rfl, hb2⟩; rw [GB.out]; have HB2 := Lib.hid hb2; clear hb2)
      go_ret2
      exact ⟨⟨_, _, _, rfl, Rd.nil _ _ _⟩, bchain HB1.out HB2.out⟩
    | true =>
      have E0 : Hid (editsR a b = if bigE (editsL (diffL a b)) then ([], 3) else (editsL (diffL a b), 0)) := by show _ = _; simp [editsR, ga, gb]
      have GA := Lib.hid ga
      have GB := Lib.hid gb
      clear ga gb
      go_enter Tryz.func31, Tryz.ntmps31
      go_wp2_with fail
      (with_reducible refine Q1.out.mono ?_)
      rintro e w1 ⟨rfl, hb1⟩
      rw [GA.out]
      have Q2 := Lib.hid (Good_any B m capB b w1 (HB.out.below hb1))
      have HB1 := Lib.hid hb1
      clear hb1
      go_wp2_with fail
      (with_reducible refine Q2.out.mono ?_)
      rintro e w2 ⟨rfl, hb2⟩
      rw [GB.out]
      have HB2 := Lib.hid (bchain HB1.out hb2)
      have C := Lib.hid (EditsOf_any A B n m capA capB a b w2 (HA.out.below HB2.out) (HB.out.below HB2.out) GA.out GB.out)
      clear hb2
      go_wp2_with fail
      (with_reducible refine C.out.mono ?_)
      rintro e w3 ⟨A3, q, c3, rfl, hr3, hb3⟩
      have HR3 := Lib.hid (hr3.low HB2.out.size)
      have HB3 := Lib.hid (bchain HB2.out hb3)
      have hle := hr3.le
      clear hr3 hb3 C
      generalize editsL (diffL a b) = l at *
      go_wp2_with fail
      go_loopw [8, 22] (fun _ i wr => ∃ k : Nat, k ≤ q ∧ i = .int .i64 k ∧ BigRel w3 l k wr) (fun _ i _ => q - (intOf i).toNat)
      case atStart => exact ⟨0, by omega, rfl, by simp [bigE], Below.refl _ _⟩
      case round =>
        obtain ⟨k, hk, rfl, hbg, hBr⟩ := hrel
        have hRk := HR3.out.below hBr
        have HBG := Lib.hid hbg
        have HBR := Lib.hid hBr
        clear hbg hBr
        by_cases hlt : k < q
        · obtain ⟨bx, off, x, rfl, hx, c0, c1, c2, c3, c4, c5, c6, c7⟩ := hRk.ed_at hlt
          have HX := Lib.hid hx
          have HBX := Lib.hid (new_block wr #[.int .i64 x.d, .int .i64 x.old.at_, .int .i64 x.old.key, .int .i64 x.old.val, .int .i64 x.new.at_, .int .i64 x.new.key, .int .i64 x.new.val, .int .i64 x.n] 79)
          obtain ⟨f0, f1, f2, f3, f4, f5, f6, f7⟩ := box8 HBX.out
          clear hx hRk
          by_cases hbig : 1000000 < x.n
          · have hd : decide (1000000 < x.n) = true := by simpa using hbig
            have E1 : Hid (editsR a b = ([], 3)) := by
              have hb : bigE l = true := by
                unfold bigE
                rw [List.any_eq_true]
                exact ⟨x, List.mem_of_getElem? HX.out, hd⟩
              show _ = _
              rw [E0.out, hb]
              rfl
            clear hbig
            go_wp2_with fail
            go_ret2
            rw [E1.out]
            exact ⟨⟨_, _, _, rfl, Rd.nil _ _ _⟩, bchain HB3.out (HBR.out.alloc HBR.out.size _)⟩
          · have hd : decide (1000000 < x.n) = false := by simpa using hbig
            have HB4 : Hid (bigE (l.take (k + 1)) = false) := by
              show _ = _
              have := HBG.out
              rw [List.take_add_one, HX.out]
              unfold bigE at *
              simp only [Option.toList_some, List.any_append, this, List.any_cons, List.any_nil, hd]
              rfl
            clear hbig
            go_wp2_with fail
            exact ⟨⟨k + 1, by omega, by go_num, HB4.out, HBR.out.alloc HBR.out.size _⟩, by simp [intOf]; omega⟩
        · have hk' : k = q := by omega
          subst hk'
          have HRF := Lib.hid hRk
          have E1 : Hid (editsR a b = (l, 0)) := by
            have hb := HBG.out
            rw [List.take_of_length_le (by rw [HR3.out.len]; exact Nat.le_refl _)] at hb
            show _ = _
            rw [E0.out, hb]
            rfl
          clear hRk hlt
          go_wp2_with fail
          go_ret2
          rw [E1.out]
          exact ⟨⟨_, _, _, rfl, HRF.out⟩, bchain HB3.out HBR.out⟩
end Go.Proofs.Bg
end

section
/- BagEdits: the walk of the law. -/
namespace Go.Proofs.Bg
open Go.RowKit

set_option maxRecDepth 100000 in
set_option maxHeartbeats 8000000 in
theorem BagEdits_any (A B D : Option Addr) (n m p capA capB capD : Nat) (a b : List It) (l : List Ed) (w : World) (hA : Rd It.vs 4 w 0 A n a) (hB : Rd It.vs 4 w 0 B m b) (hD : Rd Ed.vs 8 w 0 D p l) (ht : Tab w) :
    Calls Tryz.prog 7 #[.slice A n capA, .slice B m capB, .slice D p capD] w fun e w' => e = .returned (.bool true) ∧ Below w.heap.size w w' := by
  have HA := Lib.hid hA
  have HB := Lib.hid hB
  have HD := Lib.hid hD
  have HT := Lib.hid ht
  clear hA hB hD ht
  have C := Lib.hid (Edits_any A B n m capA capB a b w HA.out HB.out)
  go_enter Tryz.func7, Tryz.ntmps7
  go_wp2_with fail
  (with_reducible refine C.out.mono ?_)
  rintro e w1 ⟨A1, c1, rfl, hr1, hb1⟩
  have HR1 := Lib.hid (hr1.low (Nat.zero_le _))
  have HB1 := Lib.hid hb1
  clear hr1 hb1 C
  have C := Lib.hid (EditsR_any A B n m capA capB a b w1 (HA.out.below HB1.out) (HB.out.below HB1.out))
  generalize (editsR a b).1.length = q1 at *
  go_wp2_with fail
  (with_reducible refine C.out.mono ?_)
  rintro e w2 ⟨⟨A2, q2, c2, rfl, hr2⟩, hb2⟩
  have HR2 := Lib.hid (hr2.low (Nat.zero_le _))
  have HB12 := Lib.hid hb2
  have HB2 := Lib.hid (bchain HB1.out hb2)
  clear hr2 hb2 C
  have C := Lib.hid ((Do_any A D n p capA capD a l w2 (HA.out.below HB2.out) (HD.out.below HB2.out)).mono fun _ _ h => h.new)
  go_wp2_with fail
  (with_reducible refine C.out.mono ?_)
  rintro e w3 ⟨⟨A3, q3, c3, rfl, hr3⟩, hb3⟩
  have HR3 := Lib.hid (hr3.low (Nat.zero_le _))
  have HB23 := Lib.hid hb3
  have HB3 := Lib.hid (bchain HB2.out hb3)
  clear hr3 hb3 C
  have C := Lib.hid (DoR_any A D n p capA capD a l w3 (HA.out.below HB3.out) (HD.out.below HB3.out))
  go_wp2_with fail
  (with_reducible refine C.out.mono ?_)
  rintro e w4 ⟨⟨A4, q4, c4, rfl, hr4⟩, hb4⟩
  have HR4 := Lib.hid (hr4.low (Nat.zero_le _))
  have HB34 := Lib.hid hb4
  have HB4 := Lib.hid (bchain HB3.out hb4)
  clear hr4 hb4 C
  generalize (editsR a b).2 = e1 at *
  generalize (editsR a b).1 = l1 at *
  generalize (doR a l).2 = e2 at *
  generalize (doR a l).1 = l2 at *
  have HE : Hid (decide (l1 = l1) = true) := by show _ = _; simp
  have C := Lib.hid (SameEdits_any A1 A2 q1 q2 c1 c2 l1 l1 w4 (HR1.out.below (bchain HB12.out (bchain HB23.out HB34.out))) (HR2.out.below (bchain HB23.out HB34.out)))
  rw [HE.out] at C
  go_wp2_with fail
  (with_reducible refine C.out.mono ?_)
  rintro e w5 ⟨rfl, hb5⟩
  have HB5 := Lib.hid (bchain HB4.out hb5)
  have HB35 := Lib.hid (bchain HB34.out hb5)
  have HB45 := Lib.hid hb5
  clear hb5 C HE
  have HE : Hid (decide (l2 = l2) = true) := by show _ = _; simp
  have C := Lib.hid (Same_any A3 A4 q3 q4 c3 c4 l2 l2 w5 (HR3.out.below HB35.out) (HR4.out.below HB45.out))
  rw [HE.out] at C
  go_wp2_with fail
  (with_reducible refine C.out.mono ?_)
  rintro e w6 ⟨rfl, hb6⟩
  have HB6 := Lib.hid (bchain HB5.out hb6)
  clear hb6 C HE
  have C := Lib.hid (known_any w6 (HT.out.below HB6.out))
  go_wp2_with fail
  (with_reducible refine C.out.mono ?_)
  rintro e w7 ⟨rfl, hb7⟩
  have HBE := Lib.hid (bchain HB6.out hb7)
  clear hb7 C
  go_wp2_with fail
  go_ret
  exact ⟨rfl, HBE.out⟩
end Go.Proofs.Bg
end
