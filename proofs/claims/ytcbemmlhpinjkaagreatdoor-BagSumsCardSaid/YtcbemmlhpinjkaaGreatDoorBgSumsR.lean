/- The reference: Neg, Contrary, Add, Sum. -/
import Derived.Test.YtcbemmlhpinjkaaGreatDoorBgApp2
import Derived.Test.YtcbemmlhpinjkaaGreatDoorBgRecov
import Derived.Test.YtcbemmlhpinjkaaGreatDoorBgNewR
namespace Go.Proofs.Bg
open Go.RowKit

set_option maxRecDepth 100000 in
set_option maxHeartbeats 1000000 in
theorem NegR_any (A : Option Addr) (n cap : Nat) (l : List It) (w : World) (hR : Rd It.vs 4 w 0 A n l) (hb : ∀ x ∈ l, -1000000000000000 ≤ x.n ∧ x.n ≤ 1000000000000000) (hlen : n * 32 ≤ 140737488355328) :
    Calls Tryz.prog 73 #[.slice A n cap] w fun e w' => ∃ A' cap', e = .returned (.slice A' n cap') ∧ Rd It.vs 4 w' w.heap.size A' n (l.map negIt) ∧ Below w.heap.size w w' := by
  have HR := Lib.hid hR
  have HBD := Lib.hid hb
  clear hR hb
  go_enter Tryz.func73, Tryz.ntmps73
  go_wp2_with fail
  go_loopw [3, 5, 8] (fun v _ i wr => ∃ k : Nat, k ≤ n ∧ i = .int .i64 k ∧ NegRel w l k v wr) (fun _ _ i _ => n - (intOf i).toNat)
  case atStart => exact ⟨0, by omega, rfl, Own.nil _ _ _ _ _, Below.refl _ _⟩
  case round =>
    obtain ⟨k, hk, rfl, hown, hB⟩ := hrel
    have hRk := HR.out.below hB
    have HB := Lib.hid hB
    have hsz := hB.size
    clear hB
    by_cases hlt : k < n
    · obtain ⟨b, off, x, rfl, _, hx, c0, c1, c2, c3⟩ := hRk.it_at hlt
      have ht : (l.take (k + 1)).map negIt = (l.take k).map negIt ++ [⟨x.r, -x.n⟩] := by rw [List.take_add_one, hx]; simp [negIt]
      obtain ⟨hx1, hx2⟩ := HBD.out x (List.mem_of_getElem? hx)
      have hll : ((l.take k).map negIt).length = k := by rw [List.length_map, List.length_take, HR.out.len]; omega
      generalize (l.take k).map negIt = L at *
      obtain ⟨A3, cap3, rfl⟩ := hown.shape
      have HT := Lib.hid ht
      have HX := Lib.hid hx
      have hw : IntKind.i64.wrap (-x.n) = -x.n := IntWalk.i64_in _ (by omega)
      clear ht hx hRk
      go_wp2_with (at_builtin; refine wpList_app1 It.vs 4 40 _ 32 infoIt rfl (by decide) rfl _ _ _ rfl Tryz.underlying23 w.heap.size _ L rfl ((hown.alloc _).alloc _) ⟨x.r, -x.n⟩ _ _ rfl rfl (newAt _ _ _ _ (by simp)) (by simp [It.vs, Value.oneCell']) (by omega) (by unfold maxLen; omega) (by simp; omega) (fun v4 w4 hown4 hg4 _ => ?_))
      obtain ⟨A4, cap4, rfl⟩ := hown4.shape
      refine ⟨⟨k + 1, by omega, by go_num, ?_, ((HB.out.alloc hsz _).alloc (by simp; omega) _).grown hg4 (by simp; omega) (fun j hj => (hown.blk j hj).1)⟩, by simp [intOf]; omega⟩
      rw [HT.out]
      exact hown4
    · have hk' : k = n := by omega
      subst hk'
      clear hRk hlt
      have hl : (l.take k).map negIt = l.map negIt := by rw [List.take_of_length_le (by rw [HR.out.len]; exact Nat.le_refl _)]
      rw [hl] at hown
      obtain ⟨A5, cap5, he5, hr5⟩ := hown.rd It.vs_length
      have hlen' : (l.map negIt).length = k := by rw [List.length_map, HR.out.len]
      rw [hlen'] at hr5 he5
      subst he5
      clear hl hlen'
      go_wp2_with fail
      go_ret
      exact ⟨A5, cap5, rfl, hr5, HB.out⟩

set_option maxRecDepth 100000 in
set_option maxHeartbeats 1000000 in
theorem Contrary_any (A : Option Addr) (n capA : Nat) (a : List It) (w : World) (hA : Rd It.vs 4 w 0 A n a) :
    Calls Tryz.prog 28 #[.slice A n capA] w (RetNew w (negR a)) := by
  have Q1 := Lib.hid (Good_any A n capA a w hA)
  have HA := Lib.hid hA
  clear hA
  cases ga : bagB a with
  | false =>
    have e1 : negR a = ([], 2) := by simp [negR, ga]
    rw [e1]
    have GA := Lib.hid ga
    clear ga e1
    go_enter Tryz.func28, Tryz.ntmps28
    go_wp2_with (go_at_call 44; (with_reducible refine Q1.out.mono ?_); rintro e w1 ⟨rfl, hb1⟩; rw [GA.out]; have HB1 := Lib.hid hb1; clear hb1)
    go_ret2
    exact ⟨⟨none, 0, 0, rfl, Rd.nil _ _ _⟩, HB1.out⟩
  | true =>
    have e1 : negR a = (a.map negIt, 0) := by simp [negR, ga]
    rw [e1]
    have hsp := (bagB_spec a).1 ga
    have HSP := Lib.hid hsp
    have GA := Lib.hid ga
    have hlen := HA.out.len
    have HLn := Lib.hid hlen
    clear ga e1 hsp hlen
    go_enter Tryz.func28, Tryz.ntmps28
    go_wp2_with fail
    (with_reducible refine Q1.out.mono ?_)
    rintro e w1 ⟨rfl, hb1⟩
    rw [GA.out]
    have HC := Lib.hid (NegR_any A n capA a w1 (HA.out.below hb1) (fun x hx => by have := (itB_spec x).1 (HSP.out.1 x hx); omega) (by have := HSP.out.2.2; have := HLn.out; omega))
    have HB1 := Lib.hid hb1
    clear hb1
    go_wp2_with (go_at_call 73; (with_reducible refine HC.out.mono ?_); rintro e w2 ⟨A2, cap2, rfl, hr2, hb2⟩)
    go_ret2
    exact ⟨⟨A2, n, cap2, rfl, hr2.low HB1.out.size⟩, bchain HB1.out hb2⟩

set_option maxRecDepth 100000 in
set_option maxHeartbeats 2000000 in
theorem AddR_any (A B : Option Addr) (n m capA capB : Nat) (a b : List It) (w : World) (hA : Rd It.vs 4 w 0 A n a) (hB : Rd It.vs 4 w 0 B m b) (hS : (n + m) * 32 ≤ 140737488355328) (hF : Fits (a ++ b)) :
    Calls Tryz.prog 72 #[.slice A n capA, .slice B m capB] w fun e w' => ∃ A' cap', e = .returned (.slice A' (canon (a ++ b)).length cap') ∧ Rd It.vs 4 w' w.heap.size A' (canon (a ++ b)).length (canon (a ++ b)) ∧ Below w.heap.size w w' := by
  have HA := Lib.hid hA
  have HB := Lib.hid hB
  have HS := Lib.hid hS
  have HF := Lib.hid hF
  clear hA hB hS hF
  go_enter Tryz.func72, Tryz.ntmps72
  have HLA : Hid (a.length = n) := HA.out.len
  go_wp2_with (first | (at_builtin; refine wpList_appRd It.vs 4 It.vs_length (by decide) It.one 40 40 _ 32 infoIt rfl rfl _ _ _ _ rfl Tryz.underlying22 Tryz.underlying23 w.heap.size _ [] rfl (Own.nil _ _ _ _ _) 0 n capA A a rfl HA.out (by have := HS.out; simp; omega) (by have := HS.out; unfold maxLen; simp; omega) (Nat.le_refl _) (fun v1 w1 hown1 hg1 _ => ?_); rw [List.nil_append] at hown1; have hb1 : Below w.heap.size w w1 := (Below.refl _ _).grown hg1 (Nat.le_refl _) (fun k e => by cases e); have HB1 := Lib.hid hb1; have HO1 := Lib.hid hown1; clear hown1 hg1 hb1) | (at_builtin; go_loud (refine wpList_appRd It.vs 4 It.vs_length (by decide) It.one 40 40 _ 32 infoIt rfl rfl _ _ _ _ rfl Tryz.underlying22 Tryz.underlying23 w.heap.size _ a rfl HO1.out 0 m capB B b rfl (HB.out.below HB1.out) (by have := HS.out; rw [HLA.out]; exact this) (by have := HS.out; rw [HLA.out]; unfold maxLen; omega) HB1.out.size (fun v2 w2 hown2 hg2 _ => ?_)); have HB2 := Lib.hid (HB1.out.grown hg2 HB1.out.size (fun k e => (HO1.out.blk k e).1)); have HO2 := Lib.hid hown2; obtain ⟨A2, c2, rfl⟩ := hown2.shape; clear hown2 hg2))
  have hown2 := HO2.out
  have hlab : (a ++ b).length = n + m := by rw [List.length_append, HLA.out, HB.out.len]
  have hr2 := hown2.rdOf It.vs_length
  have hcp := hown2.capOf
  rw [List.length_append] at hr2 hcp hlab
  have C1 := Lib.hid (Of_any A2 (a.length + b.length) c2 (a ++ b) w2 (hr2.low (Nat.zero_le _)) hcp (by rw [hlab]; exact HS.out) HF.out)
  clear hown2 hlab hr2 hcp HO2 HO1
  generalize hL : a ++ b = L at *
  have HL := Lib.hid hL
  clear hL
  (with_reducible refine C1.out.mono ?_)
  rintro e w3 ⟨A3, cap3, rfl, hr3, hb3⟩
  have HR3 := Lib.hid hr3
  have HB3 := Lib.hid (bchain HB2.out hb3)
  clear hr3 hb3 C1
  generalize hq : (canon L).length = q at *
  have HQ := Lib.hid hq
  clear hq
  go_wp2_with fail
  go_ret
  rw [HL.out, HQ.out]
  exact ⟨A3, cap3, rfl, HR3.out.low HB2.out.size, HB3.out⟩

set_option maxRecDepth 100000 in
set_option maxHeartbeats 2000000 in
theorem Sum_any (A B : Option Addr) (n m capA capB : Nat) (a b : List It) (w : World) (hA : Rd It.vs 4 w 0 A n a) (hB : Rd It.vs 4 w 0 B m b) :
    Calls Tryz.prog 27 #[.slice A n capA, .slice B m capB] w (RetNew w (addR a b)) := by
  have Q1 := Lib.hid (Good_any A n capA a w hA)
  have HA := Lib.hid hA
  have HB := Lib.hid hB
  clear hA hB
  cases ga : bagB a with
  | false =>
    have e1 : addR a b = ([], 2) := by simp [addR, ga]
    rw [e1]
    have GA := Lib.hid ga
    clear ga e1
    go_enter Tryz.func27, Tryz.ntmps27
    go_wp2_with (go_at_call 44; (with_reducible refine Q1.out.mono ?_); rintro e w1 ⟨rfl, hb1⟩; rw [GA.out]; have HB1 := Lib.hid hb1; clear hb1)
    go_ret2
    exact ⟨⟨_, _, _, rfl, Rd.nil _ _ _⟩, HB1.out⟩
  | true =>
    cases gb : bagB b with
    | false =>
      have e1 : addR a b = ([], 2) := by simp [addR, gb]
      rw [e1]
      have GA := Lib.hid ga
      have GB := Lib.hid gb
      clear ga gb e1
      go_enter Tryz.func27, Tryz.ntmps27
      go_wp2_with fail
      (with_reducible refine Q1.out.mono ?_)
      rintro e w1 ⟨rfl, hb1⟩
      rw [GA.out]
      have Q2 := Lib.hid (Good_any B m capB b w1 (HB.out.below hb1))
      have HB1 := Lib.hid hb1
      clear hb1
      go_wp2_with (go_at_call 44; (with_reducible refine Q2.out.mono ?_); rintro e w2 ⟨rfl, hb2⟩; rw [GB.out]; have HB2 := Lib.hid hb2; clear hb2)
      go_ret2
      exact ⟨⟨_, _, _, rfl, Rd.nil _ _ _⟩, bchain HB1.out HB2.out⟩
    | true =>
      have e1 : addR a b = longR (canon (a ++ b)) := by rw [bagOr_long]; simp [addR, ga, gb]
      rw [e1]
      have GA := Lib.hid ga
      have GB := Lib.hid gb
      have hn3 : n ≤ 300 := by rw [← HA.out.len]; exact ((bagB_spec a).1 ga).2.2
      have hm3 : m ≤ 300 := by rw [← HB.out.len]; exact ((bagB_spec b).1 gb).2.2
      clear ga gb e1
      go_enter Tryz.func27, Tryz.ntmps27
      go_wp2_with fail
      (with_reducible refine Q1.out.mono ?_)
      rintro e w1 ⟨rfl, hb1⟩
      rw [GA.out]
      have Q2 := Lib.hid (Good_any B m capB b w1 (HB.out.below hb1))
      have HB1 := Lib.hid hb1
      clear hb1
      go_wp2_with (go_at_call 44; (with_reducible refine Q2.out.mono ?_); rintro e w2 ⟨rfl, hb2⟩; rw [GB.out]; have HB2 := Lib.hid (bchain HB1.out hb2); have HP := Lib.hid (AddR_any A B n m capA capB a b w2 (HA.out.below HB2.out) (HB.out.below HB2.out) (by omega) (fits_two GA.out GB.out)); clear hb2)
      (with_reducible refine HP.out.mono ?_)
      rintro e w3 ⟨A3, cap3, rfl, hr3, hb3⟩
      have HL := Lib.hid (longLo_any w2.heap.size A3 _ cap3 _ w3 hr3)
      have HB3 := Lib.hid (bchain HB2.out hb3)
      clear hr3 hb3 HP
      generalize hq : longR (canon (a ++ b)) = q at *
      generalize (canon (a ++ b)).length = p at *
      clear hq
      go_wp2_with (go_at_call 51; (with_reducible refine HL.out.mono ?_); rintro e w4 ⟨⟨A4, n4, cap4, rfl, hr4⟩, hb4⟩)
      go_ret2
      exact ⟨⟨_, _, _, rfl, hr4.low HB2.out.size⟩, bchain HB3.out hb4⟩
end Go.Proofs.Bg
