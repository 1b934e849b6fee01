/- The contracts of Split, and of the reference's Split. -/
import Derived.Test.YtcbemmlhpinjkaaGreatDoorBgAlg
import Derived.Test.YtcbemmlhpinjkaaGreatDoorBgApp2
import Derived.Test.YtcbemmlhpinjkaaGreatDoorBgRecov
namespace Go.Proofs.Bg
open Go.RowKit

def splitR (b : List It) : (List It × List It) × Int := if bagB b then ((isL b, notL b), 0) else (([], []), 2)
/-- What a function that hands back two bags in new memory leaves. -/
def RetTwo (w : World) (p : (List It × List It) × Int) (e : Ending) (w' : World) : Prop :=
  (∃ A n c B m d, e = .returned (.tuple #[.slice A n c, .slice B m d, .int .i64 p.2]) ∧ Rd It.vs 4 w' w.heap.size A n p.1.1 ∧ Rd It.vs 4 w' w.heap.size B m p.1.2) ∧ Below w.heap.size w w'

/-- Two lists of the call's own, apart from each other. -/
structure Two (w1 : World) (L M : List It) (v u : Value) (wr : World) : Prop where
  a : Own It.vs 4 40 w1.heap.size wr v L
  b : Own It.vs 4 40 w1.heap.size wr u M
  ne : v.ownBlock = none ∨ v.ownBlock ≠ u.ownBlock
  below : Below w1.heap.size w1 wr
theorem Two.swap {w1 wr : World} {L M : List It} {v u : Value} (h : Two w1 L M v u wr) : Two w1 M L u v wr where
  a := h.b
  b := h.a
  ne := by
    rcases h.ne with e | e
    · cases hu : u.ownBlock with
      | none => exact .inl rfl
      | some g => exact .inr (by rw [e]; simp)
    · exact .inr (Ne.symm e)
  below := h.below
theorem Two.start (w1 : World) : Two w1 [] [] (.slice none 0 0) (.slice none 0 0) w1 := ⟨Own.nil _ _ _ _ _, Own.nil _ _ _ _ _, .inl rfl, Below.refl _ _⟩
theorem Two.alloc {w1 wr : World} {L M : List It} {v u : Value} (h : Two w1 L M v u wr) (o : Obj) : Two w1 L M v u (wr.alloc o) := ⟨h.a.alloc o, h.b.alloc o, h.ne, h.below.alloc h.below.size o⟩
/-- Behind an append to the first one. -/
theorem Two.app {w1 W w' : World} {L L' M : List It} {v u v' : Value} (h : Two w1 L M v u W) (ho : Own It.vs 4 40 w1.heap.size w' v' L') (hg : W.grownBy w' v.ownBlock) (hl : v'.ownBlock = v.ownBlock ∨ v'.ownBlock = some W.heap.size) : Two w1 L' M v' u w' where
  a := ho
  b := h.b.grown hg (by
    rcases h.swap.ne with e | e
    · exact .inl e
    · exact .inr e)
  ne := by
    rcases hl with e | e
    · rw [e]; exact h.ne
    · refine .inr fun e2 => ?_
      have := (h.b.blk W.heap.size (by rw [← e2, e])).2
      omega
  below := h.below.grown hg h.below.size (fun k e => (h.a.blk k e).1)
/-- What the loop of Split holds. -/
def isTo (l : List It) (k : Nat) : List It := (l.take k).filter (fun x => decide (0 < x.n))
def noTo (l : List It) (k : Nat) : List It := (l.take k).filter (fun x => !decide (0 < x.n))
theorem isTo_succ {l : List It} {k : Nat} {x : It} (h : l[k]? = some x) : isTo l (k + 1) = isTo l k ++ (if 0 < x.n then [x] else []) ∧ noTo l (k + 1) = noTo l k ++ (if 0 < x.n then [] else [x]) := by
  unfold isTo noTo
  rw [List.take_add_one, h, List.filter_append, List.filter_append]
  by_cases hx : 0 < x.n <;> simp [hx]
theorem isTo_length (l : List It) (k : Nat) : (isTo l k).length ≤ k ∧ (noTo l k).length ≤ k := by
  have h1 := List.length_filter_le (fun x => decide (0 < x.n)) (l.take k)
  have h2 := List.length_filter_le (fun x => !decide (0 < x.n)) (l.take k)
  have h3 := List.length_take_le k l
  exact ⟨by unfold isTo; omega, by unfold noTo; omega⟩

set_option maxRecDepth 100000 in
set_option maxHeartbeats 2000000 in
theorem Split_any (A : Option Addr) (n capA : Nat) (a : List It) (w : World) (hA : Rd It.vs 4 w 0 A n a) :
    Calls Tryz.prog 26 #[.slice A n capA] w (RetTwo w (splitR a)) := by
  have Q1 := Lib.hid (isBag_any A n capA a w hA)
  have HA := Lib.hid hA
  clear hA
  cases ga : bagB a with
  | false =>
    have e1 : splitR a = (([], []), 2) := by simp [splitR, ga]
    rw [e1]
    have GA := Lib.hid ga
    clear ga e1
    go_enter Tryz.func26, Tryz.ntmps26
    go_wp2_with (go_at_call 47; (with_reducible refine Q1.out.mono ?_); rintro e w1 ⟨rfl, hb1⟩; rw [GA.out]; have HB1 := Lib.hid hb1; clear hb1)
    go_ret3
    exact ⟨⟨_, _, _, _, _, _, rfl, Rd.nil _ _ _, Rd.nil _ _ _⟩, HB1.out⟩
  | true =>
    have E1 : Hid (splitR a = ((isL a, notL a), 0)) := by show _ = _; simp [splitR, ga]
    have hsp := (bagB_spec a).1 ga
    have HSP := Lib.hid hsp
    have GA := Lib.hid ga
    have hn3 : n ≤ 300 := by rw [← HA.out.len]; exact hsp.2.2
    clear ga hsp
    go_enter Tryz.func26, Tryz.ntmps26
    go_wp2_with fail
    (with_reducible refine Q1.out.mono ?_)
    rintro e w1 ⟨rfl, hb1⟩
    rw [GA.out]
    have HB1 := Lib.hid hb1
    clear hb1
    go_wp2_with fail
    go_loopw [5, 6, 8, 14] (fun v u _ i wr => ∃ k : Nat, k ≤ n ∧ i = .int .i64 k ∧ Two w1 (isTo a k) (noTo a k) v u wr) (fun _ _ _ i _ => n - (intOf i).toNat)
    case atStart => exact ⟨0, by omega, rfl, Two.start w1⟩
    case round =>
      obtain ⟨k, hk, rfl, hT⟩ := hrel
      obtain ⟨A5, c5, rfl⟩ := hT.a.shape
      obtain ⟨A6, c6, rfl⟩ := hT.b.shape
      have hRk := HA.out.below (bchain HB1.out hT.below)
      have HT := Lib.hid hT
      have hsz := hT.below.size
      have hlen := isTo_length a k
      clear hT
      by_cases hlt : k < n
      · obtain ⟨b, off, x, rfl, _, hx, c0, c1, c2, c3⟩ := hRk.it_at hlt
        have hs := isTo_succ hx
        have hx0 := new_block wr #[.int .i64 x.r.at_, .int .i64 x.r.key, .int .i64 x.r.val, .int .i64 x.n] 40
        have f0 := cell_at_block (off := 0) hx0 rfl
        have f1 := cell_at_block (off := 1) hx0 rfl
        have f2 := cell_at_block (off := 2) hx0 rfl
        have f3 := cell_at_block (off := 3) hx0 rfl
        by_cases hp : 0 < x.n
        · have hd : decide (0 < x.n) = true := by simpa using hp
          rw [if_pos hp, if_pos hp] at hs
          have HS := Lib.hid hs
          generalize isTo a k = I at *
          generalize noTo a k = J at *
          clear hs hp hx hRk hx0
          go_wp2_with (at_builtin; go_loud (refine wpList_app1 It.vs 4 40 _ 32 infoIt rfl (by decide) rfl _ _ _ rfl Tryz.underlying23 w1.heap.size _ I rfl ((HT.out.a.alloc _).alloc _) x _ _ rfl rfl (newAt _ _ _ _ (by simp)) (by simp [It.vs, Value.oneCell']) (by omega) (by unfold maxLen; omega) (by simp; omega) (fun v4 w4 hown4 hg4 hl4 => ?_)))
          exact ⟨⟨k + 1, by omega, by go_num, by rw [HS.out.1, HS.out.2, List.append_nil]; exact ((HT.out.alloc _).alloc _).app hown4 hg4 hl4⟩, by simp [intOf]; omega⟩
        · have hd : decide (0 < x.n) = false := by simpa using hp
          rw [if_neg hp, if_neg hp] at hs
          have HS := Lib.hid hs
          generalize isTo a k = I at *
          generalize noTo a k = J at *
          clear hs hp hx hRk hx0
          go_wp2_with (at_builtin; go_loud (refine wpList_app1 It.vs 4 40 _ 32 infoIt rfl (by decide) rfl _ _ _ rfl Tryz.underlying23 w1.heap.size _ J rfl ((HT.out.b.alloc _).alloc _) x _ _ rfl rfl (newAt _ _ _ _ (by simp)) (by simp [It.vs, Value.oneCell']) (by omega) (by unfold maxLen; omega) (by simp; omega) (fun v4 w4 hown4 hg4 hl4 => ?_)))
          exact ⟨⟨k + 1, by omega, by go_num, by rw [HS.out.1, HS.out.2, List.append_nil]; exact (((HT.out.alloc _).alloc _).swap.app hown4 hg4 hl4).swap⟩, by simp [intOf]; omega⟩
      · have hk' : k = n := by omega
        subst hk'
        have e1 : isTo a k = isL a := by unfold isTo isL; rw [List.take_of_length_le (by rw [HA.out.len]; exact Nat.le_refl _)]
        have hn1 : (noTo a k).map negIt = notL a := by unfold noTo notL; rw [List.take_of_length_le (by rw [HA.out.len]; exact Nat.le_refl _)]
        have hr5 := HT.out.a.rdOf It.vs_length
        have hr6 := HT.out.b.rdOf It.vs_length
        have hmem : ∀ x ∈ noTo a k, -1000000000000000 ≤ x.n ∧ x.n ≤ 1000000000000000 := fun x hx => by
          have := (itB_spec x).1 (HSP.out.1 x (List.mem_of_mem_take (List.mem_filter.1 hx).1))
          omega
        have C1 := Lib.hid (contrary_any A6 _ c6 (noTo a k) wr (hr6.low (Nat.zero_le _)) hmem (by omega))
        have HR5 := Lib.hid hr5
        have H1 := Lib.hid e1
        have H2 := Lib.hid hn1
        clear hRk hlt e1 hn1 hr5 hr6 hmem hlen
        generalize (isTo a k).length = q at *
        generalize (noTo a k).length = p at *
        go_wp2_with (go_at_call 71; (with_reducible refine C1.out.mono ?_); rintro e w3 ⟨A7, c7, rfl, hr7, hb7⟩)
        go_ret3
        rw [E1.out]
        have hb3 := bchain HB1.out HT.out.below
        refine ⟨⟨_, _, _, _, _, _, rfl, ?_, ?_⟩, bchain hb3 hb7⟩
        · have := HR5.out
          rw [H1.out] at this
          exact (this.below hb7).low HB1.out.size
        · rw [H2.out] at hr7
          exact hr7.low hb3.size

set_option maxRecDepth 100000 in
set_option maxHeartbeats 2000000 in
theorem SplitR_any (A : Option Addr) (n capA : Nat) (a : List It) (w : World) (hA : Rd It.vs 4 w 0 A n a) :
    Calls Tryz.prog 29 #[.slice A n capA] w (RetTwo w (splitR a)) := by
  have Q1 := Lib.hid (Good_any A n capA a w hA)
  have HA := Lib.hid hA
  clear hA
  cases ga : bagB a with
  | false =>
    have e1 : splitR a = (([], []), 2) := by simp [splitR, ga]
    rw [e1]
    have GA := Lib.hid ga
    clear ga e1
    go_enter Tryz.func29, Tryz.ntmps29
    go_wp2_with (go_at_call 44; (with_reducible refine Q1.out.mono ?_); rintro e w1 ⟨rfl, hb1⟩; rw [GA.out]; have HB1 := Lib.hid hb1; clear hb1)
    go_ret3
    exact ⟨⟨_, _, _, _, _, _, rfl, Rd.nil _ _ _, Rd.nil _ _ _⟩, HB1.out⟩
  | true =>
    have E1 : Hid (splitR a = ((isL a, notL a), 0)) := by show _ = _; simp [splitR, ga]
    have hsp := (bagB_spec a).1 ga
    have HSP := Lib.hid hsp
    have GA := Lib.hid ga
    have hn3 : n ≤ 300 := by rw [← HA.out.len]; exact hsp.2.2
    clear ga hsp
    go_enter Tryz.func29, Tryz.ntmps29
    go_wp2_with fail
    (with_reducible refine Q1.out.mono ?_)
    rintro e w1 ⟨rfl, hb1⟩
    rw [GA.out]
    have HB1 := Lib.hid hb1
    clear hb1
    go_wp2_with fail
    go_loopw [5, 6, 8, 14] (fun v u _ i wr => ∃ k : Nat, k ≤ n ∧ i = .int .i64 k ∧ Two w1 (isTo a k) ((noTo a k).map negIt) v u wr) (fun _ _ _ i _ => n - (intOf i).toNat)
    case atStart => exact ⟨0, by omega, rfl, Two.start w1⟩
    case round =>
      obtain ⟨k, hk, rfl, hT⟩ := hrel
      obtain ⟨A5, c5, rfl⟩ := hT.a.shape
      obtain ⟨A6, c6, rfl⟩ := hT.b.shape
      have hRk := HA.out.below (bchain HB1.out hT.below)
      have HT := Lib.hid hT
      have hsz := hT.below.size
      have hlen := isTo_length a k
      have hlen2 : ((noTo a k).map negIt).length ≤ k := by rw [List.length_map]; exact hlen.2
      clear hT
      by_cases hlt : k < n
      · obtain ⟨b, off, x, rfl, _, hx, c0, c1, c2, c3⟩ := hRk.it_at hlt
        have hs := isTo_succ hx
        have hxn := (itB_spec x).1 (HSP.out.1 x (List.mem_of_getElem? hx))
        have hw : IntKind.i64.wrap (-x.n) = -x.n := IntWalk.i64_in _ (by omega)
        have hx0 := new_block wr #[.int .i64 x.r.at_, .int .i64 x.r.key, .int .i64 x.r.val, .int .i64 x.n] 40
        have f0 := cell_at_block (off := 0) hx0 rfl
        have f1 := cell_at_block (off := 1) hx0 rfl
        have f2 := cell_at_block (off := 2) hx0 rfl
        have f3 := cell_at_block (off := 3) hx0 rfl
        by_cases hp : 0 < x.n
        · have hd : decide (0 < x.n) = true := by simpa using hp
          rw [if_pos hp, if_pos hp, List.append_nil] at hs
          have HS := Lib.hid hs
          have HJ : Hid ((noTo a (k + 1)).map negIt = (noTo a k).map negIt) := by show _ = _; rw [hs.2]
          generalize isTo a k = I at *
          generalize (noTo a k).map negIt = J at *
          clear hs hp hx hRk hx0 hxn
          go_wp2_with (at_builtin; go_loud (refine wpList_app1 It.vs 4 40 _ 32 infoIt rfl (by decide) rfl _ _ _ rfl Tryz.underlying23 w1.heap.size _ I rfl ((HT.out.a.alloc _).alloc _) x _ _ rfl rfl (newAt _ _ _ _ (by simp)) (by simp [It.vs, Value.oneCell']) (by omega) (by unfold maxLen; omega) (by simp; omega) (fun v4 w4 hown4 hg4 hl4 => ?_)))
          exact ⟨⟨k + 1, by omega, by go_num, by rw [HS.out.1, HJ.out]; exact ((HT.out.alloc _).alloc _).app hown4 hg4 hl4⟩, by simp [intOf]; omega⟩
        · have hd : decide (0 < x.n) = false := by simpa using hp
          rw [if_neg hp, if_neg hp, List.append_nil] at hs
          have HS := Lib.hid hs
          have HJ : Hid ((noTo a (k + 1)).map negIt = (noTo a k).map negIt ++ [⟨x.r, -x.n⟩]) := by show _ = _; rw [hs.2]; simp [negIt]
          generalize isTo a k = I at *
          generalize (noTo a k).map negIt = J at *
          clear hs hp hx hRk hx0 hxn
          go_wp2_with (at_builtin; go_loud (refine wpList_app1 It.vs 4 40 _ 32 infoIt rfl (by decide) rfl _ _ _ rfl Tryz.underlying23 w1.heap.size _ J rfl ((HT.out.b.alloc _).alloc _) ⟨x.r, -x.n⟩ _ _ rfl rfl (newAt _ _ _ _ (by simp)) (by simp [It.vs, Value.oneCell']) (by omega) (by unfold maxLen; omega) (by simp; omega) (fun v4 w4 hown4 hg4 hl4 => ?_)))
          exact ⟨⟨k + 1, by omega, by go_num, by rw [HS.out.1, HJ.out]; exact (((HT.out.alloc _).alloc _).swap.app hown4 hg4 hl4).swap⟩, by simp [intOf]; omega⟩
      · have hk' : k = n := by omega
        subst hk'
        have e1 : isTo a k = isL a := by unfold isTo isL; rw [List.take_of_length_le (by rw [HA.out.len]; exact Nat.le_refl _)]
        have hn1 : (noTo a k).map negIt = notL a := by unfold noTo notL; rw [List.take_of_length_le (by rw [HA.out.len]; exact Nat.le_refl _)]
        have hr5 := HT.out.a.rdOf It.vs_length
        have hr6 := HT.out.b.rdOf It.vs_length
        have HR5 := Lib.hid hr5
        have HR6 := Lib.hid hr6
        have H1 := Lib.hid e1
        have H2 := Lib.hid hn1
        clear hRk hlt hlen hlen2 e1 hn1 hr5 hr6
        generalize (isTo a k).length = q at *
        generalize ((noTo a k).map negIt).length = p at *
        go_wp2_with fail
        go_ret3
        rw [E1.out]
        have hb3 := bchain HB1.out HT.out.below
        refine ⟨⟨_, _, _, _, _, _, rfl, ?_, ?_⟩, hb3⟩
        · have := HR5.out
          rw [H1.out] at this
          exact this.low HB1.out.size
        · have := HR6.out
          rw [H2.out] at this
          exact this.low HB1.out.size
end Go.Proofs.Bg
