/- The contracts of Add, Neg and New. -/
import Derived.Test.YtcbemmlhpinjkaaGreatDoorBgAdded
namespace Go.Proofs.Bg
open Go.RowKit

theorem itB_spec (x : It) : itB x = true ↔ (0 ≤ x.r.at_ ∧ x.r.at_ ≤ 200 ∧ -1000000000 ≤ x.r.key ∧ x.r.key ≤ 1000000000 ∧ -1000000000 ≤ x.r.val ∧ x.r.val ≤ 1000000000) ∧ x.n ≠ 0 ∧ -1000000 ≤ x.n ∧ x.n ≤ 1000000 := by
  simp [itB, recB, withinB]
  omega
theorem bagTo_spec (l : List It) : ∀ k, k ≤ l.length → (bagTo l k = true ↔ (∀ x ∈ l.take k, itB x = true) ∧ Incr ((l.take k).map (·.r)))
  | 0, _ => by simp [bagTo, Incr]
  | k + 1, h => by
    have hk : k < l.length := h
    have hx : l[k]? = some l[k] := List.getElem?_eq_getElem hk
    have ht : l.take (k + 1) = l.take k ++ [l[k]] := by rw [List.take_add_one, hx]; rfl
    rw [bagTo_succ, Bool.and_eq_true, bagTo_spec l k (by omega), ht]
    have hinc : Incr ((l.take k ++ [l[k]]).map (·.r)) ↔ Incr ((l.take k).map (·.r)) ∧ ∀ z ∈ (l.take k).map (·.r), rcmp z l[k].r < 0 := by
      unfold Incr
      rw [List.map_append, List.pairwise_append]
      simp
    rw [hinc]
    have hstep : stepB l k = true ↔ itB l[k] = true ∧ ∀ j y, k = j + 1 → l[j]? = some y → rcmp y.r l[k].r < 0 := by
      unfold stepB
      rw [hx]
      cases k with
      | zero => simp
      | succ j =>
        have hj : l[j]? = some l[j] := List.getElem?_eq_getElem (by omega)
        simp only [hj, Bool.and_eq_true, decide_eq_true_eq]
        constructor
        · rintro ⟨h1, h2⟩
          refine ⟨h1, fun j' y e hy => ?_⟩
          cases e
          rw [hj] at hy
          cases hy
          exact h2
        · rintro ⟨h1, h2⟩
          exact ⟨h1, h2 j _ rfl hj⟩
    rw [hstep]
    constructor
    · rintro ⟨⟨h1, h2⟩, h3, h4⟩
      refine ⟨fun x hx => ?_, h2, ?_⟩
      · rcases List.mem_append.1 hx with hm | hm
        · exact h1 x hm
        · simp at hm; rw [hm]; exact h3
      · cases k with
        | zero => simp
        | succ j =>
          have hj : l[j]? = some l[j] := List.getElem?_eq_getElem (by omega)
          have hlast := h4 j _ rfl hj
          have ht2 : l.take (j + 1) = l.take j ++ [l[j]] := by rw [List.take_add_one, hj]; rfl
          rw [ht2] at h2 ⊢
          unfold Incr at h2
          rw [List.map_append, List.pairwise_append] at h2
          intro z hz
          rw [List.map_append] at hz
          rcases List.mem_append.1 hz with hm | hm
          · exact rcmp_trans (h2.2.2 z hm l[j].r (by simp)) hlast
          · simp at hm; rw [hm]; exact hlast
    · rintro ⟨h1, h2, h3⟩
      refine ⟨⟨fun x hx => h1 x (List.mem_append_left _ hx), h2⟩, h1 _ (List.mem_append_right _ (by simp)), fun j y e hy => ?_⟩
      cases e
      exact h3 _ (List.mem_map.2 ⟨y, List.mem_of_getElem? (i := j) (by rw [List.getElem?_take_of_lt (by omega)]; exact hy), rfl⟩)
theorem bagB_spec (l : List It) : bagB l = true ↔ (∀ x ∈ l, itB x = true) ∧ Incr (l.map (·.r)) ∧ l.length ≤ 300 := by
  unfold bagB
  rw [Bool.and_eq_true, bagTo_spec l _ (Nat.le_refl _), List.take_length]
  simp [and_assoc]

theorem itB_ok {x : It} (h : itB x = true) : x.r.ok := by
  rw [itB_spec] at h
  unfold Rc.ok I64
  omega
theorem fits_two {a b : List It} (ha : bagB a = true) (hb : bagB b = true) : Fits (a ++ b) := by
  rw [bagB_spec] at ha hb
  have h : ∀ x ∈ a ++ b, itB x = true := fun x hx => (List.mem_append.1 hx).elim (ha.1 x) (hb.1 x)
  refine ⟨fun x hx => itB_ok (h x hx), 1000000, by omega, fun x hx => ?_, ?_⟩
  · have := (itB_spec x).1 (h x hx); omega
  · rw [List.length_append]; omega

theorem bchain {w w1 w2 : World} (h : Below w.heap.size w w1) (k : Below w1.heap.size w1 w2) : Below w.heap.size w w2 := h.trans (k.mono h.size)

/-- What a call hands back: a bag in new memory, and an error. -/
def RetBag (w : World) (p : List It × Int) (e : Ending) (w' : World) : Prop :=
  ∃ A cap, e = .returned (.tuple #[.slice A p.1.length cap, .int .i64 p.2]) ∧ Rd It.vs 4 w' w.heap.size A p.1.length p.1 ∧ Below w.heap.size w w'

def addR (a b : List It) : List It × Int := if bagB a && bagB b then (bagOr (a ++ b), errOr (a ++ b)) else ([], 2)
def negR (a : List It) : List It × Int := if bagB a then (a.map negIt, 0) else ([], 2)

theorem new_block (w : World) (c : Array Value) (T : TypeId) : (w.alloc (.cells c T)).heap[w.heap.size]? = some (.cells c T) := by
  show (w.heap.push _)[w.heap.size]? = _
  simp
theorem below_new (w : World) (o : Obj) : Below w.heap.size w (w.alloc o) := (Below.refl _ _).alloc (Nat.le_refl _) _
theorem rdBs1 {w : World} {A : Option Addr} {n capA : Nat} {a : List It} (T : TypeId) (hA : Rd It.vs 4 w 0 A n a) : RdBs (w.alloc (.cells #[.slice A n capA] T)) w.heap.size [⟨A, n, capA, a⟩] := fun i b hi => by
  cases i with
  | zero =>
    cases hi
    exact ⟨cell_at_block (new_block w _ T) rfl, hA.below (below_new w _)⟩
  | succ j => simp at hi
theorem rdBs2 {w : World} {A B : Option Addr} {n m capA capB : Nat} {a b : List It} (T : TypeId) (hA : Rd It.vs 4 w 0 A n a) (hB : Rd It.vs 4 w 0 B m b) : RdBs (w.alloc (.cells #[.slice A n capA, .slice B m capB] T)) w.heap.size [⟨A, n, capA, a⟩, ⟨B, m, capB, b⟩] := fun i b hi => by
  cases i with
  | zero =>
    cases hi
    exact ⟨cell_at_block (new_block w _ T) rfl, hA.below (below_new w _)⟩
  | succ j =>
    cases j with
    | zero =>
      cases hi
      exact ⟨cell_at_block (new_block w _ T) rfl, hB.below (below_new w _)⟩
    | succ j => simp at hi

set_option maxRecDepth 100000 in
set_option maxHeartbeats 1000000 in
theorem Add_any (A B : Option Addr) (n m capA capB : Nat) (a b : List It) (w : World) (hA : Rd It.vs 4 w 0 A n a) (hB : Rd It.vs 4 w 0 B m b) :
    Calls Tryz.prog 24 #[.slice A n capA, .slice B m capB] w (RetBag w (addR a b)) := by
  have q1 := isBag_any A n capA a w hA
  have Q1 := Lib.hid q1
  have HA := Lib.hid hA
  have HB := Lib.hid hB
  clear q1 hA hB
  cases ga : bagB a with
  | false =>
    have e1 : addR a b = ([], 2) := by simp [addR, ga]
    rw [e1]
    have GA := Lib.hid ga
    clear ga e1
    go_enter Tryz.func24, Tryz.ntmps24
    go_wp2_with (go_at_call 47; refine Q1.out.mono ?_; rintro e w1 ⟨rfl, hb1⟩; rw [GA.out]; have HB1 := Lib.hid hb1; clear hb1)
    go_ret2
    exact ⟨none, 0, rfl, Rd.nil _ _ _, HB1.out⟩
  | true =>
    cases gb : bagB b with
    | false =>
      have e1 : addR a b = ([], 2) := by simp [addR, gb]
      rw [e1]
      have GA := Lib.hid ga
      have GB := Lib.hid gb
      clear ga gb e1
      go_enter Tryz.func24, Tryz.ntmps24
      go_wp2_with fail
      refine Q1.out.mono ?_
      rintro e w1 ⟨rfl, hb1⟩
      rw [GA.out]
      have Q2 := Lib.hid (isBag_any B m capB b w1 (HB.out.below hb1))
      have HB1 := Lib.hid hb1
      clear hb1
      go_wp2_with (go_at_call 47; refine Q2.out.mono ?_; rintro e w2 ⟨rfl, hb2⟩; rw [GB.out]; have HB2 := Lib.hid hb2; clear hb2)
      go_ret2
      exact ⟨none, 0, rfl, Rd.nil _ _ _, HB1.out.trans (HB2.out.mono HB1.out.size)⟩
    | true =>
      have e1 : addR a b = (bagOr (a ++ b), errOr (a ++ b)) := by simp [addR, ga, gb]
      rw [e1]
      have GA := Lib.hid ga
      have GB := Lib.hid gb
      clear ga gb e1
      go_enter Tryz.func24, Tryz.ntmps24
      go_wp2_with fail
      refine Q1.out.mono ?_
      rintro e w1 ⟨rfl, hb1⟩
      rw [GA.out]
      have Q2 := Lib.hid (isBag_any B m capB b w1 (HB.out.below hb1))
      have HB1 := Lib.hid hb1
      clear hb1
      go_wp2_with (go_at_call 47; refine Q2.out.mono ?_; rintro e w2 ⟨rfl, hb2⟩; rw [GB.out]; have HB2 := Lib.hid hb2; clear hb2)
      have hab := fits_two GA.out GB.out
      have hR3 := rdBs2 (capA := capA) (capB := capB) 23 (HA.out.below (HB1.out.trans (HB2.out.mono HB1.out.size))) (HB.out.below (HB1.out.trans (HB2.out.mono HB1.out.size)))
      have e2 : allIt [⟨A, n, capA, a⟩, ⟨B, m, capB, b⟩] = a ++ b := by simp [allIt]
      have HAd := Lib.hid (added_any w2.heap.size 2 2 _ _ rfl hR3 (by rw [e2]; exact hab) (by omega))
      have hlen : (a ++ b).length * 32 ≤ 140737488355328 := by
        have h1 := ((bagB_spec a).1 GA.out).2.2
        have h2 := ((bagB_spec b).1 GB.out).2.2
        rw [List.length_append]; omega
      have HLn := Lib.hid hlen
      rw [e2] at HAd
      have HF := Lib.hid hab
      clear hab hR3 e2 hlen HA HB
      go_wp2_with (go_at_call 68; refine HAd.out.mono ?_; rintro e w4 ⟨rfl, hs4, hb4⟩)
      rw [World.size_alloc] at hs4
      have HS := Lib.hid (bag_sum _ _ _ hs4 HF.out.ok HLn.out)
      have HB4 := Lib.hid hb4
      generalize a ++ b = L at *
      clear hs4 hb4 HAd
      go_wp2_with (go_at_call 50; (with_reducible refine HS.out.mono ?_); rintro e w5 ⟨A5, cap5, rfl, hr5, hb5⟩)
      go_ret2
      exact ⟨A5, cap5, rfl, hr5.low (by have := HB1.out.size; have := HB2.out.size; have := HB4.out.size; simp at this; omega), bchain (bchain (bchain (bchain HB1.out HB2.out) (below_new _ _)) HB4.out) hb5⟩

set_option maxRecDepth 100000 in
set_option maxHeartbeats 1000000 in
theorem Neg_any (A : Option Addr) (n capA : Nat) (a : List It) (w : World) (hA : Rd It.vs 4 w 0 A n a) :
    Calls Tryz.prog 25 #[.slice A n capA] w (RetBag w (negR a)) := by
  have Q1 := Lib.hid (isBag_any A n capA a w hA)
  have HA := Lib.hid hA
  clear hA
  cases ga : bagB a with
  | false =>
    have e1 : negR a = ([], 2) := by simp [negR, ga]
    rw [e1]
    have GA := Lib.hid ga
    clear ga e1
    go_enter Tryz.func25, Tryz.ntmps25
    go_wp2_with (go_at_call 47; refine Q1.out.mono ?_; rintro e w1 ⟨rfl, hb1⟩; rw [GA.out]; have HB1 := Lib.hid hb1; clear hb1)
    go_ret2
    exact ⟨none, 0, rfl, Rd.nil _ _ _, HB1.out⟩
  | true =>
    have e1 : negR a = (a.map negIt, 0) := by simp [negR, ga]
    rw [e1]
    have hsp := (bagB_spec a).1 ga
    have HSP := Lib.hid hsp
    have GA := Lib.hid ga
    have hlen := HA.out.len
    have HLn := Lib.hid hlen
    clear ga e1 hsp hlen
    go_enter Tryz.func25, Tryz.ntmps25
    go_wp2_with fail
    refine Q1.out.mono ?_
    rintro e w1 ⟨rfl, hb1⟩
    rw [GA.out]
    have HC := Lib.hid (contrary_any A n capA a w1 (HA.out.below hb1) (fun x hx => by have := (itB_spec x).1 (HSP.out.1 x hx); omega) (by have := HSP.out.2.2; have := HLn.out; omega))
    have HB1 := Lib.hid hb1
    clear hb1
    go_wp2_with (go_at_call 71; (with_reducible refine HC.out.mono ?_); rintro e w2 ⟨A2, cap2, rfl, hr2, hb2⟩)
    go_ret2
    have e3 : (a.map negIt).length = n := by rw [List.length_map, HLn.out]
    exact ⟨A2, cap2, by rw [e3]; rfl, by rw [e3]; exact hr2.low HB1.out.size, bchain HB1.out hb2⟩

def okN (x : It) : Bool := recB x.r && withinB x.n (-1000000) 1000000
def newR (l : List It) : List It × Int := if l.all okN then (bagOr l, errOr l) else ([], 2)
theorem okN_spec (x : It) : okN x = true ↔ (0 ≤ x.r.at_ ∧ x.r.at_ ≤ 200 ∧ -1000000000 ≤ x.r.key ∧ x.r.key ≤ 1000000000 ∧ -1000000000 ≤ x.r.val ∧ x.r.val ≤ 1000000000) ∧ -1000000 ≤ x.n ∧ x.n ≤ 1000000 := by
  simp [okN, recB, withinB]
  omega
theorem fits_new {l : List It} (h : ∀ x ∈ l, okN x = true) (hl : l.length * 32 ≤ 140737488355328) : Fits l := by
  refine ⟨fun x hx => ?_, 1000000, by omega, fun x hx => ?_, by omega⟩
  · have := (okN_spec x).1 (h x hx)
    unfold Rc.ok I64
    omega
  · have := (okN_spec x).1 (h x hx); omega

def NewRel (w : World) (l : List It) (k : Nat) (wr : World) : Prop := (∀ x ∈ l.take k, okN x = true) ∧ Below w.heap.size w wr

set_option maxRecDepth 100000 in
set_option maxHeartbeats 1000000 in
theorem New_any (A : Option Addr) (n capA : Nat) (l : List It) (w : World) (hR : Rd It.vs 4 w 0 A n l) (hlen : n * 32 ≤ 140737488355328) :
    Calls Tryz.prog 20 #[.slice A n capA] w (RetBag w (newR l)) := by
  have HR := Lib.hid hR
  clear hR
  go_enter Tryz.func20, Tryz.ntmps20
  go_wp2_with fail
  go_loopw [5, 8] (fun _ i wr => ∃ k : Nat, k ≤ n ∧ i = .int .i64 k ∧ NewRel w l k wr) (fun _ i _ => n - (intOf i).toNat)
  case atStart => exact ⟨0, by omega, rfl, by simp, Below.refl _ _⟩
  case round =>
    obtain ⟨k, hk, rfl, hok, hB⟩ := hrel
    have hRk := HR.out.below hB
    have HB := Lib.hid hB
    have HK := Lib.hid hok
    clear hB hok
    by_cases hlt : k < n
    · obtain ⟨b, off, x, rfl, _, hx, c0, c1, c2, c3⟩ := hRk.it_at hlt
      have HX := Lib.hid hx
      clear hx hRk
      have hno : okN x = false → newR l = ([], 2) := fun h => by
        have : l.all okN = false := List.all_eq_false.2 ⟨x, List.mem_of_getElem? HX.out, by simp [h]⟩
        simp [newR, this]
      have HNO := Lib.hid hno
      clear hno
      cases hr : recB x.r with
      | false =>
        have e1 := HNO.out (by simp [okN, hr])
        have E1 := Lib.hid e1
        have HRC := Lib.hid hr
        clear hr e1
        go_wp2_with (go_at_call 66; refine (isRec_any x.r _).mono ?_; rintro e w' ⟨rfl, hb1⟩; rw [HRC.out]; obtain ⟨f0, f1, f2, f3⟩ := box4 hb1; have HB1 := Lib.hid hb1; clear hb1)
        go_ret2
        rw [E1.out]
        exact ⟨none, 0, rfl, Rd.nil _ _ _, below_box HB.out HB.out.size HB1.out⟩
      | true =>
        have HRC := Lib.hid hr
        cases hm : withinB x.n (-1000000) 1000000 with
        | false =>
          have e1 := HNO.out (by simp [okN, hm])
          have E1 := Lib.hid e1
          have HM := Lib.hid hm
          clear hr hm e1
          go_wp2_with (first | (go_at_call 66; refine (isRec_any x.r _).mono ?_; rintro e w' ⟨rfl, hb1⟩; rw [HRC.out]; obtain ⟨f0, f1, f2, f3⟩ := box4 hb1; have HB1 := Lib.hid hb1; clear hb1) | (go_at_call 67; refine (within_any _ _ _ _).mono ?_; rintro e w' ⟨rfl, rfl⟩; rw [HM.out]))
          go_ret2
          rw [E1.out]
          exact ⟨none, 0, rfl, Rd.nil _ _ _, below_box HB.out HB.out.size HB1.out⟩
        | true =>
          have hxo : okN x = true := by simp [okN, hr, hm]
          have HXO := Lib.hid hxo
          have HM := Lib.hid hm
          clear hr hm hxo
          go_wp2_with (first | (go_at_call 66; refine (isRec_any x.r _).mono ?_; rintro e w' ⟨rfl, hb1⟩; rw [HRC.out]; obtain ⟨f0, f1, f2, f3⟩ := box4 hb1; have HB1 := Lib.hid hb1; clear hb1) | (go_at_call 67; refine (within_any _ _ _ _).mono ?_; rintro e w' ⟨rfl, rfl⟩; rw [HM.out]))
          refine ⟨⟨k + 1, by omega, by go_num, fun y hy => ?_, below_box HB.out HB.out.size HB1.out⟩, by simp [intOf]; omega⟩
          rw [List.take_add_one, HX.out] at hy
          rcases List.mem_append.1 hy with h | h
          · exact HK.out y h
          · simp at h; rw [h]; exact HXO.out
    · have hk' : k = n := by omega
      subst hk'
      clear hlt
      have hall : ∀ x ∈ l, okN x = true := fun x hx => HK.out x (by rw [List.take_of_length_le (by rw [HR.out.len]; exact Nat.le_refl _)]; exact hx)
      have hll : l.length * 32 ≤ 140737488355328 := by rw [HR.out.len]; exact hlen
      have hf := fits_new hall hll
      have e1 : newR l = (bagOr l, errOr l) := by simp [newR, List.all_eq_true.2 hall]
      have E1 := Lib.hid e1
      have hR3 := rdBs1 (capA := capA) 23 hRk
      have e2 : allIt [⟨A, k, capA, l⟩] = l := by simp [allIt]
      have HAd := Lib.hid (added_any wr.heap.size 1 1 _ _ rfl hR3 (by rw [e2]; exact hf) (by omega))
      rw [e2] at HAd
      have HF := Lib.hid hf
      have HLn := Lib.hid hll
      clear hf hR3 e2 hall hll e1 HR hRk HK
      go_wp2_with (go_at_call 68; (with_reducible refine HAd.out.mono ?_); rintro e w4 ⟨rfl, hs4, hb4⟩)
      rw [World.size_alloc] at hs4
      have HS := Lib.hid (bag_sum _ _ _ hs4 HF.out.ok HLn.out)
      have HB4 := Lib.hid hb4
      clear hs4 hb4 HAd
      go_wp2_with (go_at_call 50; (with_reducible refine HS.out.mono ?_); rintro e w5 ⟨A5, cap5, rfl, hr5, hb5⟩)
      go_ret2
      rw [E1.out]
      exact ⟨A5, cap5, rfl, hr5.low (by have := HB.out.size; have := HB4.out.size; simp at this; omega), bchain (bchain (bchain HB.out (below_new _ _)) HB4.out) hb5⟩
end Go.Proofs.Bg
