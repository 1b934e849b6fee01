/- The contract of Print. -/
import Derived.Lib.AppendIntMem
import Derived.Lib.ItoaLen
import Derived.Test.YtcbemmlhpinjkaaGreatDoorBgOps
namespace Go.Proofs.Bg
open Go.RowKit

/-- What the walks ask of the world: the library's table of powers of ten. -/
def Tab (w : World) : Prop := Lib.TabIs Tryz.prog w "internal/strconv.uint64pow10" .u64 Lib.pow10Tab
theorem Tab.below {w w' : World} (h : Tab w) (hb : Below w.heap.size w w') : Tab w' := Lib.tabBelow_of_tabIs h w' hb

theorem Itoa_any (n : Int) (h : I64 n) (w : World) (ht : Tab w) : Calls Tryz.prog 57 #[.int .i64 n] w fun e w' => e = .returned (.string ⟨(Lib.itoa n).toArray⟩) ∧ Below w.heap.size w w' :=
  (Tryz.strconv_Itoa n h.1 h.2 w ht).mono fun _ _ ⟨he, k, os, hw⟩ => ⟨he, by rw [hw]; exact grow_below w k os⟩

def valOf (x : It) : Nat → Int
  | 0 => x.r.at_
  | 1 => x.r.key
  | 2 => x.r.val
  | _ => x.n
def partT (x : It) : Nat → List UInt8
  | 0 => []
  | k + 1 => partT x k ++ ((if k = 0 then [] else [32]) ++ Lib.itoa (valOf x k))
def itT (x : It) : List UInt8 := partT x 4
def textTo (l : List It) : Nat → List UInt8
  | 0 => []
  | k + 1 => textTo l k ++ ((if k = 0 then [] else [59, 32]) ++ (match l[k]? with | some x => itT x | none => []))
def textOf (l : List It) : List UInt8 := textTo l l.length
def strOf (l : List UInt8) : ByteArray := ⟨l.toArray⟩

theorem strOf_append (a b : List UInt8) : strOf (a ++ b) = strOf a ++ strOf b := by
  apply ByteArray.ext
  simp [strOf, ByteArray.data_append]
theorem strOf_size (a : List UInt8) : (strOf a).size = a.length := by simp [strOf, ByteArray.size]
theorem partT_length (x : It) (h : ∀ k, I64 (valOf x k)) (k : Nat) : (partT x k).length ≤ 22 * k := by
  induction k with
  | zero => simp [partT]
  | succ k ih =>
    have h1 := Lib.itoa_length_le (valOf x k) (h k).1 (h k).2
    simp only [partT, List.length_append]
    split <;> simp <;> omega
theorem valOf_ok {x : It} (h : itB x = true) (k : Nat) : I64 (valOf x k) := by
  rw [itB_spec] at h
  unfold valOf I64
  split <;> omega
theorem textTo_length (l : List It) (h : ∀ x ∈ l, itB x = true) (k : Nat) : (textTo l k).length ≤ 90 * k := by
  induction k with
  | zero => simp [textTo]
  | succ k ih =>
    have h2 : (match l[k]? with | some x => itT x | none => ([] : List UInt8)).length ≤ 88 := by
      cases hx : l[k]? with
      | none => simp
      | some x => exact partT_length x (valOf_ok (h x (List.mem_of_getElem? hx))) 4
    simp only [textTo, List.length_append]
    split <;> simp <;> omega

def TxRel (w : World) (L : List UInt8) (v : Value) (wr : World) : Prop := v = .string (strOf L) ∧ Below w.heap.size w wr
def printR (l : List It) : List UInt8 × Int := if bagB l then (textOf l, 0) else ([], 2)

set_option maxRecDepth 100000 in
set_option maxHeartbeats 2000000 in
theorem Print_any (A : Option Addr) (n cap : Nat) (l : List It) (w : World) (hA : Rd It.vs 4 w 0 A n l) (ht : Tab w) :
    Calls Tryz.prog 15 #[.slice A n cap] w fun e w' => e = .returned (.tuple #[.string (strOf (printR l).1), .int .i64 (printR l).2]) ∧ Below w.heap.size w w' := by
  have Q1 := Lib.hid (isBag_any A n cap l w hA)
  have HA := Lib.hid hA
  have HT := Lib.hid ht
  clear hA ht
  cases ga : bagB l with
  | false =>
    have e1 : printR l = ([], 2) := by simp [printR, ga]
    rw [e1]
    have GA := Lib.hid ga
    clear ga e1
    go_enter Tryz.func15, Tryz.ntmps15
    go_wp2_with (go_at_call 47; refine Q1.out.mono ?_; rintro e w1 ⟨rfl, hb1⟩; rw [GA.out]; have HB1 := Lib.hid hb1; clear hb1)
    go_ret2
    exact ⟨rfl, HB1.out⟩
  | true =>
    have e1 : printR l = (textOf l, 0) := by simp [printR, ga]
    rw [e1]
    have HS := Lib.hid ((bagB_spec l).1 ga)
    have GA := Lib.hid ga
    have hn300 : n ≤ 300 := by have := HS.out.2.2; have := HA.out.len; omega
    clear ga e1
    go_enter Tryz.func15, Tryz.ntmps15
    go_wp2_with fail
    refine Q1.out.mono ?_
    rintro e w1 ⟨rfl, hb1⟩
    rw [GA.out]
    have HB1 := Lib.hid hb1
    clear hb1
    go_wp2_with fail
    go_loopw [4, 5, 6, 7, 8, 14, 34, 35] (fun v _ _ _ _ i _ _ wr => ∃ k : Nat, k ≤ n ∧ i = .int .i64 k ∧ TxRel w (textTo l k) v wr) (fun _ _ _ _ _ i _ _ _ => n - (intOf i).toNat)
    case atStart => exact ⟨0, by omega, rfl, rfl, HB1.out⟩
    case round =>
      obtain ⟨k, hk, rfl, rfl, hB⟩ := hrel
      have hRk := HA.out.below hB
      have HB := Lib.hid hB
      clear hB
      by_cases hlt : k < n
      · obtain ⟨b, off, x, rfl, _, hx, c0, c1, c2, c3⟩ := hRk.it_at hlt
        have HX := Lib.hid hx
        have HXI := Lib.hid ((itB_spec x).1 (HS.out.1 x (List.mem_of_getElem? hx)))
        clear hRk hx
        have hsz : (strOf (textTo l k)).size ≤ 27000 := by rw [strOf_size]; have := textTo_length l HS.out.1 k; omega
        have hval := valOf_ok (HS.out.1 x (List.mem_of_getElem? HX.out))
        have HV := Lib.hid hval
        obtain ⟨S, hS⟩ : ∃ S, strOf (textTo l k) = S := ⟨_, rfl⟩
        rw [hS] at hsz ⊢
        have HSS := Lib.hid hS
        clear hS hval
        obtain ⟨P, hP⟩ : ∃ P, textTo l k ++ (if k = 0 then [] else [59, 32]) = P := ⟨_, rfl⟩
        have hPl : P.length ≤ 27010 := by
          have := textTo_length l HS.out.1 k
          rw [← hP, List.length_append]
          split <;> simp <;> omega
        have HP := Lib.hid hP
        clear hP
        have i0 : ∀ w, (Instr.index 80 (.agg #[.int .i64 x.r.at_, .int .i64 x.r.key, .int .i64 x.r.val, .int .i64 x.n]) (.int .i64 0)).run Tryz.prog w = .ok (.int .i64 x.r.at_) w := fun _ => by kernel_rfl
        have i1 : ∀ w, (Instr.index 80 (.agg #[.int .i64 x.r.at_, .int .i64 x.r.key, .int .i64 x.r.val, .int .i64 x.n]) (.int .i64 1)).run Tryz.prog w = .ok (.int .i64 x.r.key) w := fun _ => by kernel_rfl
        have i2 : ∀ w, (Instr.index 80 (.agg #[.int .i64 x.r.at_, .int .i64 x.r.key, .int .i64 x.r.val, .int .i64 x.n]) (.int .i64 2)).run Tryz.prog w = .ok (.int .i64 x.r.val) w := fun _ => by kernel_rfl
        have i3 : ∀ w, (Instr.index 80 (.agg #[.int .i64 x.r.at_, .int .i64 x.r.key, .int .i64 x.r.val, .int .i64 x.n]) (.int .i64 3)).run Tryz.prog w = .ok (.int .i64 x.n) w := fun _ => by kernel_rfl
        have hst : ∀ (h0 : k = 0), strOf P = S := fun h0 => by rw [← HP.out, if_pos h0, List.append_nil]; exact HSS.out
        have hst' : ∀ (h0 : 0 < k), strOf P = S ++ ⟨#[59, 32]⟩ := fun h0 => by rw [← HP.out, if_neg (by omega), strOf_append, HSS.out]; rfl
        have HST := Lib.hid hst
        have HST' := Lib.hid hst'
        clear hst hst'
        by_cases hk0 : 0 < k
        all_goals
          go_wp2_with fail
          obtain ⟨wo, rfl⟩ : ∃ wo : World, wo = wr := ⟨_, rfl⟩
          go_loopw [4, 7, 8, 35] (fun v _ _ i wi => ∃ j : Nat, j ≤ 4 ∧ i = .int .i64 j ∧ TxRel w (P ++ partT x j) v wi) (fun _ _ _ i _ => 4 - (intOf i).toNat)
          case atStart => exact ⟨0, by omega, rfl, by rw [partT, List.append_nil]; first | rw [HST'.out (by assumption)] | rw [HST.out (by omega)], HB.out.alloc HB.out.size _⟩
          case round =>
            obtain ⟨j, hj, rfl, rfl, hBi⟩ := hrel
            have HBi := Lib.hid hBi
            have hpl := partT_length x HV.out j
            have hT := HT.out.below hBi
            have HTi := Lib.hid hT
            have hs1 : (strOf (P ++ partT x j)).size ≤ 28000 := by rw [strOf_size, List.length_append]; omega
            obtain ⟨S1, hS1⟩ : ∃ S1, strOf (P ++ partT x j) = S1 := ⟨_, rfl⟩
            rw [hS1] at hs1 ⊢
            have HS1 := Lib.hid hS1
            clear hS1 hBi hT hpl
            rcases (by omega : j = 0 ∨ j = 1 ∨ j = 2 ∨ j = 3 ∨ j = 4) with rfl | rfl | rfl | rfl | rfl
            · have hv := HV.out 0
              have hil := Lib.itoa_length_le (x.r.at_) hv.1 hv.2
              have HI := Lib.hid (Itoa_any (x.r.at_) hv wr HTi.out)
              clear hv
              go_wp2_with (go_at_call 57; (with_reducible refine HI.out.mono ?_); rintro e w3 ⟨rfl, hb3⟩; have HB3 := Lib.hid hb3; clear hb3)
              refine ⟨⟨1, by omega, rfl, ?_, bchain HBi.out HB3.out⟩, by simp [intOf]⟩
              show Value.string (S1 ++ strOf (Lib.itoa (x.r.at_))) = _
              rw [← HS1.out, ← strOf_append]
              simp [partT, valOf]
            · have hv := HV.out 1
              have hil := Lib.itoa_length_le (x.r.key) hv.1 hv.2
              have HI := Lib.hid (Itoa_any (x.r.key) hv wr HTi.out)
              clear hv
              go_wp2_with (go_at_call 57; (with_reducible refine HI.out.mono ?_); rintro e w3 ⟨rfl, hb3⟩; have HB3 := Lib.hid hb3; clear hb3)
              refine ⟨⟨2, by omega, rfl, ?_, bchain HBi.out HB3.out⟩, by simp [intOf]⟩
              show Value.string ((S1 ++ strOf [32]) ++ strOf (Lib.itoa (x.r.key))) = _
              rw [← HS1.out, ← strOf_append, ← strOf_append]
              simp [partT, valOf]
            · have hv := HV.out 2
              have hil := Lib.itoa_length_le (x.r.val) hv.1 hv.2
              have HI := Lib.hid (Itoa_any (x.r.val) hv wr HTi.out)
              clear hv
              go_wp2_with (go_at_call 57; (with_reducible refine HI.out.mono ?_); rintro e w3 ⟨rfl, hb3⟩; have HB3 := Lib.hid hb3; clear hb3)
              refine ⟨⟨3, by omega, rfl, ?_, bchain HBi.out HB3.out⟩, by simp [intOf]⟩
              show Value.string ((S1 ++ strOf [32]) ++ strOf (Lib.itoa (x.r.val))) = _
              rw [← HS1.out, ← strOf_append, ← strOf_append]
              simp [partT, valOf]
            · have hv := HV.out 3
              have hil := Lib.itoa_length_le (x.n) hv.1 hv.2
              have HI := Lib.hid (Itoa_any (x.n) hv wr HTi.out)
              clear hv
              go_wp2_with (go_at_call 57; (with_reducible refine HI.out.mono ?_); rintro e w3 ⟨rfl, hb3⟩; have HB3 := Lib.hid hb3; clear hb3)
              refine ⟨⟨4, by omega, rfl, ?_, bchain HBi.out HB3.out⟩, by simp [intOf]⟩
              show Value.string ((S1 ++ strOf [32]) ++ strOf (Lib.itoa (x.n))) = _
              rw [← HS1.out, ← strOf_append, ← strOf_append]
              simp [partT, valOf]
            · go_wp2_with fail
              refine ⟨⟨k + 1, by omega, by go_num, ?_, HBi.out⟩, by simp [intOf]; omega⟩
              rw [← HS1.out, ← HP.out]
              simp only [textTo, HX.out, itT, List.append_assoc]
      · have hk' : k = n := by omega
        subst hk'
        clear hRk hlt
        have e2 : textOf l = textTo l k := by rw [textOf, HA.out.len]
        rw [← e2]
        clear e2
        go_wp2_with fail
        go_ret2
        exact ⟨rfl, HB.out⟩
end Go.Proofs.Bg
