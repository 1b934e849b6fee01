/- The contracts of sums.items and sums.bag. -/
import Derived.Test.YtcbemmlhpinjkaaGreatDoorBgKeys
import Derived.Test.YtcbemmlhpinjkaaGreatDoorBgIsBag
namespace Go.Proofs.Bg
open Go.RowKit

theorem infoIt : (Tryz.prog.info? 40).map (fun i => (i.zero, i.size, i.bytes)) = some (some (.agg #[.int .i64 0, .int .i64 0, .int .i64 0, .int .i64 0]), 4, 32) := by kernel_rfl

/-- The items of some records, by a map of sums. -/
def itemsOf (kv : List (Rc × Int)) : List Rc → List It
  | [] => []
  | k :: r => if (getKV kv k).getD 0 = 0 then itemsOf kv r else ⟨k, (getKV kv k).getD 0⟩ :: itemsOf kv r
theorem itemsOf_append (kv : List (Rc × Int)) (a b : List Rc) : itemsOf kv (a ++ b) = itemsOf kv a ++ itemsOf kv b := by
  induction a with
  | nil => rfl
  | cons x r ih =>
    simp only [List.cons_append, itemsOf, ih]
    split <;> rfl
theorem itemsOf_length (kv : List (Rc × Int)) (a : List Rc) : (itemsOf kv a).length ≤ a.length := by
  induction a with
  | nil => simp [itemsOf]
  | cons x r ih => rw [itemsOf]; split <;> simp <;> omega
theorem itemsOf_take (kv : List (Rc × Int)) (ks : List Rc) (j : Nat) (x : Rc) (h : ks[j]? = some x) : itemsOf kv (ks.take (j + 1)) = if (getKV kv x).getD 0 = 0 then itemsOf kv (ks.take j) else itemsOf kv (ks.take j) ++ [⟨x, (getKV kv x).getD 0⟩] := by
  have e : ks.take (j + 1) = ks.take j ++ [x] := by rw [List.take_add_one, h]; rfl
  rw [e, itemsOf_append]
  simp only [itemsOf]
  split <;> simp

/-- What the loop holds. -/
def ItemsRel (w1 : World) (kv : List (Rc × Int)) (ks : List Rc) (j : Nat) (v : Value) (wr : World) : Prop :=
  Own It.vs 4 40 w1.heap.size wr v (itemsOf kv (ks.take j)) ∧ Below w1.heap.size w1 wr

set_option maxRecDepth 100000 in
set_option maxHeartbeats 1000000 in
theorem items_any (r : Nat) (kv : List (Rc × Int)) (w : World) (h : MapIs Tryz.prog 124 ekR evI w r kv) (hok : ∀ k ∈ kv.map Prod.fst, Rc.ok k) (hlen : kv.length * 32 ≤ 140737488355328) :
    Calls Tryz.prog 74 #[.map (some r)] w fun e w' => ∃ A cap ks, e = .returned (.slice A (itemsOf kv ks).length cap) ∧ Incr ks ∧ ks.Perm (kv.map Prod.fst) ∧ Rd It.vs 4 w' w.heap.size A (itemsOf kv ks).length (itemsOf kv ks) ∧ Below w.heap.size w w' := by
  have hk := keysR_any r kv w h (by omega)
  have HK := Lib.hid hk
  clear hk
  go_enter Tryz.func74, Tryz.ntmps74
  go_wp2_with (go_at_call 105; refine HK.out.mono ?_; rintro e w1 ⟨A, cap, ks, rfl, hinc, hperm, hrd, hB⟩)
  have hM1 := h.below hB
  have hn : ks.length = kv.length := by rw [hperm.length_eq]; simp
  have hnle := hrd.le
  generalize hnk : ks.length = n at *
  have HN := Lib.hid hnk
  have HB := Lib.hid hB
  have HR := Lib.hid hrd
  have HI := Lib.hid hinc
  have HP := Lib.hid hperm
  have hok' : ∀ (j : Nat) (x : Rc), ks[j]? = some x → x.ok := fun j x hx => hok x (HP.out.subset (List.mem_of_getElem? hx))
  have HO := Lib.hid hok'
  have HM := Lib.hid hM1
  have HL := Lib.hid hn
  clear hB hrd hinc hperm hnk hok hok' hM1 h hn
  go_loopw [3, 5, 6, 10] (fun v _ _ i wr => ∃ k : Nat, k ≤ n ∧ i = .int .i64 k ∧ ItemsRel w1 kv ks k v wr) (fun _ _ _ i _ => n - (intOf i).toNat)
  case atStart => exact ⟨0, by omega, rfl, Own.nil _ _ _ _ _, Below.refl _ _⟩
  case round =>
    obtain ⟨k, hk, rfl, hown, hBr⟩ := hrel
    obtain ⟨A3, cap3, rfl⟩ := hown.shape
    have hRk := HR.out.below hBr
    have hMk := HM.out.below hBr
    have HBr := Lib.hid hBr
    clear hBr
    by_cases hlt : k < n
    · obtain ⟨b, off, x, rfl, _, hx, c0, c1, c2⟩ := hRk.rc_at hlt
      obtain ⟨kl, hkl⟩ := keyR x (HO.out k x hx)
      have hlk := (hMk.alloc (.cells #[.int .i64 x.at_, .int .i64 x.key, .int .i64 x.val] 124)).lookup lawOrd ekR_inj Tryz.underlying69 zeroI hkl
      obtain ⟨old, hold⟩ : ∃ old, (getKV kv x).getD 0 = old := ⟨_, rfl⟩
      have hlk' : (Instr.lookup 69 (.map (some r)) (.agg #[.int .i64 x.at_, .int .i64 x.key, .int .i64 x.val]) false).run Tryz.prog (wr.alloc (.cells #[.int .i64 x.at_, .int .i64 x.key, .int .i64 x.val] 124)) = .ok (.int .i64 old) (wr.alloc (.cells #[.int .i64 x.at_, .int .i64 x.key, .int .i64 x.val] 124)) := by
        refine hlk.trans ?_
        rw [← hold]
        cases getKV kv x <;> rfl
      have ht := itemsOf_take kv ks k x hx
      have hll := itemsOf_length kv (ks.take k)
      have hll2 : (itemsOf kv (ks.take k)).length + 1 ≤ kv.length := by have := HL.out; have := HN.out; rw [List.length_take] at hll; omega
      have hs1 := HB.out.size
      have hs2 := HBr.out.size
      rw [hold] at ht
      generalize itemsOf kv (ks.take k) = L at *
      have HT := Lib.hid ht
      have HX := Lib.hid hx
      clear ht hx hlk hold hkl hRk hMk hll
      cases hz : (old != 0) with
      | false =>
        go_wp2_with fail
        refine ⟨⟨k + 1, by omega, by go_num, ?_, HBr.out.alloc hs2 _⟩, by simp [intOf]; omega⟩
        rw [HT.out, if_pos (by simpa using hz)]
        exact hown.alloc _
      | true =>
        go_wp2_with (at_builtin; refine wpList_app1 It.vs 4 40 _ 32 infoIt rfl (by decide) rfl _ _ _ rfl Tryz.underlying23 w1.heap.size _ L rfl ((hown.alloc _).alloc _) ⟨x, old⟩ _ _ rfl rfl (newAt _ _ _ _ (by simp)) (by simp [It.vs, Value.oneCell']) (by omega) (by unfold maxLen; omega) (by simp; omega) (fun v4 w4 hown4 hg4 _ => ?_))
        obtain ⟨A4, cap4, rfl⟩ := hown4.shape
        refine ⟨⟨k + 1, by omega, by go_num, ?_, ((HBr.out.alloc hs2 _).alloc (by simp; omega) _).grown hg4 (by simp; omega) (fun j hj => (hown.blk j hj).1)⟩, by simp [intOf]; omega⟩
        rw [HT.out, if_neg (by simpa using hz)]
        exact hown4
    · have hk' : k = n := by omega
      subst hk'
      clear hRk hMk hlt
      go_wp2_with fail
      go_ret
      have e1 : ks.take k = ks := List.take_of_length_le (by rw [HN.out]; exact Nat.le_refl _)
      rw [e1] at hown ⊢
      obtain ⟨A5, cap5, he5, hr5⟩ := hown.rd It.vs_length
      cases he5
      exact ⟨A3, cap3, ks, rfl, HI.out, HP.out, hr5.low HB.out.size, HB.out.trans (HBr.out.mono HB.out.size)⟩
end Go.Proofs.Bg
