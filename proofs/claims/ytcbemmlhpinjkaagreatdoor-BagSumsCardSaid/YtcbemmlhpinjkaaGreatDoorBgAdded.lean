/- The contracts of added and contrary. -/
import Derived.Test.YtcbemmlhpinjkaaGreatDoorBgSums
namespace Go.Proofs.Bg
open Go.RowKit

/-- A bag that is handed over: its slice, what it reads as. -/
structure BA where
  A : Option Addr
  n : Nat
  cap : Nat
  l : List It
def BA.v (b : BA) : Value := .slice b.A b.n b.cap
/-- A row of bags. -/
def RdBs (w : World) (g : Nat) (bs : List BA) : Prop := ∀ i b, bs[i]? = some b → w.cell? ⟨g, i, none⟩ = some (.slice b.A b.n b.cap) ∧ Rd It.vs 4 w 0 b.A b.n b.l
theorem RdBs.below {w w' : World} {g : Nat} {bs : List BA} (h : RdBs w g bs) (hb : Below w.heap.size w w') : RdBs w' g bs := fun i b hi => by
  obtain ⟨h1, h2⟩ := h i b hi
  exact ⟨(hb.cell (World.block_lt_of_cell? w _ h1)).trans h1, h2.below hb⟩
def allIt (bs : List BA) : List It := bs.flatMap (·.l)
theorem allIt_take (bs : List BA) (k : Nat) (b : BA) (h : bs[k]? = some b) : allIt (bs.take (k + 1)) = allIt (bs.take k) ++ b.l := by
  unfold allIt
  rw [List.take_add_one, h]
  simp
theorem allIt_prefix (bs : List BA) (k : Nat) (b : BA) (h : bs[k]? = some b) (j : Nat) : ∃ rest, allIt bs = (allIt (bs.take k) ++ b.l.take j) ++ rest := by
  have e1 : bs = bs.take k ++ bs.drop k := (List.take_append_drop k bs).symm
  have e2 : bs.drop k = b :: bs.drop (k + 1) := by
    have hk : k < bs.length := (List.getElem?_eq_some_iff.1 h).1
    rw [List.drop_eq_getElem_cons hk, (List.getElem?_eq_some_iff.1 h).2]
  refine ⟨b.l.drop j ++ allIt (bs.drop (k + 1)), ?_⟩
  have e3 : allIt bs = allIt (bs.take k) ++ (b.l ++ allIt (bs.drop (k + 1))) := by
    rw [show allIt bs = allIt (bs.take k ++ b :: bs.drop (k + 1)) by rw [← e2, List.take_append_drop]]
    simp [allIt]
  rw [e3, List.append_assoc, ← List.append_assoc (b.l.take j), List.take_append_drop]

/-- Sums that fit: each item is formed enough, and so is every sum of some of them. -/
structure Fits (L : List It) : Prop where
  ok : OkAll L
  ex : ∃ B : Int, 0 ≤ B ∧ Bdd B L ∧ B * L.length ≤ 9223372036854775807
theorem Fits.put {L : List It} (h : Fits L) {P : List It} {x : It} {rest : List It} (e : L = (P ++ [x]) ++ rest) : x.r.ok ∧ I64 (sumN P x.r + x.n) := by
  obtain ⟨hok, B, hB, hbd, hm⟩ := h
  have hx : x ∈ L := by rw [e]; simp
  have hb' : Bdd B (P ++ [x]) := fun y hy => hbd y (by rw [e]; exact List.mem_append_left _ hy)
  have h1 := sumN_bdd hB hb' x.r
  have e2 : sumN (P ++ [x]) x.r = sumN P x.r + x.n := by rw [sumN_append]; simp [sumN]
  rw [e2] at h1
  have hle : B * ((P ++ [x]).length : Int) ≤ B * (L.length : Int) := Int.mul_le_mul_of_nonneg_left (by rw [e]; simp; omega) hB
  exact ⟨hok x hx, by unfold I64; omega⟩

def AddRel (w : World) (L : List It) (wr : World) : Prop := SumIs wr w.heap.size L ∧ Below w.heap.size w wr

set_option maxRecDepth 100000 in
set_option maxHeartbeats 1000000 in
theorem added_any (g cap nb : Nat) (bs : List BA) (w : World) (hnb : bs.length = nb) (hR : RdBs w g bs) (hf : Fits (allIt bs)) (hnle : nb ≤ 9223372036854775807) :
    Calls Tryz.prog 68 #[.slice (some ⟨g, 0, none⟩) nb cap] w fun e w' => e = .returned (.map (some w.heap.size)) ∧ SumIs w' w.heap.size (allIt bs) ∧ Below w.heap.size w w' := by
  have HR := Lib.hid hR
  have HF := Lib.hid hf
  have HN := Lib.hid hnb
  clear hR hf hnb
  have hmm := @run_makeMap Tryz.prog
  go_enter Tryz.func68, Tryz.ntmps68
  go_wp2_with fail
  go_loopw [5, 7, 11, 15, 16, 17] (fun _ _ i _ _ _ wr => ∃ k : Nat, k ≤ nb ∧ i = .int .i64 k ∧ AddRel w (allIt (bs.take k)) wr) (fun _ _ i _ _ _ _ => nb - (intOf i).toNat)
  case atStart => exact ⟨0, by omega, rfl, SumIs.made w, (Below.refl _ _).alloc (Nat.le_refl _) _⟩
  case round =>
    obtain ⟨k, hk, rfl, hS, hB⟩ := hrel
    have HS := Lib.hid hS
    have HB := Lib.hid hB
    have hRk := HR.out.below hB
    clear hS hB hmm
    by_cases hlt : k < nb
    · have hk' : k < bs.length := by rw [HN.out]; exact hlt
      obtain ⟨b, hb⟩ : ∃ b, bs[k]? = some b := ⟨_, List.getElem?_eq_getElem hk'⟩
      obtain ⟨c0, hrd⟩ := hRk k b hb
      obtain ⟨bA, bn, bcap, bl⟩ := b
      have HRd := Lib.hid hrd
      have hble := hrd.le
      have HBk := Lib.hid hb
      clear hRk hb hrd
      go_wp2_with fail
      obtain ⟨wo, rfl⟩ : ∃ wo : World, wo = wr := ⟨_, rfl⟩
      go_loopw [7, 17] (fun _ i wr => ∃ j : Nat, j ≤ bn ∧ i = .int .i64 j ∧ AddRel w (allIt (bs.take k) ++ bl.take j) wr) (fun _ i _ => bn - (intOf i).toNat)
      case atStart => exact ⟨0, by omega, rfl, by simpa using HS.out, HB.out⟩
      case round =>
        obtain ⟨j, hj, rfl, hS1, hB1⟩ := hrel
        have HRw : Hid (Rd It.vs 4 wr 0 bA bn bl) := ((HR.out.below hB1) k _ HBk.out).2
        have HS1 := Lib.hid hS1
        have HB1 := Lib.hid hB1
        clear hS1 hB1
        by_cases hjl : j < bn
        · obtain ⟨b, off, x, rfl, _, hx, c0, c1, c2, c3⟩ := HRw.out.it_at hjl
          obtain ⟨rest, hrest⟩ := allIt_prefix bs k _ HBk.out (j + 1)
          have ht : bl.take (j + 1) = bl.take j ++ [x] := by rw [List.take_add_one, hx]; rfl
          have hput := HF.out.put (P := allIt (bs.take k) ++ bl.take j) (x := x) (rest := rest) (by rw [hrest]; simp [ht])
          have HP := Lib.hid (put_sum w.heap.size _ x _ (HS1.out.alloc (.cells #[.int .i64 x.r.at_, .int .i64 x.r.key, .int .i64 x.r.val, .int .i64 x.n] 40)) hput.1 hput.2)
          have HT := Lib.hid ht
          clear hx hrest ht hput
          go_wp2_with (go_at_call 48; refine HP.out.mono ?_; rintro e w2 ⟨rfl, hs2, hg2⟩)
          refine ⟨⟨j + 1, by omega, by go_num, ?_, (HB1.out.alloc HB1.out.size _).grown hg2 (by have := HB1.out.size; simp; omega) (fun q hq => by cases hq; exact Nat.le_refl _)⟩, by simp [intOf]; omega⟩
          rw [HT.out, ← List.append_assoc]
          exact hs2
        · have hj' : j = bn := by omega
          subst hj'
          clear HRw hjl
          go_wp2_with fail
          refine ⟨⟨k + 1, by omega, by go_num, ?_, HB1.out⟩, by simp [intOf]; omega⟩
          have e := HS1.out
          have hl := (HR.out k _ HBk.out).2.len
          rw [List.take_of_length_le (l := bl) (by simp only at hl; omega)] at e
          rw [allIt_take bs k _ HBk.out]
          exact e
    · have hk' : k = nb := by omega
      subst hk'
      clear hRk hlt
      go_wp2_with fail
      go_ret
      refine ⟨rfl, ?_, HB.out⟩
      have e := HS.out
      rw [List.take_of_length_le (by rw [HN.out]; exact Nat.le_refl _)] at e
      exact e

def negIt (x : It) : It := ⟨x.r, -x.n⟩
def NegRel (w : World) (l : List It) (j : Nat) (v : Value) (wr : World) : Prop := Own It.vs 4 40 w.heap.size wr v ((l.take j).map negIt) ∧ Below w.heap.size w wr

set_option maxRecDepth 100000 in
set_option maxHeartbeats 1000000 in
theorem contrary_any (A : Option Addr) (n cap : Nat) (l : List It) (w : World) (hR : Rd It.vs 4 w 0 A n l) (hb : ∀ x ∈ l, -1000000000000000 ≤ x.n ∧ x.n ≤ 1000000000000000) (hlen : n * 32 ≤ 140737488355328) :
    Calls Tryz.prog 71 #[.slice A n cap] w fun e w' => ∃ A' cap', e = .returned (.slice A' n cap') ∧ Rd It.vs 4 w' w.heap.size A' n (l.map negIt) ∧ Below w.heap.size w w' := by
  have HR := Lib.hid hR
  have HBD := Lib.hid hb
  clear hR hb
  go_enter Tryz.func71, Tryz.ntmps71
  go_wp2_with fail
  go_loopw [3, 5, 8] (fun v _ i wr => ∃ k : Nat, k ≤ n ∧ i = .int .i64 k ∧ NegRel w l k v wr) (fun _ _ i _ => n - (intOf i).toNat)
  case atStart => exact ⟨0, by omega, rfl, Own.nil _ _ _ _ _, Below.refl _ _⟩
  case round =>
    obtain ⟨k, hk, rfl, hown, hB⟩ := hrel
    have hRk := HR.out.below hB
    have HB := Lib.hid hB
    have hsz := hB.size
    clear hB
    by_cases hlt : k < n
    · obtain ⟨b, off, x, rfl, _, hx, c0, c1, c2, c3⟩ := hRk.it_at hlt
      have ht : (l.take (k + 1)).map negIt = (l.take k).map negIt ++ [⟨x.r, -x.n⟩] := by rw [List.take_add_one, hx]; simp [negIt]
      obtain ⟨hx1, hx2⟩ := HBD.out x (List.mem_of_getElem? hx)
      have hll : ((l.take k).map negIt).length = k := by rw [List.length_map, List.length_take, HR.out.len]; omega
      generalize (l.take k).map negIt = L at *
      obtain ⟨A3, cap3, rfl⟩ := hown.shape
      have HT := Lib.hid ht
      have HX := Lib.hid hx
      have hw : IntKind.i64.wrap (-x.n) = -x.n := IntWalk.i64_in _ (by omega)
      clear ht hx hRk
      go_wp2_with (at_builtin; refine wpList_app1 It.vs 4 40 _ 32 infoIt rfl (by decide) rfl _ _ _ rfl Tryz.underlying23 w.heap.size _ L rfl ((hown.alloc _).alloc _) ⟨x.r, -x.n⟩ _ _ rfl rfl (newAt _ _ _ _ (by simp)) (by simp [It.vs, Value.oneCell']) (by omega) (by unfold maxLen; omega) (by simp; omega) (fun v4 w4 hown4 hg4 _ => ?_))
      obtain ⟨A4, cap4, rfl⟩ := hown4.shape
      refine ⟨⟨k + 1, by omega, by go_num, ?_, ((HB.out.alloc hsz _).alloc (by simp; omega) _).grown hg4 (by simp; omega) (fun j hj => (hown.blk j hj).1)⟩, by simp [intOf]; omega⟩
      rw [HT.out]
      exact hown4
    · have hk' : k = n := by omega
      subst hk'
      clear hRk hlt
      have hl : (l.take k).map negIt = l.map negIt := by rw [List.take_of_length_le (by rw [HR.out.len]; exact Nat.le_refl _)]
      rw [hl] at hown
      obtain ⟨A5, cap5, he5, hr5⟩ := hown.rd It.vs_length
      have hlen' : (l.map negIt).length = k := by rw [List.length_map, HR.out.len]
      rw [hlen'] at hr5 he5
      subst he5
      clear hl hlen'
      go_wp2_with fail
      go_ret
      exact ⟨A5, cap5, rfl, hr5, HB.out⟩
end Go.Proofs.Bg
