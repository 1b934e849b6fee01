/- The contracts of numbered and signed: numbers written behind bytes. -/
import Derived.Test.YtcbemmlhpinjkaaGreatDoorBgOps
namespace Go.Proofs.Bg
open Go.RowKit

def bv (x : Int) : List Value := [.int .u8 x]
theorem bv_length (x : Int) : (bv x).length = 1 := rfl
theorem infoU8 : (Tryz.prog.info? 5).map (fun i => (i.zero, i.size, i.bytes)) = some (some (.int .u8 0), 1, 1) := by kernel_rfl

/-- A number from 0 on, in groups of seven bits (f groups more at most). -/
def numF : Nat → Int → List Int
  | 0, n => [n]
  | f + 1, n => if n < 128 then [n] else (n % 128 + 128) :: numF f (n / 128)
def numB (n : Int) : List Int := numF 9 n
def intB (n : Int) : List Int := if n < 0 then numB (-2 * n - 1) else numB (2 * n)
theorem numF_length : ∀ (f : Nat) (n : Int), (numF f n).length ≤ f + 1
  | 0, n => by simp [numF]
  | f + 1, n => by
    rw [numF]
    split
    · simp
    · have := numF_length f (n / 128)
      simp
      omega
theorem numB_length (n : Int) : (numB n).length ≤ 10 := numF_length 9 n
theorem intB_length (n : Int) : (intB n).length ≤ 10 := by unfold intB; split <;> exact numB_length _
def lim : Nat → Int
  | 0 => 128
  | f + 1 => 128 * lim f
theorem lim_pos : ∀ f, 128 ≤ lim f
  | 0 => by simp [lim]
  | f + 1 => by have := lim_pos f; simp only [lim]; omega

/-- Where the bytes lie: where they lay, or in new memory. -/
def Loc (w : World) (v v' : Value) : Prop := v'.ownBlock = v.ownBlock ∨ ∃ j, v'.ownBlock = some j ∧ w.heap.size ≤ j
theorem Loc.refl (w : World) (v : Value) : Loc w v v := .inl rfl
theorem Loc.step {w w1 : World} {v v1 v2 : Value} (h : Loc w v v1) (hs : w.heap.size ≤ w1.heap.size) (h2 : v2.ownBlock = v1.ownBlock ∨ v2.ownBlock = some w1.heap.size) : Loc w v v2 := by
  rcases h2 with e | e
  · rcases h with e1 | ⟨j, e1, e2⟩
    · exact .inl (e.trans e1)
    · exact .inr ⟨j, e.trans e1, e2⟩
  · exact .inr ⟨_, e, hs⟩
theorem Loc.trans {w w1 : World} {v v1 v2 : Value} (h : Loc w v v1) (h2 : Loc w1 v1 v2) (hs : w.heap.size ≤ w1.heap.size) : Loc w v v2 := by
  rcases h2 with e | ⟨j, e, hj⟩
  · rcases h with e1 | ⟨j, e1, e2⟩
    · exact .inl (e.trans e1)
    · exact .inr ⟨j, e.trans e1, e2⟩
  · exact .inr ⟨j, e, Nat.le_trans hs hj⟩
theorem Loc.grown {w w1 w2 : World} {v v1 : Value} (hg : w.grownBy w1 v.ownBlock) (h : Loc w v v1) (h2 : w1.grownBy w2 v1.ownBlock) : w.grownBy w2 v.ownBlock :=
  hg.andThen h2 fun j e => by
    rcases h with e1 | ⟨i, e1, hi⟩
    · exact .inr (e1.symm.trans e)
    · have : i = j := by rw [e1] at e; exact Option.some.inj e
      exact .inl (this ▸ hi)

/-- What the loop holds. -/
def NumRel (base : Nat) (w : World) (v : Value) (L : List Int) (n : Int) (v' : Value) (m : Int) (f : Nat) (wr : World) : Prop :=
  ∃ L', Own bv 1 5 base wr v' L' ∧ L' ++ numF f m = L ++ numB n ∧ 0 ≤ m ∧ m < lim f ∧ w.grownBy wr v.ownBlock ∧ Loc w v v'

set_option maxRecDepth 100000 in
set_option maxHeartbeats 1000000 in
theorem numbered_any (base : Nat) (v : Value) (L : List Int) (n : Int) (w : World) (h : Own bv 1 5 base w v L) (hb : base ≤ w.heap.size) (h0 : 0 ≤ n) (h1 : n < 4611686018427387904) (hl : L.length ≤ 70368744177664) :
    Calls Tryz.prog 86 #[v, .int .i64 n] w fun e w' => ∃ v', e = .returned v' ∧ Own bv 1 5 base w' v' (L ++ numB n) ∧ w.grownBy w' v.ownBlock ∧ Loc w v v' := by
  have hr0 : NumRel base w v L n v n 9 w := ⟨L, h, rfl, h0, by simp [lim]; omega, World.grownBy.refl _ _, Loc.refl _ _⟩
  have HR0 := Lib.hid hr0
  clear h hr0
  go_enter Tryz.func86, Tryz.ntmps86
  go_wp2_with fail
  go_loopw [0, 1] (fun v' i wr => ∃ (m : Int) (f : Nat), i = .int .i64 m ∧ m < 4611686018427387904 ∧ NumRel base w v L n v' m f wr) (fun _ i _ => (intOf i).toNat)
  case atStart => exact ⟨n, 9, rfl, h1, HR0.out⟩
  case round =>
    clear HR0
    obtain ⟨m, f, rfl, hm2, L', hown, he, hm0, hml, hg, hloc⟩ := hrel
    have hll : L'.length ≤ L.length + 10 := by
      have e1 := congrArg List.length he
      have e2 := numB_length n
      simp only [List.length_append] at e1
      omega
    have hsz := hg.size
    have HG := Lib.hid hg
    have HE := Lib.hid he
    have HL := Lib.hid hloc
    clear hg he hloc
    obtain ⟨A, cap, rfl⟩ := hown.shape
    by_cases hbig : 128 ≤ m
    · have hr1 : 0 ≤ m % 128 := by omega
      have hr2 : m % 128 < 128 := by omega
      go_wp2_with (at_builtin; refine wpList_app1 bv 1 5 _ 1 infoU8 rfl (by decide) rfl _ _ _ rfl Tryz.underlying59 base _ L' rfl (hown.alloc _) (m % 128 + 128) _ _ rfl rfl (newAt _ _ _ _ (by simp)) (by simp [bv, Value.oneCell']) (by omega) (by unfold maxLen; omega) (by simp; omega) (fun v4 w4 hown4 hg4 hloc4 => ?_))
      have hf : ∃ f', f = f' + 1 := by
        cases f with
        | zero => simp [lim] at hml; omega
        | succ f' => exact ⟨f', rfl⟩
      obtain ⟨f', rfl⟩ := hf
      have hd : m / 128 < m := by omega
      refine ⟨⟨m / 128, f', rfl, by omega, L' ++ [m % 128 + 128], hown4, ?_, by omega, by simp only [lim] at hml; omega, Loc.grown HG.out HL.out ((World.grownBy_alloc wr _ _).andThen hg4 (fun j e => .inr e)), HL.out.step (w1 := wr.alloc _) (by simp; omega) hloc4⟩, by simp [intOf]; omega⟩
      rw [← HE.out, numF, if_neg (by omega)]
      simp
    · have hm3 : m < 128 := by omega
      go_wp2_with (at_builtin; refine wpList_app1 bv 1 5 _ 1 infoU8 rfl (by decide) rfl _ _ _ rfl Tryz.underlying59 base _ L' rfl (hown.alloc _) m _ _ rfl rfl (newAt _ _ _ _ (by simp)) (by simp [bv, Value.oneCell']) (by omega) (by unfold maxLen; omega) (by simp; omega) (fun v4 w4 hown4 hg4 hloc4 => ?_))
      obtain ⟨A4, cap4, rfl⟩ := hown4.shape
      go_ret
      have hn : numF f m = [m] := by cases f <;> simp [numF, hm3]
      refine ⟨_, rfl, by rw [← HE.out, hn]; exact hown4, Loc.grown HG.out HL.out ((World.grownBy_alloc wr _ _).andThen hg4 (fun j e => .inr e)), HL.out.step (w1 := wr.alloc _) (by simp; omega) hloc4⟩

theorem signed_any (base : Nat) (v : Value) (L : List Int) (n : Int) (w : World) (h : Own bv 1 5 base w v L) (hb : base ≤ w.heap.size) (h0 : -1000000000000 ≤ n) (h1 : n ≤ 1000000000000) (hl : L.length ≤ 70368744177664) :
    Calls Tryz.prog 87 #[v, .int .i64 n] w fun e w' => ∃ v', e = .returned v' ∧ Own bv 1 5 base w' v' (L ++ intB n) ∧ w.grownBy w' v.ownBlock ∧ Loc w v v' := by
  obtain ⟨A, cap, rfl⟩ := h.shape
  by_cases hn : n < 0
  · have HN := Lib.hid (numbered_any base _ L (-2 * n - 1) w h hb (by omega) (by omega) hl)
    have e1 : intB n = numB (-2 * n - 1) := by rw [intB, if_pos hn]
    rw [e1]
    clear e1
    go_enter Tryz.func87, Tryz.ntmps87
    go_wp2_with fail
    refine HN.out.mono ?_
    rintro e w' ⟨v', rfl, hown, hg, hloc⟩
    have HO := Lib.hid hown
    have HG := Lib.hid hg
    have HL := Lib.hid hloc
    clear hown hg hloc
    go_wp2_with fail
    go_ret
    exact ⟨_, rfl, HO.out, HG.out, HL.out⟩
  · have HN := Lib.hid (numbered_any base _ L (2 * n) w h hb (by omega) (by omega) hl)
    have e1 : intB n = numB (2 * n) := by rw [intB, if_neg hn]
    rw [e1]
    clear e1
    go_enter Tryz.func87, Tryz.ntmps87
    go_wp2_with fail
    refine HN.out.mono ?_
    rintro e w' ⟨v', rfl, hown, hg, hloc⟩
    have HO := Lib.hid hown
    have HG := Lib.hid hg
    have HL := Lib.hid hloc
    clear hown hg hloc
    go_wp2_with fail
    go_ret
    exact ⟨_, rfl, HO.out, HG.out, HL.out⟩
end Go.Proofs.Bg
