/- The contract of sums.put: one more item in the map of sums. -/
import Derived.RegionTactic
import Derived.DeepKeys4
import Derived.Test.YtcbemmlhpinjkaaGreatDoorBgLeaf
import Derived.Test.YtcbemmlhpinjkaaGreatDoorBgMap
namespace Go.Proofs.Bg
open Go.RowKit

theorem laidOut : laidOutB Tryz.prog = true := by kernel_rfl
theorem rowOrd : (124 : TypeId) < Tryz.prog.types.size := of_decide_eq_true (by kernel_rfl)
theorem law_struct {P : Program} (hl : laidOutB P = true) {m : Nat} (hm : m + 1 ≤ 10000) {k : TypeId} (hrow : k < P.types.size) (hk : P.keyTypeAt m k = true) {fs : Array Field} (hu : P.underlying k = some (.struct fs)) : Go.Maps.Keyed P k :=
  Go.Maps.Keyed.of_law (deep_law_laid hl hm hrow hk (by rw [hu]))
theorem lawOrd : Go.Maps.Keyed Tryz.prog 124 := law_struct laidOut (m := 2) (by omega) rowOrd (by kernel_rfl) Tryz.underlying124
theorem lawInt : Go.Maps.Keyed Tryz.prog 3 := Go.Maps.int_keyed Tryz.underlying3

def I64 (x : Int) : Prop := -9223372036854775808 ≤ x ∧ x ≤ 9223372036854775807
def Rc.ok (r : Rc) : Prop := I64 r.at_ ∧ I64 r.key ∧ I64 r.val
def ekR (r : Rc) : Value := .agg r.vs.toArray
def evI (n : Int) : Value := .int .i64 n
theorem ekR_inj (a b : Rc) (h : ekR a = ekR b) : a = b := by
  cases a; cases b
  simp [ekR, Rc.vs] at h
  simp [h]
theorem keyR (r : Rc) (h : r.ok) : ∃ l, keyOf Tryz.prog 124 (ekR r) = some l := by
  obtain ⟨⟨a1, a2⟩, ⟨b1, b2⟩, ⟨c1, c2⟩⟩ := h
  have e1 : (Lit.int .i64 r.at_).wf = true := WalkArith.wf_i64 ⟨a1, a2⟩
  have e2 : (Lit.int .i64 r.key).wf = true := WalkArith.wf_i64 ⟨b1, b2⟩
  have e3 : (Lit.int .i64 r.val).wf = true := WalkArith.wf_i64 ⟨c1, c2⟩
  have k0 : Tryz.prog.keyType 124 = true := by kernel_rfl
  have c0 : Tryz.prog.cellsOf 124 = 3 := by kernel_rfl
  have c3 : Tryz.prog.cellsOf 3 = 1 := by kernel_rfl
  have hs : 0 < Tryz.prog.types.size := of_decide_eq_true (by kernel_rfl)
  obtain ⟨d, hd⟩ : ∃ d, Tryz.prog.types.size = d + 1 := ⟨Tryz.prog.types.size - 1, by omega⟩
  unfold keyOf
  rw [Tryz.underlying124, hd]
  simp [k0, ekR, Rc.vs, Value.formed, Value.cells, Tryz.underlying124, Tryz.underlying3, c0, c3, Program.keyLits, e1, e2, e3]
theorem zeroI (u : World) : (zeroValue 3).run Tryz.prog u = .ok (evI 0) u := by kernel_rfl

theorem put_any (r : Nat) (kv : List (Rc × Int)) (x : Rc) (n old : Int) (w : World) (h : MapIs Tryz.prog 124 ekR evI w r kv) (hx : x.ok) (ho : (getKV kv x).getD 0 = old) (hb : I64 (old + n)) :
    Calls Tryz.prog 48 #[.map (some r), .agg #[.int .i64 x.at_, .int .i64 x.key, .int .i64 x.val], .int .i64 n] w fun e w' => e = .returned (.tuple #[]) ∧ MapIs Tryz.prog 124 ekR evI w' r (putKV kv x (old + n)) ∧ w.grownBy w' (some r) := by
  obtain ⟨kl, hkl⟩ := keyR x hx
  have hM := (h.alloc (.cells #[.int .i64 x.at_, .int .i64 x.key, .int .i64 x.val] 38)).drew
  have hlk := hM.lookup lawOrd ekR_inj Tryz.underlying69 zeroI hkl
  have hlk' : (Instr.lookup 69 (.map (some r)) (.agg #[.int .i64 x.at_, .int .i64 x.key, .int .i64 x.val]) false).run Tryz.prog (w.alloc (.cells #[.int .i64 x.at_, .int .i64 x.key, .int .i64 x.val] 38)).drew = .ok (.int .i64 old) (w.alloc (.cells #[.int .i64 x.at_, .int .i64 x.key, .int .i64 x.val] 38)).drew := by
    refine hlk.trans ?_
    rw [← ho]
    cases getKV kv x <;> rfl
  obtain ⟨st, w1, hme, hM1, hg1, hsz, hst⟩ := hM.entry lawOrd ekR_inj Tryz.underlying69 (z := (0 : Int)) zeroI hkl
  obtain ⟨w3, hes, hM3, hg3, _⟩ := hst w1 (old + n) rfl
  have hlk1 := hM1.lookup lawOrd ekR_inj Tryz.underlying69 zeroI hkl
  rw [getKV_put, if_pos rfl, ho] at hlk1
  have hlk1' : (Instr.lookup 69 (.map (some r)) (.agg #[.int .i64 x.at_, .int .i64 x.key, .int .i64 x.val]) false).run Tryz.prog w1 = .ok (.int .i64 old) w1 := hlk1
  obtain ⟨b1, b2⟩ := hb
  have hme' : (Instr.mapEntry 69 (.map (some r)) (.agg #[.int .i64 x.at_, .int .i64 x.key, .int .i64 x.val])).run Tryz.prog (w.alloc (.cells #[.int .i64 x.at_, .int .i64 x.key, .int .i64 x.val] 38)).drew = .ok (.tuple #[.int .i64 old, .int .i64 (st : Int)]) w1 := by
    refine hme.trans ?_
    rw [ho]
    rfl
  have hes' : (Instr.entryStore 69 (.map (some r)) (.int .i64 (st : Int)) (.int .i64 (old + n))).run Tryz.prog w1 = .ok () w3 := hes
  have hw : IntKind.i64.wrap (old + n) = old + n := IntWalk.i64_in _ ⟨b1, b2⟩
  have hgg : w.grownBy w3 (some r) := ((World.grownBy_drew (World.grownBy_alloc w _ _)).andThen hg1 (fun j e => .inr e)).andThen hg3 (fun j e => .inr e)
  have HM3 := Lib.hid hM3
  have HG := Lib.hid hgg
  clear hM hM1 hlk hlk1 hst hme hes hM3 hg1 hg3 hgg hsz ho h hkl
  go_enter Tryz.func48, Tryz.ntmps48
  go_wp2_with fail
  go_region
  go_end0
  exact ⟨rfl, HM3.out, HG.out⟩
end Go.Proofs.Bg
