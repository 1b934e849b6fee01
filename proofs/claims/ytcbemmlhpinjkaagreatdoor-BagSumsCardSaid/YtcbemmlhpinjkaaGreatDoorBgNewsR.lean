/- Copy, Check, and the reference's Check and New. -/
import Derived.Test.YtcbemmlhpinjkaaGreatDoorBgProd
namespace Go.Proofs.Bg
open Go.RowKit

/-- 'append(nil, y...)', y any slice that reads as a list. -/
theorem wpList_copy {P : Program} {w : World} {ops : Array Oper} {rest : List Oper} {o : Oper} {a : Act} {Q : Exit → Act → World → Prop} (e : TypeId) (z : Value) (bytes : Nat) (hinf : (P.info? e).map (fun i => (i.zero, i.size, i.bytes)) = some (some z, 4, bytes)) (hzs : z.cells.size = 4)
    (hgd : o.guard = none) (s x : Operand) (t : TypeId) (ho : o.op = .call { callee := .builtin .append, args := #[s, x], argTypes := #[t, t] }) (ht : P.underlying t = some (.slice e)) (hs : a.eval s = .slice none 0 0)
    (hnil : ∀ c, (Builtin.append_ #[t, t] o.type #[.slice none 0 0, .slice none 0 c]).run P w = .ok (.slice none 0 0) w)
    (lo n c : Nat) (A : Option Addr) (y : List It) (hx : a.eval x = .slice A n c) (hy : Rd It.vs 4 w lo A n y) (hbytes : n * bytes ≤ 140737488355328) (h63 : n ≤ maxLen)
    (h : ∀ v' w', Own It.vs 4 e w.heap.size w' v' y → w.grownBy w' none → wpList P ops Q rest (a.put o.dst v') w') : wpList P ops Q (o :: rest) a w := by
  obtain ⟨i, hi, hz0, hz1, hz2⟩ := info_parts hinf
  have hn := hy.len
  by_cases h0 : n = 0
  · subst h0
    have hl0 : y = [] := List.length_eq_zero_iff.1 hn
    subst hl0
    cases A with
    | none => exact wpList_appNil hgd s x t ho c hs hx (hnil c) (h _ _ (Own.nil _ _ _ _ _) (World.grownBy.refl _ _))
    | some ad =>
      refine wpList_append_own_at w hgd s x t ho w.heap.size e i z 4 bytes ht hi hz0 hz1 hz2 hzs (by omega) _ 0 [] hs (World.ownsRow_nil w w.heap.size e 4) ad 0 c [] hx rfl (by simp) (by simp) (by unfold maxLen; omega) (by omega) (Nat.le_refl _) (fun v4 w4 hown4 hg4 _ _ => h v4 w4 hown4 hg4)
  · obtain ⟨b, off, rfl, _⟩ := hy.2.2 (by omega)
    exact wpList_appW e z bytes hinf hzs hgd s x t ho ht w.heap.size _ [] hs (Own.nil _ _ _ _ _) lo b off n c y hx hy (by simpa using hbytes) (by simpa using h63) (Nat.le_refl _) (fun v4 w4 hown4 hg4 _ => h v4 w4 (by simpa using hown4) hg4)
theorem nilB (w : World) (t : TypeId) (c : Nat) : (Builtin.append_ #[23, 23] t #[.slice none 0 0, .slice none 0 c]).run Tryz.prog w = .ok (.slice none 0 0) w := by kernel_rfl
theorem nilI (w : World) (t : TypeId) (c : Nat) : (Builtin.append_ #[22, 22] t #[.slice none 0 0, .slice none 0 c]).run Tryz.prog w = .ok (.slice none 0 0) w := by kernel_rfl

set_option maxRecDepth 100000 in
theorem Copy_any (A : Option Addr) (n cap : Nat) (l : List It) (w : World) (hR : Rd It.vs 4 w 0 A n l) (hS : n * 32 ≤ 140737488355328) :
    Calls Tryz.prog 19 #[.slice A n cap] w fun e w' => ∃ v, e = .returned v ∧ Own It.vs 4 40 w.heap.size w' v l ∧ Below w.heap.size w w' := by
  have HR := Lib.hid hR
  clear hR
  go_enter Tryz.func19, Tryz.ntmps19
  go_wp2_with (at_builtin; go_loud (refine wpList_copy 40 _ 32 infoIt rfl rfl _ _ _ rfl Tryz.underlying23 rfl (fun c => nilB _ _ c) 0 n cap A l rfl HR.out (by omega) (by unfold maxLen; omega) (fun v4 w4 hown4 hg4 => ?_)))
  go_ret
  exact ⟨_, rfl, hown4, (Below.refl _ _).grown hg4 (Nat.le_refl _) (fun k e => by cases e)⟩

def chk (l : List It) : Int := if bagB l then 0 else 2
theorem Check_any (A : Option Addr) (n cap : Nat) (l : List It) (w : World) (hR : Rd It.vs 4 w 0 A n l) :
    Calls Tryz.prog 21 #[.slice A n cap] w fun e w' => e = .returned (.int .i64 (chk l)) ∧ Below w.heap.size w w' := by
  have HQ := Lib.hid (isBag_any A n cap l w hR)
  clear hR
  unfold chk
  generalize bagB l = q at HQ ⊢
  cases q with
  | true =>
    go_enter Tryz.func21, Tryz.ntmps21
    go_wp2_with (go_at_call 47; (with_reducible refine HQ.out.mono ?_); rintro e w' ⟨rfl, hb⟩; have HB := Lib.hid hb; clear hb)
    go_ret
    exact ⟨rfl, HB.out⟩
  | false =>
    go_enter Tryz.func21, Tryz.ntmps21
    go_wp2_with (go_at_call 47; (with_reducible refine HQ.out.mono ?_); rintro e w' ⟨rfl, hb⟩; have HB := Lib.hid hb; clear hb)
    go_ret
    exact ⟨rfl, HB.out⟩
theorem CheckR_any (A : Option Addr) (n cap : Nat) (l : List It) (w : World) (hR : Rd It.vs 4 w 0 A n l) :
    Calls Tryz.prog 23 #[.slice A n cap] w fun e w' => e = .returned (.int .i64 (chk l)) ∧ Below w.heap.size w w' := by
  have HQ := Lib.hid (Good_any A n cap l w hR)
  clear hR
  unfold chk
  generalize bagB l = q at HQ ⊢
  cases q with
  | true =>
    go_enter Tryz.func23, Tryz.ntmps23
    go_wp2_with (go_at_call 44; (with_reducible refine HQ.out.mono ?_); rintro e w' ⟨rfl, hb⟩; have HB := Lib.hid hb; clear hb)
    go_ret
    exact ⟨rfl, HB.out⟩
  | false =>
    go_enter Tryz.func23, Tryz.ntmps23
    go_wp2_with (go_at_call 44; (with_reducible refine HQ.out.mono ?_); rintro e w' ⟨rfl, hb⟩; have HB := Lib.hid hb; clear hb)
    go_ret
    exact ⟨rfl, HB.out⟩
end Go.Proofs.Bg
