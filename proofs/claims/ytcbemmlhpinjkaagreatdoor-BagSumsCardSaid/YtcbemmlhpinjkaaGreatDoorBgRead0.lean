/- The contracts of need, left.done, left.next. -/
import Derived.WalkLawsBesides
import Derived.Test.YtcbemmlhpinjkaaGreatDoorBgNum
namespace Go.Proofs.Bg
open Go.RowKit

/-- What gives up: the panic's chain. -/
def wrongChain : List PanicEntry := [{ v := .iface 127 (.agg #[]), recovered := false }]

theorem need_yes (w : World) : Calls Tryz.prog 91 #[.bool true] w fun e w' => e = .returned (.tuple #[]) ∧ w = w' := by
  go_enter Tryz.func91, Tryz.ntmps91
  go_wp2
  go_end0
  exact ⟨rfl, rfl⟩
theorem need_no (w : World) : Calls Tryz.prog 91 #[.bool false] w fun e w' => e = .panicked wrongChain ∧ w = w' := by
  go_enter Tryz.func91, Tryz.ntmps91
  go_wp2
  exact ⟨rfl, rfl, rfl⟩

/-- What is left to read lies behind block tb. -/
def LeftIs (w : World) (tb : Nat) (T : TypeId) (rest : List Int) : Prop :=
  ∃ A cap, w.heap[tb]? = some (.cells #[.slice A rest.length cap] T) ∧ Rd bv 1 w 0 A rest.length rest ∧ (∀ b off, A = some ⟨b, off, none⟩ → b < tb) ∧ rest.length ≤ cap ∧ ∀ x ∈ rest, 0 ≤ x ∧ x ≤ 255

theorem done_any (tb : Nat) (T : TypeId) (rest : List Int) (w : World) (h : LeftIs w tb T rest) : Calls Tryz.prog 61 #[.pointer (some ⟨tb, 0, none⟩)] w fun e w' => e = .returned (.bool (rest.isEmpty)) ∧ w = w' := by
  obtain ⟨A, cap, hb, hr, _⟩ := h
  have c0 := cell_at_block (off := 0) hb rfl
  have hle := hr.le
  clear hb hr
  cases rest with
  | nil =>
    go_enter Tryz.func61, Tryz.ntmps61
    go_wp2
    go_ret
    exact ⟨rfl, rfl⟩
  | cons x r =>
    have hx : (((r.length + 1 : Nat) : Int) == 0) = false := by simp; omega
    go_enter Tryz.func61, Tryz.ntmps61
    go_wp2
    go_ret
    exact ⟨ret_bool (by simp; omega), rfl⟩

theorem next_no (tb : Nat) (T : TypeId) (w : World) (h : LeftIs w tb T []) : Calls Tryz.prog 101 #[.pointer (some ⟨tb, 0, none⟩)] w fun e w' => e = .panicked wrongChain ∧ w = w' := by
  have hd := done_any tb T [] w h
  have HD := Lib.hid hd
  clear hd h
  go_enter Tryz.func101, Tryz.ntmps101
  go_wp2_with (first | (go_at_call 61; (with_reducible refine HD.out.mono ?_); rintro e w' ⟨rfl, rfl⟩) | (go_at_call 91; (with_reducible refine (need_no _).mono ?_); rintro e w' ⟨rfl, rfl⟩))
  exact ⟨rfl, rfl, rfl⟩

theorem LeftIs.tail {w w' : World} {tb b off : Nat} {T : TypeId} {x : Int} {r : List Int} {cap : Nat} (h : LeftIs w tb T (x :: r)) (hb : w.heap[tb]? = some (.cells #[.slice (some ⟨b, off, none⟩) (r.length + 1) cap] T)) (o' : Nat) (ho : 0 < r.length → o' = off + 1)
    (hb' : w'.heap[tb]? = some (.cells #[.slice (some ⟨b, o', none⟩) r.length (cap - 1)] T)) (hg : w.grownBy w' (some tb)) : LeftIs w' tb T r := by
  obtain ⟨A, cap0, hb0, hr, hne, hc, hx⟩ := h
  rw [hb] at hb0
  simp only [List.length_cons, Option.some.injEq, Obj.cells.injEq, and_true, Array.mk.injEq, List.cons.injEq, Value.slice.injEq, true_and] at hb0
  obtain ⟨rfl, rfl⟩ := hb0
  have hlt0 := hne b off rfl
  have hbt : b ≠ tb := Nat.ne_of_lt hlt0
  refine ⟨_, _, hb', ⟨rfl, by have := hr.le; simp at this; omega, fun hn => ⟨b, o', rfl, Nat.zero_le _, fun i y hy j v hv => ?_⟩⟩, fun b1 o1 e => by cases e; exact hlt0, by simp at hc; omega, fun y hy => hx y (List.mem_cons_of_mem _ hy)⟩
  obtain ⟨b2, off2, e2, _, hcell⟩ := hr.2.2 (by simp)
  cases e2
  have h1 := hcell (i + 1) y (by simpa using hy) j v hv
  rw [ho hn]
  have hlt : b < w.heap.size := World.block_lt_of_cell? w _ h1
  have e3 : off + 1 + i * 1 + j = off + (i + 1) * 1 + j := by omega
  rw [e3]
  exact (World.cell?_of_block (w := w) (a := ⟨b, off + (i + 1) * 1 + j, none⟩) (hg.block b hlt (fun e => hbt (Option.some.inj e)))).trans h1

theorem LeftIs.later {w w' : World} {tb : Nat} {T : TypeId} {rest : List Int} {row : Option Nat} (h : LeftIs w tb T rest) (hg : w.grownBy w' row) (hr : ∀ x, row = some x → tb < x) : LeftIs w' tb T rest := by
  obtain ⟨A, cap, hb, hd, hn, hc, hbd⟩ := h
  have hlt : tb < w.heap.size := (Array.getElem?_eq_some_iff.1 hb).1
  refine ⟨A, cap, (hg.block tb hlt (fun e => by have := hr tb e.symm; omega)).trans hb, ⟨hd.1, hd.2.1, fun h0 => ?_⟩, hn, hc, hbd⟩
  obtain ⟨b2, off, rfl, hlo, hcell⟩ := hd.2.2 h0
  have hb2 := hn b2 off rfl
  refine ⟨b2, off, rfl, hlo, fun i y hy j v hv => ?_⟩
  have h1 := hcell i y hy j v hv
  exact (World.cell?_of_block (w := w) (a := ⟨b2, off + i * 1 + j, none⟩) (hg.block b2 (by omega) (fun e => by have := hr b2 e.symm; omega))).trans h1
theorem LeftIs.lt {w : World} {tb : Nat} {T : TypeId} {rest : List Int} (h : LeftIs w tb T rest) : tb < w.heap.size := by
  obtain ⟨A, cap, hb, _⟩ := h
  exact (Array.getElem?_eq_some_iff.1 hb).1

theorem next_yes (tb : Nat) (T : TypeId) (x : Int) (r : List Int) (w : World) (h : LeftIs w tb T (x :: r)) : Calls Tryz.prog 101 #[.pointer (some ⟨tb, 0, none⟩)] w fun e w' => e = .returned (.int .u8 x) ∧ LeftIs w' tb T r ∧ w.grownBy w' (some tb) := by
  have hd := done_any tb T (x :: r) w h
  have HD := Lib.hid hd
  have HL := Lib.hid h
  clear hd
  obtain ⟨A, cap, hb, hr, hne, hcap, _⟩ := h
  have c0 := cell_at_block (off := 0) hb rfl
  have g0 := free_at_block (off := 0) hb
  have hle := hr.le
  obtain ⟨b, off, y, rfl, _, hy, hcl⟩ := hr.at_ (k := 0) (by simp)
  cases hy
  have d0 := hcl 0 _ rfl
  simp only [Nat.zero_mul, Nat.add_zero] at d0
  have hlt0 := hne b off rfl
  have hbt : b ≠ tb := Nat.ne_of_lt hlt0
  have HB := Lib.hid hb
  have HNE := Lib.hid hne
  simp only [List.length_cons] at c0 hle hcap
  clear hb hne hr hcl
  by_cases hc1 : cap = 1
  · have hc2 : Hid (cap = 1) := hc1
    go_enter Tryz.func101, Tryz.ntmps101
    go_wp2_with (first | (go_at_call 61; (with_reducible refine HD.out.mono ?_); rintro e w' ⟨rfl, rfl⟩) | (go_at_call 91; (with_reducible refine (need_yes _).mono ?_); rintro e w' ⟨rfl, rfl⟩))
    have S := setCell_at (off := 0) HB.out (.slice (some ⟨b, off, none⟩) r.length (cap - 1))
    go_ret
    have e1 : cap - 1 = 0 := by have := hc2.out; omega
    rw [e1] at S
    exact ⟨rfl, HL.out.tail HB.out off (fun h => by have := hc2.out; omega) (by rw [e1]; exact S.1) S.2, S.2⟩
  · go_enter Tryz.func101, Tryz.ntmps101
    go_wp2_with (first | (go_at_call 61; (with_reducible refine HD.out.mono ?_); rintro e w' ⟨rfl, rfl⟩) | (go_at_call 91; (with_reducible refine (need_yes _).mono ?_); rintro e w' ⟨rfl, rfl⟩))
    have S := setCell_at (off := 0) HB.out (.slice (some ⟨b, off + 1, none⟩) r.length (cap - 1))
    go_ret
    exact ⟨rfl, HL.out.tail HB.out (off + 1) (fun _ => rfl) S.1 S.2, S.2⟩
end Go.Proofs.Bg
