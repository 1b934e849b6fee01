/- The contracts of text.sign, text.digit, text.number, text.item. -/
import Derived.Test.YtcbemmlhpinjkaaGreatDoorBgRead0
namespace Go.Proofs.Bg
open Go.RowKit

def isDig (x : Int) : Bool := withinB x 48 57
def pDigit : List Int → Bool
  | [] => false
  | x :: _ => isDig x
def pSign (c : Int) : List Int → Option (List Int)
  | [] => none
  | x :: r => if x = c then some r else none
def pLoop : List Int → Int → Option (Int × List Int)
  | [], n => some (n, [])
  | x :: r, n => if (decide (0 < n) && isDig x) = true then (if 10 * n + (x - 48) ≤ 1000000000 then pLoop r (10 * n + (x - 48)) else none) else some (n, x :: r)
def pAbs : List Int → Option (Int × List Int)
  | [] => none
  | x :: r => if isDig x = true then pLoop r (x - 48) else none
def pNum : List Int → Option (Int × List Int)
  | [] => none
  | x :: r => if x = 45 then (match pAbs r with | some (n, r') => if 0 < n then some (-n, r') else none | none => none) else pAbs (x :: r)
def pItem (s : List Int) : Option (It × List Int) :=
  match pNum s with
  | none => none
  | some (a, s1) => match pSign 32 s1 with
    | none => none
    | some s2 => match pNum s2 with
      | none => none
      | some (k, s3) => match pSign 32 s3 with
        | none => none
        | some s4 => match pNum s4 with
          | none => none
          | some (v, s5) => match pSign 32 s5 with
            | none => none
            | some s6 => match pNum s6 with
              | none => none
              | some (n, s7) => some (⟨⟨a, k, v⟩, n⟩, s7)

/-- What a reading leaves: the value, what is left, and only the reader has turned; or it has given up. -/
def Reads (tb : Nat) (T : TypeId) (w : World) (p : Option (Value × List Int)) (e : Ending) (w' : World) : Prop :=
  match p with
  | some (v, r) => e = .returned v ∧ LeftIs w' tb T r ∧ w.grownBy w' (some tb)
  | none => e = .panicked wrongChain ∧ w.grownBy w' (some tb)

theorem sign_any (tb : Nat) (c : Int) (s : List Int) (w : World) (h : LeftIs w tb 87 s) :
    Calls Tryz.prog 62 #[.pointer (some ⟨tb, 0, none⟩), .int .u8 c] w (Reads tb 87 w ((pSign c s).map fun r => (.tuple #[], r))) := by
  cases s with
  | nil =>
    have HN := Lib.hid (next_no tb _ w h)
    clear h
    go_enter Tryz.func62, Tryz.ntmps62
    go_wp2_with (go_at_call 101; (with_reducible refine HN.out.mono ?_); rintro e w' ⟨rfl, rfl⟩)
    exact ⟨rfl, rfl, World.grownBy.refl _ _⟩
  | cons x r =>
    have HN := Lib.hid (next_yes tb _ x r w h)
    clear h
    by_cases hc : x = c
    · have e1 : (pSign c (x :: r)).map (fun r => (Value.tuple #[], r)) = some (.tuple #[], r) := by simp [pSign, hc]
      rw [e1]
      have hx : (x == c) = true := by simpa using hc
      have HC : Hid (x = c) := hc
      clear hc e1
      go_enter Tryz.func62, Tryz.ntmps62
      go_wp2_with (first | (go_at_call 101; (with_reducible refine HN.out.mono ?_); rintro e w' ⟨rfl, hl, hg⟩; have HL := Lib.hid hl; have HG := Lib.hid hg; clear hl hg) | (go_at_call 91; (with_reducible refine (need_yes _).mono ?_); rintro e w' ⟨rfl, rfl⟩))
      go_end0
      exact ⟨rfl, HL.out, HG.out⟩
    · have e1 : (pSign c (x :: r)).map (fun r => (Value.tuple #[], r)) = none := by simp [pSign, hc]
      rw [e1]
      have hx : (x == c) = false := by simpa using hc
      clear hc e1
      go_enter Tryz.func62, Tryz.ntmps62
      go_wp2_with (first | (go_at_call 101; (with_reducible refine HN.out.mono ?_); rintro e w' ⟨rfl, hl, hg⟩; have HL := Lib.hid hl; have HG := Lib.hid hg; clear hl hg) | (go_at_call 91; (with_reducible refine (need_no _).mono ?_); rintro e w' ⟨rfl, rfl⟩))
      exact ⟨rfl, rfl, HG.out⟩

theorem LeftIs.head {w : World} {tb : Nat} {T : TypeId} {x : Int} {r : List Int} (h : LeftIs w tb T (x :: r)) : ∃ b off cap, w.cell? ⟨tb, 0, none⟩ = some (.slice (some ⟨b, off, none⟩) (r.length + 1) cap) ∧ w.cell? ⟨b, off, none⟩ = some (.int .u8 x) ∧ 0 ≤ x ∧ x ≤ 255 := by
  obtain ⟨A, cap, hb, hr, _, _, hx⟩ := h
  obtain ⟨b, off, y, rfl, _, hy, hcl⟩ := hr.at_ (k := 0) (by simp)
  cases hy
  have d0 := hcl 0 _ rfl
  simp only [Nat.zero_mul, Nat.add_zero] at d0
  exact ⟨b, off, cap, cell_at_block hb rfl, d0, hx x List.mem_cons_self⟩

theorem digit_any (tb : Nat) (s : List Int) (w : World) (h : LeftIs w tb 87 s) :
    Calls Tryz.prog 117 #[.pointer (some ⟨tb, 0, none⟩)] w fun e w' => e = .returned (.bool (pDigit s)) ∧ w = w' := by
  have HD := Lib.hid (done_any tb _ s w h)
  cases s with
  | nil =>
    clear h
    go_enter Tryz.func117, Tryz.ntmps117
    go_wp2_with (go_at_call 61; (with_reducible refine HD.out.mono ?_); rintro e w' ⟨rfl, rfl⟩)
    go_ret
    exact ⟨rfl, rfl⟩
  | cons x r =>
    obtain ⟨b, off, cap, c0, d0, hx0, hx1⟩ := h.head
    have HW := Lib.hid (within_any x 48 57 w)
    have e1 : pDigit (x :: r) = withinB x 48 57 := rfl
    rw [e1]
    generalize withinB x 48 57 = q at HW ⊢
    clear h e1
    go_enter Tryz.func117, Tryz.ntmps117
    go_wp2_with (first | (go_at_call 61; (with_reducible refine HD.out.mono ?_); rintro e w' ⟨rfl, rfl⟩) | (go_at_call 67; (with_reducible refine HW.out.mono ?_); rintro e w' ⟨rfl, rfl⟩))
    go_ret
    exact ⟨rfl, rfl⟩
end Go.Proofs.Bg
