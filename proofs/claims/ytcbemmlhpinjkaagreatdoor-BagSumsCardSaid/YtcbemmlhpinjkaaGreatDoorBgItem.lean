/- The contract of text.item. -/
import Derived.Laws.Rows
import Derived.Test.YtcbemmlhpinjkaaGreatDoorBgTextNum
namespace Go.Proofs.Bg
open Go.RowKit

def itV (x : It) : Value := .agg x.vs.toArray
theorem LeftIs.grown {w w' : World} {tb xb : Nat} {T T' : TypeId} {rest : List Int} {a b c d : Int} (h : LeftIs w tb T rest) (hg : w.grownBy w' (some xb)) (hne : xb ≠ tb) (hx : w.heap[xb]? = some (.cells #[.int .i64 a, .int .i64 b, .int .i64 c, .int .i64 d] T')) : LeftIs w' tb T rest := by
  obtain ⟨A, cap, hb, hr, hn, hc, hbd⟩ := h
  have hlt : tb < w.heap.size := (Array.getElem?_eq_some_iff.1 hb).1
  refine ⟨A, cap, (hg.block tb hlt (fun e => hne (Option.some.inj e).symm)).trans hb, ⟨hr.1, hr.2.1, fun h0 => ?_⟩, hn, hc, hbd⟩
  obtain ⟨b2, off, rfl, hlo, hcell⟩ := hr.2.2 h0
  refine ⟨b2, off, rfl, hlo, fun i y hy j v hv => ?_⟩
  have h1 := hcell i y hy j v hv
  have hlt2 : b2 < w.heap.size := World.block_lt_of_cell? w _ h1
  have hne2 : xb ≠ b2 := by
    rintro rfl
    have e : j = 0 ∧ v = .int .u8 y := by
      cases j with
      | zero => exact ⟨rfl, by cases hv; rfl⟩
      | succ j => cases hv
    obtain ⟨rfl, rfl⟩ := e
    simp only [World.cell?, hx] at h1
    generalize off + i * 1 + 0 = q at h1
    rcases q with _ | _ | _ | _ | q <;> simp at h1
  exact (World.cell?_of_block (w := w) (a := ⟨b2, off + i * 1 + j, none⟩) (hg.block b2 hlt2 (fun e => hne2 (Option.some.inj e).symm))).trans h1

structure ItSt (tb rb xb : Nat) (w0 w : World) (a b c d : Int) (rest : List Int) : Prop where
  left : LeftIs w tb 87 rest
  hx : w.heap[xb]? = some (.cells #[.int .i64 a, .int .i64 b, .int .i64 c, .int .i64 d] 40)
  hr : w.heap[rb]? = some (.cells #[.int .i64 0, .int .i64 0, .int .i64 0, .int .i64 0] 40)
  g : w0.grownBy w (some tb)
  nx : xb ≠ tb
  nr : rb ≠ tb
  xr : xb ≠ rb
  lox : w0.heap.size ≤ xb
  lor : w0.heap.size ≤ rb
theorem World.grownBy.fresh {a b' c : World} {row : Option Nat} {x : Nat} (h : a.grownBy b' row) (k : b'.grownBy c (some x)) (hx : a.heap.size ≤ x) : a.grownBy c row :=
  ⟨k.os.trans h.os, k.tape.trans h.tape, k.output.trans h.output, Nat.le_trans h.size k.size, fun i hi hne => (k.block i (Nat.lt_of_lt_of_le hi h.size) (fun e => by have := Option.some.inj e; omega)).trans (h.block i hi hne)⟩
theorem ItSt.turn {tb rb xb : Nat} {w0 w w' : World} {a b c d : Int} {rest r : List Int} (h : ItSt tb rb xb w0 w a b c d rest) (hl : LeftIs w' tb 87 r) (hg : w.grownBy w' (some tb)) : ItSt tb rb xb w0 w' a b c d r where
  left := hl
  hx := (hg.block xb (Array.getElem?_eq_some_iff.1 h.hx).1 (fun e => h.nx (Option.some.inj e))).trans h.hx
  hr := (hg.block rb (Array.getElem?_eq_some_iff.1 h.hr).1 (fun e => h.nr (Option.some.inj e))).trans h.hr
  g := h.g.then_ hg (fun _ e => .inr e)
  nx := h.nx
  nr := h.nr
  xr := h.xr
  lox := h.lox
  lor := h.lor
theorem ItSt.set {tb rb xb : Nat} {w0 w : World} {a b c d a' b' c' d' : Int} {rest : List Int} (h : ItSt tb rb xb w0 w a b c d rest) (j : Nat) (v : Int) (hc : (#[.int .i64 a, .int .i64 b, .int .i64 c, .int .i64 d] : Array Value).setIfInBounds j (.int .i64 v) = #[.int .i64 a', .int .i64 b', .int .i64 c', .int .i64 d']) : ItSt tb rb xb w0 (w.setCell ⟨xb, j, none⟩ (.int .i64 v)) a' b' c' d' rest := by
  obtain ⟨s1, s2⟩ := setCell_at (off := j) h.hx (.int .i64 v)
  rw [hc] at s1
  exact ⟨h.left.grown s2 h.nx h.hx, s1, (s2.block rb (Array.getElem?_eq_some_iff.1 h.hr).1 (fun e => h.xr (Option.some.inj e).symm)).trans h.hr, World.grownBy.fresh h.g s2 h.lox, h.nx, h.nr, h.xr, h.lox, h.lor⟩
theorem ItSt.start {tb : Nat} {w : World} {s : List Int} (h : LeftIs w tb 87 s) : ItSt tb w.heap.size (w.heap.size + 1) w ((w.alloc (.cells #[.int .i64 0, .int .i64 0, .int .i64 0, .int .i64 0] 40)).alloc (.cells #[.int .i64 0, .int .i64 0, .int .i64 0, .int .i64 0] 40)) 0 0 0 0 s := by
  have htb : tb < w.heap.size := by obtain ⟨_, _, hb, _⟩ := h; exact (Array.getElem?_eq_some_iff.1 hb).1
  have hB : Below w.heap.size w ((w.alloc (.cells #[.int .i64 0, .int .i64 0, .int .i64 0, .int .i64 0] 40)).alloc (.cells #[.int .i64 0, .int .i64 0, .int .i64 0, .int .i64 0] 40)) := ((Below.refl _ _).alloc (Nat.le_refl _) _).alloc (by simp) _
  refine ⟨?_, ?_, ?_, ⟨hB.os, hB.tape, hB.output, hB.size, fun i hi _ => hB.block i hi⟩, by omega, by omega, by omega, by omega, by omega⟩
  · obtain ⟨A, cap, hb, hr, hn, hc, hbd⟩ := h
    exact ⟨A, cap, (hB.block tb htb).trans hb, hr.below hB, hn, hc, hbd⟩
  · have := new_block (w.alloc (.cells #[.int .i64 0, .int .i64 0, .int .i64 0, .int .i64 0] 40)) #[.int .i64 0, .int .i64 0, .int .i64 0, .int .i64 0] 40
    simpa using this
  · rw [Below.heap_alloc _ _ _ (by simp)]
    exact new_block _ _ _

theorem number_yes {tb : Nat} {s r : List Int} {a : Int} (w : World) (h : LeftIs w tb 87 s) (hp : pNum s = some (a, r)) : Calls Tryz.prog 102 #[.pointer (some ⟨tb, 0, none⟩)] w fun e w' => e = .returned (.int .i64 a) ∧ LeftIs w' tb 87 r ∧ w.grownBy w' (some tb) := by
  have := number_any tb s w h
  rw [hp] at this
  exact this
theorem number_no {tb : Nat} {s : List Int} (w : World) (h : LeftIs w tb 87 s) (hp : pNum s = none) : Calls Tryz.prog 102 #[.pointer (some ⟨tb, 0, none⟩)] w fun e w' => e = .panicked wrongChain ∧ w.grownBy w' (some tb) := by
  have := number_any tb s w h
  rw [hp] at this
  exact this
theorem sign_yes {tb : Nat} {s r : List Int} {c : Int} (w : World) (h : LeftIs w tb 87 s) (hp : pSign c s = some r) : Calls Tryz.prog 62 #[.pointer (some ⟨tb, 0, none⟩), .int .u8 c] w fun e w' => e = .returned (.tuple #[]) ∧ LeftIs w' tb 87 r ∧ w.grownBy w' (some tb) := by
  have := sign_any tb c s w h
  rw [hp] at this
  exact this
theorem sign_no {tb : Nat} {s : List Int} {c : Int} (w : World) (h : LeftIs w tb 87 s) (hp : pSign c s = none) : Calls Tryz.prog 62 #[.pointer (some ⟨tb, 0, none⟩), .int .u8 c] w fun e w' => e = .panicked wrongChain ∧ w.grownBy w' (some tb) := by
  have := sign_any tb c s w h
  rw [hp] at this
  exact this

theorem set4 {w : World} {g : Nat} {a0 b0 c0 d0 : Value} {T : TypeId} (h : w.heap[g]? = some (.cells #[a0, b0, c0, d0] T)) (a b c d : Value) :
    ((((w.setCell ⟨g, 0, none⟩ a).setCell ⟨g, 1, none⟩ b).setCell ⟨g, 2, none⟩ c).setCell ⟨g, 3, none⟩ d).heap[g]? = some (.cells #[a, b, c, d] T) ∧ w.grownBy ((((w.setCell ⟨g, 0, none⟩ a).setCell ⟨g, 1, none⟩ b).setCell ⟨g, 2, none⟩ c).setCell ⟨g, 3, none⟩ d) (some g) := by
  obtain ⟨h1, g1⟩ := setCell_at (off := 0) h a
  obtain ⟨h2, g2⟩ := setCell_at (off := 1) h1 b
  obtain ⟨h3, g3⟩ := setCell_at (off := 2) h2 c
  obtain ⟨h4, g4⟩ := setCell_at (off := 3) h3 d
  exact ⟨h4, ((g1.then_ g2 (fun j e => .inr e)).then_ g3 (fun j e => .inr e)).then_ g4 (fun j e => .inr e)⟩
theorem ItSt.fin {tb rb xb : Nat} {w0 w : World} {a b c d : Int} {rest : List Int} (h : ItSt tb rb xb w0 w a b c d rest) (p q r t : Value) : LeftIs ((((w.setCell ⟨rb, 0, none⟩ p).setCell ⟨rb, 1, none⟩ q).setCell ⟨rb, 2, none⟩ r).setCell ⟨rb, 3, none⟩ t) tb 87 rest ∧ w0.grownBy ((((w.setCell ⟨rb, 0, none⟩ p).setCell ⟨rb, 1, none⟩ q).setCell ⟨rb, 2, none⟩ r).setCell ⟨rb, 3, none⟩ t) (some tb) := by
  obtain ⟨h4, g4⟩ := set4 h.hr p q r t
  exact ⟨h.left.grown g4 h.nr h.hr, World.grownBy.fresh h.g g4 h.lor⟩

set_option maxRecDepth 100000 in
set_option maxHeartbeats 2000000 in
theorem item_any (tb : Nat) (s : List Int) (w : World) (h : LeftIs w tb 87 s) :
    Calls Tryz.prog 63 #[.pointer (some ⟨tb, 0, none⟩)] w (Reads tb 87 w ((pItem s).map fun p => (itV p.1, p.2))) := by
  have ST0 := Lib.hid (ItSt.start h)
  go_enter Tryz.func63, Tryz.ntmps63
  cases hp0 : pNum s with
  | none =>
    have HF : Hid (pItem s = none) := by show _ = _; simp [pItem, hp0]
    have C := Lib.hid (number_no _ ST0.out.left hp0)
    go_wp2_with (go_at_call 102; (with_reducible refine C.out.mono ?_); rintro e w1 ⟨rfl, hg⟩; have HG := Lib.hid hg; clear hg)
    refine ⟨rfl, ?_⟩
    show Reads tb _ w _ _ _
    rw [HF.out]
    exact ⟨rfl, ST0.out.g.then_ HG.out (fun _ e => .inr e)⟩
  | some p0 =>
    obtain ⟨va, s1⟩ := p0
    have C := Lib.hid (number_yes _ ST0.out.left hp0)
    go_wp2_with fail
    (with_reducible refine C.out.mono ?_)
    rintro e w1 ⟨rfl, hl, hg⟩
    have tt := ST0.out.turn hl hg
    have ST1 := Lib.hid (tt.set 0 va (a' := va) (b' := 0) (c' := 0) (d' := 0) rfl)
    have f0 := free_at_block (off := 0) tt.hx
    have c0_0 := cell_at_block (off := 0) tt.hx rfl
    have c0_1 := cell_at_block (off := 1) tt.hx rfl
    have c0_2 := cell_at_block (off := 2) tt.hx rfl
    have c0_3 := cell_at_block (off := 3) tt.hx rfl
    clear hl hg C tt
    cases hp1 : pSign 32 s1 with
    | none =>
      have HF : Hid (pItem s = none) := by show _ = _; simp [pItem, hp0, hp1]
      have C := Lib.hid (sign_no _ ST1.out.left hp1)
      go_wp2_with (go_at_call 62; (with_reducible refine C.out.mono ?_); rintro e w2 ⟨rfl, hg⟩; have HG := Lib.hid hg; clear hg)
      refine ⟨rfl, ?_⟩
      show Reads tb _ w _ _ _
      rw [HF.out]
      exact ⟨rfl, ST1.out.g.then_ HG.out (fun _ e => .inr e)⟩
    | some p1 =>
      obtain ⟨s2, hs2⟩ : ∃ s2, s2 = p1 := ⟨_, rfl⟩
      rw [← hs2] at hp1
      have C := Lib.hid (sign_yes _ ST1.out.left hp1)
      go_wp2_with fail
      (with_reducible refine C.out.mono ?_)
      rintro e w2 ⟨rfl, hl, hg⟩
      have ST2 := Lib.hid (ST1.out.turn hl hg)
      clear hl hg C
      cases hp2 : pNum s2 with
      | none =>
        have HF : Hid (pItem s = none) := by show _ = _; simp [pItem, hp0, hp1, hp2]
        have C := Lib.hid (number_no _ ST2.out.left hp2)
        go_wp2_with (go_at_call 102; (with_reducible refine C.out.mono ?_); rintro e w3 ⟨rfl, hg⟩; have HG := Lib.hid hg; clear hg)
        refine ⟨rfl, ?_⟩
        show Reads tb _ w _ _ _
        rw [HF.out]
        exact ⟨rfl, ST2.out.g.then_ HG.out (fun _ e => .inr e)⟩
      | some p2 =>
        obtain ⟨vk, s3⟩ := p2
        have C := Lib.hid (number_yes _ ST2.out.left hp2)
        go_wp2_with fail
        (with_reducible refine C.out.mono ?_)
        rintro e w3 ⟨rfl, hl, hg⟩
        have tt := ST2.out.turn hl hg
        have ST3 := Lib.hid (tt.set 1 vk (a' := va) (b' := vk) (c' := 0) (d' := 0) rfl)
        have f2 := free_at_block (off := 1) tt.hx
        have c2_0 := cell_at_block (off := 0) tt.hx rfl
        have c2_1 := cell_at_block (off := 1) tt.hx rfl
        have c2_2 := cell_at_block (off := 2) tt.hx rfl
        have c2_3 := cell_at_block (off := 3) tt.hx rfl
        clear hl hg C tt
        cases hp3 : pSign 32 s3 with
        | none =>
          have HF : Hid (pItem s = none) := by show _ = _; simp [pItem, hp0, hp1, hp2, hp3]
          have C := Lib.hid (sign_no _ ST3.out.left hp3)
          go_wp2_with (go_at_call 62; (with_reducible refine C.out.mono ?_); rintro e w4 ⟨rfl, hg⟩; have HG := Lib.hid hg; clear hg)
          refine ⟨rfl, ?_⟩
          show Reads tb _ w _ _ _
          rw [HF.out]
          exact ⟨rfl, ST3.out.g.then_ HG.out (fun _ e => .inr e)⟩
        | some p3 =>
          obtain ⟨s4, hs4⟩ : ∃ s4, s4 = p3 := ⟨_, rfl⟩
          rw [← hs4] at hp3
          have C := Lib.hid (sign_yes _ ST3.out.left hp3)
          go_wp2_with fail
          (with_reducible refine C.out.mono ?_)
          rintro e w4 ⟨rfl, hl, hg⟩
          have ST4 := Lib.hid (ST3.out.turn hl hg)
          clear hl hg C
          cases hp4 : pNum s4 with
          | none =>
            have HF : Hid (pItem s = none) := by show _ = _; simp [pItem, hp0, hp1, hp2, hp3, hp4]
            have C := Lib.hid (number_no _ ST4.out.left hp4)
            go_wp2_with (go_at_call 102; (with_reducible refine C.out.mono ?_); rintro e w5 ⟨rfl, hg⟩; have HG := Lib.hid hg; clear hg)
            refine ⟨rfl, ?_⟩
            show Reads tb _ w _ _ _
            rw [HF.out]
            exact ⟨rfl, ST4.out.g.then_ HG.out (fun _ e => .inr e)⟩
          | some p4 =>
            obtain ⟨vv, s5⟩ := p4
            have C := Lib.hid (number_yes _ ST4.out.left hp4)
            go_wp2_with fail
            (with_reducible refine C.out.mono ?_)
            rintro e w5 ⟨rfl, hl, hg⟩
            have tt := ST4.out.turn hl hg
            have ST5 := Lib.hid (tt.set 2 vv (a' := va) (b' := vk) (c' := vv) (d' := 0) rfl)
            have f4 := free_at_block (off := 2) tt.hx
            have c4_0 := cell_at_block (off := 0) tt.hx rfl
            have c4_1 := cell_at_block (off := 1) tt.hx rfl
            have c4_2 := cell_at_block (off := 2) tt.hx rfl
            have c4_3 := cell_at_block (off := 3) tt.hx rfl
            clear hl hg C tt
            cases hp5 : pSign 32 s5 with
            | none =>
              have HF : Hid (pItem s = none) := by show _ = _; simp [pItem, hp0, hp1, hp2, hp3, hp4, hp5]
              have C := Lib.hid (sign_no _ ST5.out.left hp5)
              go_wp2_with (go_at_call 62; (with_reducible refine C.out.mono ?_); rintro e w6 ⟨rfl, hg⟩; have HG := Lib.hid hg; clear hg)
              refine ⟨rfl, ?_⟩
              show Reads tb _ w _ _ _
              rw [HF.out]
              exact ⟨rfl, ST5.out.g.then_ HG.out (fun _ e => .inr e)⟩
            | some p5 =>
              obtain ⟨s6, hs6⟩ : ∃ s6, s6 = p5 := ⟨_, rfl⟩
              rw [← hs6] at hp5
              have C := Lib.hid (sign_yes _ ST5.out.left hp5)
              go_wp2_with fail
              (with_reducible refine C.out.mono ?_)
              rintro e w6 ⟨rfl, hl, hg⟩
              have ST6 := Lib.hid (ST5.out.turn hl hg)
              clear hl hg C
              cases hp6 : pNum s6 with
              | none =>
                have HF : Hid (pItem s = none) := by show _ = _; simp [pItem, hp0, hp1, hp2, hp3, hp4, hp5, hp6]
                have C := Lib.hid (number_no _ ST6.out.left hp6)
                go_wp2_with (go_at_call 102; (with_reducible refine C.out.mono ?_); rintro e w7 ⟨rfl, hg⟩; have HG := Lib.hid hg; clear hg)
                refine ⟨rfl, ?_⟩
                show Reads tb _ w _ _ _
                rw [HF.out]
                exact ⟨rfl, ST6.out.g.then_ HG.out (fun _ e => .inr e)⟩
              | some p6 =>
                obtain ⟨vn, s7⟩ := p6
                have C := Lib.hid (number_yes _ ST6.out.left hp6)
                go_wp2_with fail
                (with_reducible refine C.out.mono ?_)
                rintro e w7 ⟨rfl, hl, hg⟩
                have tt := ST6.out.turn hl hg
                have ST7 := Lib.hid (tt.set 3 vn (a' := va) (b' := vk) (c' := vv) (d' := vn) rfl)
                have f6 := free_at_block (off := 3) tt.hx
                have c6_0 := cell_at_block (off := 0) tt.hx rfl
                have c6_1 := cell_at_block (off := 1) tt.hx rfl
                have c6_2 := cell_at_block (off := 2) tt.hx rfl
                have c6_3 := cell_at_block (off := 3) tt.hx rfl
                have d0 := cell_at_block (off := 0) tt.hr rfl
                have e0 := free_at_block (off := 0) tt.hr
                have d1 := cell_at_block (off := 1) tt.hr rfl
                have e1 := free_at_block (off := 1) tt.hr
                have d2 := cell_at_block (off := 2) tt.hr rfl
                have e2 := free_at_block (off := 2) tt.hr
                have d3 := cell_at_block (off := 3) tt.hr rfl
                have e3 := free_at_block (off := 3) tt.hr
                clear hl hg C tt
                have HF : Hid (pItem s = some (⟨⟨va, vk, vv⟩, vn⟩, s7)) := by show _ = _; simp [pItem, hp0, hp1, hp2, hp3, hp4, hp5, hp6]
                go_wp2_with fail
                refine bodyPost_ret (results_cell_row rfl _ _ w.heap.size 40 #[.int .i64 va, .int .i64 vk, .int .i64 vv, .int .i64 vn] (0, 0) _ rfl (set4 ST7.out.hr _ _ _ _).1 Tryz.underlying40 rfl (by kernel_rfl)) rfl ?_
                show Reads tb _ w _ _ _
                rw [HF.out]
                exact ⟨rfl, ST7.out.fin _ _ _ _⟩
end Go.Proofs.Bg
