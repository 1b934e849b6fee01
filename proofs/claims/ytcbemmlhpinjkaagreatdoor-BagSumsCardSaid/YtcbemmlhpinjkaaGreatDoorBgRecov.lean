/- The deferred closure of read, and read. -/
import Derived.Tactics2
import Derived.Defers
import Derived.Recover
import Derived.Laws.Pointers
import Derived.Test.YtcbemmlhpinjkaaGreatDoorBgItem
namespace Go.Proofs.Bg
open Go.RowKit

def wrongTaken : List PanicEntry := [{ v := .iface 127 (.agg #[]), recovered := true }]

set_option maxRecDepth 100000 in
theorem catch_wrong (rb eb : Nat) (v0 v1 : Value) (w : World) (hr : w.heap[rb]? = some (.cells #[v0] 23)) (he : w.heap[eb]? = some (.cells #[v1] 24)) (hne : eb ≠ rb) :
    CallsD Tryz.prog 100 #[.pointer (some ⟨rb, 0, none⟩), .pointer (some ⟨eb, 0, none⟩)] (.panicking wrongChain) w fun e u' w' =>
      e = .returned (.tuple #[]) ∧ u' = .panicking wrongTaken ∧ w' = ((w.alloc (.cells #[] 127)).setCell ⟨rb, 0, none⟩ (.slice none 0 0)).setCell ⟨eb, 0, none⟩ (.int .i64 4) := by
  have hr' : (w.alloc (.cells #[] 127)).heap[rb]? = some (.cells #[v0] 23) := by
    rw [Below.heap_alloc _ _ _ (Array.getElem?_eq_some_iff.1 hr).1]; exact hr
  have he' : (w.alloc (.cells #[] 127)).heap[eb]? = some (.cells #[v1] 24) := by
    rw [Below.heap_alloc _ _ _ (Array.getElem?_eq_some_iff.1 he).1]; exact he
  have c0 := cell_at_block (off := 0) hr' rfl
  have c1 := cell_at_block (off := 0) he' rfl
  have f0 := free_at_block (off := 0) hr'
  have f1 := free_at_block (off := 0) he'
  clear hr he hr' he'
  refine callsD_of_wpS Tryz.func100 rfl fun c₀ cs hu => ?_
  apply wpS_seq
  apply wpS_region
  simp [wpOpsS, go_sem, recoverD, hu, Tryz.ntmps100, Exit.thenS, wrongChain]
  refine wpS_of_wp ?_
  have hta : ∀ w, (Instr.typeAssert (.iface 127 (.agg #[])) 20 127 true).run Tryz.prog w = .ok (.tuple #[.agg #[], .bool true]) w := fun _ => by kernel_rfl
  simp only [Array.replicate_succ, Array.replicate_zero, List.push_toArray, List.append_toArray, List.nil_append, List.cons_append, List.setIfInBounds_toArray, List.set_cons_zero, List.set_cons_succ]
  go_wp2
  simp [bodyPostS, results, Tryz.results100, wrongTaken]

theorem catch_none (rb eb : Nat) (w : World) :
    CallsD Tryz.prog 100 #[.pointer (some ⟨rb, 0, none⟩), .pointer (some ⟨eb, 0, none⟩)] .returning w fun e u' w' => e = .returned (.tuple #[]) ∧ u' = .returning ∧ w' = w := by
  refine callsD_of_wpS Tryz.func100 rfl fun c₀ cs hu => ?_
  apply wpS_seq
  apply wpS_region
  simp [wpOpsS, go_sem, recoverD, hu, Tryz.ntmps100, Exit.thenS]
  refine wpS_of_wp ?_
  simp only [Array.replicate_succ, Array.replicate_zero, List.push_toArray, List.append_toArray, List.nil_append, List.cons_append, List.setIfInBounds_toArray, List.set_cons_zero, List.set_cons_succ]
  go_wp2
  cases c₀
  simp_all [bodyPostS, results, Tryz.results100]

/-- What the function that reads leaves. -/
def BagOut (base tb : Nat) (w : World) (p : Option (List It)) (e : Ending) (w' : World) : Prop :=
  match p with
  | some l => ∃ v, e = .returned v ∧ Own It.vs 4 40 base w' v l ∧ w.grownBy w' (some tb)
  | none => e = .panicked wrongChain ∧ w.grownBy w' (some tb)
def readB (p : Option (List It)) : List It × Int := match p with | some l => if bagB l = true then (l, 0) else ([], 4) | none => ([], 4)
/-- What read leaves. -/
def RetRead (tb : Nat) (w : World) (r : List It × Int) (e : Ending) (w' : World) : Prop :=
  w.grownBy w' (some tb) ∧ ∃ A cap, e = .returned (.tuple #[.slice A r.1.length cap, .int .i64 r.2]) ∧ Rd It.vs 4 w' w.heap.size A r.1.length r.1

/-- The two boxes of read. -/
structure RdSt (tb : Nat) (w w' : World) (v e : Value) : Prop where
  hr : w'.heap[w.heap.size]? = some (.cells #[v] 23)
  he : w'.heap[w.heap.size + 1]? = some (.cells #[e] 24)
  g : w.grownBy w' (some tb)
theorem RdSt.start (tb : Nat) (w : World) : RdSt tb w ((w.alloc (.cells #[.slice none 0 0] 23)).alloc (.cells #[.int .i64 0] 24)) (.slice none 0 0) (.int .i64 0) := by
  have hB : Below w.heap.size w ((w.alloc (.cells #[.slice none 0 0] 23)).alloc (.cells #[.int .i64 0] 24)) := ((Below.refl _ _).alloc (Nat.le_refl _) _).alloc (by simp) _
  refine ⟨?_, ?_, ⟨hB.os, hB.tape, hB.output, hB.size, fun i hi _ => hB.block i hi⟩⟩
  · rw [Below.heap_alloc _ _ _ (by simp)]
    exact new_block _ _ _
  · have := new_block (w.alloc (.cells #[.slice none 0 0] 23)) #[.int .i64 0] 24
    simpa using this
theorem RdSt.turn {tb : Nat} {w w' w2 : World} {v e : Value} (h : RdSt tb w w' v e) (hg : w'.grownBy w2 (some tb)) (htb : tb < w.heap.size) : RdSt tb w w2 v e where
  hr := (hg.block _ (Array.getElem?_eq_some_iff.1 h.hr).1 (fun e => by have := Option.some.inj e; omega)).trans h.hr
  he := (hg.block _ (Array.getElem?_eq_some_iff.1 h.he).1 (fun e => by have := Option.some.inj e; omega)).trans h.he
  g := h.g.then_ hg (fun _ e => .inr e)
theorem RdSt.below {tb : Nat} {w w' w2 : World} {v e : Value} (h : RdSt tb w w' v e) (hb : Below w'.heap.size w' w2) (htb : tb < w.heap.size) : RdSt tb w w2 v e := h.turn ⟨hb.os, hb.tape, hb.output, hb.size, fun i hi _ => hb.block i hi⟩ htb
theorem RdSt.setR {tb : Nat} {w w' : World} {v e : Value} (h : RdSt tb w w' v e) (x : Value) : RdSt tb w (w'.setCell ⟨w.heap.size, 0, none⟩ x) x e := by
  obtain ⟨s1, s2⟩ := setCell_at (off := 0) h.hr x
  exact ⟨s1, (s2.block _ (Array.getElem?_eq_some_iff.1 h.he).1 (fun e => by have := Option.some.inj e; omega)).trans h.he, World.grownBy.fresh h.g s2 (Nat.le_refl _)⟩
theorem RdSt.setE {tb : Nat} {w w' : World} {v e : Value} (h : RdSt tb w w' v e) (x : Value) : RdSt tb w (w'.setCell ⟨w.heap.size + 1, 0, none⟩ x) v x := by
  obtain ⟨s1, s2⟩ := setCell_at (off := 0) h.he x
  exact ⟨(s2.block _ (Array.getElem?_eq_some_iff.1 h.hr).1 (fun e => by have := Option.some.inj e; omega)).trans h.hr, s1, World.grownBy.fresh h.g s2 (by omega)⟩
theorem RdSt.out {tb : Nat} {w w' : World} (h : RdSt tb w w' (.slice none 0 0) (.int .i64 4)) : RetRead tb w ([], 4) (.returned (.tuple #[.slice none 0 0, .int .i64 4])) w' := ⟨h.g, none, 0, rfl, Rd.nil _ _ _⟩

theorem Own.rdOf {α : Type} {enc : α → List Value} {sz : Nat} {T : TypeId} {base n cap : Nat} {A : Option Addr} {w : World} {l : List α} (hs : ∀ x, (enc x).length = sz) (h : Own enc sz T base w (.slice A n cap) l) : Rd enc sz w base A l.length l := by
  obtain ⟨A', cap', e, hr⟩ := h.rd hs
  cases e
  exact hr
theorem RdSt.ownR {tb : Nat} {w w' : World} {v0 e v x : Value} {l : List It} (h : RdSt tb w w' v0 e) (ho : Own It.vs 4 40 (w.heap.size + 2) w' v l) : Own It.vs 4 40 (w.heap.size + 2) (w'.setCell ⟨w.heap.size, 0, none⟩ x) v l :=
  ho.grown (setCell_at (off := 0) h.hr x).2 (.inr (fun e => by have := (ho.blk _ e).1; omega))
theorem RdSt.ownE {tb : Nat} {w w' : World} {v0 e v x : Value} {l : List It} (h : RdSt tb w w' v0 e) (ho : Own It.vs 4 40 (w.heap.size + 2) w' v l) : Own It.vs 4 40 (w.heap.size + 2) (w'.setCell ⟨w.heap.size + 1, 0, none⟩ x) v l :=
  ho.grown (setCell_at (off := 0) h.he x).2 (.inr (fun e => by have := (ho.blk _ e).1; omega))
theorem RdSt.done {tb : Nat} {w w' : World} {A : Option Addr} {n cap : Nat} {l : List It} (h : RdSt tb w w' (.slice A n cap) (.int .i64 0)) (ho : Own It.vs 4 40 (w.heap.size + 2) w' (.slice A n cap) l) : RetRead tb w (l, 0) (.returned (.tuple #[.slice A n cap, .int .i64 0])) w' := by
  obtain ⟨A', cap', e, hr⟩ := ho.rd It.vs_length
  cases e
  exact ⟨h.g, _, _, rfl, hr.low (by omega)⟩

set_option maxRecDepth 100000 in
theorem read_parse (cap : Array Value) (tb : Nat) (p : Option (List It)) (w : World) (htb : tb < w.heap.size)
    (hc : Calls Tryz.prog 60 cap ((w.alloc (.cells #[.slice none 0 0] 23)).alloc (.cells #[.int .i64 0] 24)) (BagOut (w.heap.size + 2) tb ((w.alloc (.cells #[.slice none 0 0] 23)).alloc (.cells #[.int .i64 0] 24)) p)) :
    Calls Tryz.prog 59 #[.func (.func 60) #[] cap] w (RetRead tb w (readB p)) := by
  have hmf : ∀ (fn : Fn) (first cap : Array Value) (w : World), (Instr.makeFunc fn first cap).run Tryz.prog w = .ok (.func fn first cap) w := fun _ _ _ _ => rfl
  have HC := Lib.hid hc
  have ST := Lib.hid (RdSt.start tb w)
  have HT := Lib.hid htb
  clear hc htb
  cases p with
  | none =>
    go_enter_defers Tryz.func59, Tryz.ntmps59
    go_wp2_with (go_at_call 60; (with_reducible refine HC.out.mono ?_); rintro e w1 ⟨rfl, hg⟩; have HG := Lib.hid hg; clear hg)
    have S1 := ST.out.turn HG.out HT.out
    have S2 := ((S1.below ((Below.refl _ _).alloc (Nat.le_refl _) (.cells #[] 127)) HT.out).setR (.slice none 0 0)).setE (.int .i64 4)
    refine leaves_cons (f := 100) (args := #[.pointer (some ⟨w.heap.size, 0, none⟩), .pointer (some ⟨w.heap.size + 1, 0, none⟩)]) (by simp) (by simp [go_sem]) ?_
    refine (catch_wrong w.heap.size (w.heap.size + 1) _ _ _ S1.hr S1.he (by omega)).mono ?_
    rintro e u' w2 ⟨rfl, rfl, rfl⟩
    generalize ((World.setCell (World.setCell _ _ _) _ _) : World) = W at S2 ⊢
    have cr := cell_at_block (off := 0) S2.hr rfl
    have ce := cell_at_block (off := 0) S2.he rfl
    simp [Leaves, settle, wrongTaken, results, Tryz.results59, go_sem, cr, ce]
    exact S2.out
  | some l =>
    cases hb : bagB l with
    | true =>
      have e1 : readB (some l) = (l, 0) := by simp [readB, hb]
      rw [e1]
      have HB := Lib.hid hb
      clear hb e1
      go_enter_defers Tryz.func59, Tryz.ntmps59
      go_wp2_with (first | (go_at_call 60; (with_reducible refine HC.out.mono ?_); rintro e w1 ⟨v, rfl, hown, hg⟩; obtain ⟨A1, cap1, rfl⟩ := hown.shape; have S1 := ST.out.turn hg HT.out; have Q := isBag_any A1 l.length cap1 l _ (((S1.ownR (x := .slice A1 l.length cap1) hown).rdOf It.vs_length).low (Nat.zero_le _)); have HQ := Lib.hid Q; have HO := Lib.hid (S1.ownR (x := .slice A1 l.length cap1) hown); have HS1 := Lib.hid S1; have S1' := S1.setR (.slice A1 l.length cap1); have HS1' := Lib.hid S1'; have cr := cell_at_block (off := 0) S1.hr rfl; have fr := free_at_block (off := 0) S1.hr; clear hg hown S1 S1' Q) | (go_at_call 47; (with_reducible refine HQ.out.mono ?_); rintro e w2 ⟨rfl, hb2⟩; rw [HB.out]; have S2 := HS1'.out.below hb2 HT.out; have HO2 := Lib.hid (HO.out.below hb2); have cr2 := cell_at_block (off := 0) S2.hr rfl; have ce2 := cell_at_block (off := 0) S2.he rfl; have fr2 := free_at_block (off := 0) S2.hr; have fe2 := free_at_block (off := 0) S2.he; have HS2 := Lib.hid S2; clear S2 hb2) | (go_at_call 91; (with_reducible refine (need_yes _).mono ?_); rintro e w' ⟨rfl, rfl⟩))
      refine leaves_cons (f := 100) (args := #[.pointer (some ⟨w.heap.size, 0, none⟩), .pointer (some ⟨w.heap.size + 1, 0, none⟩)]) (by simp) (by simp [go_sem]) ?_
      refine (catch_none w.heap.size (w.heap.size + 1) _).mono ?_
      rintro e u' w3 ⟨rfl, rfl, rfl⟩
      have S3 := (HS2.out.setR (.slice A1 l.length cap1)).setE (.int .i64 0)
      have O3 := (HS2.out.setR (.slice A1 l.length cap1)).ownE (x := .int .i64 0) (HS2.out.ownR (x := .slice A1 l.length cap1) HO2.out)
      generalize ((World.setCell (World.setCell _ _ _) _ _) : World) = W at S3 O3 ⊢
      have cr := cell_at_block (off := 0) S3.hr rfl
      have ce := cell_at_block (off := 0) S3.he rfl
      simp [Leaves, settle, results, Tryz.results59, go_sem, cr, ce]
      exact S3.done O3
    | false =>
      have e1 : readB (some l) = ([], 4) := by simp [readB, hb]
      rw [e1]
      have HB := Lib.hid hb
      clear hb e1
      go_enter_defers Tryz.func59, Tryz.ntmps59
      go_wp2_with (first | (go_at_call 60; (with_reducible refine HC.out.mono ?_); rintro e w1 ⟨v, rfl, hown, hg⟩; obtain ⟨A1, cap1, rfl⟩ := hown.shape; have S1 := ST.out.turn hg HT.out; have Q := isBag_any A1 l.length cap1 l _ (((S1.ownR (x := .slice A1 l.length cap1) hown).rdOf It.vs_length).low (Nat.zero_le _)); have HQ := Lib.hid Q; have HO := Lib.hid (S1.ownR (x := .slice A1 l.length cap1) hown); have HS1 := Lib.hid S1; have S1' := S1.setR (.slice A1 l.length cap1); have HS1' := Lib.hid S1'; have cr := cell_at_block (off := 0) S1.hr rfl; have fr := free_at_block (off := 0) S1.hr; clear hg hown S1 S1' Q) | (go_at_call 47; (with_reducible refine HQ.out.mono ?_); rintro e w2 ⟨rfl, hb2⟩; rw [HB.out]; have S2 := HS1'.out.below hb2 HT.out; have HO2 := Lib.hid (HO.out.below hb2); have cr2 := cell_at_block (off := 0) S2.hr rfl; have ce2 := cell_at_block (off := 0) S2.he rfl; have fr2 := free_at_block (off := 0) S2.hr; have fe2 := free_at_block (off := 0) S2.he; have HS2 := Lib.hid S2; clear S2 hb2) | (go_at_call 91; (with_reducible refine (need_no _).mono ?_); rintro e w' ⟨rfl, rfl⟩))
      have S2 := ((HS2.out.below ((Below.refl _ _).alloc (Nat.le_refl _) (.cells #[] 127)) HT.out).setR (.slice none 0 0)).setE (.int .i64 4)
      refine leaves_cons (f := 100) (args := #[.pointer (some ⟨w.heap.size, 0, none⟩), .pointer (some ⟨w.heap.size + 1, 0, none⟩)]) (by simp) (by simp [go_sem]) ?_
      refine (catch_wrong w.heap.size (w.heap.size + 1) _ _ _ HS2.out.hr HS2.out.he (by omega)).mono ?_
      rintro e u' w3 ⟨rfl, rfl, rfl⟩
      generalize ((World.setCell (World.setCell _ _ _) _ _) : World) = W at S2 ⊢
      have cr := cell_at_block (off := 0) S2.hr rfl
      have ce := cell_at_block (off := 0) S2.he rfl
      simp [Leaves, settle, wrongTaken, results, Tryz.results59, go_sem, cr, ce]
      exact S2.out

set_option maxRecDepth 100000 in
theorem read_read (cap : Array Value) (tb : Nat) (p : Option (List It)) (w : World) (htb : tb < w.heap.size)
    (hc : Calls Tryz.prog 89 cap ((w.alloc (.cells #[.slice none 0 0] 23)).alloc (.cells #[.int .i64 0] 24)) (BagOut (w.heap.size + 2) tb ((w.alloc (.cells #[.slice none 0 0] 23)).alloc (.cells #[.int .i64 0] 24)) p)) :
    Calls Tryz.prog 59 #[.func (.func 89) #[] cap] w (RetRead tb w (readB p)) := by
  have hmf : ∀ (fn : Fn) (first cap : Array Value) (w : World), (Instr.makeFunc fn first cap).run Tryz.prog w = .ok (.func fn first cap) w := fun _ _ _ _ => rfl
  have HC := Lib.hid hc
  have ST := Lib.hid (RdSt.start tb w)
  have HT := Lib.hid htb
  clear hc htb
  cases p with
  | none =>
    go_enter_defers Tryz.func59, Tryz.ntmps59
    go_wp2_with (go_at_call 89; (with_reducible refine HC.out.mono ?_); rintro e w1 ⟨rfl, hg⟩; have HG := Lib.hid hg; clear hg)
    have S1 := ST.out.turn HG.out HT.out
    have S2 := ((S1.below ((Below.refl _ _).alloc (Nat.le_refl _) (.cells #[] 127)) HT.out).setR (.slice none 0 0)).setE (.int .i64 4)
    refine leaves_cons (f := 100) (args := #[.pointer (some ⟨w.heap.size, 0, none⟩), .pointer (some ⟨w.heap.size + 1, 0, none⟩)]) (by simp) (by simp [go_sem]) ?_
    refine (catch_wrong w.heap.size (w.heap.size + 1) _ _ _ S1.hr S1.he (by omega)).mono ?_
    rintro e u' w2 ⟨rfl, rfl, rfl⟩
    generalize ((World.setCell (World.setCell _ _ _) _ _) : World) = W at S2 ⊢
    have cr := cell_at_block (off := 0) S2.hr rfl
    have ce := cell_at_block (off := 0) S2.he rfl
    simp [Leaves, settle, wrongTaken, results, Tryz.results59, go_sem, cr, ce]
    exact S2.out
  | some l =>
    cases hb : bagB l with
    | true =>
      have e1 : readB (some l) = (l, 0) := by simp [readB, hb]
      rw [e1]
      have HB := Lib.hid hb
      clear hb e1
      go_enter_defers Tryz.func59, Tryz.ntmps59
      go_wp2_with (first | (go_at_call 89; (with_reducible refine HC.out.mono ?_); rintro e w1 ⟨v, rfl, hown, hg⟩; obtain ⟨A1, cap1, rfl⟩ := hown.shape; have S1 := ST.out.turn hg HT.out; have Q := isBag_any A1 l.length cap1 l _ (((S1.ownR (x := .slice A1 l.length cap1) hown).rdOf It.vs_length).low (Nat.zero_le _)); have HQ := Lib.hid Q; have HO := Lib.hid (S1.ownR (x := .slice A1 l.length cap1) hown); have HS1 := Lib.hid S1; have S1' := S1.setR (.slice A1 l.length cap1); have HS1' := Lib.hid S1'; have cr := cell_at_block (off := 0) S1.hr rfl; have fr := free_at_block (off := 0) S1.hr; clear hg hown S1 S1' Q) | (go_at_call 47; (with_reducible refine HQ.out.mono ?_); rintro e w2 ⟨rfl, hb2⟩; rw [HB.out]; have S2 := HS1'.out.below hb2 HT.out; have HO2 := Lib.hid (HO.out.below hb2); have cr2 := cell_at_block (off := 0) S2.hr rfl; have ce2 := cell_at_block (off := 0) S2.he rfl; have fr2 := free_at_block (off := 0) S2.hr; have fe2 := free_at_block (off := 0) S2.he; have HS2 := Lib.hid S2; clear S2 hb2) | (go_at_call 91; (with_reducible refine (need_yes _).mono ?_); rintro e w' ⟨rfl, rfl⟩))
      refine leaves_cons (f := 100) (args := #[.pointer (some ⟨w.heap.size, 0, none⟩), .pointer (some ⟨w.heap.size + 1, 0, none⟩)]) (by simp) (by simp [go_sem]) ?_
      refine (catch_none w.heap.size (w.heap.size + 1) _).mono ?_
      rintro e u' w3 ⟨rfl, rfl, rfl⟩
      have S3 := (HS2.out.setR (.slice A1 l.length cap1)).setE (.int .i64 0)
      have O3 := (HS2.out.setR (.slice A1 l.length cap1)).ownE (x := .int .i64 0) (HS2.out.ownR (x := .slice A1 l.length cap1) HO2.out)
      generalize ((World.setCell (World.setCell _ _ _) _ _) : World) = W at S3 O3 ⊢
      have cr := cell_at_block (off := 0) S3.hr rfl
      have ce := cell_at_block (off := 0) S3.he rfl
      simp [Leaves, settle, results, Tryz.results59, go_sem, cr, ce]
      exact S3.done O3
    | false =>
      have e1 : readB (some l) = ([], 4) := by simp [readB, hb]
      rw [e1]
      have HB := Lib.hid hb
      clear hb e1
      go_enter_defers Tryz.func59, Tryz.ntmps59
      go_wp2_with (first | (go_at_call 89; (with_reducible refine HC.out.mono ?_); rintro e w1 ⟨v, rfl, hown, hg⟩; obtain ⟨A1, cap1, rfl⟩ := hown.shape; have S1 := ST.out.turn hg HT.out; have Q := isBag_any A1 l.length cap1 l _ (((S1.ownR (x := .slice A1 l.length cap1) hown).rdOf It.vs_length).low (Nat.zero_le _)); have HQ := Lib.hid Q; have HO := Lib.hid (S1.ownR (x := .slice A1 l.length cap1) hown); have HS1 := Lib.hid S1; have S1' := S1.setR (.slice A1 l.length cap1); have HS1' := Lib.hid S1'; have cr := cell_at_block (off := 0) S1.hr rfl; have fr := free_at_block (off := 0) S1.hr; clear hg hown S1 S1' Q) | (go_at_call 47; (with_reducible refine HQ.out.mono ?_); rintro e w2 ⟨rfl, hb2⟩; rw [HB.out]; have S2 := HS1'.out.below hb2 HT.out; have HO2 := Lib.hid (HO.out.below hb2); have cr2 := cell_at_block (off := 0) S2.hr rfl; have ce2 := cell_at_block (off := 0) S2.he rfl; have fr2 := free_at_block (off := 0) S2.hr; have fe2 := free_at_block (off := 0) S2.he; have HS2 := Lib.hid S2; clear S2 hb2) | (go_at_call 91; (with_reducible refine (need_no _).mono ?_); rintro e w' ⟨rfl, rfl⟩))
      have S2 := ((HS2.out.below ((Below.refl _ _).alloc (Nat.le_refl _) (.cells #[] 127)) HT.out).setR (.slice none 0 0)).setE (.int .i64 4)
      refine leaves_cons (f := 100) (args := #[.pointer (some ⟨w.heap.size, 0, none⟩), .pointer (some ⟨w.heap.size + 1, 0, none⟩)]) (by simp) (by simp [go_sem]) ?_
      refine (catch_wrong w.heap.size (w.heap.size + 1) _ _ _ HS2.out.hr HS2.out.he (by omega)).mono ?_
      rintro e u' w3 ⟨rfl, rfl, rfl⟩
      generalize ((World.setCell (World.setCell _ _ _) _ _) : World) = W at S2 ⊢
      have cr := cell_at_block (off := 0) S2.hr rfl
      have ce := cell_at_block (off := 0) S2.he rfl
      simp [Leaves, settle, wrongTaken, results, Tryz.results59, go_sem, cr, ce]
      exact S2.out

end Go.Proofs.Bg
