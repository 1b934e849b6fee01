/- The contracts of Parse's reader and of Parse. -/
import Derived.Test.YtcbemmlhpinjkaaGreatDoorBgRecov
namespace Go.Proofs.Bg
open Go.RowKit

def pSep (first : Bool) (s : List Int) : Option (List Int) := if first then some s else (pSign 59 s).bind (pSign 32)
def pAll : Nat → List Int → List It → Option (List It)
  | 0, _, L => some L
  | f + 1, s, L => if s = [] then some L else match pSep L.isEmpty s with
    | none => none
    | some s1 => match pItem s1 with
      | none => none
      | some (x, r) => pAll f r (L ++ [x])
/-- What a text says, before it is asked whether that is a bag. -/
def pBag (s : List Int) : Option (List It) := pAll (s.length + 1) s []

theorem pSign_lt {c : Int} {s r : List Int} (h : pSign c s = some r) : r.length < s.length := by
  cases s with
  | nil => cases h
  | cons x s =>
    rw [pSign] at h
    split at h
    · cases h; simp
    · cases h
theorem pLoop_lt : ∀ (s : List Int) {n a : Int} {r : List Int}, pLoop s n = some (a, r) → r.length ≤ s.length
  | [], n, a, r, h => by cases h; simp
  | x :: s, n, a, r, h => by
    rw [pLoop] at h
    split at h
    · split at h
      · have := pLoop_lt s h
        simp; omega
      · cases h
    · cases h; simp
theorem pAbs_lt {s r : List Int} {a : Int} (h : pAbs s = some (a, r)) : r.length < s.length := by
  cases s with
  | nil => cases h
  | cons x s =>
    rw [pAbs] at h
    split at h
    · have := pLoop_lt s h
      simp; omega
    · cases h
theorem pNum_lt {s r : List Int} {a : Int} (h : pNum s = some (a, r)) : r.length < s.length := by
  cases s with
  | nil => cases h
  | cons x s =>
    rw [pNum] at h
    split at h
    · cases hp : pAbs s with
      | none => rw [hp] at h; cases h
      | some p =>
        obtain ⟨n, r'⟩ := p
        rw [hp] at h
        have := pAbs_lt hp
        simp only at h
        split at h
        · cases h; simp; omega
        · cases h
    · exact pAbs_lt h
theorem pItem_lt {s r : List Int} {x : It} (h : pItem s = some (x, r)) : r.length < s.length := by
  unfold pItem at h
  cases h0 : pNum s with
  | none => rw [h0] at h; cases h
  | some p0 =>
    obtain ⟨a, s1⟩ := p0
    rw [h0] at h; simp only at h
    cases h1 : pSign 32 s1 with
    | none => rw [h1] at h; cases h
    | some s2 =>
      rw [h1] at h; simp only at h
      cases h2 : pNum s2 with
      | none => rw [h2] at h; cases h
      | some p2 =>
        obtain ⟨k, s3⟩ := p2
        rw [h2] at h; simp only at h
        cases h3 : pSign 32 s3 with
        | none => rw [h3] at h; cases h
        | some s4 =>
          rw [h3] at h; simp only at h
          cases h4 : pNum s4 with
          | none => rw [h4] at h; cases h
          | some p4 =>
            obtain ⟨v, s5⟩ := p4
            rw [h4] at h; simp only at h
            cases h5 : pSign 32 s5 with
            | none => rw [h5] at h; cases h
            | some s6 =>
              rw [h5] at h; simp only at h
              cases h6 : pNum s6 with
              | none => rw [h6] at h; cases h
              | some p6 =>
                obtain ⟨n, s7⟩ := p6
                rw [h6] at h
                cases h
                have := pNum_lt h0
                have := pSign_lt h1
                have := pNum_lt h2
                have := pSign_lt h3
                have := pNum_lt h4
                have := pSign_lt h5
                have := pNum_lt h6
                omega
theorem item_yes {tb : Nat} {s r : List Int} {x : It} (w : World) (h : LeftIs w tb 87 s) (hp : pItem s = some (x, r)) : Calls Tryz.prog 63 #[.pointer (some ⟨tb, 0, none⟩)] w fun e w' => e = .returned (.agg #[.int .i64 x.r.at_, .int .i64 x.r.key, .int .i64 x.r.val, .int .i64 x.n]) ∧ LeftIs w' tb 87 r ∧ w.grownBy w' (some tb) := by
  have := item_any tb s w h
  rw [hp] at this
  exact this
theorem item_no {tb : Nat} {s : List Int} (w : World) (h : LeftIs w tb 87 s) (hp : pItem s = none) : Calls Tryz.prog 63 #[.pointer (some ⟨tb, 0, none⟩)] w fun e w' => e = .panicked wrongChain ∧ w.grownBy w' (some tb) := by
  have := item_any tb s w h
  rw [hp] at this
  exact this

structure PRel (base tb S : Nat) (w : World) (R : Option (List It)) (f : Nat) (rest : List Int) (L : List It) (v : Value) (wr : World) : Prop where
  own : Own It.vs 4 40 base wr v L
  left : LeftIs wr tb 87 rest
  g : w.grownBy wr (some tb)
  r : pAll f rest L = R
  lt : rest.length < f
  sz : L.length + rest.length ≤ S
theorem PRel.sep {base tb S : Nat} {w : World} {R : Option (List It)} {f : Nat} {rest r : List Int} {L : List It} {v : Value} {wr w' : World} (h : PRel base tb S w R f rest L v wr) (hb : tb < base) (_hl : LeftIs w' tb 87 r) (hg : wr.grownBy w' (some tb)) : Own It.vs 4 40 base w' v L ∧ w.grownBy w' (some tb) :=
  ⟨h.own.grown hg (.inr (fun e => by have := (h.own.blk _ e).1; omega)), h.g.then_ hg (fun _ e => .inr e)⟩

theorem PRel.next {base tb S : Nat} {w : World} {R : Option (List It)} {f : Nat} {r : List Int} {L : List It} {x : It} {v v4 : Value} {w3 w4 : World} {o : Obj} (htb : tb < base) (hbase : base = w.heap.size) (hown : Own It.vs 4 40 base w3 v L) (hg : w.grownBy w3 (some tb)) (hl : LeftIs w3 tb 87 r) (hown4 : Own It.vs 4 40 base w4 v4 (L ++ [x])) (hg4 : (w3.alloc o).grownBy w4 v.ownBlock) (hR : pAll f r (L ++ [x]) = R) (hlt : r.length < f) (hsz : L.length + 1 + r.length ≤ S) : PRel base tb S w R f r (L ++ [x]) v4 w4 where
  own := hown4
  left := (hl.later (w' := w3.alloc o) (row := none) ⟨rfl, rfl, rfl, by simp, fun i hi _ => Below.heap_alloc _ _ _ hi⟩ (fun x e => by cases e)).later hg4 (fun k e => by have := (hown.blk k e).1; omega)
  g := by
    have h3 : w.grownBy (w3.alloc o) (some tb) := hg.then_ ⟨rfl, rfl, rfl, by simp, fun i hi _ => Below.heap_alloc _ _ _ hi⟩ (fun _ e => .inr e)
    exact ⟨hg4.os.trans h3.os, hg4.tape.trans h3.tape, hg4.output.trans h3.output, Nat.le_trans h3.size hg4.size, fun i hi hne => (hg4.block i (Nat.lt_of_lt_of_le hi h3.size) (fun e => by have := (hown.blk i e.symm).1; omega)).trans (h3.block i hi hne)⟩
  r := hR
  lt := hlt
  sz := by rw [List.length_append]; simpa using hsz

set_option maxRecDepth 100000 in
set_option maxHeartbeats 2000000 in
theorem parse1_any (cb tb base S : Nat) (s : List Int) (w : World) (h : LeftIs w tb 87 s) (hc : w.heap[cb]? = some (.cells #[.pointer (some ⟨tb, 0, none⟩)] 83)) (hct : cb ≠ tb) (hbase : base = w.heap.size) (hS : s.length = S) (hS2 : S * 32 ≤ 140737488355328) :
    Calls Tryz.prog 60 #[.pointer (some ⟨cb, 0, none⟩)] w (BagOut base tb w (pBag s)) := by
  have HC := Lib.hid hc
  have HS2 := Lib.hid hS2
  have HCT := Lib.hid hct
  have HB := Lib.hid hbase
  have HTB : Hid (tb < base) := by rw [hbase]; exact h.lt
  obtain ⟨R, hR⟩ : ∃ R, pBag s = R := ⟨_, rfl⟩
  have HREL : Hid (PRel base tb S w R (s.length + 1) s [] (.slice none 0 0) w) := ⟨Own.nil _ _ _ _ _, h, World.grownBy.refl _ _, hR, by omega, by simp; omega⟩
  rw [hR]
  clear hc hS2 hS hbase h hR hct
  go_enter Tryz.func60, Tryz.ntmps60
  go_wp2
  go_loopw [2] (fun v wr => ∃ f rest L, PRel base tb S w R f rest L v wr) (fun _ wr => leftLen tb wr)
  case atStart => exact ⟨_, _, _, HREL.out⟩
  case round =>
    clear HREL
    obtain ⟨f, rest, L, hrel⟩ := hrel
    obtain ⟨A0, cap0, rfl⟩ := hrel.own.shape
    have hcb := (hrel.g.block cb (Array.getElem?_eq_some_iff.1 HC.out).1 (fun e => HCT.out (Option.some.inj e))).trans HC.out
    have cc := cell_at_block (off := 0) hcb rfl
    have D := Lib.hid (done_any tb _ rest _ hrel.left)
    have HR := Lib.hid hrel
    clear hcb hrel
    cases rest with
    | nil =>
      -- ROUND
      have HF : Hid (R = some L) := by
        obtain ⟨f, rfl⟩ : ∃ f', f = f' + 1 := ⟨f - 1, by have := HR.out.lt; omega⟩
        show _ = _
        rw [← HR.out.r, pAll, if_pos rfl]
      go_wp2_with (go_at_call 61; (with_reducible refine D.out.mono ?_); rintro e w' ⟨rfl, rfl⟩)
      go_ret
      show BagOut _ _ _ R _ _
      rw [HF.out]
      exact ⟨_, rfl, HR.out.own, HR.out.g⟩
    | cons y t =>
      obtain ⟨f, rfl⟩ : ∃ f', f = f' + 1 := ⟨f - 1, by have := HR.out.lt; omega⟩
      have hcons : y :: t ≠ [] := by simp
      cases hL : L.isEmpty with
      | true =>
        have hlen : decide (0 < L.length) = false := by rw [List.isEmpty_iff.1 hL]; rfl
        have PK := HR
        cases hi : pItem (y :: t) with
        | none =>
          have HF : Hid (R = none) := by show _ = _; rw [← HR.out.r]; simp [pAll, pSep, hL, hi]
          have CI := Lib.hid (item_no _ PK.out.left hi)
          clear hcons hL hi
          go_wp2_with (first | (go_at_call 61; (with_reducible refine D.out.mono ?_); rintro e w' ⟨rfl, rfl⟩) | (go_at_call 63; (with_reducible refine CI.out.mono ?_); rintro e wz ⟨rfl, hg⟩; have HZ := Lib.hid hg; clear hg))
          refine ⟨rfl, ?_⟩
          show BagOut _ _ _ R _ _
          rw [HF.out]
          exact ⟨rfl, (PK.out.g).then_ HZ.out (fun _ e => .inr e)⟩
        | some q =>
          obtain ⟨x, r⟩ := q
          have HF : Hid (pAll f r (L ++ [x]) = R) := by show _ = _; rw [← HR.out.r]; simp [pAll, pSep, hL, hi]
          have HLT := Lib.hid (pItem_lt hi)
          have CI := Lib.hid (item_yes _ PK.out.left hi)
          clear hcons hL hi
          go_wp2_with (first | (go_at_call 61; (with_reducible refine D.out.mono ?_); rintro e w' ⟨rfl, rfl⟩) | (go_at_call 63; (with_reducible refine CI.out.mono ?_); rintro e w3 ⟨rfl, hl, hg⟩; have HL3 := Lib.hid hl; have HO3 := Lib.hid (PK.out.sep HTB.out hl hg); have HSZ := Lib.hid PK.out.sz; clear hl hg) | (at_builtin; refine wpList_app1 It.vs 4 40 _ 32 infoIt rfl (by decide) rfl _ _ _ rfl Tryz.underlying23 base _ L rfl (HO3.out.1.alloc _) x _ _ rfl rfl (newAt _ _ _ _ rfl) (by simp [It.vs, Value.oneCell']) (by have := HSZ.out; have := HS2.out; have := HLT.out; omega) (by have := HSZ.out; have := HS2.out; have := HLT.out; unfold maxLen; omega) (by have := HO3.out.2.size; have := HB.out; simp; omega) (fun v4 w4 hown4 hg4 _ => ?_)))
          have P4 := PRel.next (S := S) HTB.out HB.out HO3.out.1 HO3.out.2 HL3.out hown4 hg4 HF.out (by have := PK.out.lt; have := HLT.out; omega) (by have := HSZ.out; have := HLT.out; omega)
          refine ⟨⟨_, r, _, P4⟩, ?_⟩
          rw [P4.left.len_of, HR.out.left.len_of]
          have := HLT.out
          simpa using this
      | false =>
        have hlen : decide (0 < L.length) = true := by
          cases L with
          | nil => cases hL
          | cons _ _ => simp
        cases h1 : pSign 59 (y :: t) with
        | none =>
          have HF : Hid (R = none) := by show _ = _; rw [← HR.out.r]; simp [pAll, pSep, hL, h1]
          have C1 := Lib.hid (sign_no _ HR.out.left h1)
          clear hcons hL h1
          go_wp2_with (first | (go_at_call 61; (with_reducible refine D.out.mono ?_); rintro e w' ⟨rfl, rfl⟩) | (go_at_call 62; (with_reducible refine C1.out.mono ?_); rintro e wz ⟨rfl, hg⟩; have HZ := Lib.hid hg; clear hg))
          refine ⟨rfl, ?_⟩
          show BagOut _ _ _ R _ _
          rw [HF.out]
          exact ⟨rfl, HR.out.g.then_ HZ.out (fun _ e => .inr e)⟩
        | some s1 =>
          have C1 := Lib.hid (sign_yes _ HR.out.left h1)
          go_wp2_with (first | (go_at_call 61; (with_reducible refine D.out.mono ?_); rintro e w' ⟨rfl, rfl⟩) | fail)
          (with_reducible refine C1.out.mono ?_)
          rintro e wa ⟨rfl, hla, hga⟩
          have PA := HR.out.sep HTB.out hla hga
          have cca := cell_at_block (off := 0) ((PA.2.block cb (Array.getElem?_eq_some_iff.1 HC.out).1 (fun e => HCT.out (Option.some.inj e))).trans HC.out) rfl
          have HPA := Lib.hid PA
          have HLA := Lib.hid hla
          clear PA hla hga C1 cc D
          cases h2 : pSign 32 s1 with
          | none =>
            have HF : Hid (R = none) := by show _ = _; rw [← HR.out.r]; simp [pAll, pSep, hL, h1, h2]
            have C2 := Lib.hid (sign_no _ HLA.out h2)
            clear hcons hL h1 h2
            go_wp2_with (go_at_call 62; (with_reducible refine C2.out.mono ?_); rintro e wz ⟨rfl, hg⟩; have HZ := Lib.hid hg; clear hg)
            refine ⟨rfl, ?_⟩
            show BagOut _ _ _ R _ _
            rw [HF.out]
            exact ⟨rfl, HPA.out.2.then_ HZ.out (fun _ e => .inr e)⟩
          | some s2 =>
            have C2 := Lib.hid (sign_yes _ HLA.out h2)
            go_wp2_with fail
            (with_reducible refine C2.out.mono ?_)
            rintro e wb ⟨rfl, hlb, hgb⟩
            have HLT2 : Hid (s2.length < (y :: t).length) := Nat.lt_trans (pSign_lt h2) (pSign_lt h1)
            have PK : Hid (PRel base tb S w (pAll (f + 1) s2 L) (f + 1) s2 L (.slice A0 L.length cap0) wb) := ⟨HPA.out.1.grown hgb (.inr (fun e => by have := (HPA.out.1.blk _ e).1; have := HTB.out; omega)), hlb, HPA.out.2.then_ hgb (fun _ e => .inr e), rfl, by have := HR.out.lt; have := HLT2.out; omega, by have := HR.out.sz; have := HLT2.out; omega⟩
            have ccb := cell_at_block (off := 0) ((PK.out.g.block cb (Array.getElem?_eq_some_iff.1 HC.out).1 (fun e => HCT.out (Option.some.inj e))).trans HC.out) rfl
            clear hlb hgb C2 cca
            cases hi : pItem s2 with
            | none =>
              have HF : Hid (R = none) := by show _ = _; rw [← HR.out.r]; simp [pAll, pSep, hL, hi, h1, h2]
              have CI := Lib.hid (item_no _ PK.out.left hi)
              clear hcons hL hi
              go_wp2_with (first | (go_at_call 63; (with_reducible refine CI.out.mono ?_); rintro e wz ⟨rfl, hg⟩; have HZ := Lib.hid hg; clear hg))
              refine ⟨rfl, ?_⟩
              show BagOut _ _ _ R _ _
              rw [HF.out]
              exact ⟨rfl, (PK.out.g).then_ HZ.out (fun _ e => .inr e)⟩
            | some q =>
              obtain ⟨x, r⟩ := q
              have HF : Hid (pAll f r (L ++ [x]) = R) := by show _ = _; rw [← HR.out.r]; simp [pAll, pSep, hL, hi, h1, h2]
              have HLT := Lib.hid (pItem_lt hi)
              have CI := Lib.hid (item_yes _ PK.out.left hi)
              clear hcons hL hi
              go_wp2_with (first | (go_at_call 63; (with_reducible refine CI.out.mono ?_); rintro e w3 ⟨rfl, hl, hg⟩; have HL3 := Lib.hid hl; have HO3 := Lib.hid (PK.out.sep HTB.out hl hg); have HSZ := Lib.hid PK.out.sz; clear hl hg) | (at_builtin; refine wpList_app1 It.vs 4 40 _ 32 infoIt rfl (by decide) rfl _ _ _ rfl Tryz.underlying23 base _ L rfl (HO3.out.1.alloc _) x _ _ rfl rfl (newAt _ _ _ _ rfl) (by simp [It.vs, Value.oneCell']) (by have := HSZ.out; have := HS2.out; have := HLT.out; omega) (by have := HSZ.out; have := HS2.out; have := HLT.out; unfold maxLen; omega) (by have := HO3.out.2.size; have := HB.out; simp; omega) (fun v4 w4 hown4 hg4 _ => ?_)))
              have P4 := PRel.next (S := S) HTB.out HB.out HO3.out.1 HO3.out.2 HL3.out hown4 hg4 HF.out (by have := PK.out.lt; have := HLT.out; omega) (by have := HSZ.out; have := HLT.out; omega)
              refine ⟨⟨_, r, _, P4⟩, ?_⟩
              rw [P4.left.len_of, HR.out.left.len_of]
              have := HLT.out
              have := HLT2.out; simp at this ⊢; omega

end Go.Proofs.Bg
