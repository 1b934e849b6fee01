/- The contract of turned. -/
import Derived.StillTactics
import Derived.Deep.RegionHeld3
import Derived.Deep.AppendLies
import Derived.Test.YtcbemmlhpinjkaaGreatDoorBgLess
namespace Go.Proofs.Bg
open Go.RowKit

/-- An edit. -/
structure Ed where
  d : Int
  old : Rc
  new : Rc
  n : Int
deriving DecidableEq
def Ed.vs (x : Ed) : List Value := [.int .i64 x.d, .int .i64 x.old.at_, .int .i64 x.old.key, .int .i64 x.old.val, .int .i64 x.new.at_, .int .i64 x.new.key, .int .i64 x.new.val, .int .i64 x.n]
theorem Ed.vs_length (x : Ed) : x.vs.length = 8 := rfl
def zRc : Rc := ⟨0, 0, 0⟩
def goneE (x : It) : Ed := ⟨2, x.r, zRc, x.n⟩
def sayE (x : It) : Ed := ⟨1, zRc, x.r, x.n⟩
theorem infoEd : (Tryz.prog.info? 79).map (fun i => (i.zero, i.size, i.bytes)) = some (some (.agg #[.int .i64 0, .int .i64 0, .int .i64 0, .int .i64 0, .int .i64 0, .int .i64 0, .int .i64 0, .int .i64 0]), 8, 64) := by kernel_rfl

def turnF : Nat → List It → List It → List Ed
  | 0, _, _ => []
  | _ + 1, [], l2 => l2.map sayE
  | _ + 1, x :: r, [] => (x :: r).map goneE
  | f + 1, x :: r, y :: s => ⟨3, x.r, y.r, min x.n y.n⟩ :: turnF f (lessL (x :: r) (min x.n y.n)) (lessL (y :: s) (min x.n y.n))
def turnL (l1 l2 : List It) : List Ed := turnF (l1.length + l2.length + 1) l1 l2

theorem lessL_length (x : It) (r : List It) (k : Int) : (lessL (x :: r) k).length = if x.n = k then r.length else r.length + 1 := by
  simp only [lessL]
  split <;> simp
def PosL (l : List It) : Prop := ∀ x ∈ l, 0 < x.n ∧ x.n ≤ 1000000000000000
theorem PosL.less {x : It} {r : List It} {k : Int} (h : PosL (x :: r)) (hk : 0 < k) (hk2 : k ≤ x.n) : PosL (lessL (x :: r) k) := by
  obtain ⟨h1, h2⟩ := h x List.mem_cons_self
  simp only [lessL]
  split
  · exact fun y hy => h y (List.mem_cons_of_mem _ hy)
  · intro y hy
    rcases List.mem_cons.1 hy with rfl | hy
    · exact ⟨by simp only; omega, by simp only; omega⟩
    · exact h y (List.mem_cons_of_mem _ hy)

/-- Nothing old has turned but two blocks. -/
structure But2 (w w' : World) (b1 b2 : Nat) : Prop where
  os : w'.os = w.os
  tape : w'.tape = w.tape
  output : w'.output = w.output
  size : w.heap.size ≤ w'.heap.size
  block : ∀ i, i < w.heap.size → i ≠ b1 → i ≠ b2 → w'.heap[i]? = w.heap[i]?
theorem But2.refl (w : World) (b1 b2 : Nat) : But2 w w b1 b2 := ⟨rfl, rfl, rfl, Nat.le_refl _, fun _ _ _ _ => rfl⟩
theorem But2.then_ {w w' w2 : World} {b1 b2 : Nat} {row : Option Nat} (h : But2 w w' b1 b2) (hg : w'.grownBy w2 row) (hr : ∀ k, row = some k → w.heap.size ≤ k ∨ k = b1 ∨ k = b2) : But2 w w2 b1 b2 :=
  ⟨hg.os.trans h.os, hg.tape.trans h.tape, hg.output.trans h.output, Nat.le_trans h.size hg.size, fun i hi h1 h2 => (hg.block i (Nat.lt_of_lt_of_le hi h.size) (fun e => by rcases hr i e.symm with h | h | h <;> omega)).trans (h.block i hi h1 h2)⟩

/-- What the first loop holds. -/
structure TRel (b1 b2 S : Nat) (w : World) (R : List Ed) (f : Nat) (l1 l2 : List It) (L : List Ed) (A1 : Option Addr) (cap1 : Nat) (A2 : Option Addr) (cap2 : Nat) (v : Value) (wr : World) : Prop where
  w1 : Win b1 wr A1 cap1 l1
  w2 : Win b2 wr A2 cap2 l2
  own : Own Ed.vs 8 79 w.heap.size wr v L
  r : L ++ turnF f l1 l2 = R
  lt : l1.length + l2.length < f
  sz : L.length + l1.length + l2.length ≤ S
  b : But2 w wr b1 b2
  p1 : PosL l1
  p2 : PosL l2
  s1 : l1 ≠ [] → b1 < w.heap.size
  s2 : l2 ≠ [] → b2 < w.heap.size
  s3 : l1 ≠ [] → l2 ≠ [] → b1 ≠ b2

/-- Behind the append: the windows are as they were. -/
theorem TRel.app {b1 b2 S : Nat} {w : World} {R : List Ed} {f : Nat} {l1 l2 : List It} {L : List Ed} {A1 A2 : Option Addr} {cap1 cap2 : Nat} {v : Value} {wr : World} (h : TRel b1 b2 S w R f l1 l2 L A1 cap1 A2 cap2 v wr) {w' : World} (hg : wr.grownBy w' v.ownBlock) : Win b1 w' A1 cap1 l1 ∧ Win b2 w' A2 cap2 l2 ∧ But2 w w' b1 b2 :=
  ⟨h.w1.kept hg (fun hl e => by have := (h.own.blk _ e).1; have := h.s1 hl; omega), h.w2.kept hg (fun hl e => by have := (h.own.blk _ e).1; have := h.s2 hl; omega), h.b.then_ hg (fun k e => .inl (h.own.blk _ e).1)⟩

/-- What the two other loops hold. -/
structure ORel (b1 b2 : Nat) (w : World) (m1 m2 : List It) (B1 : Option Addr) (c1 : Nat) (B2 : Option Addr) (c2 : Nat) (LL : List Ed) (v : Value) (wr : World) : Prop where
  own : Own Ed.vs 8 79 w.heap.size wr v LL
  w1 : Win b1 wr B1 c1 m1
  w2 : Win b2 wr B2 c2 m2
  b : But2 w wr b1 b2
  s1 : m1 ≠ [] → b1 < w.heap.size
  s2 : m2 ≠ [] → b2 < w.heap.size
theorem ORel.app {b1 b2 : Nat} {w : World} {m1 m2 : List It} {B1 B2 : Option Addr} {c1 c2 : Nat} {LL L2 : List Ed} {v v' : Value} {wr w' W : World} (h : ORel b1 b2 w m1 m2 B1 c1 B2 c2 LL v wr) (h0 : wr.grownBy W none) (hg : W.grownBy w' v.ownBlock) (ho : Own Ed.vs 8 79 w.heap.size w' v' L2) : ORel b1 b2 w m1 m2 B1 c1 B2 c2 L2 v' w' where
  own := ho
  w1 := (h.w1.kept h0 (fun _ e => by cases e)).kept hg (fun hl e => by have := (h.own.blk _ e).1; have := h.s1 hl; omega)
  w2 := (h.w2.kept h0 (fun _ e => by cases e)).kept hg (fun hl e => by have := (h.own.blk _ e).1; have := h.s2 hl; omega)
  b := (h.b.then_ h0 (fun k e => by cases e)).then_ hg (fun k e => .inl (h.own.blk _ e).1)
  s1 := h.s1
  s2 := h.s2
theorem alloc_none (w : World) (o : Obj) : w.grownBy (w.alloc o) none := ⟨rfl, rfl, rfl, by simp, fun i hi _ => Below.heap_alloc _ _ _ hi⟩
theorem alloc2_none (w : World) (o o' : Obj) : w.grownBy ((w.alloc o).alloc o') none := ⟨rfl, rfl, rfl, by simp; omega, fun i hi _ => by rw [Below.heap_alloc _ _ _ (by simp; omega), Below.heap_alloc _ _ _ hi]⟩
theorem turnF_out {f : Nat} {m1 m2 : List It} (h : m1 = [] ∨ m2 = []) : turnF (f + 1) m1 m2 = m1.map goneE ++ m2.map sayE := by
  cases m1 with
  | nil => simp [turnF]
  | cons x r =>
    rcases h with h | h
    · cases h
    · subst h; simp [turnF]
theorem own_ed {base : Nat} {w : World} {v : Value} {L : List Ed} {e : Ed} {n : Nat} {xs : List Value} (h : w.ownsRow base 79 8 v n xs) (hn : n = L.length + 1) (hx : xs = L.flatMap Ed.vs ++ e.vs) : Own Ed.vs 8 79 base w v (L ++ [e]) := by
  unfold Own
  rw [List.length_append, List.flatMap_append]
  subst hn hx
  simpa using h

set_option maxRecDepth 100000 in
set_option maxHeartbeats 2000000 in
theorem turned_any (b1 b2 : Nat) (A1 A2 : Option Addr) (cap1 cap2 : Nat) (l1 l2 : List It) (w : World) (h1 : Win b1 w A1 cap1 l1) (h2 : Win b2 w A2 cap2 l2) (hp1 : PosL l1) (hp2 : PosL l2) (hne : l1 ≠ [] → l2 ≠ [] → b1 ≠ b2) (hS2 : (l1.length + l2.length) * 64 ≤ 140737488355328) :
    Calls Tryz.prog 78 #[.slice A1 l1.length cap1, .slice A2 l2.length cap2] w fun e w' => ∃ v, e = .returned v ∧ Own Ed.vs 8 79 w.heap.size w' v (turnL l1 l2) ∧ But2 w w' b1 b2 := by
  obtain ⟨R, hR⟩ : ∃ R, turnL l1 l2 = R := ⟨_, rfl⟩
  obtain ⟨S, hS⟩ : ∃ S, l1.length + l2.length = S := ⟨_, rfl⟩
  rw [hS] at hS2
  rw [hR]
  have lt_of : ∀ {b A cap l}, Win b w A cap l → l ≠ [] → b < w.heap.size := fun hw hl => by
    obtain ⟨_, _, c, hb⟩ := hw.blk hl
    exact (Array.getElem?_eq_some_iff.1 hb).1
  have HREL : Hid (TRel b1 b2 S w R (l1.length + l2.length + 1) l1 l2 [] A1 cap1 A2 cap2 (.slice none 0 0) w) := ⟨h1, h2, Own.nil _ _ _ _ _, hR, by omega, by simp; omega, But2.refl _ _ _, hp1, hp2, lt_of h1, lt_of h2, hne⟩
  have HS2 := Lib.hid hS2
  clear h1 h2 hp1 hp2 hne hS hR hS2 lt_of
  obtain ⟨i0, hi0, hz0, hz1, hz2⟩ := info_parts infoEd
  go_enter Tryz.func78, Tryz.ntmps78
  go_wp2_with fail
  go_loopw [0, 1, 5] (fun v0 v1 v wr => ∃ f l1 l2 L A1 cap1 A2 cap2, v0 = .slice A1 l1.length cap1 ∧ v1 = .slice A2 l2.length cap2 ∧ TRel b1 b2 S w R f l1 l2 L A1 cap1 A2 cap2 v wr) (fun v0 v1 _ _ => lenOf v0 + lenOf v1)
  case atStart => exact ⟨_, _, _, _, _, _, _, _, rfl, rfl, HREL.out⟩
  case round =>
    clear HREL
    obtain ⟨f, m1, m2, L, B1, c1, B2, c2, rfl, rfl, hrel⟩ := hrel
    obtain ⟨B3, c3, rfl⟩ := hrel.own.shape
    have HR := Lib.hid hrel
    clear hrel
    -- ROUND
    have hf : ∃ f', f = f' + 1 := ⟨f - 1, by have := HR.out.lt; omega⟩
    obtain ⟨f, rfl⟩ := hf
    by_cases hm1 : m1 = []
    · have HF : Hid (L ++ (m1.map goneE ++ m2.map sayE) = R) := by show _ = _; rw [← HR.out.r, turnF_out (.inl hm1)]
      have hd1 : decide (0 < m1.length) = false := by rw [hm1]; rfl
      clear hm1
      have OR : Hid (ORel b1 b2 w m1 m2 B1 c1 B2 c2 L (.slice B3 L.length c3) wr) := ⟨HR.out.own, HR.out.w1, HR.out.w2, HR.out.b, HR.out.s1, HR.out.s2⟩
      have HSZ : Hid (L.length + m1.length + m2.length ≤ S) := HR.out.sz
      clear HR
      go_wp2_with fail
      clear hd1
      go_loopw [5, 8, 49] (fun v _ ii wi => ∃ k : Nat, k ≤ m1.length ∧ ii = .int .i64 k ∧ ORel b1 b2 w m1 m2 B1 c1 B2 c2 (L ++ (m1.take k).map goneE) v wi) (fun _ _ ii _ => m1.length - (intOf ii).toNat)
      case atStart => exact ⟨0, by omega, rfl, by simpa using OR.out⟩
      case round =>
        clear OR
        obtain ⟨k, hk, rfl, hor⟩ := hrel
        obtain ⟨A3, cap3, rfl⟩ := hor.own.shape
        have OR := Lib.hid hor
        by_cases hlt : k < m1.length
        · obtain ⟨b, off, x, rfl, _, hx, c0, e1, e2, e3⟩ := hor.w1.rd.it_at hlt
          have hle := hor.w1.rd.2.1
          have ht : L ++ (m1.take (k + 1)).map goneE = (L ++ (m1.take k).map goneE) ++ [goneE x] := by rw [List.take_add_one, hx]; simp
          have hll : (L ++ (m1.take k).map goneE).length + 1 ≤ S := by
            have := HSZ.out
            simp only [List.length_append, List.length_map, List.length_take]
            omega
          have hown := hor.own
          generalize L ++ (m1.take k).map goneE = LL at *
          have HT := Lib.hid ht
          have hs1 := hor.b.size
          have h64 : (LL.length + 1) * 64 ≤ 140737488355328 := by have := HS2.out; omega
          clear ht hx hor
          generalize hM : m1.length = M at *
          have HM := Lib.hid hM
          clear hM
          go_wp2_with (at_builtin; refine wpList_app1 Ed.vs 8 79 _ 64 infoEd rfl (by decide) rfl _ _ _ rfl Tryz.underlying46 w.heap.size _ LL rfl ((hown.alloc _).alloc _) (goneE x) _ _ rfl rfl (newAt _ _ _ _ (by simp)) (by simp [Ed.vs, goneE, zRc, Value.oneCell']) h64 (by unfold maxLen; omega) (by simp; omega) (fun v4 w4 hown4 hg4 _ => ?_))
          refine ⟨⟨k + 1, by omega, by go_num, ?_⟩, by simp [intOf]; omega⟩
          rw [HT.out]
          exact OR.out.app (alloc2_none _ _ _) hg4 hown4
        · have hk' : k = m1.length := by omega
          subst hk'
          simp only [List.take_length] at OR ⊢
          have hle := hor.w1.rd.2.1
          clear hor hlt hk
          generalize hLL : (L ++ m1.map goneE).length = Q at *
          clear hLL
          go_wp2_with fail
          go_loopw [5, 10, 64] (fun v _ ii wi => ∃ k : Nat, k ≤ m2.length ∧ ii = .int .i64 k ∧ ORel b1 b2 w m1 m2 B1 c1 B2 c2 ((L ++ m1.map goneE) ++ (m2.take k).map sayE) v wi) (fun _ _ ii _ => m2.length - (intOf ii).toNat)
          case atStart => exact ⟨0, by omega, rfl, by simpa using OR.out⟩
          case round =>
            clear OR
            obtain ⟨k, hk, rfl, hor⟩ := hrel
            obtain ⟨A3, cap3, rfl⟩ := hor.own.shape
            have OR := Lib.hid hor
            by_cases hlt : k < m2.length
            · obtain ⟨b, off, x, rfl, _, hx, c0, e1, e2, e3⟩ := hor.w2.rd.it_at hlt
              have hle := hor.w2.rd.2.1
              have ht : (L ++ m1.map goneE) ++ (m2.take (k + 1)).map sayE = ((L ++ m1.map goneE) ++ (m2.take k).map sayE) ++ [sayE x] := by rw [List.take_add_one, hx]; simp
              have hll : ((L ++ m1.map goneE) ++ (m2.take k).map sayE).length + 1 ≤ S := by
                have := HSZ.out
                simp only [List.length_append, List.length_map, List.length_take]
                omega
              have hown := hor.own
              generalize (L ++ m1.map goneE) ++ (m2.take k).map sayE = LL at *
              have HT := Lib.hid ht
              have hs1 := hor.b.size
              have h64 : (LL.length + 1) * 64 ≤ 140737488355328 := by have := HS2.out; omega
              clear ht hx hor
              generalize hM : m2.length = M at *
              have HM := Lib.hid hM
              clear hM
              go_wp2_with (at_builtin; refine wpList_app1 Ed.vs 8 79 _ 64 infoEd rfl (by decide) rfl _ _ _ rfl Tryz.underlying46 w.heap.size _ LL rfl ((hown.alloc _).alloc _) (sayE x) _ _ rfl rfl (newAt _ _ _ _ (by simp)) (by simp [Ed.vs, sayE, zRc, Value.oneCell']) h64 (by unfold maxLen; omega) (by simp; omega) (fun v4 w4 hown4 hg4 _ => ?_))
              refine ⟨⟨k + 1, by omega, by go_num, ?_⟩, by simp [intOf]; omega⟩
              rw [HT.out]
              exact OR.out.app (alloc2_none _ _ _) hg4 hown4
            · have hk' : k = m2.length := by omega
              subst hk'
              simp only [List.take_length] at OR ⊢
              have hle := hor.w2.rd.2.1
              clear hor hlt hk
              generalize hLL : ((L ++ m1.map goneE) ++ m2.map sayE).length = Q at *
              clear hLL
              go_wp2_with fail
              go_ret
              have o := OR.out.own
              rw [List.append_assoc, HF.out] at o
              exact ⟨_, rfl, o, OR.out.b⟩
    · by_cases hm2 : m2 = []
      · have HF : Hid (L ++ (m1.map goneE ++ m2.map sayE) = R) := by show _ = _; rw [← HR.out.r, turnF_out (.inr hm2)]
        have hd1 : decide (0 < m1.length) = true := by cases m1 with | nil => exact absurd rfl hm1 | cons _ _ => simp
        have hd2 : decide (0 < m2.length) = false := by rw [hm2]; rfl
        clear hm1 hm2
        have OR : Hid (ORel b1 b2 w m1 m2 B1 c1 B2 c2 L (.slice B3 L.length c3) wr) := ⟨HR.out.own, HR.out.w1, HR.out.w2, HR.out.b, HR.out.s1, HR.out.s2⟩
        have HSZ : Hid (L.length + m1.length + m2.length ≤ S) := HR.out.sz
        clear HR
        go_wp2_with fail
        clear hd1 hd2
        go_loopw [5, 8, 49] (fun v _ ii wi => ∃ k : Nat, k ≤ m1.length ∧ ii = .int .i64 k ∧ ORel b1 b2 w m1 m2 B1 c1 B2 c2 (L ++ (m1.take k).map goneE) v wi) (fun _ _ ii _ => m1.length - (intOf ii).toNat)
        case atStart => exact ⟨0, by omega, rfl, by simpa using OR.out⟩
        case round =>
          clear OR
          obtain ⟨k, hk, rfl, hor⟩ := hrel
          obtain ⟨A3, cap3, rfl⟩ := hor.own.shape
          have OR := Lib.hid hor
          by_cases hlt : k < m1.length
          · obtain ⟨b, off, x, rfl, _, hx, c0, e1, e2, e3⟩ := hor.w1.rd.it_at hlt
            have hle := hor.w1.rd.2.1
            have ht : L ++ (m1.take (k + 1)).map goneE = (L ++ (m1.take k).map goneE) ++ [goneE x] := by rw [List.take_add_one, hx]; simp
            have hll : (L ++ (m1.take k).map goneE).length + 1 ≤ S := by
              have := HSZ.out
              simp only [List.length_append, List.length_map, List.length_take]
              omega
            have hown := hor.own
            generalize L ++ (m1.take k).map goneE = LL at *
            have HT := Lib.hid ht
            have hs1 := hor.b.size
            have h64 : (LL.length + 1) * 64 ≤ 140737488355328 := by have := HS2.out; omega
            clear ht hx hor
            generalize hM : m1.length = M at *
            have HM := Lib.hid hM
            clear hM
            go_wp2_with (at_builtin; refine wpList_app1 Ed.vs 8 79 _ 64 infoEd rfl (by decide) rfl _ _ _ rfl Tryz.underlying46 w.heap.size _ LL rfl ((hown.alloc _).alloc _) (goneE x) _ _ rfl rfl (newAt _ _ _ _ (by simp)) (by simp [Ed.vs, goneE, zRc, Value.oneCell']) h64 (by unfold maxLen; omega) (by simp; omega) (fun v4 w4 hown4 hg4 _ => ?_))
            refine ⟨⟨k + 1, by omega, by go_num, ?_⟩, by simp [intOf]; omega⟩
            rw [HT.out]
            exact OR.out.app (alloc2_none _ _ _) hg4 hown4
          · have hk' : k = m1.length := by omega
            subst hk'
            simp only [List.take_length] at OR ⊢
            have hle := hor.w1.rd.2.1
            clear hor hlt hk
            generalize hLL : (L ++ m1.map goneE).length = Q at *
            clear hLL
            go_wp2_with fail
            go_loopw [5, 10, 64] (fun v _ ii wi => ∃ k : Nat, k ≤ m2.length ∧ ii = .int .i64 k ∧ ORel b1 b2 w m1 m2 B1 c1 B2 c2 ((L ++ m1.map goneE) ++ (m2.take k).map sayE) v wi) (fun _ _ ii _ => m2.length - (intOf ii).toNat)
            case atStart => exact ⟨0, by omega, rfl, by simpa using OR.out⟩
            case round =>
              clear OR
              obtain ⟨k, hk, rfl, hor⟩ := hrel
              obtain ⟨A3, cap3, rfl⟩ := hor.own.shape
              have OR := Lib.hid hor
              by_cases hlt : k < m2.length
              · obtain ⟨b, off, x, rfl, _, hx, c0, e1, e2, e3⟩ := hor.w2.rd.it_at hlt
                have hle := hor.w2.rd.2.1
                have ht : (L ++ m1.map goneE) ++ (m2.take (k + 1)).map sayE = ((L ++ m1.map goneE) ++ (m2.take k).map sayE) ++ [sayE x] := by rw [List.take_add_one, hx]; simp
                have hll : ((L ++ m1.map goneE) ++ (m2.take k).map sayE).length + 1 ≤ S := by
                  have := HSZ.out
                  simp only [List.length_append, List.length_map, List.length_take]
                  omega
                have hown := hor.own
                generalize (L ++ m1.map goneE) ++ (m2.take k).map sayE = LL at *
                have HT := Lib.hid ht
                have hs1 := hor.b.size
                have h64 : (LL.length + 1) * 64 ≤ 140737488355328 := by have := HS2.out; omega
                clear ht hx hor
                generalize hM : m2.length = M at *
                have HM := Lib.hid hM
                clear hM
                go_wp2_with (at_builtin; refine wpList_app1 Ed.vs 8 79 _ 64 infoEd rfl (by decide) rfl _ _ _ rfl Tryz.underlying46 w.heap.size _ LL rfl ((hown.alloc _).alloc _) (sayE x) _ _ rfl rfl (newAt _ _ _ _ (by simp)) (by simp [Ed.vs, sayE, zRc, Value.oneCell']) h64 (by unfold maxLen; omega) (by simp; omega) (fun v4 w4 hown4 hg4 _ => ?_))
                refine ⟨⟨k + 1, by omega, by go_num, ?_⟩, by simp [intOf]; omega⟩
                rw [HT.out]
                exact OR.out.app (alloc2_none _ _ _) hg4 hown4
              · have hk' : k = m2.length := by omega
                subst hk'
                simp only [List.take_length] at OR ⊢
                have hle := hor.w2.rd.2.1
                clear hor hlt hk
                generalize hLL : ((L ++ m1.map goneE) ++ m2.map sayE).length = Q at *
                clear hLL
                go_wp2_with fail
                go_ret
                have o := OR.out.own
                rw [List.append_assoc, HF.out] at o
                exact ⟨_, rfl, o, OR.out.b⟩
      · obtain ⟨x, r, rfl⟩ : ∃ x r, m1 = x :: r := by cases m1 with | nil => exact absurd rfl hm1 | cons x r => exact ⟨x, r, rfl⟩
        obtain ⟨y, s, rfl⟩ : ∃ y s, m2 = y :: s := by cases m2 with | nil => exact absurd rfl hm2 | cons y s => exact ⟨y, s, rfl⟩
        clear hm1 hm2
        -- BOTH
        obtain ⟨o1, k1, rfl, hc1, hl1, hb1, x0, x1, x2, x3⟩ := HR.out.w1.head
        obtain ⟨o2, k2, rfl, hc2, hl2, hb2, y0, y1, y2, y3⟩ := HR.out.w2.head
        obtain ⟨p1, p2⟩ := HR.out.p1 x List.mem_cons_self
        obtain ⟨q1, q2⟩ := HR.out.p2 y List.mem_cons_self
        have hm1 : 0 < min x.n y.n := by omega
        have hm2 : min x.n y.n ≤ x.n := by omega
        have hm3 : min x.n y.n ≤ y.n := by omega
        have ag : (Value.slice B3 L.length c3).ownBlock ≠ some b1 := fun e => by have := (HR.out.own.blk _ e).1; have := HR.out.s1 (by simp); omega
        have ak : (Value.slice B3 L.length c3).ownBlock ≠ some b2 := fun e => by have := (HR.out.own.blk _ e).1; have := HR.out.s2 (by simp); omega
        have hown : wr.ownsRow w.heap.size 79 8 (.slice B3 L.length c3) L.length (L.flatMap Ed.vs) := HR.out.own
        have hsz := HR.out.b.size
        have hL : (L.length + 1) * 64 ≤ 140737488355328 := by have := HR.out.sz; have := HS2.out; simp only [List.length_cons] at *; omega
        have lg := World.block_lt_of_cell? wr _ x0
        have lk := World.block_lt_of_cell? wr _ y0
        clear hb1 hb2
        simp only [List.length_cons]
        go_wp2_with fail
        go_region
        generalize hk : min x.n y.n = k at *
        have HK := Lib.hid hk
        go_wp2_with fail
        go_region_held3 (fun w' => w'.cell? ⟨b1, o1, none⟩ = some (.int .i64 x.r.at_) ∧ w'.cell? ⟨b1, o1 + 1, none⟩ = some (.int .i64 x.r.key) ∧ w'.cell? ⟨b1, o1 + 2, none⟩ = some (.int .i64 x.r.val) ∧ w'.cell? ⟨b2, o2, none⟩ = some (.int .i64 y.r.at_) ∧ w'.cell? ⟨b2, o2 + 1, none⟩ = some (.int .i64 y.r.key) ∧ w'.cell? ⟨b2, o2 + 2, none⟩ = some (.int .i64 y.r.val))
          (first
            | go_keep
            | (go_split_ands
               refine ⟨?_, ?_, ?_, ?_, ?_, ?_⟩
               · (rw [hgrow.cell_far _ (by simp; omega) (Ne.symm ag)]; assumption)
               · (rw [hgrow.cell_far _ (by simp; omega) (Ne.symm ag)]; assumption)
               · (rw [hgrow.cell_far _ (by simp; omega) (Ne.symm ag)]; assumption)
               · (rw [hgrow.cell_far _ (by simp; omega) (Ne.symm ak)]; assumption)
               · (rw [hgrow.cell_far _ (by simp; omega) (Ne.symm ak)]; assumption)
               · (rw [hgrow.cell_far _ (by simp; omega) (Ne.symm ak)]; assumption)))
          ((refine step_append_lies _ (by rfl) _ _ _ (by rfl) w.heap.size 79 i0 _ 8 64 Tryz.underlying46 hi0 hz0 hz1 hz2 rfl (by omega) (.slice B3 L.length c3) L.length (L.flatMap Ed.vs) (by rfl) ((hown.alloc _).drew)
              ⟨wr.heap.size, 0, none⟩ 1 1 [.int .i64 3, .int .i64 x.r.at_, .int .i64 x.r.key, .int .i64 x.r.val, .int .i64 y.r.at_, .int .i64 y.r.key, .int .i64 y.r.val, .int .i64 k] (by rfl) (by rfl) (World.news_of_block (cs := #[.int .i64 3, .int .i64 x.r.at_, .int .i64 x.r.key, .int .i64 x.r.val, .int .i64 y.r.at_, .int .i64 y.r.key, .int .i64 y.r.val, .int .i64 k]) (t := 79) (fr := (0, 0)) (heap_alloc_new wr _)) (by simp [Value.oneCell'])
              (by omega) (by unfold maxLen; omega) hL (by simp; omega) (wr.heap.size + 1) (by simp) ?_; intro gg cap w1 hown1 hgrow hat hlt))
        -- BOTHEND
        have HL1 : Hid (k ≤ x.n ∧ k ≤ y.n ∧ (k = x.n ∨ k = y.n) ∧ 0 < k) := ⟨by omega, by omega, by omega, by omega⟩
        have hwr1 : wr.grownBy w1 (Value.slice B3 L.length c3).ownBlock := ⟨hgrow.os, hgrow.tape, hgrow.output, Nat.le_trans (by simp) hgrow.size, fun i hi hne => (hgrow.block i (by simp; omega) hne).trans (Below.heap_alloc _ _ _ hi)⟩
        have AP := HR.out.app hwr1
        have HO1 := Lib.hid (own_ed (L := L) (e := ⟨3, x.r, y.r, k⟩) hown1 rfl rfl)
        have HAP := Lib.hid AP
        have LS1 := Lib.hid (less_any b1 _ c1 x r k w1 AP.1 (by omega))
        have HRR : Hid (L ++ [⟨3, x.r, y.r, k⟩] ++ turnF f (lessL (x :: r) k) (lessL (y :: s) k) = R) := by
          show _ = _
          rw [← HR.out.r, turnF, HK.out]
          simp
        clear AP hwr1 hgrow hown1 hown x0 x1 x2 x3 y0 y1 y2 y3 hm1 hm2 hm3 hat ag ak
        go_wp2_with fail
        (with_reducible refine LS1.out.mono ?_)
        rintro e w2 ⟨A5, c5, rfl, hw5, hg5⟩
        have hw6 := HAP.out.2.1.kept hg5 (fun _ e => HR.out.s3 (by simp) (by simp) (Option.some.inj e))
        have HW5 := Lib.hid hw5
        have HG5 := Lib.hid hg5
        have LS2 := Lib.hid (less_any b2 _ c2 y s k w2 hw6 (by omega))
        clear hw5 hg5 hw6 LS1
        go_wp2_with fail
        (with_reducible refine LS2.out.mono ?_)
        rintro e w3 ⟨A6, c6, rfl, hw7, hg7⟩
        have HW7 := Lib.hid hw7
        have HG7 := Lib.hid hg7
        have e1 := lessL_length x r k
        have e2 := lessL_length y s k
        have P1 := PosL.less HR.out.p1 HL1.out.2.2.2 HL1.out.1
        have P2 := PosL.less HR.out.p2 HL1.out.2.2.2 HL1.out.2.1
        have HP1 := Lib.hid P1
        have HP2 := Lib.hid P2
        clear hw7 hg7 LS2 P1 P2
        generalize lessL (x :: r) k = M1 at *
        generalize lessL (y :: s) k = M2 at *
        have lens : M1.length + M2.length < r.length + 1 + (s.length + 1) ∧ M1.length ≤ r.length + 1 ∧ M2.length ≤ s.length + 1 := by
          have := HL1.out.2.2.1
          split at e1 <;> split at e2 <;> omega
        have HLN := Lib.hid lens
        clear e1 e2 lens
        go_wp2_with fail
        have n1 : w.heap.size ≤ w1.heap.size := HAP.out.2.2.size
        refine ⟨⟨f, M1, M2, L ++ [⟨3, x.r, y.r, k⟩], A5, c5, A6, c6, rfl, rfl, ?_⟩, by have := HLN.out; simp [lenOf]; omega⟩
        have t1 := HR.out.s1 (by simp)
        have t2 := HR.out.s2 (by simp)
        have t3 := HR.out.s3 (by simp) (by simp)
        refine ⟨HW5.out.kept HG7.out (fun _ e => t3 (Option.some.inj e).symm), HW7.out, ?_, HRR.out, ?_, ?_, (HAP.out.2.2.then_ HG5.out (fun k e => .inr (.inl (Option.some.inj e).symm))).then_ HG7.out (fun k e => .inr (.inr (Option.some.inj e).symm)), HP1.out, HP2.out, fun _ => t1, fun _ => t2, fun _ _ => t3⟩
        · have o1 := HO1.out.grown HG5.out (.inr (fun e => by have := (HO1.out.blk _ e).1; omega))
          exact o1.grown HG7.out (.inr (fun e => by have := (o1.blk _ e).1; omega))
        · have := HLN.out; have := HR.out.lt; simp only [List.length_cons] at *; omega
        · have := HLN.out; have := HR.out.sz; simp only [List.length_cons, List.length_append, List.length_nil] at *; omega
end Go.Proofs.Bg
