/- Texts of our own, merged: BgSorted BgOf BgProd BgApp2 BgNewsR BgNewR BgSumsR BgDo BgLength BgRet BgLawLeast. -/
import Derived.StillTactics
import Derived.Deep.RegionWith
import Derived.Test.YtcbemmlhpinjkaaDoorWLast
import Derived.Test.YtcbemmlhpinjkaaDoorBgMLe2
import Derived.Test.YtcbemmlhpinjkaaDoorBgMLe1
import Derived.BigQuiet
import Derived.Deep.RegionHeld3
import Derived.Deep.AppendLies
import Derived.Test.YtcbemmlhpinjkaaDoorBgMLe3

section
/- The reference: sorted. -/
namespace Go.Proofs.Bg
open Go.RowKit Go.Proofs.YtcbemmlhpinjkaaDoorW.PrintLast

def SortedL (l : List It) : Prop := l.Pairwise (fun x y => ¬ rcmp y.r x.r < 0)
def SortRet (w : World) (l : List It) (e : Ending) (w' : World) : Prop :=
  ∃ v l', e = .returned v ∧ Own It.vs 4 33 w.heap.size w' v l' ∧ l'.Perm l ∧ SortedL l' ∧ Below w.heap.size w w'

theorem Rd.take {w : World} {lo n : Nat} {A : Option Addr} {l : List It} (h : Rd It.vs 4 w lo A n l) (k : Nat) (hk : k ≤ n) : Rd It.vs 4 w lo A k (l.take k) := by
  refine ⟨by rw [List.length_take, h.len]; omega, Nat.le_trans hk h.le, fun h0 => ?_⟩
  obtain ⟨b, off, rfl, hlo, hc⟩ := h.2.2 (by omega)
  refine ⟨b, off, rfl, hlo, fun i x hx j v hv => hc i x ?_ j v hv⟩
  rw [List.getElem?_take] at hx
  split at hx
  · exact hx
  · cases hx
theorem Rd.drop {w : World} {lo n b off : Nat} {l : List It} (h : Rd It.vs 4 w lo (some ⟨b, off, none⟩) n l) (k : Nat) (hk : k < n) : Rd It.vs 4 w lo (some ⟨b, off + k * 4, none⟩) (n - k) (l.drop k) := by
  refine ⟨by rw [List.length_drop, h.len], by have := h.le; omega, fun h0 => ?_⟩
  obtain ⟨b', off', e, hlo, hc⟩ := h.2.2 (by omega)
  cases e
  refine ⟨b, off + k * 4, rfl, hlo, fun i x hx j v hv => ?_⟩
  rw [List.getElem?_drop] at hx
  have := hc (k + i) x hx j v hv
  have e : off + k * 4 + i * 4 + j = off + (k + i) * 4 + j := by omega
  rw [e]
  exact this

/-- What the merge holds. -/
structure MRel (b1 b2 : Nat) (wS : World) (l : List It) (L l1 l2 : List It) (o1 c1 o2 c2 : Nat) (v : Value) (wr : World) : Prop where
  own : Own It.vs 4 33 wS.heap.size wr v L
  w1 : Win b1 wr (some ⟨b1, o1, none⟩) c1 l1
  w2 : Win b2 wr (some ⟨b2, o2, none⟩) c2 l2
  below : Below wS.heap.size wS wr
  perm : (L ++ (l1 ++ l2)).Perm l
  s1 : SortedL l1
  s2 : SortedL l2
  s0 : SortedL L
  lo : ∀ x ∈ L, ∀ y, y ∈ l1 ∨ y ∈ l2 → ¬ rcmp y.r x.r < 0
  k1 : b1 < wS.heap.size
  k2 : b2 < wS.heap.size

theorem MRel.app {b1 b2 : Nat} {wS : World} {l L l1 l2 : List It} {o1 c1 o2 c2 : Nat} {v : Value} {wr W w' : World} (h : MRel b1 b2 wS l L l1 l2 o1 c1 o2 c2 v wr) (h0 : wr.grownBy W none) (hg : W.grownBy w' v.ownBlock) : Win b1 w' (some ⟨b1, o1, none⟩) c1 l1 ∧ Win b2 w' (some ⟨b2, o2, none⟩) c2 l2 ∧ Below wS.heap.size wS w' :=
  ⟨(h.w1.kept h0 (fun _ e => by cases e)).kept hg (fun _ e => by have := (h.own.blk _ e).1; have := h.k1; omega), (h.w2.kept h0 (fun _ e => by cases e)).kept hg (fun _ e => by have := (h.own.blk _ e).1; have := h.k2; omega),
    (h.below.grown h0 h.below.size (fun k e => by cases e)).grown hg (Nat.le_trans h.below.size h0.size) (fun k e => (h.own.blk _ e).1)⟩
theorem sorted_snoc {L : List It} {y : It} (h : SortedL L) (hy : ∀ x ∈ L, ¬ rcmp y.r x.r < 0) : SortedL (L ++ [y]) := by
  unfold SortedL at *
  rw [List.pairwise_append]
  exact ⟨h, by simp, fun x hx z hz => by rw [List.mem_singleton.1 hz]; exact hy x hx⟩
theorem le_trans_not {x y z : Rc} (h1 : ¬ rcmp y x < 0) (h2 : ¬ rcmp z y < 0) : ¬ rcmp z x < 0 := by
  rw [rcmp_neg] at *
  omega
theorem lt_le {x y z : Rc} (h1 : rcmp y x < 0) (h2 : ¬ rcmp z x < 0) : ¬ rcmp z y < 0 := fun h => h2 (rcmp_trans h h1)

/-- Behind an item of the second list. -/
theorem MRel.take2 {b1 b2 : Nat} {wS : World} {l L r s : List It} {x y : It} {o1 c1 o2 c2 o' : Nat} {v v' : Value} {wr W w' : World} (h : MRel b1 b2 wS l L (x :: r) (y :: s) o1 c1 o2 c2 v wr) (hlt : rcmp y.r x.r < 0) (h0 : wr.grownBy W none) (hg : W.grownBy w' v.ownBlock) (ho : Own It.vs 4 33 wS.heap.size w' v' (L ++ [y])) (ho' : 0 < s.length → o' = o2 + 4) : MRel b1 b2 wS l (L ++ [y]) (x :: r) s o1 c1 o' (c2 - 1) v' w' := by
  obtain ⟨a1, a2, a3⟩ := h.app h0 hg
  obtain ⟨p1, p2⟩ := List.pairwise_cons.1 h.s1
  obtain ⟨q1, q2⟩ := List.pairwise_cons.1 h.s2
  refine ⟨ho, a1, a2.tail ho', a3, ?_, h.s1, q2, sorted_snoc h.s0 (fun z hz => h.lo z hz y (.inr List.mem_cons_self)), fun z hz u hu => ?_, h.k1, h.k2⟩
  · refine List.Perm.trans ?_ h.perm
    rw [List.append_assoc]
    exact List.Perm.append_left L (List.perm_middle (l₁ := x :: r) (l₂ := s) (a := y)).symm
  · rcases List.mem_append.1 hz with hz | hz
    · exact h.lo z hz u (hu.imp_right (List.mem_cons_of_mem _))
    · rw [List.mem_singleton.1 hz]
      rcases hu with hu | hu
      · rcases List.mem_cons.1 hu with e | hu
        · rw [e]; exact lt_le hlt (rcmp_irr _)
        · exact lt_le hlt (p1 u hu)
      · exact q1 u hu
/-- Behind an item of the first list. -/
theorem MRel.take1 {b1 b2 : Nat} {wS : World} {l L r s : List It} {x y : It} {o1 c1 o2 c2 o' : Nat} {v v' : Value} {wr W w' : World} (h : MRel b1 b2 wS l L (x :: r) (y :: s) o1 c1 o2 c2 v wr) (hge : ¬ rcmp y.r x.r < 0) (h0 : wr.grownBy W none) (hg : W.grownBy w' v.ownBlock) (ho : Own It.vs 4 33 wS.heap.size w' v' (L ++ [x])) (ho' : 0 < r.length → o' = o1 + 4) : MRel b1 b2 wS l (L ++ [x]) r (y :: s) o' (c1 - 1) o2 c2 v' w' := by
  obtain ⟨a1, a2, a3⟩ := h.app h0 hg
  obtain ⟨p1, p2⟩ := List.pairwise_cons.1 h.s1
  obtain ⟨q1, q2⟩ := List.pairwise_cons.1 h.s2
  refine ⟨ho, a1.tail ho', a2, a3, ?_, p2, h.s2, sorted_snoc h.s0 (fun z hz => h.lo z hz x (.inl List.mem_cons_self)), fun z hz u hu => ?_, h.k1, h.k2⟩
  · refine List.Perm.trans ?_ h.perm
    simp
  · rcases List.mem_append.1 hz with hz | hz
    · exact h.lo z hz u (hu.imp_left (List.mem_cons_of_mem _))
    · rw [List.mem_singleton.1 hz]
      rcases hu with hu | hu
      · exact p1 u hu
      · rcases List.mem_cons.1 hu with e | hu
        · rw [e]; exact hge
        · exact le_trans_not hge (q1 u hu)
theorem merged {L l1 l2 : List It} (h0 : SortedL L) (h1 : SortedL l1) (h2 : SortedL l2) (hlo : ∀ x ∈ L, ∀ y, y ∈ l1 ∨ y ∈ l2 → ¬ rcmp y.r x.r < 0) (he : l1 = [] ∨ l2 = []) : SortedL (L ++ l1 ++ l2) := by
  unfold SortedL at *
  rcases he with rfl | rfl
  · rw [List.append_nil, List.pairwise_append]
    exact ⟨h0, h2, fun x hx y hy => hlo x hx y (.inr hy)⟩
  · rw [List.append_nil, List.pairwise_append]
    exact ⟨h0, h1, fun x hx y hy => hlo x hx y (.inl hy)⟩

theorem Rd.news {w : World} {lo n b off : Nat} {l : List It} (h : Rd It.vs 4 w lo (some ⟨b, off, none⟩) n l) : ∀ j u, (l.flatMap It.vs)[j]? = some u → w.cell? ((⟨b, off, none⟩ : Addr).add j) = some u := by
  intro j u hu
  have hlen := flat_length It.vs_length l
  have hj : j < l.length * 4 := by rw [← hlen]; exact (List.getElem?_eq_some_iff.1 hu).1
  have e1 : (⟨b, off, none⟩ : Addr).add j = ⟨b, off + j, none⟩ := by unfold Addr.add; split <;> simp_all
  have hd : j / 4 < l.length := by omega
  have hx : l[j / 4]? = some l[j / 4] := List.getElem?_eq_getElem hd
  have hm : j % 4 < (It.vs l[j / 4]).length := by rw [It.vs_length]; omega
  have hv : (It.vs l[j / 4])[j % 4]? = some ((It.vs l[j / 4])[j % 4]'hm) := List.getElem?_eq_getElem hm
  have hf := flat_at It.vs_length l _ _ hx _ _ hv
  have hjj : j / 4 * 4 + j % 4 = j := by omega
  rw [hjj, hu] at hf
  cases hf
  obtain ⟨b', off', e, _, hc⟩ := h.2.2 (by rw [← h.len]; omega)
  cases e
  have := hc _ _ hx _ _ hv
  have e2 : off + j / 4 * 4 + j % 4 = off + j := by omega
  rw [e2] at this
  rw [e1]
  exact this
/-- 'append(s, y...)', y a window. -/
theorem wpList_appW {P : Program} {w : World} {ops : Array Oper} {rest : List Oper} {o : Oper} {a : Act} {Q : Exit → Act → World → Prop} (e : TypeId) (z : Value) (bytes : Nat) (hinf : (P.info? e).map (fun i => (i.zero, i.size, i.bytes)) = some (some z, 4, bytes)) (hzs : z.cells.size = 4)
    (hgd : o.guard = none) (s x : Operand) (t : TypeId) (ho : o.op = .call { callee := .builtin .append, args := #[s, x], argTypes := #[t, t] }) (ht : P.underlying t = some (.slice e)) (base : Nat) (v : Value) (l : List It) (hs : a.eval s = v) (hown : Own It.vs 4 e base w v l)
    (lo b off n c : Nat) (y : List It) (hx : a.eval x = .slice (some ⟨b, off, none⟩) n c) (hy : Rd It.vs 4 w lo (some ⟨b, off, none⟩) n y)
    (hbytes : (l.length + n) * bytes ≤ 140737488355328) (h63 : l.length + n ≤ maxLen) (hbase : base ≤ w.heap.size)
    (h : ∀ v' w', Own It.vs 4 e base w' v' (l ++ y) → w.grownBy w' v.ownBlock → (v'.ownBlock = v.ownBlock ∨ v'.ownBlock = some w.heap.size) → wpList P ops Q rest (a.put o.dst v') w') : wpList P ops Q (o :: rest) a w := by
  obtain ⟨i, hi, hz0, hz1, hz2⟩ := info_parts hinf
  have hn := hy.len
  refine wpList_append_own_at w hgd s x t ho base e i z 4 bytes ht hi hz0 hz1 hz2 hzs (by omega) v l.length (l.flatMap It.vs) hs hown ⟨b, off, none⟩ n c (y.flatMap It.vs) hx (by rw [flat_length It.vs_length, hn]) hy.news (fun u hu => ?_) h63 hbytes hbase fun v' w' h2 h3 _ h5 => h v' w' ?_ h3 h5
  · obtain ⟨q, _, hq⟩ := List.mem_flatMap.1 hu
    simp [It.vs] at hq
    rcases hq with rfl | rfl | rfl | rfl <;> rfl
  · unfold Own
    rw [List.length_append, List.flatMap_append, hn]
    exact h2

theorem wpList_appNil {P : Program} {w : World} {ops : Array Oper} {rest : List Oper} {o : Oper} {a : Act} {Q : Exit → Act → World → Prop} (hgd : o.guard = none) (s x : Operand) (t : TypeId) (ho : o.op = .call { callee := .builtin .append, args := #[s, x], argTypes := #[t, t] }) (c : Nat) (hs : a.eval s = .slice none 0 0) (hx : a.eval x = .slice none 0 c)
    (hrun : (Builtin.append_ #[t, t] o.type #[.slice none 0 0, .slice none 0 c]).run P w = .ok (.slice none 0 0) w) (h : wpList P ops Q rest (a.put o.dst (.slice none 0 0)) w) : wpList P ops Q (o :: rest) a w := by
  refine wpList_plain hgd fun K hK => ?_
  unfold Oper.wp
  simp [execOp, ho, resolve, invoke, builtin, hs, hx, hrun, Result.andThen]
  exact hK _ _ h

end Go.Proofs.Bg
end

section
/- The reference: Of. -/
namespace Go.Proofs.Bg
open Go.RowKit

/-- What the first loop has made of some sorted items. -/
structure Mrg (s O : List It) : Prop where
  sums : ∀ r, sumN O r = sumN s r
  incr : Incr (O.map (·.r))
  mem : ∀ y ∈ O, y.r ∈ s.map (·.r)
  len : O.length ≤ s.length
theorem Mrg.nil : Mrg [] [] := ⟨fun _ => rfl, by simp [Incr], (fun _ h => by cases h), Nat.le_refl _⟩
theorem Mrg.new {s O : List It} {x : It} (h : Mrg s O) (hs : SortedL (s ++ [x])) (hne : ∀ p, O.getLast? = some p → p.r ≠ x.r) : Mrg (s ++ [x]) (O ++ [x]) := by
  have hle : ∀ y ∈ O, ¬ rcmp x.r y.r < 0 := fun y hy => by
    obtain ⟨z, hz, e⟩ := List.mem_map.1 (h.mem y hy)
    unfold SortedL at hs
    rw [List.pairwise_append] at hs
    rw [← e]
    exact hs.2.2 z hz x (by simp)
  have hlt : ∀ y ∈ O, rcmp y.r x.r < 0 := fun y hy => by
    rcases rcmp_total y.r x.r with h1 | h1 | h1
    · exact h1
    · exfalso
      obtain ⟨O', p, rfl⟩ : ∃ O' p, O = O' ++ [p] := ⟨O.dropLast, O.getLast (List.ne_nil_of_mem hy), (List.dropLast_concat_getLast _).symm⟩
      have hp := hne p (by simp)
      have hin := h.incr
      unfold Incr at hin
      rw [List.map_append, List.pairwise_append] at hin
      rcases List.mem_append.1 hy with hy' | hy'
      · have h2 := hin.2.2 y.r (List.mem_map.2 ⟨y, hy', rfl⟩) p.r (by simp)
        rw [h1] at h2
        exact hle p (by simp) h2
      · rw [List.mem_singleton.1 hy'] at h1
        exact hp h1
    · exact absurd h1 (hle y hy)
  refine ⟨fun r => by rw [sumN_append, sumN_append, h.sums], ?_, fun y hy => ?_, by simp; exact h.len⟩
  · unfold Incr
    rw [List.map_append, List.pairwise_append]
    exact ⟨h.incr, by simp, fun a ha b hb => by
      obtain ⟨y, hy, rfl⟩ := List.mem_map.1 ha
      simp at hb
      rw [hb]
      exact hlt y hy⟩
  · rcases List.mem_append.1 hy with hy | hy
    · rw [List.map_append]; exact List.mem_append_left _ (h.mem y hy)
    · rw [List.mem_singleton.1 hy]; simp
theorem Mrg.same {s O : List It} {p x : It} (h : Mrg s (O ++ [p])) (he : p.r = x.r) : Mrg (s ++ [x]) (O ++ [⟨p.r, p.n + x.n⟩]) := by
  refine ⟨fun r => ?_, by have := h.incr; simpa using this, fun y hy => ?_, ?_⟩
  · have := h.sums r
    rw [sumN_append] at this ⊢
    rw [sumN_append, ← this]
    simp only [sumN, he]
    split <;> omega
  · rw [List.map_append]
    refine List.mem_append_left _ ?_
    rcases List.mem_append.1 hy with hy | hy
    · exact h.mem y (List.mem_append_left _ hy)
    · rw [List.mem_singleton.1 hy]
      exact h.mem p (by simp)
  · have := h.len
    simp at this ⊢
    omega
theorem Mrg.last {s O : List It} {p : It} (h : Mrg s (O ++ [p])) : p.n = sumN s p.r := by
  rw [← h.sums]
  exact (sumN_at h.incr (by simp)).symm

theorem Own.setLast {base g cap : Nat} {w : World} {O : List It} {p : It} (h : Own It.vs 4 33 base w (.slice (some ⟨g, 0, none⟩) (O ++ [p]).length cap) (O ++ [p])) (m : Int) :
    Own It.vs 4 33 base (w.setCell ⟨g, O.length * 4 + 3, none⟩ (.int .i64 m)) (.slice (some ⟨g, 0, none⟩) (O ++ [p]).length cap) (O ++ [⟨p.r, m⟩]) ∧ w.grownBy (w.setCell ⟨g, O.length * 4 + 3, none⟩ (.int .i64 m)) (some g) := by
  obtain ⟨hlen, hrest⟩ := h
  rcases hrest with ⟨e, _⟩ | ⟨g', cap', cur, e, hb, hblk, h1, h2, h3, h4⟩
  · cases e
  · cases e
    obtain ⟨s1, s2⟩ := setCell_at (off := O.length * 4 + 3) hblk (.int .i64 m)
    refine ⟨⟨flat_length It.vs_length _, .inr ⟨g, cap, _, by simp, hb, s1, by simpa using h1, h2, by simpa using h3, ?_⟩⟩, s2⟩
    have hlO : (O.flatMap It.vs).length = O.length * 4 := flat_length It.vs_length O
    rw [Array.toList_setIfInBounds, List.take_set]
    have e4 : List.take ((O ++ [(⟨p.r, m⟩ : It)]).length * 4) cur.toList = (O ++ [p]).flatMap It.vs := by
      rw [← h4]; simp
    rw [e4, List.flatMap_append, List.flatMap_append, List.set_append]
    rw [if_neg (by omega)]
    congr 1
    have : O.length * 4 + 3 - (O.flatMap It.vs).length = 3 := by omega
    rw [this]
    rfl
-- OF
theorem alloc_drewN_alloc (w : World) (o : Obj) (n : Nat) (o' : Obj) : w.grownBy (((w.alloc o).drewN n).alloc o') none :=
  ⟨rfl, rfl, rfl, by simp; omega, fun i hi _ => by rw [Below.heap_alloc _ _ _ (by simp; omega)]; exact Below.heap_alloc _ _ _ hi⟩
theorem below_far {w2 wr W z : World} {row : Option Nat} (hB : Below w2.heap.size w2 wr) (h0 : wr.grownBy W none) (hg : W.grownBy z row) (hr : ∀ k, row = some k → w2.heap.size ≤ k) : Below w2.heap.size w2 z :=
  (hB.grown h0 hB.size (fun k e => by cases e)).grown hg (Nat.le_trans hB.size h0.size) hr
theorem Own.drewN {α : Type} {enc : α → List Value} {sz : Nat} {T : TypeId} {base : Nat} {w : World} {v : Value} {l : List α} (h : Own enc sz T base w v l) (n : Nat) : Own enc sz T base (w.drewN n) v l := h
theorem Rc.ext3 {a b : Rc} (h0 : a.at_ = b.at_) (h1 : a.key = b.key) (h2 : a.val = b.val) : a = b := by cases a; cases b; simp_all
theorem sorted_prefix {a b : List It} (h : SortedL (a ++ b)) : SortedL a := (List.pairwise_append.1 h).1
theorem Own.lastCells {base g cap : Nat} {w : World} {O : List It} {p : It} (h : Own It.vs 4 33 base w (.slice (some ⟨g, 0, none⟩) (O ++ [p]).length cap) (O ++ [p])) : w.cell? ⟨g, O.length * 4, none⟩ = some (.int .i64 p.r.at_) ∧ w.cell? ⟨g, O.length * 4 + 1, none⟩ = some (.int .i64 p.r.key) ∧ w.cell? ⟨g, O.length * 4 + 2, none⟩ = some (.int .i64 p.r.val) ∧ w.cell? ⟨g, O.length * 4 + 3, none⟩ = some (.int .i64 p.n) ∧ w.frozen? ⟨g, O.length * 4 + 3, none⟩ = false := by
  have hx : (O ++ [p])[O.length]? = some p := by simp
  have hc : ∀ j v, (It.vs p)[j]? = some v → w.cell? ⟨g, O.length * 4 + j, none⟩ = some v := fun j v hv => by
    have hf := flat_at It.vs_length (O ++ [p]) _ _ hx j v hv
    rw [← hf]
    exact World.ownsRow.cellAt h _ (by have := (List.getElem?_eq_some_iff.1 hf).1; rw [flat_length It.vs_length] at this; exact this)
  refine ⟨hc 0 _ rfl, hc 1 _ rfl, hc 2 _ rfl, hc 3 _ rfl, World.ownsRow.frozenAt h _⟩

end Go.Proofs.Bg
end

section
/- The reference: Product, Pair. -/
namespace Go.Proofs.Bg
open Go.RowKit

theorem Own.capOf {α : Type} {enc : α → List Value} {sz : Nat} {T : TypeId} {base n cap : Nat} {A : Option Addr} {w : World} {l : List α} (h : Own enc sz T base w (.slice A n cap) l) : n ≤ cap := by
  rcases h.2 with ⟨e, _⟩ | ⟨g, cap', cur, e, _, _, h1, _⟩
  · cases e; exact Nat.le_refl _
  · cases e; exact h1
theorem own_it {base : Nat} {w : World} {v : Value} {L : List It} {e : It} {n : Nat} {xs : List Value} (h : w.ownsRow base 33 4 v n xs) (hn : n = L.length + 1) (hx : xs = L.flatMap It.vs ++ e.vs) : Own It.vs 4 33 base w v (L ++ [e]) := by
  unfold Own
  rw [List.length_append, List.flatMap_append]
  subst hn hx
  simpa using h
theorem alloc2_drew (w : World) (o o' : Obj) : w.grownBy (((w.alloc o).alloc o').drew) none := ⟨rfl, rfl, rfl, (alloc2_none w o o').size, (alloc2_none w o o').block⟩
theorem new2 (w : World) (o : Obj) (cs : Array Value) (T : TypeId) : (((w.alloc o).alloc (.cells cs T)).drew).heap[w.heap.size + 1]? = some (.cells cs T) := by
  have := new_block (w.alloc o) cs T
  have e : (w.alloc o).heap.size = w.heap.size + 1 := by simp
  rw [e] at this
  exact this
/-- What the loops hold. -/
def ProdIn (w2 : World) (gx : Nat) (x : It) (L : List It) (v : Value) (wr : World) : Prop :=
  Own It.vs 4 33 w2.heap.size wr v L ∧ Below w2.heap.size w2 wr ∧ wr.heap[gx]? = some (.cells #[.int .i64 x.r.at_, .int .i64 x.r.key, .int .i64 x.r.val, .int .i64 x.n] 33) ∧ (∀ k, v.ownBlock = some k → k ≠ gx)

theorem bagOr_long (L : List It) : longR (canon L) = (bagOr L, errOr L) := by
  unfold longR bagOr errOr
  cases bagB (canon L) <;> rfl
/-- What a function of the reference that hands back a bag leaves. -/
def RetRef (w : World) (p : List It × Int) (e : Ending) (w' : World) : Prop :=
  (∃ A n cap, e = .returned (.tuple #[.slice A n cap, .int .i64 p.2]) ∧ Rd It.vs 4 w' 0 A n p.1) ∧ Below w.heap.size w w'
end Go.Proofs.Bg
end

section
/- Plain words: append of a slice to a list of the call's own; the two slices' types may differ by name. -/
namespace Go.Proofs.Bg
open Go.RowKit

theorem run_append2 {P : Program} {w : World} {t t2 ty e e2 : TypeId} (ht : P.underlying t = some (.slice e)) (ht2 : P.underlying t2 = some (.slice e2)) (v x : Value) :
    (Builtin.append_ #[t, t2] ty #[v, x]).run P w = (Builtin.append_ #[t, t] ty #[v, x]).run P w := by
  cases v <;> simp [Builtin.append_, run_underlying ht, run_underlying ht2, sizeOf, Result.andThen]
theorem run_append_none {P : Program} {w : World} {t ty e : TypeId} {i : TypeInfo} (ht : P.underlying t = some (.slice e)) (hi : P.info? e = some i) (A : Option Addr) (n cap c : Nat) (hc : n ≤ cap) :
    (Builtin.append_ #[t, t] ty #[.slice A n cap, .slice none 0 c]).run P w = .ok (.slice A n cap) w := by
  cases A with
  | none => simp [Builtin.append_, run_underlying ht, sizeOf, typeInfo, hi, Builtin.lenOf, Builtin.firstCells, Result.andThen, hc]
  | some a => simp [Builtin.append_, run_underlying ht, sizeOf, typeInfo, hi, Builtin.lenOf, Builtin.firstCells, loadCells, storeCells, Result.andThen, hc]

/-- 'append(s, y...)', y any slice that reads as a list. -/
theorem wpList_appRd {P : Program} {w : World} {ops : Array Oper} {rest : List Oper} {o : Oper} {a : Act} {Q : Exit → Act → World → Prop} {α : Type} (enc : α → List Value) (sz : Nat) (hse : ∀ x, (enc x).length = sz) (h0 : 0 < sz) (hone : ∀ x, ∀ u ∈ enc x, u.oneCell' = true)
    (e e2 : TypeId) (z : Value) (bytes : Nat) (hinf : (P.info? e).map (fun i => (i.zero, i.size, i.bytes)) = some (some z, sz, bytes)) (hzs : z.cells.size = sz)
    (hgd : o.guard = none) (s x : Operand) (t t2 : TypeId) (ho : o.op = .call { callee := .builtin .append, args := #[s, x], argTypes := #[t, t2] }) (ht : P.underlying t = some (.slice e)) (ht2 : P.underlying t2 = some (.slice e2)) (base : Nat) (v : Value) (l : List α) (hs : a.eval s = v) (hown : Own enc sz e base w v l)
    (lo n c : Nat) (A : Option Addr) (y : List α) (hx : a.eval x = .slice A n c) (hy : Rd enc sz w lo A n y)
    (hbytes : (l.length + n) * bytes ≤ 140737488355328) (h63 : l.length + n ≤ maxLen) (hbase : base ≤ w.heap.size)
    (h : ∀ v' w', Own enc sz e base w' v' (l ++ y) → w.grownBy w' v.ownBlock → (v'.ownBlock = v.ownBlock ∨ v'.ownBlock = some w.heap.size) → wpList P ops Q rest (a.put o.dst v') w') : wpList P ops Q (o :: rest) a w := by
  obtain ⟨i, hi, hz0, hz1, hz2⟩ := info_parts hinf
  have hn := hy.len
  have main : ∃ v' w', (Builtin.append_ #[t, t] o.type #[v, .slice A n c]).run P w = .ok v' w' ∧ Own enc sz e base w' v' (l ++ y) ∧ w.grownBy w' v.ownBlock ∧ (v'.ownBlock = v.ownBlock ∨ v'.ownBlock = some w.heap.size) := by
    cases A with
    | none =>
      have hn0 : n = 0 := by
        cases n with
        | zero => rfl
        | succ k => obtain ⟨b, off, e, _⟩ := hy.2.2 (by omega); cases e
      subst hn0
      have hl0 : y = [] := List.length_eq_zero_iff.1 hn
      subst hl0
      obtain ⟨A1, c1, rfl⟩ := hown.shape
      exact ⟨_, w, run_append_none ht hi A1 l.length c1 c hown.capOf, by simpa using hown, World.grownBy.refl _ _, .inl rfl⟩
    | some ad =>
      have hnews : ∀ j u, (y.flatMap enc)[j]? = some u → w.cell? (ad.add j) = some u := by
        intro j u hu
        have hlen := flat_length hse y
        have hj : j < y.length * sz := by rw [← hlen]; exact (List.getElem?_eq_some_iff.1 hu).1
        have hpos : 0 < n := by
          rw [← hn]
          rcases Nat.eq_zero_or_pos y.length with h | h
          · rw [h] at hj; omega
          · exact h
        obtain ⟨b, off, e', _, hc⟩ := hy.2.2 hpos
        cases e'
        have e1 : (⟨b, off, none⟩ : Addr).add j = ⟨b, off + j, none⟩ := by unfold Addr.add; split <;> simp_all
        have hd : j / sz < y.length := (Nat.div_lt_iff_lt_mul h0).2 hj
        have hx : y[j / sz]? = some y[j / sz] := List.getElem?_eq_getElem hd
        have hm : j % sz < (enc y[j / sz]).length := by rw [hse]; exact Nat.mod_lt _ h0
        have hv : (enc y[j / sz])[j % sz]? = some ((enc y[j / sz])[j % sz]'hm) := List.getElem?_eq_getElem hm
        have hf := flat_at hse y _ _ hx _ _ hv
        have hjj : j / sz * sz + j % sz = j := by rw [Nat.mul_comm]; exact Nat.div_add_mod j sz
        rw [hjj, hu] at hf
        cases hf
        have := hc _ _ hx _ _ hv
        have e2 : off + j / sz * sz + j % sz = off + j := by omega
        rw [e2] at this
        rw [e1]
        exact this
      obtain ⟨v', w', hr, h2, h3, _, h5⟩ := run_append_own_at (P := P) w base t o.type e i z sz bytes ht hi hz0 hz1 hz2 hzs h0 v l.length (l.flatMap enc) hown ad n c (y.flatMap enc) (by rw [flat_length hse, hn]) hnews (fun u hu => by
        obtain ⟨q, _, hq⟩ := List.mem_flatMap.1 hu
        exact hone q u hq) h63 hbytes hbase
      refine ⟨v', w', hr, ?_, h3, h5⟩
      unfold Own
      rw [List.length_append, List.flatMap_append, hn]
      exact h2
  refine wpList_plain hgd fun K hK => ?_
  obtain ⟨v', w', hr, h2, h3, h5⟩ := main
  unfold Oper.wp execOp
  simp only [ho, resolve, invoke, builtin, Sem.run_bind, Sem.run_pure, Result.andThen_ok, List.map_toArray, List.map_cons, List.map_nil, hs, hx, run_append2 ht ht2, hr]
  exact hK _ _ (h v' w' h2 h3 h5)
theorem It.one (x : It) : ∀ u ∈ x.vs, u.oneCell' = true := by simp [It.vs, Value.oneCell']
theorem iv_one (x : Int) : ∀ u ∈ iv x, u.oneCell' = true := by simp [iv, Value.oneCell']
theorem bv_one' (x : Int) : ∀ u ∈ [Value.int .u8 x], u.oneCell' = true := by simp [Value.oneCell']
end Go.Proofs.Bg
end

section
/- Copy, Check, and the reference's Check and New. -/
namespace Go.Proofs.Bg
open Go.RowKit

/-- 'append(nil, y...)', y any slice that reads as a list. -/
theorem wpList_copy {P : Program} {w : World} {ops : Array Oper} {rest : List Oper} {o : Oper} {a : Act} {Q : Exit → Act → World → Prop} (e : TypeId) (z : Value) (bytes : Nat) (hinf : (P.info? e).map (fun i => (i.zero, i.size, i.bytes)) = some (some z, 4, bytes)) (hzs : z.cells.size = 4)
    (hgd : o.guard = none) (s x : Operand) (t : TypeId) (ho : o.op = .call { callee := .builtin .append, args := #[s, x], argTypes := #[t, t] }) (ht : P.underlying t = some (.slice e)) (hs : a.eval s = .slice none 0 0)
    (hnil : ∀ c, (Builtin.append_ #[t, t] o.type #[.slice none 0 0, .slice none 0 c]).run P w = .ok (.slice none 0 0) w)
    (lo n c : Nat) (A : Option Addr) (y : List It) (hx : a.eval x = .slice A n c) (hy : Rd It.vs 4 w lo A n y) (hbytes : n * bytes ≤ 140737488355328) (h63 : n ≤ maxLen)
    (h : ∀ v' w', Own It.vs 4 e w.heap.size w' v' y → w.grownBy w' none → wpList P ops Q rest (a.put o.dst v') w') : wpList P ops Q (o :: rest) a w := by
  obtain ⟨i, hi, hz0, hz1, hz2⟩ := info_parts hinf
  have hn := hy.len
  by_cases h0 : n = 0
  · subst h0
    have hl0 : y = [] := List.length_eq_zero_iff.1 hn
    subst hl0
    cases A with
    | none => exact wpList_appNil hgd s x t ho c hs hx (hnil c) (h _ _ (Own.nil _ _ _ _ _) (World.grownBy.refl _ _))
    | some ad =>
      refine wpList_append_own_at w hgd s x t ho w.heap.size e i z 4 bytes ht hi hz0 hz1 hz2 hzs (by omega) _ 0 [] hs (World.ownsRow_nil w w.heap.size e 4) ad 0 c [] hx rfl (by simp) (by simp) (by unfold maxLen; omega) (by omega) (Nat.le_refl _) (fun v4 w4 hown4 hg4 _ _ => h v4 w4 hown4 hg4)
  · obtain ⟨b, off, rfl, _⟩ := hy.2.2 (by omega)
    exact wpList_appW e z bytes hinf hzs hgd s x t ho ht w.heap.size _ [] hs (Own.nil _ _ _ _ _) lo b off n c y hx hy (by simpa using hbytes) (by simpa using h63) (Nat.le_refl _) (fun v4 w4 hown4 hg4 _ => h v4 w4 (by simpa using hown4) hg4)
theorem nilB (w : World) (t : TypeId) (c : Nat) : (Builtin.append_ #[23, 23] t #[.slice none 0 0, .slice none 0 c]).run Tryd.prog w = .ok (.slice none 0 0) w := by kernel_rfl
theorem nilI (w : World) (t : TypeId) (c : Nat) : (Builtin.append_ #[22, 22] t #[.slice none 0 0, .slice none 0 c]).run Tryd.prog w = .ok (.slice none 0 0) w := by kernel_rfl

def chk (l : List It) : Int := if bagB l then 0 else 2
end Go.Proofs.Bg
end

section
/- The reference's New. -/
namespace Go.Proofs.Bg
open Go.RowKit

/-- What a function of the reference that hands back a bag in new memory leaves. -/
def RetNew (w : World) (p : List It × Int) (e : Ending) (w' : World) : Prop :=
  (∃ A n cap, e = .returned (.tuple #[.slice A n cap, .int .i64 p.2]) ∧ Rd It.vs 4 w' w.heap.size A n p.1) ∧ Below w.heap.size w w'

end Go.Proofs.Bg
end

section
/- The reference: Neg, Contrary, Add, Sum. -/
namespace Go.Proofs.Bg
open Go.RowKit

theorem below_row {w W W' : World} {row : Option Nat} (h : Below w.heap.size w W) (hg : W.grownBy W' row) (hr : ∀ g, row = some g → w.heap.size ≤ g) : Below w.heap.size w W' := h.grown hg h.size hr
theorem RetBag.new {w w' : World} {p : List It × Int} {e : Ending} (h : RetBag w p e w') : RetNew w p e w' := by
  obtain ⟨A, cap, he, hr, hb⟩ := h
  exact ⟨⟨A, _, cap, he, hr⟩, hb⟩

end Go.Proofs.Bg
end

section
/- The contracts of Do, and of the reference's items and Do. -/
namespace Go.Proofs.Bg
open Go.RowKit

theorem recB_spec (r : Rc) : recB r = true ↔ 0 ≤ r.at_ ∧ r.at_ ≤ 200 ∧ -1000000000 ≤ r.key ∧ r.key ≤ 1000000000 ∧ -1000000000 ≤ r.val ∧ r.val ≤ 1000000000 := by
  simp [recB, withinB]
  omega
theorem recB_ok {r : Rc} (h : recB r = true) : r.ok := by
  rw [recB_spec] at h
  unfold Rc.ok I64
  omega
theorem edB_recs {x : Ed} (h : edB x = true) : (x.d ≠ 1 → recB x.old = true) ∧ (x.d ≠ 2 → recB x.new = true) := by
  unfold edB at h
  rw [Bool.and_eq_true] at h
  obtain ⟨_, h2⟩ := h
  split at h2
  · rename_i h1
    rw [Bool.and_eq_true] at h2
    exact ⟨fun h => absurd h1 h, fun _ => h2.1⟩
  · rename_i h1
    split at h2
    · rename_i h3
      rw [Bool.and_eq_true] at h2
      exact ⟨fun _ => h2.1, fun h => absurd h3 h⟩
    · split at h2
      · rw [Bool.and_eq_true, Bool.and_eq_true] at h2
        exact ⟨fun _ => h2.1, fun _ => h2.2.1⟩
      · cases h2
theorem edIt_ok {x : Ed} (h : edB x = true) : ∀ y ∈ edIt x, y.r.ok ∧ -1000000 ≤ y.n ∧ y.n ≤ 1000000 := by
  obtain ⟨h1, h2, _⟩ := edB_spec h
  obtain ⟨h3, h4⟩ := edB_recs h
  intro y hy
  unfold edIt at hy
  rcases List.mem_append.1 hy with hy | hy
  · split at hy
    · cases hy
    · rename_i hd
      rw [List.mem_singleton.1 hy]
      exact ⟨recB_ok (h3 hd), by simp only; omega, by simp only; omega⟩
  · split at hy
    · cases hy
    · rename_i hd
      rw [List.mem_singleton.1 hy]
      exact ⟨recB_ok (h4 hd), by simp only; omega, by simp only; omega⟩
theorem edIt_length (x : Ed) : (edIt x).length ≤ 2 := by
  unfold edIt
  split <;> split <;> simp
theorem edIts_length (l : List Ed) : (edIts l).length ≤ 2 * l.length := by
  induction l with
  | nil => simp [edIts]
  | cons x r ih =>
    have := edIt_length x
    rw [edIts_cons, List.length_append, List.length_cons]
    omega
theorem fits_do {a : List It} {l : List Ed} (ha : bagB a = true) (hl : ∀ x ∈ l, edB x = true) (hlen : l.length ≤ 600) : Fits (a ++ edIts l) := by
  rw [bagB_spec] at ha
  have h : ∀ y ∈ a ++ edIts l, y.r.ok ∧ -1000000 ≤ y.n ∧ y.n ≤ 1000000 := fun y hy => by
    rcases List.mem_append.1 hy with hy | hy
    · have h1 := ha.1 y hy
      exact ⟨itB_ok h1, by have := (itB_spec y).1 h1; omega, by have := (itB_spec y).1 h1; omega⟩
    · obtain ⟨x, hx, hy⟩ := List.mem_flatMap.1 hy
      exact edIt_ok (hl x hx) y hy
  refine ⟨fun y hy => (h y hy).1, 1000000, by omega, fun y hy => (h y hy).2, ?_⟩
  have := edIts_length l
  rw [List.length_append]
  omega
theorem edIts_take {l : List Ed} {k : Nat} {x : Ed} (h : l[k]? = some x) : edIts (l.take (k + 1)) = edIts (l.take k) ++ edIt x := by
  rw [List.take_add_one, h, edIts_append]
  simp [edIts]
theorem take_all {l : List Ed} {k : Nat} {x : Ed} (h : l[k]? = some x) (h1 : ∀ y ∈ l.take k, edB y = true) (h2 : edB x = true) : ∀ y ∈ l.take (k + 1), edB y = true := fun y hy => by
  rw [List.take_add_one, h] at hy
  rcases List.mem_append.1 hy with hy | hy
  · exact h1 y hy
  · simp at hy
    rw [hy]
    exact h2
theorem doR_false {a : List It} {l : List Ed} {x : Ed} (hx : x ∈ l) (h : edB x = false) : doR a l = ([], 2) := by
  have : l.all edB = false := List.all_eq_false.2 ⟨x, hx, by simp [h]⟩
  simp [doR, this]
theorem SumIs.grown {w w' : World} {r : Nat} {L : List It} {row : Option Nat} (h : SumIs w r L) (hg : w.grownBy w' row) (hne : some r ≠ row) : SumIs w' r L := by
  obtain ⟨kv, hm, rest⟩ := h
  exact ⟨kv, hm.grown hg hne, rest⟩

/-- What the loop of Do holds. -/
def DoRel (w : World) (r : Nat) (a : List It) (l : List Ed) (k : Nat) (wr : World) : Prop :=
  (∀ x ∈ l.take k, edB x = true) ∧ SumIs wr r (a ++ edIts (l.take k)) ∧ Below w.heap.size w wr

set_option maxRecDepth 100000 in
set_option maxHeartbeats 8000000 in
theorem Do_any (A B : Option Addr) (n m capA capB : Nat) (a : List It) (l : List Ed) (w : World) (hA : Rd It.vs 4 w 0 A n a) (hB : Rd Ed.vs 8 w 0 B m l) :
    Calls Tryd.prog 17 #[.slice A n capA, .slice B m capB] w (RetBag w (doR a l)) := by
  have Q1 := Lib.hid (isBag_any A n capA a w hA)
  have HA := Lib.hid hA
  have HB := Lib.hid hB
  have hmle := hB.le
  clear hA hB
  cases ga : bagB a with
  | false =>
    have e1 : doR a l = ([], 2) := by simp [doR, ga]
    rw [e1]
    have GA := Lib.hid ga
    clear ga e1
    go_enter Tryd.func17, Tryd.ntmps17
    go_wp2_with (go_at_call 29; (with_reducible refine Q1.out.mono ?_); rintro e w1 ⟨rfl, hb1⟩; rw [GA.out]; have HB1 := Lib.hid hb1; clear hb1)
    go_ret2
    exact ⟨none, 0, rfl, Rd.nil _ _ _, HB1.out⟩
  | true =>
    have GA := Lib.hid ga
    by_cases hm : 600 < m
    · have e1 : doR a l = ([], 2) := by
        have : ¬ l.length ≤ 600 := by rw [HB.out.len]; omega
        simp [doR, this]
      rw [e1]
      have hd : decide ((600 : Int) < (m : Int)) = true := by simp; omega
      clear ga e1 hm
      go_enter Tryd.func17, Tryd.ntmps17
      go_wp2_with (go_at_call 29; (with_reducible refine Q1.out.mono ?_); rintro e w1 ⟨rfl, hb1⟩; rw [GA.out]; have HB1 := Lib.hid hb1; clear hb1)
      go_ret2
      exact ⟨none, 0, rfl, Rd.nil _ _ _, HB1.out⟩
    · have hd : decide ((600 : Int) < (m : Int)) = false := by simp; omega
      have hm6 : m ≤ 600 := by omega
      clear ga hm
      go_enter Tryd.func17, Tryd.ntmps17
      go_wp2_with fail
      (with_reducible refine Q1.out.mono ?_)
      rintro e w1 ⟨rfl, hb1⟩
      rw [GA.out]
      have HB1 := Lib.hid hb1
      clear hb1
      have hR3 := rdBs1 (capA := capA) 23 (HA.out.below HB1.out)
      have e2 : allIt [⟨A, n, capA, a⟩] = a := by simp [allIt]
      have hfa : Fits (a ++ edIts []) := fits_do GA.out (by simp) (by simp)
      have HAd := Lib.hid (added_any w1.heap.size 1 1 _ _ rfl hR3 (by rw [e2]; simpa [edIts] using hfa) (by omega))
      rw [e2] at HAd
      clear hR3 e2 hfa
      go_wp2_with (go_at_call 30; (with_reducible refine HAd.out.mono ?_); rintro e w4 ⟨rfl, hs4, hb4⟩)
      rw [World.size_alloc] at hs4
      have HB4 := Lib.hid (bchain (bchain HB1.out (below_new _ _)) hb4)
      have hr0 : w.heap.size ≤ w1.heap.size + 1 := by have := HB1.out.size; omega
      generalize w1.heap.size + 1 = r at *
      have HS4 := Lib.hid hs4
      have HR0 := Lib.hid hr0
      clear hs4 hb4 HAd hr0
      go_loopw [8, 22] (fun _ i wr => ∃ k : Nat, k ≤ m ∧ i = .int .i64 k ∧ DoRel w r a l k wr) (fun _ i _ => m - (intOf i).toNat)
      case atStart => exact ⟨0, by omega, rfl, by simp, by simpa [edIts] using HS4.out, HB4.out⟩
      case round =>
        clear HS4
        obtain ⟨k, hk, rfl, hall, hS, hBr⟩ := hrel
        have hRk := HB.out.below hBr
        have HAL := Lib.hid hall
        have HS := Lib.hid hS
        have HBR := Lib.hid hBr
        have hrl := hS.lt
        clear hall hS hBr
        by_cases hlt : k < m
        · obtain ⟨b, off, x, rfl, hx, c0, c1, c2, c3, c4, c5, c6, c7⟩ := hRk.ed_at hlt
          have HX := Lib.hid hx
          have HBX := Lib.hid (new_block wr #[.int .i64 x.d, .int .i64 x.old.at_, .int .i64 x.old.key, .int .i64 x.old.val, .int .i64 x.new.at_, .int .i64 x.new.key, .int .i64 x.new.val, .int .i64 x.n] 72)
          obtain ⟨f0, f1, f2, f3, f4, f5, f6, f7⟩ := box8 HBX.out
          have C1 := Lib.hid (isEdit_any x.d x.old.at_ x.old.key x.old.val x.new.at_ x.new.key x.new.val x.n (wr.alloc (.cells #[.int .i64 x.d, .int .i64 x.old.at_, .int .i64 x.old.key, .int .i64 x.old.val, .int .i64 x.new.at_, .int .i64 x.new.key, .int .i64 x.new.val, .int .i64 x.n] 72)))
          have HAB : Hid (Below w.heap.size w (wr.alloc (.cells #[.int .i64 x.d, .int .i64 x.old.at_, .int .i64 x.old.key, .int .i64 x.old.val, .int .i64 x.new.at_, .int .i64 x.new.key, .int .i64 x.new.val, .int .i64 x.n] 72))) := HBR.out.alloc HBR.out.size _
          have HS1 := Lib.hid (HS.out.alloc (.cells #[.int .i64 x.d, .int .i64 x.old.at_, .int .i64 x.old.key, .int .i64 x.old.val, .int .i64 x.new.at_, .int .i64 x.new.key, .int .i64 x.new.val, .int .i64 x.n] 72))
          clear hx hRk
          cases he : edB x with
          | false =>
            have E1 := Lib.hid (doR_false (a := a) (List.mem_of_getElem? HX.out) he)
            have HE := Lib.hid he
            clear he
            go_wp2_with (go_at_call 47; (with_reducible refine C1.out.mono ?_); rintro e w5 ⟨rfl, hb5⟩; rw [HE.out]; have HB5 := Lib.hid hb5; clear hb5)
            go_ret2
            rw [E1.out]
            exact ⟨none, 0, rfl, Rd.nil _ _ _, bchain HAB.out HB5.out⟩
          | true =>
            have HE := Lib.hid he
            have HALL := Lib.hid (take_all HX.out HAL.out he)
            have hft := fits_do GA.out HALL.out (by rw [List.length_take]; omega)
            rw [edIts_take HX.out] at hft
            have HFT := Lib.hid hft
            have HTK := Lib.hid (edIts_take HX.out)
            obtain ⟨n1, n2, h3⟩ := edB_spec he
            have hwn : IntKind.i64.wrap (-x.n) = -x.n := IntWalk.i64_in _ (by omega)
            have hrs : r < wr.heap.size := hrl
            clear he hft
            rcases h3 with h3 | h3 | ⟨h3, h4⟩
            · have HEI : Hid (edIt x = [⟨x.new, x.n⟩]) := by show _ = _; simp [edIt, h3]
              rw [HEI.out] at HFT HTK
              have q1 : (x.d != 1) = false := by simp [h3]
              have q2 : (x.d != 2) = true := by simp [h3]
              have hp := HFT.out.put (P := a ++ edIts (l.take k)) (x := ⟨x.new, x.n⟩) (rest := []) (by simp)
              have HP := Lib.hid hp
              clear h3 hp
              go_wp2_with (first | (go_at_call 47; (with_reducible refine C1.out.mono ?_); rintro e w5 ⟨rfl, hb5⟩; rw [HE.out]; have hk5 := block_keep HBX.out hb5; obtain ⟨g0, g1, g2, g3, g4, g5, g6, g7⟩ := box8 hk5; have HB5 := Lib.hid hb5; have hc0 := put_sum r _ ⟨x.new, x.n⟩ w5 (HS1.out.below hb5) HP.out.1 HP.out.2; dsimp only at hc0; have HC2 := Lib.hid hc0; clear hc0; clear hb5 hk5) | (go_at_call 32; (with_reducible refine HC2.out.mono ?_); rintro e w6 ⟨rfl, hs6, hg6⟩; have HS6 := Lib.hid hs6; have HG6 := Lib.hid hg6; clear hs6 hg6))
              refine ⟨⟨k + 1, by omega, by go_num, HALL.out, by rw [HTK.out, ← List.append_assoc]; exact HS6.out, below_row (bchain HAB.out HB5.out) HG6.out (fun g e => by cases e; exact HR0.out)⟩, by simp [intOf]; omega⟩
            · have HEI : Hid (edIt x = [⟨x.old, -x.n⟩]) := by show _ = _; simp [edIt, h3]
              rw [HEI.out] at HFT HTK
              have q1 : (x.d != 1) = true := by simp [h3]
              have q2 : (x.d != 2) = false := by simp [h3]
              have hp := HFT.out.put (P := a ++ edIts (l.take k)) (x := ⟨x.old, -x.n⟩) (rest := []) (by simp)
              have HP := Lib.hid hp
              clear h3 hp
              go_wp2_with (first | (go_at_call 47; (with_reducible refine C1.out.mono ?_); rintro e w5 ⟨rfl, hb5⟩; rw [HE.out]; have hk5 := block_keep HBX.out hb5; obtain ⟨g0, g1, g2, g3, g4, g5, g6, g7⟩ := box8 hk5; have HK5 := Lib.hid hk5; have HB5 := Lib.hid hb5; have hc0 := put_sum r _ ⟨x.old, -x.n⟩ w5 (HS1.out.below hb5) HP.out.1 HP.out.2; dsimp only at hc0; have HC2 := Lib.hid hc0; clear hc0; clear hb5 hk5) | (go_at_call 32; (with_reducible refine HC2.out.mono ?_); rintro e w6 ⟨rfl, hs6, hg6⟩; have hk6 := (hg6.block wr.heap.size (Array.getElem?_eq_some_iff.1 HK5.out).1 (fun e => by cases e; omega)).trans HK5.out; obtain ⟨e0, e1, e2, e3, e4, e5, e6, e7⟩ := box8 hk6; have HS6 := Lib.hid hs6; have HG6 := Lib.hid hg6; clear hs6 hg6 hk6))
              refine ⟨⟨k + 1, by omega, by go_num, HALL.out, by rw [HTK.out, ← List.append_assoc]; exact HS6.out, below_row (bchain HAB.out HB5.out) HG6.out (fun g e => by cases e; exact HR0.out)⟩, by simp [intOf]; omega⟩
            · have HEI : Hid (edIt x = [⟨x.old, -x.n⟩, ⟨x.new, x.n⟩]) := by show _ = _; simp [edIt, h3]
              rw [HEI.out] at HFT HTK
              have q1 : (x.d != 1) = true := by simp [h3]
              have q2 : (x.d != 2) = true := by simp [h3]
              have hp := HFT.out.put (P := a ++ edIts (l.take k)) (x := ⟨x.old, -x.n⟩) (rest := [⟨x.new, x.n⟩]) (by simp)
              have HP := Lib.hid hp
              have hp2 := HFT.out.put (P := (a ++ edIts (l.take k)) ++ [⟨x.old, -x.n⟩]) (x := ⟨x.new, x.n⟩) (rest := []) (by simp)
              have HP2 := Lib.hid hp2
              clear h3 h4 hp hp2
              go_wp2_with fail
              (with_reducible refine C1.out.mono ?_)
              rintro e w5 ⟨rfl, hb5⟩
              rw [HE.out]
              have hk5 := block_keep HBX.out hb5
              obtain ⟨g0, g1, g2, g3, g4, g5, g6, g7⟩ := box8 hk5
              have HK5 := Lib.hid hk5
              have HB5 := Lib.hid hb5
              have hc0 := put_sum r _ ⟨x.old, -x.n⟩ w5 (HS1.out.below hb5) HP.out.1 HP.out.2
              dsimp only at hc0
              have HC2 := Lib.hid hc0
              clear hc0 hb5 hk5
              go_wp2_with fail
              (with_reducible refine HC2.out.mono ?_)
              clear HC2
              rintro e w6 ⟨rfl, hs6, hg6⟩
              have hk6 := (hg6.block wr.heap.size (Array.getElem?_eq_some_iff.1 HK5.out).1 (fun e => by cases e; omega)).trans HK5.out
              obtain ⟨e0, e1, e2, e3, e4, e5, e6, e7⟩ := box8 hk6
              have HG6 := Lib.hid hg6
              have hc0 := put_sum r _ ⟨x.new, x.n⟩ w6 hs6 HP2.out.1 HP2.out.2
              dsimp only at hc0
              have HC3 := Lib.hid hc0
              clear hs6 hg6 hk6 hc0 g0 g1 g2 g3 g4 g5 g6 g7
              go_wp2_with fail
              (with_reducible refine HC3.out.mono ?_)
              clear HC3
              rintro e w7 ⟨rfl, hs7, hg7⟩
              have HS7 := Lib.hid hs7
              have HG7 := Lib.hid hg7
              clear hs7 hg7
              go_wp2_with fail
              refine ⟨⟨k + 1, by omega, by go_num, HALL.out, ?_, below_row (below_row (bchain HAB.out HB5.out) HG6.out (fun g e => by cases e; exact HR0.out)) HG7.out (fun g e => by cases e; exact HR0.out)⟩, by simp [intOf]; omega⟩
              have := HS7.out
              rw [HTK.out]
              simpa using this
        · have hk' : k = m := by omega
          subst hk'
          clear hRk hlt
          have et : l.take k = l := List.take_of_length_le (by rw [HB.out.len]; exact Nat.le_refl _)
          rw [et] at HS HAL
          have hll : l.length ≤ 600 := by rw [HB.out.len]; exact hm6
          have hf := fits_do GA.out HAL.out hll
          have E1 : Hid (doR a l = (bagOr (a ++ edIts l), errOr (a ++ edIts l))) := by show _ = _; simp [doR, GA.out, hll, List.all_eq_true.2 HAL.out]
          have hlen : (a ++ edIts l).length * 32 ≤ 140737488355328 := by
            have h1 := ((bagB_spec a).1 GA.out).2.2
            have h2 := edIts_length l
            rw [List.length_append]; omega
          have HC := Lib.hid (bag_sum r _ wr HS.out hf.ok hlen)
          clear et hll hf hlen
          generalize a ++ edIts l = L at *
          go_wp2_with (go_at_call 31; (with_reducible refine HC.out.mono ?_); rintro e w5 ⟨A5, cap5, rfl, hr5, hb5⟩)
          go_ret2
          rw [E1.out]
          exact ⟨A5, cap5, rfl, hr5.low HBR.out.size, bchain HBR.out hb5⟩
end Go.Proofs.Bg
end

section
/- The contract of the law's length; bounds of edits. -/
namespace Go.Proofs.Bg
open Go.RowKit

theorem lenE_bd : ∀ (l : List Ed), (∀ x ∈ l, 0 ≤ x.n ∧ x.n ≤ 1000000) → 0 ≤ lenE l ∧ lenE l ≤ l.length * 1000000
  | [], _ => by simp [lenE]
  | x :: r, h => by
    have ih := lenE_bd r (fun y hy => h y (List.mem_cons_of_mem _ hy))
    have hx := h x List.mem_cons_self
    have e : lenE (x :: r) = x.n + lenE r := by simp [lenE]
    rw [e, List.length_cons]
    omega
theorem lenE_take {l : List Ed} {k : Nat} {x : Ed} (h : l[k]? = some x) : lenE (l.take (k + 1)) = lenE (l.take k) + x.n := by
  rw [List.take_add_one, h, lenE_append]
  simp [lenE]
theorem edB_n {x : Ed} (h : edB x = true) : 0 ≤ x.n ∧ x.n ≤ 1000000 := by
  unfold edB withinB at h
  simp only [Bool.and_eq_true, decide_eq_true_eq] at h
  omega
theorem flat_le {α β : Type} (f : α → List β) (c : Nat) : ∀ (l : List α), (∀ x ∈ l, (f x).length ≤ c) → (l.flatMap f).length ≤ l.length * c
  | [], _ => by simp
  | x :: r, h => by
    have ih := flat_le f c r (fun y hy => h y (List.mem_cons_of_mem _ hy))
    have hx := h x List.mem_cons_self
    rw [List.flatMap_cons, List.length_append, List.length_cons, Nat.add_mul]
    omega
theorem insI_len (k : Int) : ∀ (l : List Int), (insI k l).length ≤ l.length + 1
  | [] => by simp [insI]
  | x :: r => by
    have := insI_len k r
    unfold insI
    repeat' split
    all_goals simp
    all_goals omega
theorem keys_len : ∀ (l : List It), (keysL l).length ≤ l.length
  | [] => by simp [keysL]
  | x :: r => by
    have h1 := keys_len r
    have h2 := insI_len x.r.key (keysL r)
    show (insI x.r.key (keysL r)).length ≤ _
    rw [List.length_cons]
    omega
theorem editsR_bd {a b : List It} (h : (editsR a b).2 = 0) : (∀ x ∈ (editsR a b).1, 0 ≤ x.n ∧ x.n ≤ 1000000) ∧ (editsR a b).1.length ≤ 1000000 := by
  obtain ⟨ha, hb, hg, e⟩ := editsR_ok h
  rw [e]
  refine ⟨fun x hx => edB_n ((editsL_ok ha hb x hx).2 (bigE_false hg x hx)), ?_⟩
  have h1 := ((bagB_spec a).1 ha).2.2
  have h2 := ((bagB_spec b).1 hb).2.2
  have h3 : (diffL a b).length ≤ 600 := by
    have := canon_length (a.map negIt ++ b)
    unfold diffL
    simp only [List.length_append, List.length_map] at this
    omega
  have h4 := flat_le (edKey (diffL a b)) 1200 (keysL (diffL a b)) (fun k _ => by have := edKey_length (diffL a b) k; omega)
  have h5 := keys_len (diffL a b)
  unfold editsL
  have : (keysL (diffL a b)).length * 1200 ≤ 600 * 1200 := Nat.mul_le_mul_right _ (by omega)
  omega

/-- What Edits leaves, the length named. -/
def RetEL (w : World) (p : List Ed × Int) (e : Ending) (w' : World) : Prop :=
  (∃ A n cap, e = .returned (.tuple #[.slice A n cap, .int .i64 p.2]) ∧ Rd Ed.vs 8 w' w.heap.size A n p.1) ∧ Below w.heap.size w w'
theorem RetEds.lst {w w' : World} {p : List Ed × Int} {e : Ending} (h : RetEds w p e w') : RetEL w p e w' := by
  obtain ⟨A, cap, he, hr, hb⟩ := h
  exact ⟨⟨A, _, cap, he, hr⟩, hb⟩

set_option maxRecDepth 100000 in
set_option maxHeartbeats 2000000 in
theorem length_any (A : Option Addr) (n cap : Nat) (l : List Ed) (w : World) (hA : Rd Ed.vs 8 w 0 A n l) (hb : ∀ x ∈ l, 0 ≤ x.n ∧ x.n ≤ 1000000) (hn : n ≤ 1000000) :
    Calls Tryd.prog 18 #[.slice A n cap] w fun e w' => e = .returned (.int .i64 (lenE l)) ∧ Below w.heap.size w w' := by
  have HA := Lib.hid hA
  have HBD := Lib.hid hb
  have hle := hA.le
  have HLN : Hid (l.length = n) := hA.len
  clear hA hb
  go_enter Tryd.func18, Tryd.ntmps18
  go_wp2_with fail
  go_loopw [3, 8] (fun v i wr => ∃ k : Nat, k ≤ n ∧ i = .int .i64 k ∧ v = .int .i64 (lenE (l.take k)) ∧ Below w.heap.size w wr) (fun _ i _ => n - (intOf i).toNat)
  case atStart => exact ⟨0, by omega, rfl, rfl, Below.refl _ _⟩
  case round =>
    obtain ⟨k, hk, rfl, rfl, hBr⟩ := hrel
    have hRk := HA.out.below hBr
    have HBR := Lib.hid hBr
    have hsz := hBr.size
    clear hBr
    by_cases hlt : k < n
    · obtain ⟨b, off, x, rfl, hx, c0, c1, c2, c3, c4, c5, c6, c7⟩ := hRk.ed_at hlt
      have hxb := HBD.out x (List.mem_of_getElem? hx)
      have hs := lenE_bd (l.take k) (fun y hy => HBD.out y (List.mem_of_mem_take hy))
      have hln : (l.take k).length ≤ 1000000 := Nat.le_trans (List.length_take_le k l) (by omega)
      have hS := Lib.hid (lenE_take hx)
      have hsb : 0 ≤ lenE (l.take k) ∧ lenE (l.take k) ≤ 1000000000000 := ⟨hs.1, by omega⟩
      have HBX := Lib.hid (new_block wr #[.int .i64 x.d, .int .i64 x.old.at_, .int .i64 x.old.key, .int .i64 x.old.val, .int .i64 x.new.at_, .int .i64 x.new.key, .int .i64 x.new.val, .int .i64 x.n] 72)
      obtain ⟨f0, f1, f2, f3, f4, f5, f6, f7⟩ := box8 HBX.out
      clear hs hln hx hRk
      generalize lenE (l.take k) = S at *
      have hw : IntKind.i64.wrap (S + x.n) = S + x.n := IntWalk.i64_in _ (by omega)
      go_wp2_with fail
      exact ⟨⟨k + 1, by omega, by go_num, by rw [hS.out], HBR.out.alloc hsz _⟩, by simp [intOf]; omega⟩
    · have hk' : k = n := by omega
      subst hk'
      have HF : Hid (lenE (l.take k) = lenE l) := by show _ = _; rw [List.take_of_length_le (by rw [HLN.out]; exact Nat.le_refl _)]
      rw [HF.out]
      clear hRk hlt
      go_wp2_with fail
      go_ret
      exact ⟨rfl, HBR.out⟩
end Go.Proofs.Bg
end

section
/- What a call that returns a bag and an error leaves, the length named. -/
namespace Go.Proofs.Bg
open Go.RowKit
def RetL (w : World) (p : List It × Int) (e : Ending) (w' : World) : Prop :=
  (∃ A n cap, e = .returned (.tuple #[.slice A n cap, .int .i64 p.2]) ∧ Rd It.vs 4 w' w.heap.size A n p.1) ∧ Below w.heap.size w w'
theorem RetBag.lst {w w' : World} {p : List It × Int} {e : Ending} (h : RetBag w p e w') : RetL w p e w' := by
  obtain ⟨A, cap, he, hr, hb⟩ := h
  exact ⟨⟨A, _, cap, he, hr⟩, hb⟩
end Go.Proofs.Bg
end

section
/- BagLeast: the walk of the law. -/
namespace Go.Proofs.Bg
open Go.RowKit

theorem doR_long {a : List It} {l : List Ed} (h : ¬ l.length ≤ 600) : doR a l = ([], 2) := by
  unfold doR
  have : decide (l.length ≤ 600) = false := by simpa using h
  rw [this]
  simp

set_option maxRecDepth 100000 in
set_option maxHeartbeats 16000000 in
theorem BagLeast_any (A B D : Option Addr) (n m p capA capB capD : Nat) (a b : List It) (d : List Ed) (w : World) (hA : Rd It.vs 4 w 0 A n a) (hB : Rd It.vs 4 w 0 B m b) (hD : Rd Ed.vs 8 w 0 D p d) (ht : Tab w) :
    Calls Tryd.prog 5 #[.slice A n capA, .slice B m capB, .slice D p capD] w fun e w' => e = .returned (.bool true) ∧ Below w.heap.size w w' := by
  have HA := Lib.hid hA
  have HB := Lib.hid hB
  have HD := Lib.hid hD
  have HT := Lib.hid ht
  have HLD : Hid (d.length = p) := hD.len
  clear hA hB hD ht
  have F1 : Hid ((editsR a b).2 = 0 → bagB a = true ∧ bagB b = true ∧ ((editsR a b).1.length ≤ 600 → doR a (editsR a b).1 = (b, 0)) ∧ (editsR b a).2 = 0 ∧ lenE (editsR b a).1 = lenE (editsR a b).1) := fun h => ⟨(editsR_ok h).1, (editsR_ok h).2.1, do_edits h, edits_back_ok h⟩
  have F2 : Hid ((editsR a b).2 = 0 → (∀ x ∈ (editsR a b).1, 0 ≤ x.n ∧ x.n ≤ 1000000) ∧ (editsR a b).1.length ≤ 1000000) := editsR_bd
  have F3 : Hid ((editsR b a).2 = 0 → (∀ x ∈ (editsR b a).1, 0 ≤ x.n ∧ x.n ≤ 1000000) ∧ (editsR b a).1.length ≤ 1000000) := editsR_bd
  have F4 : Hid ((doR a d).2 = 0 → bagB a = true ∧ d.length ≤ 600 ∧ (∀ x ∈ d, 0 ≤ x.n ∧ x.n ≤ 1000000) ∧ bagB (doR a d).1 = true) := fun h => by
    obtain ⟨h1, h2, h3, h4, h5⟩ := doR_ok h
    exact ⟨h1, h2, fun x hx => edB_n (h3 x hx), by rw [h5]; exact h4⟩
  have F5 : Hid ((doR a d).2 = 0 → (editsR a (doR a d).1).2 = 3 ∨ ((editsR a (doR a d).1).2 = 0 ∧ lenE (editsR a (doR a d).1).1 ≤ lenE d)) := edits_least
  have F6 : Hid ((editsR a (doR a d).1).2 = 0 → (∀ x ∈ (editsR a (doR a d).1).1, 0 ≤ x.n ∧ x.n ≤ 1000000) ∧ (editsR a (doR a d).1).1.length ≤ 1000000) := editsR_bd
  generalize hx : editsR a b = x at *
  have HX := Lib.hid hx
  clear hx
  generalize hx : editsR b a = y at *
  have HY := Lib.hid hx
  clear hx
  generalize hx : doR a d = z at *
  have HZ := Lib.hid hx
  clear hx
  obtain ⟨l1, e1⟩ := x
  obtain ⟨l2, e2⟩ := y
  obtain ⟨l3, e3⟩ := z
  generalize hx : editsR a l3 = v at *
  have HV := Lib.hid hx
  clear hx
  obtain ⟨l4, e4⟩ := v
  dsimp only at F1 F2 F3 F4 F5 F6
  go_enter Tryd.func5, Tryd.ntmps5
  have C := Lib.hid ((Edits_any A B n m capA capB a b w HA.out HB.out).mono fun _ _ h => h.lst)
  rw [HX.out] at C
  go_wp2_with fail
  (with_reducible refine C.out.mono ?_)
  rintro e w1 ⟨⟨S1, q1, c1, rfl, hr⟩, hb⟩
  have HS0 := Lib.hid hb
  have HR1 := Lib.hid (hr.low (Nat.zero_le _))
  have HQ1 : Hid ((l1).length = q1) := hr.len
  clear hr
  clear hb C
  cases h1 : (e1 == 0) with
  | false =>
    clear F1 F2 F3
    have C := Lib.hid ((Do_any A D n p capA capD a d w1 (HA.out.below HS0.out) (HD.out.below HS0.out)).mono fun _ _ h => h.lst)
    rw [HZ.out] at C
    go_wp2_with fail
    (with_reducible refine C.out.mono ?_)
    rintro e w2 ⟨⟨S2, q2, c2, rfl, hr⟩, hb⟩
    have HS1 := Lib.hid hb
    have HR2 := Lib.hid (hr.low (Nat.zero_le _))
    clear hr
    clear hb C
    cases h3 : (e3 != 0) with
    | true =>
      clear F4 F5 F6
      have C := Lib.hid (known_any w2 (HT.out.below (bchain HS0.out HS1.out)))
      go_wp2_with fail
      (with_reducible refine C.out.mono ?_)
      rintro e w3 ⟨rfl, hb⟩
      have HS2 := Lib.hid hb
      clear hb C
      go_wp2_with fail
      go_ret
      exact ⟨rfl, (bchain HS0.out (bchain HS1.out HS2.out))⟩
    | false =>
      obtain rfl : e3 = 0 := by simpa using h3
      clear h3
      obtain ⟨ga, hl, hbd, gc⟩ := F4.out (by trivial)
      have GA := Lib.hid ga
      have GC := Lib.hid gc
      have HBD := Lib.hid hbd
      have HPD : Hid (p ≤ 1000000) := by have := HLD.out; show _ ≤ _; omega
      have hor := F5.out (by trivial)
      clear ga gc hbd F5
      have C := Lib.hid (Good_any A n capA a w2 (HA.out.below (bchain HS0.out HS1.out)))
      rw [GA.out] at C
      go_wp2_with fail
      (with_reducible refine C.out.mono ?_)
      rintro e w3 ⟨rfl, hb⟩
      have HS2 := Lib.hid hb
      clear hb C
      have C := Lib.hid (Good_any S2 q2 c2 l3 w3 (HR2.out.below HS2.out))
      rw [GC.out] at C
      go_wp2_with fail
      (with_reducible refine C.out.mono ?_)
      rintro e w4 ⟨rfl, hb⟩
      have HS3 := Lib.hid hb
      clear hb C
      have C := Lib.hid ((Edits_any A S2 n q2 capA c2 a l3 w4 (HA.out.below (bchain HS0.out (bchain HS1.out (bchain HS2.out HS3.out)))) (HR2.out.below (bchain HS2.out HS3.out))).mono fun _ _ h => h.lst)
      rw [HV.out] at C
      go_wp2_with fail
      (with_reducible refine C.out.mono ?_)
      rintro e w5 ⟨⟨S3, q3, c3, rfl, hr⟩, hb⟩
      have HS4 := Lib.hid hb
      have HR3 := Lib.hid (hr.low (Nat.zero_le _))
      have HQ3 : Hid ((l4).length = q3) := hr.len
      clear hr
      clear hb C
      rcases hor with rfl | ⟨rfl, hle⟩
      · clear F6
        have C := Lib.hid (known_any w5 (HT.out.below (bchain HS0.out (bchain HS1.out (bchain HS2.out (bchain HS3.out HS4.out))))))
        go_wp2_with fail
        (with_reducible refine C.out.mono ?_)
        rintro e w6 ⟨rfl, hb⟩
        have HS5 := Lib.hid hb
        clear hb C
        go_wp2_with fail
        go_ret
        exact ⟨rfl, (bchain HS0.out (bchain HS1.out (bchain HS2.out (bchain HS3.out (bchain HS4.out HS5.out)))))⟩
      · obtain ⟨hbx, hlx⟩ := F6.out (by trivial)
        have HBX := Lib.hid hbx
        have HLX : Hid (q3 ≤ 1000000) := by have := HQ3.out; show _ ≤ _; omega
        have hd : decide (lenE l4 ≤ lenE d) = true := by simpa using hle
        clear hbx hlx F6 hle
        have C := Lib.hid (length_any S3 q3 c3 l4 w5 HR3.out HBX.out HLX.out)
        go_wp2_with fail
        (with_reducible refine C.out.mono ?_)
        rintro e w6 ⟨rfl, hb⟩
        have HS5 := Lib.hid hb
        clear hb C
        have C := Lib.hid (length_any D p capD d w6 (HD.out.below (bchain HS0.out (bchain HS1.out (bchain HS2.out (bchain HS3.out (bchain HS4.out HS5.out)))))) HBD.out HPD.out)
        go_wp2_with fail
        (with_reducible refine C.out.mono ?_)
        rintro e w7 ⟨rfl, hb⟩
        have HS6 := Lib.hid hb
        clear hb C
        have C := Lib.hid (known_any w7 (HT.out.below (bchain HS0.out (bchain HS1.out (bchain HS2.out (bchain HS3.out (bchain HS4.out (bchain HS5.out HS6.out))))))))
        go_wp2_with fail
        (with_reducible refine C.out.mono ?_)
        rintro e w8 ⟨rfl, hb⟩
        have HS7 := Lib.hid hb
        clear hb C
        go_wp2_with fail
        go_ret
        exact ⟨rfl, (bchain HS0.out (bchain HS1.out (bchain HS2.out (bchain HS3.out (bchain HS4.out (bchain HS5.out (bchain HS6.out HS7.out)))))))⟩
  | true =>
    obtain rfl : e1 = 0 := by simpa using h1
    clear h1
    obtain ⟨ga, gb, hdo, h2, hlen⟩ := F1.out (by trivial)
    obtain ⟨hb1, hl1⟩ := F2.out (by trivial)
    obtain ⟨hb2, hl2⟩ := F3.out h2
    subst h2
    have GA1 := Lib.hid ga
    have GB1 := Lib.hid gb
    have HDO := Lib.hid hdo
    have HLE := Lib.hid hlen
    have HB1 := Lib.hid hb1
    have HB2 := Lib.hid hb2
    have HL2 := Lib.hid hl2
    have HL1 : Hid (q1 ≤ 1000000) := by have := HQ1.out; show _ ≤ _; omega
    clear ga gb hdo hlen hb1 hb2 hl1 hl2 F1 F2 F3
    have C := Lib.hid (Good_any A n capA a w1 (HA.out.below HS0.out))
    rw [GA1.out] at C
    go_wp2_with fail
    (with_reducible refine C.out.mono ?_)
    rintro e w2 ⟨rfl, hb⟩
    have HS1 := Lib.hid hb
    clear hb C
    have C := Lib.hid (Good_any B m capB b w2 (HB.out.below (bchain HS0.out HS1.out)))
    rw [GB1.out] at C
    go_wp2_with fail
    (with_reducible refine C.out.mono ?_)
    rintro e w3 ⟨rfl, hb⟩
    have HS2 := Lib.hid hb
    clear hb C
    by_cases h6 : q1 ≤ 600
    · have HDX := Lib.hid (HDO.out (by have := HQ1.out; omega))
      have hq6 : decide ((q1 : Int) ≤ 600) = true := by simp; omega
      clear HDO
      have C := Lib.hid ((Do_any A S1 n q1 capA c1 a l1 w3 (HA.out.below (bchain HS0.out (bchain HS1.out HS2.out))) (HR1.out.below (bchain HS1.out HS2.out))).mono fun _ _ h => h.lst)
      rw [HDX.out] at C
      go_wp2_with fail
      (with_reducible refine C.out.mono ?_)
      rintro e w4 ⟨⟨S2, q2, c2, rfl, hr⟩, hb⟩
      have HS3 := Lib.hid hb
      have HR2 := Lib.hid (hr.low (Nat.zero_le _))
      clear hr
      clear hb C
      have C := Lib.hid ((Edits_any B A m n capB capA b a w4 (HB.out.below (bchain HS0.out (bchain HS1.out (bchain HS2.out HS3.out)))) (HA.out.below (bchain HS0.out (bchain HS1.out (bchain HS2.out HS3.out))))).mono fun _ _ h => h.lst)
      rw [HY.out] at C
      go_wp2_with fail
      (with_reducible refine C.out.mono ?_)
      rintro e w5 ⟨⟨S3, q3, c3, rfl, hr⟩, hb⟩
      have HS4 := Lib.hid hb
      have HR3 := Lib.hid (hr.low (Nat.zero_le _))
      have HQ3 : Hid ((l2).length = q3) := hr.len
      clear hr
      clear hb C
      have HLK : Hid (q3 ≤ 1000000) := by have := HQ3.out; have := HL2.out; show _ ≤ _; omega
      have HE : Hid (decide (b = b) = true) := by show _ = _; simp
      have C := Lib.hid (Equal_any S2 B q2 m c2 capB b b w5 (HR2.out.below HS4.out) (HB.out.below (bchain HS0.out (bchain HS1.out (bchain HS2.out (bchain HS3.out HS4.out))))))
      rw [HE.out] at C
      go_wp2_with fail
      (with_reducible refine C.out.mono ?_)
      rintro e w6 ⟨rfl, hb⟩
      have HS5 := Lib.hid hb
      clear hb C
      clear HE
      have C := Lib.hid (length_any S3 q3 c3 l2 w6 (HR3.out.below HS5.out) HB2.out HLK.out)
      go_wp2_with fail
      (with_reducible refine C.out.mono ?_)
      rintro e w7 ⟨rfl, hb⟩
      have HS6 := Lib.hid hb
      clear hb C
      rw [HLE.out]
      have C := Lib.hid (length_any S1 q1 c1 l1 w7 (HR1.out.below (bchain HS1.out (bchain HS2.out (bchain HS3.out (bchain HS4.out (bchain HS5.out HS6.out)))))) HB1.out HL1.out)
      go_wp2_with fail
      (with_reducible refine C.out.mono ?_)
      rintro e w8 ⟨rfl, hb⟩
      have HS7 := Lib.hid hb
      clear hb C
      have C := Lib.hid ((Do_any A D n p capA capD a d w8 (HA.out.below (bchain HS0.out (bchain HS1.out (bchain HS2.out (bchain HS3.out (bchain HS4.out (bchain HS5.out (bchain HS6.out HS7.out)))))))) (HD.out.below (bchain HS0.out (bchain HS1.out (bchain HS2.out (bchain HS3.out (bchain HS4.out (bchain HS5.out (bchain HS6.out HS7.out))))))))).mono fun _ _ h => h.lst)
      rw [HZ.out] at C
      go_wp2_with fail
      (with_reducible refine C.out.mono ?_)
      rintro e w9 ⟨⟨S4, q4, c4, rfl, hr⟩, hb⟩
      have HS8 := Lib.hid hb
      have HR4 := Lib.hid (hr.low (Nat.zero_le _))
      clear hr
      clear hb C
      cases h3 : (e3 != 0) with
      | true =>
        clear F4 F5 F6
        have C := Lib.hid (known_any w9 (HT.out.below (bchain HS0.out (bchain HS1.out (bchain HS2.out (bchain HS3.out (bchain HS4.out (bchain HS5.out (bchain HS6.out (bchain HS7.out HS8.out))))))))))
        go_wp2_with fail
        (with_reducible refine C.out.mono ?_)
        rintro e w10 ⟨rfl, hb⟩
        have HS9 := Lib.hid hb
        clear hb C
        go_wp2_with fail
        go_ret
        exact ⟨rfl, (bchain HS0.out (bchain HS1.out (bchain HS2.out (bchain HS3.out (bchain HS4.out (bchain HS5.out (bchain HS6.out (bchain HS7.out (bchain HS8.out HS9.out)))))))))⟩
      | false =>
        obtain rfl : e3 = 0 := by simpa using h3
        clear h3
        obtain ⟨ga, hl, hbd, gc⟩ := F4.out (by trivial)
        have GA := Lib.hid ga
        have GC := Lib.hid gc
        have HBD := Lib.hid hbd
        have HPD : Hid (p ≤ 1000000) := by have := HLD.out; show _ ≤ _; omega
        have hor := F5.out (by trivial)
        clear ga gc hbd F5
        have C := Lib.hid (Good_any A n capA a w9 (HA.out.below (bchain HS0.out (bchain HS1.out (bchain HS2.out (bchain HS3.out (bchain HS4.out (bchain HS5.out (bchain HS6.out (bchain HS7.out HS8.out))))))))))
        rw [GA.out] at C
        go_wp2_with fail
        (with_reducible refine C.out.mono ?_)
        rintro e w10 ⟨rfl, hb⟩
        have HS9 := Lib.hid hb
        clear hb C
        have C := Lib.hid (Good_any S4 q4 c4 l3 w10 (HR4.out.below HS9.out))
        rw [GC.out] at C
        go_wp2_with fail
        (with_reducible refine C.out.mono ?_)
        rintro e w11 ⟨rfl, hb⟩
        have HS10 := Lib.hid hb
        clear hb C
        have C := Lib.hid ((Edits_any A S4 n q4 capA c4 a l3 w11 (HA.out.below (bchain HS0.out (bchain HS1.out (bchain HS2.out (bchain HS3.out (bchain HS4.out (bchain HS5.out (bchain HS6.out (bchain HS7.out (bchain HS8.out (bchain HS9.out HS10.out))))))))))) (HR4.out.below (bchain HS9.out HS10.out))).mono fun _ _ h => h.lst)
        rw [HV.out] at C
        go_wp2_with fail
        (with_reducible refine C.out.mono ?_)
        rintro e w12 ⟨⟨S5, q5, c5, rfl, hr⟩, hb⟩
        have HS11 := Lib.hid hb
        have HR5 := Lib.hid (hr.low (Nat.zero_le _))
        have HQ5 : Hid ((l4).length = q5) := hr.len
        clear hr
        clear hb C
        rcases hor with rfl | ⟨rfl, hle⟩
        · clear F6
          have C := Lib.hid (known_any w12 (HT.out.below (bchain HS0.out (bchain HS1.out (bchain HS2.out (bchain HS3.out (bchain HS4.out (bchain HS5.out (bchain HS6.out (bchain HS7.out (bchain HS8.out (bchain HS9.out (bchain HS10.out HS11.out)))))))))))))
          go_wp2_with fail
          (with_reducible refine C.out.mono ?_)
          rintro e w13 ⟨rfl, hb⟩
          have HS12 := Lib.hid hb
          clear hb C
          go_wp2_with fail
          go_ret
          exact ⟨rfl, (bchain HS0.out (bchain HS1.out (bchain HS2.out (bchain HS3.out (bchain HS4.out (bchain HS5.out (bchain HS6.out (bchain HS7.out (bchain HS8.out (bchain HS9.out (bchain HS10.out (bchain HS11.out HS12.out))))))))))))⟩
        · obtain ⟨hbx, hlx⟩ := F6.out (by trivial)
          have HBX := Lib.hid hbx
          have HLX : Hid (q5 ≤ 1000000) := by have := HQ5.out; show _ ≤ _; omega
          have hd : decide (lenE l4 ≤ lenE d) = true := by simpa using hle
          clear hbx hlx F6 hle
          have C := Lib.hid (length_any S5 q5 c5 l4 w12 HR5.out HBX.out HLX.out)
          go_wp2_with fail
          (with_reducible refine C.out.mono ?_)
          rintro e w13 ⟨rfl, hb⟩
          have HS12 := Lib.hid hb
          clear hb C
          have C := Lib.hid (length_any D p capD d w13 (HD.out.below (bchain HS0.out (bchain HS1.out (bchain HS2.out (bchain HS3.out (bchain HS4.out (bchain HS5.out (bchain HS6.out (bchain HS7.out (bchain HS8.out (bchain HS9.out (bchain HS10.out (bchain HS11.out HS12.out))))))))))))) HBD.out HPD.out)
          go_wp2_with fail
          (with_reducible refine C.out.mono ?_)
          rintro e w14 ⟨rfl, hb⟩
          have HS13 := Lib.hid hb
          clear hb C
          have C := Lib.hid (known_any w14 (HT.out.below (bchain HS0.out (bchain HS1.out (bchain HS2.out (bchain HS3.out (bchain HS4.out (bchain HS5.out (bchain HS6.out (bchain HS7.out (bchain HS8.out (bchain HS9.out (bchain HS10.out (bchain HS11.out (bchain HS12.out HS13.out)))))))))))))))
          go_wp2_with fail
          (with_reducible refine C.out.mono ?_)
          rintro e w15 ⟨rfl, hb⟩
          have HS14 := Lib.hid hb
          clear hb C
          go_wp2_with fail
          go_ret
          exact ⟨rfl, (bchain HS0.out (bchain HS1.out (bchain HS2.out (bchain HS3.out (bchain HS4.out (bchain HS5.out (bchain HS6.out (bchain HS7.out (bchain HS8.out (bchain HS9.out (bchain HS10.out (bchain HS11.out (bchain HS12.out (bchain HS13.out HS14.out))))))))))))))⟩
    · have HDX : Hid (doR a l1 = ([], 2)) := doR_long (by have := HQ1.out; omega)
      have hq6 : decide ((q1 : Int) ≤ 600) = false := by simp; omega
      clear HDO
      have C := Lib.hid ((Do_any A S1 n q1 capA c1 a l1 w3 (HA.out.below (bchain HS0.out (bchain HS1.out HS2.out))) (HR1.out.below (bchain HS1.out HS2.out))).mono fun _ _ h => h.lst)
      rw [HDX.out] at C
      go_wp2_with fail
      (with_reducible refine C.out.mono ?_)
      rintro e w4 ⟨⟨S2, q2, c2, rfl, hr⟩, hb⟩
      have HS3 := Lib.hid hb
      have HR2 := Lib.hid (hr.low (Nat.zero_le _))
      clear hr
      clear hb C
      have C := Lib.hid ((Edits_any B A m n capB capA b a w4 (HB.out.below (bchain HS0.out (bchain HS1.out (bchain HS2.out HS3.out)))) (HA.out.below (bchain HS0.out (bchain HS1.out (bchain HS2.out HS3.out))))).mono fun _ _ h => h.lst)
      rw [HY.out] at C
      go_wp2_with fail
      (with_reducible refine C.out.mono ?_)
      rintro e w5 ⟨⟨S3, q3, c3, rfl, hr⟩, hb⟩
      have HS4 := Lib.hid hb
      have HR3 := Lib.hid (hr.low (Nat.zero_le _))
      have HQ3 : Hid ((l2).length = q3) := hr.len
      clear hr
      clear hb C
      have HLK : Hid (q3 ≤ 1000000) := by have := HQ3.out; have := HL2.out; show _ ≤ _; omega
      have C := Lib.hid (length_any S3 q3 c3 l2 w5 HR3.out HB2.out HLK.out)
      go_wp2_with fail
      (with_reducible refine C.out.mono ?_)
      rintro e w6 ⟨rfl, hb⟩
      have HS5 := Lib.hid hb
      clear hb C
      rw [HLE.out]
      have C := Lib.hid (length_any S1 q1 c1 l1 w6 (HR1.out.below (bchain HS1.out (bchain HS2.out (bchain HS3.out (bchain HS4.out HS5.out))))) HB1.out HL1.out)
      go_wp2_with fail
      (with_reducible refine C.out.mono ?_)
      rintro e w7 ⟨rfl, hb⟩
      have HS6 := Lib.hid hb
      clear hb C
      have C := Lib.hid ((Do_any A D n p capA capD a d w7 (HA.out.below (bchain HS0.out (bchain HS1.out (bchain HS2.out (bchain HS3.out (bchain HS4.out (bchain HS5.out HS6.out))))))) (HD.out.below (bchain HS0.out (bchain HS1.out (bchain HS2.out (bchain HS3.out (bchain HS4.out (bchain HS5.out HS6.out)))))))).mono fun _ _ h => h.lst)
      rw [HZ.out] at C
      go_wp2_with fail
      (with_reducible refine C.out.mono ?_)
      rintro e w8 ⟨⟨S4, q4, c4, rfl, hr⟩, hb⟩
      have HS7 := Lib.hid hb
      have HR4 := Lib.hid (hr.low (Nat.zero_le _))
      clear hr
      clear hb C
      cases h3 : (e3 != 0) with
      | true =>
        clear F4 F5 F6
        have C := Lib.hid (known_any w8 (HT.out.below (bchain HS0.out (bchain HS1.out (bchain HS2.out (bchain HS3.out (bchain HS4.out (bchain HS5.out (bchain HS6.out HS7.out)))))))))
        go_wp2_with fail
        (with_reducible refine C.out.mono ?_)
        rintro e w9 ⟨rfl, hb⟩
        have HS8 := Lib.hid hb
        clear hb C
        go_wp2_with fail
        go_ret
        exact ⟨rfl, (bchain HS0.out (bchain HS1.out (bchain HS2.out (bchain HS3.out (bchain HS4.out (bchain HS5.out (bchain HS6.out (bchain HS7.out HS8.out))))))))⟩
      | false =>
        obtain rfl : e3 = 0 := by simpa using h3
        clear h3
        obtain ⟨ga, hl, hbd, gc⟩ := F4.out (by trivial)
        have GA := Lib.hid ga
        have GC := Lib.hid gc
        have HBD := Lib.hid hbd
        have HPD : Hid (p ≤ 1000000) := by have := HLD.out; show _ ≤ _; omega
        have hor := F5.out (by trivial)
        clear ga gc hbd F5
        have C := Lib.hid (Good_any A n capA a w8 (HA.out.below (bchain HS0.out (bchain HS1.out (bchain HS2.out (bchain HS3.out (bchain HS4.out (bchain HS5.out (bchain HS6.out HS7.out)))))))))
        rw [GA.out] at C
        go_wp2_with fail
        (with_reducible refine C.out.mono ?_)
        rintro e w9 ⟨rfl, hb⟩
        have HS8 := Lib.hid hb
        clear hb C
        have C := Lib.hid (Good_any S4 q4 c4 l3 w9 (HR4.out.below HS8.out))
        rw [GC.out] at C
        go_wp2_with fail
        (with_reducible refine C.out.mono ?_)
        rintro e w10 ⟨rfl, hb⟩
        have HS9 := Lib.hid hb
        clear hb C
        have C := Lib.hid ((Edits_any A S4 n q4 capA c4 a l3 w10 (HA.out.below (bchain HS0.out (bchain HS1.out (bchain HS2.out (bchain HS3.out (bchain HS4.out (bchain HS5.out (bchain HS6.out (bchain HS7.out (bchain HS8.out HS9.out)))))))))) (HR4.out.below (bchain HS8.out HS9.out))).mono fun _ _ h => h.lst)
        rw [HV.out] at C
        go_wp2_with fail
        (with_reducible refine C.out.mono ?_)
        rintro e w11 ⟨⟨S5, q5, c5, rfl, hr⟩, hb⟩
        have HS10 := Lib.hid hb
        have HR5 := Lib.hid (hr.low (Nat.zero_le _))
        have HQ5 : Hid ((l4).length = q5) := hr.len
        clear hr
        clear hb C
        rcases hor with rfl | ⟨rfl, hle⟩
        · clear F6
          have C := Lib.hid (known_any w11 (HT.out.below (bchain HS0.out (bchain HS1.out (bchain HS2.out (bchain HS3.out (bchain HS4.out (bchain HS5.out (bchain HS6.out (bchain HS7.out (bchain HS8.out (bchain HS9.out HS10.out))))))))))))
          go_wp2_with fail
          (with_reducible refine C.out.mono ?_)
          rintro e w12 ⟨rfl, hb⟩
          have HS11 := Lib.hid hb
          clear hb C
          go_wp2_with fail
          go_ret
          exact ⟨rfl, (bchain HS0.out (bchain HS1.out (bchain HS2.out (bchain HS3.out (bchain HS4.out (bchain HS5.out (bchain HS6.out (bchain HS7.out (bchain HS8.out (bchain HS9.out (bchain HS10.out HS11.out)))))))))))⟩
        · obtain ⟨hbx, hlx⟩ := F6.out (by trivial)
          have HBX := Lib.hid hbx
          have HLX : Hid (q5 ≤ 1000000) := by have := HQ5.out; show _ ≤ _; omega
          have hd : decide (lenE l4 ≤ lenE d) = true := by simpa using hle
          clear hbx hlx F6 hle
          have C := Lib.hid (length_any S5 q5 c5 l4 w11 HR5.out HBX.out HLX.out)
          go_wp2_with fail
          (with_reducible refine C.out.mono ?_)
          rintro e w12 ⟨rfl, hb⟩
          have HS11 := Lib.hid hb
          clear hb C
          have C := Lib.hid (length_any D p capD d w12 (HD.out.below (bchain HS0.out (bchain HS1.out (bchain HS2.out (bchain HS3.out (bchain HS4.out (bchain HS5.out (bchain HS6.out (bchain HS7.out (bchain HS8.out (bchain HS9.out (bchain HS10.out HS11.out)))))))))))) HBD.out HPD.out)
          go_wp2_with fail
          (with_reducible refine C.out.mono ?_)
          rintro e w13 ⟨rfl, hb⟩
          have HS12 := Lib.hid hb
          clear hb C
          have C := Lib.hid (known_any w13 (HT.out.below (bchain HS0.out (bchain HS1.out (bchain HS2.out (bchain HS3.out (bchain HS4.out (bchain HS5.out (bchain HS6.out (bchain HS7.out (bchain HS8.out (bchain HS9.out (bchain HS10.out (bchain HS11.out HS12.out))))))))))))))
          go_wp2_with fail
          (with_reducible refine C.out.mono ?_)
          rintro e w14 ⟨rfl, hb⟩
          have HS13 := Lib.hid hb
          clear hb C
          go_wp2_with fail
          go_ret
          exact ⟨rfl, (bchain HS0.out (bchain HS1.out (bchain HS2.out (bchain HS3.out (bchain HS4.out (bchain HS5.out (bchain HS6.out (bchain HS7.out (bchain HS8.out (bchain HS9.out (bchain HS10.out (bchain HS11.out (bchain HS12.out HS13.out)))))))))))))⟩
end Go.Proofs.Bg
end
