/- The reference: sorted. -/
import Derived.StillTactics
import Derived.Deep.RegionWith
import Derived.Test.YtcbemmlhpinjkaaGreatDoorWLast
import Derived.Test.YtcbemmlhpinjkaaGreatDoorBgRef
import Derived.Test.YtcbemmlhpinjkaaGreatDoorBgLess
import Derived.Test.YtcbemmlhpinjkaaGreatDoorBgEdMem
namespace Go.Proofs.Bg
open Go.RowKit Go.Proofs.YtcbemmlhpinjkaaGreatDoorW.PrintLast

def SortedL (l : List It) : Prop := l.Pairwise (fun x y => ¬ rcmp y.r x.r < 0)
def SortRet (w : World) (l : List It) (e : Ending) (w' : World) : Prop :=
  ∃ v l', e = .returned v ∧ Own It.vs 4 40 w.heap.size w' v l' ∧ l'.Perm l ∧ SortedL l' ∧ Below w.heap.size w w'

theorem Rd.take {w : World} {lo n : Nat} {A : Option Addr} {l : List It} (h : Rd It.vs 4 w lo A n l) (k : Nat) (hk : k ≤ n) : Rd It.vs 4 w lo A k (l.take k) := by
  refine ⟨by rw [List.length_take, h.len]; omega, Nat.le_trans hk h.le, fun h0 => ?_⟩
  obtain ⟨b, off, rfl, hlo, hc⟩ := h.2.2 (by omega)
  refine ⟨b, off, rfl, hlo, fun i x hx j v hv => hc i x ?_ j v hv⟩
  rw [List.getElem?_take] at hx
  split at hx
  · exact hx
  · cases hx
theorem Rd.drop {w : World} {lo n b off : Nat} {l : List It} (h : Rd It.vs 4 w lo (some ⟨b, off, none⟩) n l) (k : Nat) (hk : k < n) : Rd It.vs 4 w lo (some ⟨b, off + k * 4, none⟩) (n - k) (l.drop k) := by
  refine ⟨by rw [List.length_drop, h.len], by have := h.le; omega, fun h0 => ?_⟩
  obtain ⟨b', off', e, hlo, hc⟩ := h.2.2 (by omega)
  cases e
  refine ⟨b, off + k * 4, rfl, hlo, fun i x hx j v hv => ?_⟩
  rw [List.getElem?_drop] at hx
  have := hc (k + i) x hx j v hv
  have e : off + k * 4 + i * 4 + j = off + (k + i) * 4 + j := by omega
  rw [e]
  exact this

/-- What the merge holds. -/
structure MRel (b1 b2 : Nat) (wS : World) (l : List It) (L l1 l2 : List It) (o1 c1 o2 c2 : Nat) (v : Value) (wr : World) : Prop where
  own : Own It.vs 4 40 wS.heap.size wr v L
  w1 : Win b1 wr (some ⟨b1, o1, none⟩) c1 l1
  w2 : Win b2 wr (some ⟨b2, o2, none⟩) c2 l2
  below : Below wS.heap.size wS wr
  perm : (L ++ (l1 ++ l2)).Perm l
  s1 : SortedL l1
  s2 : SortedL l2
  s0 : SortedL L
  lo : ∀ x ∈ L, ∀ y, y ∈ l1 ∨ y ∈ l2 → ¬ rcmp y.r x.r < 0
  k1 : b1 < wS.heap.size
  k2 : b2 < wS.heap.size

theorem MRel.app {b1 b2 : Nat} {wS : World} {l L l1 l2 : List It} {o1 c1 o2 c2 : Nat} {v : Value} {wr W w' : World} (h : MRel b1 b2 wS l L l1 l2 o1 c1 o2 c2 v wr) (h0 : wr.grownBy W none) (hg : W.grownBy w' v.ownBlock) : Win b1 w' (some ⟨b1, o1, none⟩) c1 l1 ∧ Win b2 w' (some ⟨b2, o2, none⟩) c2 l2 ∧ Below wS.heap.size wS w' :=
  ⟨(h.w1.kept h0 (fun _ e => by cases e)).kept hg (fun _ e => by have := (h.own.blk _ e).1; have := h.k1; omega), (h.w2.kept h0 (fun _ e => by cases e)).kept hg (fun _ e => by have := (h.own.blk _ e).1; have := h.k2; omega),
    (h.below.grown h0 h.below.size (fun k e => by cases e)).grown hg (Nat.le_trans h.below.size h0.size) (fun k e => (h.own.blk _ e).1)⟩
theorem sorted_snoc {L : List It} {y : It} (h : SortedL L) (hy : ∀ x ∈ L, ¬ rcmp y.r x.r < 0) : SortedL (L ++ [y]) := by
  unfold SortedL at *
  rw [List.pairwise_append]
  exact ⟨h, by simp, fun x hx z hz => by rw [List.mem_singleton.1 hz]; exact hy x hx⟩
theorem le_trans_not {x y z : Rc} (h1 : ¬ rcmp y x < 0) (h2 : ¬ rcmp z y < 0) : ¬ rcmp z x < 0 := by
  rw [rcmp_neg] at *
  omega
theorem lt_le {x y z : Rc} (h1 : rcmp y x < 0) (h2 : ¬ rcmp z x < 0) : ¬ rcmp z y < 0 := fun h => h2 (rcmp_trans h h1)

/-- Behind an item of the second list. -/
theorem MRel.take2 {b1 b2 : Nat} {wS : World} {l L r s : List It} {x y : It} {o1 c1 o2 c2 o' : Nat} {v v' : Value} {wr W w' : World} (h : MRel b1 b2 wS l L (x :: r) (y :: s) o1 c1 o2 c2 v wr) (hlt : rcmp y.r x.r < 0) (h0 : wr.grownBy W none) (hg : W.grownBy w' v.ownBlock) (ho : Own It.vs 4 40 wS.heap.size w' v' (L ++ [y])) (ho' : 0 < s.length → o' = o2 + 4) : MRel b1 b2 wS l (L ++ [y]) (x :: r) s o1 c1 o' (c2 - 1) v' w' := by
  obtain ⟨a1, a2, a3⟩ := h.app h0 hg
  obtain ⟨p1, p2⟩ := List.pairwise_cons.1 h.s1
  obtain ⟨q1, q2⟩ := List.pairwise_cons.1 h.s2
  refine ⟨ho, a1, a2.tail ho', a3, ?_, h.s1, q2, sorted_snoc h.s0 (fun z hz => h.lo z hz y (.inr List.mem_cons_self)), fun z hz u hu => ?_, h.k1, h.k2⟩
  · refine List.Perm.trans ?_ h.perm
    rw [List.append_assoc]
    exact List.Perm.append_left L (List.perm_middle (l₁ := x :: r) (l₂ := s) (a := y)).symm
  · rcases List.mem_append.1 hz with hz | hz
    · exact h.lo z hz u (hu.imp_right (List.mem_cons_of_mem _))
    · rw [List.mem_singleton.1 hz]
      rcases hu with hu | hu
      · rcases List.mem_cons.1 hu with e | hu
        · rw [e]; exact lt_le hlt (rcmp_irr _)
        · exact lt_le hlt (p1 u hu)
      · exact q1 u hu
/-- Behind an item of the first list. -/
theorem MRel.take1 {b1 b2 : Nat} {wS : World} {l L r s : List It} {x y : It} {o1 c1 o2 c2 o' : Nat} {v v' : Value} {wr W w' : World} (h : MRel b1 b2 wS l L (x :: r) (y :: s) o1 c1 o2 c2 v wr) (hge : ¬ rcmp y.r x.r < 0) (h0 : wr.grownBy W none) (hg : W.grownBy w' v.ownBlock) (ho : Own It.vs 4 40 wS.heap.size w' v' (L ++ [x])) (ho' : 0 < r.length → o' = o1 + 4) : MRel b1 b2 wS l (L ++ [x]) r (y :: s) o' (c1 - 1) o2 c2 v' w' := by
  obtain ⟨a1, a2, a3⟩ := h.app h0 hg
  obtain ⟨p1, p2⟩ := List.pairwise_cons.1 h.s1
  obtain ⟨q1, q2⟩ := List.pairwise_cons.1 h.s2
  refine ⟨ho, a1.tail ho', a2, a3, ?_, p2, h.s2, sorted_snoc h.s0 (fun z hz => h.lo z hz x (.inl List.mem_cons_self)), fun z hz u hu => ?_, h.k1, h.k2⟩
  · refine List.Perm.trans ?_ h.perm
    simp
  · rcases List.mem_append.1 hz with hz | hz
    · exact h.lo z hz u (hu.imp_left (List.mem_cons_of_mem _))
    · rw [List.mem_singleton.1 hz]
      rcases hu with hu | hu
      · exact p1 u hu
      · rcases List.mem_cons.1 hu with e | hu
        · rw [e]; exact hge
        · exact le_trans_not hge (q1 u hu)
theorem merged {L l1 l2 : List It} (h0 : SortedL L) (h1 : SortedL l1) (h2 : SortedL l2) (hlo : ∀ x ∈ L, ∀ y, y ∈ l1 ∨ y ∈ l2 → ¬ rcmp y.r x.r < 0) (he : l1 = [] ∨ l2 = []) : SortedL (L ++ l1 ++ l2) := by
  unfold SortedL at *
  rcases he with rfl | rfl
  · rw [List.append_nil, List.pairwise_append]
    exact ⟨h0, h2, fun x hx y hy => hlo x hx y (.inr hy)⟩
  · rw [List.append_nil, List.pairwise_append]
    exact ⟨h0, h1, fun x hx y hy => hlo x hx y (.inl hy)⟩

theorem Rd.news {w : World} {lo n b off : Nat} {l : List It} (h : Rd It.vs 4 w lo (some ⟨b, off, none⟩) n l) : ∀ j u, (l.flatMap It.vs)[j]? = some u → w.cell? ((⟨b, off, none⟩ : Addr).add j) = some u := by
  intro j u hu
  have hlen := flat_length It.vs_length l
  have hj : j < l.length * 4 := by rw [← hlen]; exact (List.getElem?_eq_some_iff.1 hu).1
  have e1 : (⟨b, off, none⟩ : Addr).add j = ⟨b, off + j, none⟩ := by unfold Addr.add; split <;> simp_all
  have hd : j / 4 < l.length := by omega
  have hx : l[j / 4]? = some l[j / 4] := List.getElem?_eq_getElem hd
  have hm : j % 4 < (It.vs l[j / 4]).length := by rw [It.vs_length]; omega
  have hv : (It.vs l[j / 4])[j % 4]? = some ((It.vs l[j / 4])[j % 4]'hm) := List.getElem?_eq_getElem hm
  have hf := flat_at It.vs_length l _ _ hx _ _ hv
  have hjj : j / 4 * 4 + j % 4 = j := by omega
  rw [hjj, hu] at hf
  cases hf
  obtain ⟨b', off', e, _, hc⟩ := h.2.2 (by rw [← h.len]; omega)
  cases e
  have := hc _ _ hx _ _ hv
  have e2 : off + j / 4 * 4 + j % 4 = off + j := by omega
  rw [e2] at this
  rw [e1]
  exact this
/-- 'append(s, y...)', y a window. -/
theorem wpList_appW {P : Program} {w : World} {ops : Array Oper} {rest : List Oper} {o : Oper} {a : Act} {Q : Exit → Act → World → Prop} (e : TypeId) (z : Value) (bytes : Nat) (hinf : (P.info? e).map (fun i => (i.zero, i.size, i.bytes)) = some (some z, 4, bytes)) (hzs : z.cells.size = 4)
    (hgd : o.guard = none) (s x : Operand) (t : TypeId) (ho : o.op = .call { callee := .builtin .append, args := #[s, x], argTypes := #[t, t] }) (ht : P.underlying t = some (.slice e)) (base : Nat) (v : Value) (l : List It) (hs : a.eval s = v) (hown : Own It.vs 4 e base w v l)
    (lo b off n c : Nat) (y : List It) (hx : a.eval x = .slice (some ⟨b, off, none⟩) n c) (hy : Rd It.vs 4 w lo (some ⟨b, off, none⟩) n y)
    (hbytes : (l.length + n) * bytes ≤ 140737488355328) (h63 : l.length + n ≤ maxLen) (hbase : base ≤ w.heap.size)
    (h : ∀ v' w', Own It.vs 4 e base w' v' (l ++ y) → w.grownBy w' v.ownBlock → (v'.ownBlock = v.ownBlock ∨ v'.ownBlock = some w.heap.size) → wpList P ops Q rest (a.put o.dst v') w') : wpList P ops Q (o :: rest) a w := by
  obtain ⟨i, hi, hz0, hz1, hz2⟩ := info_parts hinf
  have hn := hy.len
  refine wpList_append_own_at w hgd s x t ho base e i z 4 bytes ht hi hz0 hz1 hz2 hzs (by omega) v l.length (l.flatMap It.vs) hs hown ⟨b, off, none⟩ n c (y.flatMap It.vs) hx (by rw [flat_length It.vs_length, hn]) hy.news (fun u hu => ?_) h63 hbytes hbase fun v' w' h2 h3 _ h5 => h v' w' ?_ h3 h5
  · obtain ⟨q, _, hq⟩ := List.mem_flatMap.1 hu
    simp [It.vs] at hq
    rcases hq with rfl | rfl | rfl | rfl <;> rfl
  · unfold Own
    rw [List.length_append, List.flatMap_append, hn]
    exact h2

theorem wpList_appNil {P : Program} {w : World} {ops : Array Oper} {rest : List Oper} {o : Oper} {a : Act} {Q : Exit → Act → World → Prop} (hgd : o.guard = none) (s x : Operand) (t : TypeId) (ho : o.op = .call { callee := .builtin .append, args := #[s, x], argTypes := #[t, t] }) (c : Nat) (hs : a.eval s = .slice none 0 0) (hx : a.eval x = .slice none 0 c)
    (hrun : (Builtin.append_ #[t, t] o.type #[.slice none 0 0, .slice none 0 c]).run P w = .ok (.slice none 0 0) w) (h : wpList P ops Q rest (a.put o.dst (.slice none 0 0)) w) : wpList P ops Q (o :: rest) a w := by
  refine wpList_plain hgd fun K hK => ?_
  unfold Oper.wp
  simp [execOp, ho, resolve, invoke, builtin, hs, hx, hrun, Result.andThen]
  exact hK _ _ h

set_option maxRecDepth 100000 in
set_option maxHeartbeats 8000000 in
theorem sorted_any : ∀ (N : Nat) (A : Option Addr) (n cap : Nat) (l : List It) (w : World), n < N → Rd It.vs 4 w 0 A n l → n ≤ cap → n * 32 ≤ 140737488355328 →
    Calls Tryz.prog 104 #[.slice A n cap] w (SortRet w l)
  | 0, _, n, _, _, _, hN, _, _, _ => absurd hN (by omega)
  | N + 1, A, n, cap, l, w, hN, hR, hc, hS => by
    have IH := Lib.hid (sorted_any N)
    have HR := Lib.hid hR
    have hle := hR.le
    by_cases h2 : n < 2
    · have hd : decide ((n : Int) < 2) = true := by simp; omega
      have hsrt : SortedL l := by
        have := hR.len
        match l, this with
        | [], _ => exact List.Pairwise.nil
        | [x], _ => simp [SortedL]
        | _ :: _ :: _, h => simp at h; omega
      have HSR := Lib.hid hsrt
      rcases (by omega : n = 0 ∨ n = 1) with rfl | rfl
      · clear hsrt hR
        have hl0 : l = [] := List.length_eq_zero_iff.1 HR.out.len
        subst hl0
        cases A with
        | none =>
          have hap : ∀ (w : World) (t : TypeId) (cap : Nat), (Builtin.append_ #[22, 22] t #[.slice none 0 0, .slice none 0 cap]).run Tryz.prog w = .ok (.slice none 0 0) w := fun _ _ _ => by kernel_rfl
          go_enter Tryz.func104, Tryz.ntmps104
          go_wp2_with (at_builtin; go_loud (refine wpList_appNil rfl _ _ _ rfl cap rfl rfl (hap _ _ _) ?_))
          go_ret
          exact ⟨_, [], rfl, Own.nil _ _ _ _ _, List.Perm.refl _, HSR.out, Below.refl _ _⟩
        | some ad =>
          obtain ⟨i0, hi0, hz0, hz1, hz2⟩ := info_parts infoIt
          go_enter Tryz.func104, Tryz.ntmps104
          go_wp2_with (at_builtin; go_loud (refine wpList_append_own_at w rfl _ _ _ rfl w.heap.size 40 i0 _ 4 32 Tryz.underlying22 hi0 hz0 hz1 hz2 rfl (by omega) _ 0 [] rfl (World.ownsRow_nil w w.heap.size 40 4) ad 0 cap [] rfl rfl (by simp) (by simp) (by unfold maxLen; omega) (by omega) (Nat.le_refl _) (fun v4 w4 hown4 hg4 _ _ => ?_)))
          go_ret
          exact ⟨_, [], rfl, hown4, List.Perm.refl _, HSR.out, (Below.refl _ _).grown hg4 (Nat.le_refl _) (fun k e => nomatch (show (none : Option Nat) = some k from e))⟩
      · obtain ⟨b, off, x, rfl, _, hx, _⟩ := hR.it_at (k := 0) (by omega)
        clear hsrt hR hx
        go_enter Tryz.func104, Tryz.ntmps104
        go_wp2_with (at_builtin; go_loud (refine wpList_appW 40 _ 32 infoIt rfl rfl _ _ _ rfl Tryz.underlying22 w.heap.size _ [] rfl (Own.nil _ _ _ _ _) 0 b off 1 cap l rfl HR.out (by simp) (by unfold maxLen; simp) (Nat.le_refl _) (fun v4 w4 hown4 hg4 _ => ?_)))
        go_ret
        exact ⟨_, l, rfl, by simpa using hown4, List.Perm.refl _, HSR.out, (Below.refl _ _).grown hg4 (Nat.le_refl _) (fun k e => nomatch (show (none : Option Nat) = some k from e))⟩
    · have hd : decide ((n : Int) < 2) = false := by simp; omega
      obtain ⟨b, off, x, rfl, _, hx, _⟩ := hR.it_at (k := 0) (by omega)
      clear hR hx
      go_enter Tryz.func104, Tryz.ntmps104
      go_wp2_with fail
      -- THE HALVES
      obtain ⟨h, hh⟩ : ∃ h, n / 2 = h := ⟨_, rfl⟩
      have hh1 : 1 ≤ h := by omega
      have hh2 : h + 1 ≤ n := by omega
      have hq : Int.tdiv (n : Int) 2 = (h : Int) := by rw [Int.tdiv_eq_ediv_of_nonneg (by omega)]; omega
      have hwq : IntKind.i64.wrap (h : Int) = h := IntWalk.i64_in _ (by omega)
      have hi0 : (0 : Int) ≤ h := by omega
      have hi1 : (h : Int) ≤ n := by omega
      have hi2 : (h : Int) ≤ cap := by omega
      have hi3 : (h : Int).toNat = h := by omega
      have hcn : cap ≠ h := by omega
      have C1 := Lib.hid (IH.out (some ⟨b, off, none⟩) h cap (l.take h) w.drew (by omega) (HR.out.take h (by omega)) (by omega) (by omega))
      have HH := Lib.hid hh
      clear hh
      refine start_ (n := 14) (S := fun _ => True) (ds := []) #[false, false, false, false, false, false, false, false, false, false, false, false, false, false] (by kernel_rfl) rfl rfl trivial (fun _ => ?_)
      refine pure_ (i := 0) (N := some 11) (v := ?_) (a' := ?_) #[true, false, false, false, false, false, false, false, false, false, false, false, false, false] rfl rfl (by kernel_rfl) (fun _ _ _ h => h) (Or.inl ⟨by rfl, ?_⟩) ?_ ?_
      rotate_left
      · intro w'
        go_simp
        with_reducible rfl
      rotate_left
      · simp only [Act.put, List.setIfInBounds_toArray, List.set_cons_zero, List.set_cons_succ]
        rfl
      refine pure_ (i := 1) (N := some 12) (v := ?_) (a' := ?_) #[true, true, false, false, false, false, false, false, false, false, false, false, false, false] rfl rfl (by kernel_rfl) (fun _ _ _ h => h) (Or.inl ⟨by rfl, ?_⟩) ?_ ?_
      rotate_left
      · intro w'
        go_simp
        with_reducible rfl
      rotate_left
      · simp only [Act.put, List.setIfInBounds_toArray, List.set_cons_zero, List.set_cons_succ]
        rfl
      refine pure_ (i := 2) (N := some 13) (v := ?_) (a' := ?_) #[true, true, true, false, false, false, false, false, false, false, false, false, false, false] rfl rfl (by kernel_rfl) (fun _ _ _ h => h) (Or.inl ⟨by rfl, ?_⟩) ?_ ?_
      rotate_left
      · intro w'
        go_simp
        with_reducible rfl
      rotate_left
      · simp only [Act.put, List.setIfInBounds_toArray, List.set_cons_zero, List.set_cons_succ]
        rfl
      refine pure_ (i := 3) (N := some 14) (v := ?_) (a' := ?_) #[true, true, true, true, false, false, false, false, false, false, false, false, false, false] rfl rfl (by kernel_rfl) (fun _ _ _ h => h) (Or.inl ⟨by rfl, ?_⟩) ?_ ?_
      rotate_left
      · intro w'
        go_simp
        with_reducible rfl
      rotate_left
      · simp only [Act.put, List.setIfInBounds_toArray, List.set_cons_zero, List.set_cons_succ]
        rfl
      refine pure_ (i := 4) (N := some 15) (v := ?_) (a' := ?_) #[true, true, true, true, true, false, false, false, false, false, false, false, false, false] rfl rfl (by kernel_rfl) (fun _ _ _ h => h) (Or.inl ⟨by rfl, ?_⟩) ?_ ?_
      rotate_left
      · intro w'
        go_simp
        with_reducible rfl
      rotate_left
      · simp only [Act.put, List.setIfInBounds_toArray, List.set_cons_zero, List.set_cons_succ]
        rfl
      refine pure_ (i := 6) (N := some 17) (v := ?_) (a' := ?_) #[true, true, true, true, true, false, true, false, false, false, false, false, false, false] rfl rfl (by kernel_rfl) (fun _ _ _ h => h) (Or.inl ⟨by rfl, ?_⟩) ?_ ?_
      rotate_left
      · intro w'
        go_simp
        with_reducible rfl
      rotate_left
      · simp only [Act.put, List.setIfInBounds_toArray, List.set_cons_zero, List.set_cons_succ]
        rfl
      refine pure_ (i := 7) (N := some 18) (v := ?_) (a' := ?_) #[true, true, true, true, true, false, true, true, false, false, false, false, false, false] rfl rfl (by kernel_rfl) (fun _ _ _ h => h) (Or.inl ⟨by rfl, ?_⟩) ?_ ?_
      rotate_left
      · intro w'
        go_simp
        with_reducible rfl
      rotate_left
      · simp only [Act.put, List.setIfInBounds_toArray, List.set_cons_zero, List.set_cons_succ]
        rfl
      refine pure_ (i := 8) (N := some 19) (v := ?_) (a' := ?_) #[true, true, true, true, true, false, true, true, true, false, false, false, false, false] rfl rfl (by kernel_rfl) (fun _ _ _ h => h) (Or.inl ⟨by rfl, ?_⟩) ?_ ?_
      rotate_left
      · intro w'
        go_simp
        with_reducible rfl
      rotate_left
      · simp only [Act.put, List.setIfInBounds_toArray, List.set_cons_zero, List.set_cons_succ]
        rfl
      refine pure_ (i := 9) (N := some 20) (v := ?_) (a' := ?_) #[true, true, true, true, true, false, true, true, true, true, false, false, false, false] rfl rfl (by kernel_rfl) (fun _ _ _ h => h) (Or.inl ⟨by rfl, ?_⟩) ?_ ?_
      rotate_left
      · intro w'
        go_simp
        with_reducible rfl
      rotate_left
      · simp only [Act.put, List.setIfInBounds_toArray, List.set_cons_zero, List.set_cons_succ]
        rfl
      refine pure_ (i := 10) (N := some 21) (v := ?_) (a' := ?_) #[true, true, true, true, true, false, true, true, true, true, true, false, false, false] rfl rfl (by kernel_rfl) (fun _ _ _ h => h) (Or.inl ⟨by rfl, ?_⟩) ?_ ?_
      rotate_left
      · intro w'
        go_simp
        with_reducible rfl
      rotate_left
      · simp only [Act.put, List.setIfInBounds_toArray, List.set_cons_zero, List.set_cons_succ]
        rfl
      refine one_ (i := 5) (N := some 16) #[true, true, true, true, true, true, true, true, true, true, true, false, false, false] rfl rfl (by kernel_rfl) (by decide) (fun K hK => ?_)
      refine goes_ Tryz.func104 (by kernel_rfl) rfl #[.slice (some ⟨b, off, none⟩) h cap] (by rfl) rfl rfl (by (try simp only [List.map_toArray, List.map_cons, List.map_nil]); first | done | rfl) ?_
      with_reducible refine C1.out.mono ?_
      rintro e w1 ⟨v1, m1, rfl, ho1, hp1, hs1, hb1⟩
      refine ⟨_, rfl, ?_⟩
      have C2 := Lib.hid (IH.out (some ⟨b, off + h * 4, none⟩) (n - h) (cap - h) (l.drop h) w1 (by omega) ((HR.out.below hb1.drew_left).drop h (by omega)) (by omega) (by omega))
      have hl1 : m1.length = h := by rw [hp1.length_eq, List.length_take, HR.out.len]; omega
      obtain ⟨g1, k1, rfl⟩ : ∃ g1 k1, v1 = .slice (some ⟨g1, 0, none⟩) m1.length k1 := by
        rcases ho1.2 with ⟨_, e0⟩ | ⟨g, cap, cur, e, _⟩
        · omega
        · exact ⟨g, cap, e⟩
      have HO1 := Lib.hid ho1
      have HP1 := Lib.hid hp1
      have HS1 := Lib.hid hs1
      have HB1 := Lib.hid hb1
      have HL1 := Lib.hid hl1
      clear ho1 hp1 hs1 hb1 hl1 C1
      refine hK.out _ _ trivial (fun _ => ?_)
      clear hK K
      refine norm_ (a' := ?_) ?_ ?_
      rotate_left
      · show Act.put _ (some 16) _ = _
        simp only [Act.put, List.setIfInBounds_toArray, List.set_cons_zero, List.set_cons_succ]
        rfl
      refine one_ (i := 11) (N := some 22) #[true, true, true, true, true, true, true, true, true, true, true, true, false, false] rfl rfl (by kernel_rfl) (by decide) (fun K hK => ?_)
      refine goes_ Tryz.func104 (by kernel_rfl) rfl #[.slice (some ⟨b, off + h * 4, none⟩) (n - h) (cap - h)] (by rfl) rfl rfl (by (try simp only [List.map_toArray, List.map_cons, List.map_nil]); first | done | rfl) ?_
      with_reducible refine C2.out.mono ?_
      rintro e w2 ⟨v2, m2, rfl, ho2, hp2, hs2, hb2⟩
      refine ⟨_, rfl, ?_⟩
      have hl2 : m2.length = n - h := by rw [hp2.length_eq, List.length_drop, HR.out.len]
      obtain ⟨g2, k2, rfl⟩ : ∃ g2 k2, v2 = .slice (some ⟨g2, 0, none⟩) m2.length k2 := by
        rcases ho2.2 with ⟨_, e0⟩ | ⟨g, cap, cur, e, _⟩
        · omega
        · exact ⟨g, cap, e⟩
      have HO2 := Lib.hid ho2
      have HP2 := Lib.hid hp2
      have HS2 := Lib.hid hs2
      have HB2 := Lib.hid hb2
      have HL2 := Lib.hid hl2
      clear ho2 hp2 hs2 hb2 hl2 C2
      refine hK.out _ _ trivial (fun _ => ?_)
      clear hK K
      refine norm_ (a' := ?_) ?_ ?_
      rotate_left
      · show Act.put _ (some 22) _ = _
        simp only [Act.put, List.setIfInBounds_toArray, List.set_cons_zero, List.set_cons_succ]
        rfl
      refine pure_ (i := 12) (N := some 3) (v := ?_) (a' := ?_) #[true, true, true, true, true, true, true, true, true, true, true, true, true, false] rfl rfl (by kernel_rfl) (fun _ _ _ h => h) (Or.inl ⟨by rfl, ?_⟩) ?_ ?_
      rotate_left
      · intro w'
        go_simp
        with_reducible rfl
      rotate_left
      · simp only [Act.put, List.setIfInBounds_toArray, List.set_cons_zero, List.set_cons_succ]
        rfl
      refine pure_ (i := 13) (N := some 4) (v := ?_) (a' := ?_) #[true, true, true, true, true, true, true, true, true, true, true, true, true, true] rfl rfl (by kernel_rfl) (fun _ _ _ h => h) (Or.inl ⟨by rfl, ?_⟩) ?_ ?_
      rotate_left
      · intro w'
        go_simp
        with_reducible rfl
      rotate_left
      · simp only [Act.put, List.setIfInBounds_toArray, List.set_cons_zero, List.set_cons_succ]
        rfl
      refine done_ (by kernel_rfl) ?_
      have HREL : Hid (MRel g1 g2 w2 l [] m1 m2 0 k1 0 k2 (.slice none 0 0) w2) := by
        have hg1 := HO1.out.blk g1 rfl
        have hg2 := HO2.out.blk g2 rfl
        have hz := HB2.out.size
        refine ⟨Own.nil _ _ _ _ _, (HO1.out.below HB2.out).win 0, HO2.out.win 0, Below.refl _ _, ?_, HS1.out, HS2.out, List.Pairwise.nil, (fun x hx => by cases hx), by omega, by omega⟩
        have := HP1.out.append HP2.out
        rwa [List.take_append_drop] at this
      have HWB : Hid (Below w.heap.size w w2) := HB1.out.drew_left.trans (HB2.out.mono HB1.out.size)
      have hlen : m1.length + m2.length = n := by have := HL1.out; have := HL2.out; omega
      have HLEN := Lib.hid hlen
      clear hh1 hh2 hq hwq hi0 hi1 hi2 hi3 hcn hlen hle h2 hd
      go_wp2_with fail
      go_loopw [3, 4, 5] (fun v3 v4 v wr => ∃ L l1 l2 o1 c1 o2 c2, v3 = .slice (some ⟨g1, o1, none⟩) l1.length c1 ∧ v4 = .slice (some ⟨g2, o2, none⟩) l2.length c2 ∧ MRel g1 g2 w2 l L l1 l2 o1 c1 o2 c2 v wr) (fun v3 v4 _ _ => lenOf v3 + lenOf v4)
      case atStart => exact ⟨_, _, _, _, _, _, _, rfl, rfl, HREL.out⟩
      case round =>
        clear HREL
        obtain ⟨L, l1, l2, o1, c1, o2, c2, rfl, rfl, hrel⟩ := hrel
        obtain ⟨B3, c3, rfl⟩ := hrel.own.shape
        have HRL := Lib.hid hrel
        have htot : L.length + (l1.length + l2.length) = n := by
          have := hrel.perm.length_eq
          rw [HR.out.len] at this
          simpa using this
        have hz1 := hrel.w1.rd.2.1
        have hz2 := hrel.w2.rd.2.1
        clear hrel
        by_cases hm1 : l1 = []
        · have hd1 : decide (0 < l1.length) = false := by rw [hm1]; rfl
          have HE : Hid (l1 = [] ∨ l2 = []) := .inl hm1
          clear hm1
          go_wp2_with (first | (at_builtin; refine wpList_appW 40 _ 32 infoIt rfl rfl _ _ _ rfl Tryz.underlying22 w2.heap.size _ L rfl HRL.out.own 0 g1 o1 l1.length c1 l1 rfl HRL.out.w1.rd (by omega) (by unfold maxLen; omega) HRL.out.below.size (fun v5 z5 hown5 hg5 _ => ?_); have HA5 := Lib.hid (HRL.out.app (World.grownBy.refl _ _) hg5); have HO5 := Lib.hid hown5; clear hown5 hg5) | (at_builtin; refine wpList_appW 40 _ 32 infoIt rfl rfl _ _ _ rfl Tryz.underlying22 w2.heap.size _ (L ++ l1) rfl HO5.out 0 g2 o2 l2.length c2 l2 rfl HA5.out.2.1.rd (by rw [List.length_append]; omega) (by rw [List.length_append]; unfold maxLen; omega) HA5.out.2.2.size (fun v6 z6 hown6 hg6 _ => ?_); have HG6 := Lib.hid hg6; have HO6 := Lib.hid hown6; clear hown6 hg6))
          go_ret
          have hsz := HWB.out.size
          refine ⟨_, L ++ l1 ++ l2, rfl, HO6.out.low hsz, by rw [List.append_assoc]; exact HRL.out.perm, merged HRL.out.s0 HRL.out.s1 HRL.out.s2 HRL.out.lo HE.out, ?_⟩
          have hb6 := HA5.out.2.2.grown HG6.out HA5.out.2.2.size (fun k e => (HO5.out.blk k e).1)
          exact HWB.out.trans (hb6.mono hsz)
        · by_cases hm2 : l2 = []
          · have hd1 : decide (0 < l1.length) = true := by cases l1 with | nil => exact absurd rfl hm1 | cons _ _ => simp
            have hd2 : decide (0 < l2.length) = false := by rw [hm2]; rfl
            have HE : Hid (l1 = [] ∨ l2 = []) := .inr hm2
            clear hm1 hm2
            go_wp2_with (first | (at_builtin; refine wpList_appW 40 _ 32 infoIt rfl rfl _ _ _ rfl Tryz.underlying22 w2.heap.size _ L rfl HRL.out.own 0 g1 o1 l1.length c1 l1 rfl HRL.out.w1.rd (by omega) (by unfold maxLen; omega) HRL.out.below.size (fun v5 z5 hown5 hg5 _ => ?_); have HA5 := Lib.hid (HRL.out.app (World.grownBy.refl _ _) hg5); have HO5 := Lib.hid hown5; clear hown5 hg5) | (at_builtin; refine wpList_appW 40 _ 32 infoIt rfl rfl _ _ _ rfl Tryz.underlying22 w2.heap.size _ (L ++ l1) rfl HO5.out 0 g2 o2 l2.length c2 l2 rfl HA5.out.2.1.rd (by rw [List.length_append]; omega) (by rw [List.length_append]; unfold maxLen; omega) HA5.out.2.2.size (fun v6 z6 hown6 hg6 _ => ?_); have HG6 := Lib.hid hg6; have HO6 := Lib.hid hown6; clear hown6 hg6))
            go_ret
            have hsz := HWB.out.size
            refine ⟨_, L ++ l1 ++ l2, rfl, HO6.out.low hsz, by rw [List.append_assoc]; exact HRL.out.perm, merged HRL.out.s0 HRL.out.s1 HRL.out.s2 HRL.out.lo HE.out, ?_⟩
            have hb6 := HA5.out.2.2.grown HG6.out HA5.out.2.2.size (fun k e => (HO5.out.blk k e).1)
            exact HWB.out.trans (hb6.mono hsz)
          · obtain ⟨x, r, rfl⟩ : ∃ x r, l1 = x :: r := by cases l1 with | nil => exact absurd rfl hm1 | cons x r => exact ⟨x, r, rfl⟩
            obtain ⟨y, s, rfl⟩ : ∃ y s, l2 = y :: s := by cases l2 with | nil => exact absurd rfl hm2 | cons y s => exact ⟨y, s, rfl⟩
            clear hm1 hm2
            obtain ⟨_, q1, e1, hc1, hl1, hb1, x0, x1, x2, x3⟩ := HRL.out.w1.head
            cases e1
            obtain ⟨_, q2, e2, hc2, hl2, hb2, y0, y1, y2, y3⟩ := HRL.out.w2.head
            cases e2
            have hown := HRL.out.own
            have hszw := HRL.out.below.size
            clear hb1 hb2 hz1 hz2
            simp only [List.length_cons] at htot ⊢
            cases hls : lessB y.r x.r with
            | true =>
              have HLS := Lib.hid hls
              have hcm : rcmp y.r x.r < 0 := by simpa [lessB] using hls
              have HCM := Lib.hid hcm
              clear hls hcm
              by_cases hcap : c2 = 1
              · have HC1 : Hid (c2 = 1) := hcap
                go_wp2_with fail
                refine wp_region_still_tail 8 (by kernel_rfl) (by kernel_rfl) ?_
                simp only [List.take_succ_cons, List.take_zero, List.drop_succ_cons, List.drop_zero]
                change wpStill _ _ (World.drew _) _ _ _
                repeat still_step
                refine wpStill_nil ?_
                change wpList _ _ _ _ _ (World.drew _)
                go_wp2_with (first | (go_at_call 95; refine (Less_any y.r x.r _).mono ?_; rintro e w5 ⟨rfl, hb5⟩; rw [HLS.out]; have hb5' := hb5.drew_left; have kk : ∀ {b o : Nat} {v : Value}, wr.cell? ⟨b, o, none⟩ = some v → w5.cell? ⟨b, o, none⟩ = some v := fun h => (hb5'.cell (World.block_lt_of_cell? wr _ h)).trans h; have t0 := kk y0; have t1 := kk y1; have t2 := kk y2; have t3 := kk y3; have H0 : Hid (wr.grownBy w5 none) := ⟨hb5'.os, hb5'.tape, hb5'.output, hb5'.size, fun i hi _ => hb5'.block i hi⟩; have hown5 := hown.below hb5'; clear hb5 hb5' kk) | (at_builtin; refine wpList_app1 It.vs 4 40 _ 32 infoIt rfl (by decide) rfl _ _ _ rfl Tryz.underlying22 w2.heap.size _ L rfl (hown5.alloc _) y _ _ rfl rfl (newAt _ _ _ _ rfl) (by simp [It.vs, Value.oneCell']) (by omega) (by unfold maxLen; omega) (by have := H0.out.size; simp; omega) (fun v6 z6 hown6 hg6 _ => ?_); have HO6 := Lib.hid hown6; have HG6 := Lib.hid hg6; clear hown6 hg6))
                have st := HRL.out.take2 (o' := o2) (by have := HCM.out; omega) (grownBy_none_then H0.out (alloc_none _ _)) HG6.out HO6.out (fun h0 => by have := HC1.out; omega)
                have hc0 : c2 - 1 = 0 := by have := HC1.out; omega
                rw [hc0] at st
                exact ⟨⟨L ++ [y], x :: r, s, o1, c1, o2, _, rfl, rfl, st⟩, by simp [lenOf]⟩
              · have HC1 : Hid (c2 ≠ 1) := hcap
                go_wp2_with fail
                refine wp_region_still_tail 8 (by kernel_rfl) (by kernel_rfl) ?_
                simp only [List.take_succ_cons, List.take_zero, List.drop_succ_cons, List.drop_zero]
                change wpStill _ _ (World.drew _) _ _ _
                repeat still_step
                refine wpStill_nil ?_
                change wpList _ _ _ _ _ (World.drew _)
                go_wp2_with (first | (go_at_call 95; refine (Less_any y.r x.r _).mono ?_; rintro e w5 ⟨rfl, hb5⟩; rw [HLS.out]; have hb5' := hb5.drew_left; have kk : ∀ {b o : Nat} {v : Value}, wr.cell? ⟨b, o, none⟩ = some v → w5.cell? ⟨b, o, none⟩ = some v := fun h => (hb5'.cell (World.block_lt_of_cell? wr _ h)).trans h; have t0 := kk y0; have t1 := kk y1; have t2 := kk y2; have t3 := kk y3; have H0 : Hid (wr.grownBy w5 none) := ⟨hb5'.os, hb5'.tape, hb5'.output, hb5'.size, fun i hi _ => hb5'.block i hi⟩; have hown5 := hown.below hb5'; clear hb5 hb5' kk) | (at_builtin; refine wpList_app1 It.vs 4 40 _ 32 infoIt rfl (by decide) rfl _ _ _ rfl Tryz.underlying22 w2.heap.size _ L rfl (hown5.alloc _) y _ _ rfl rfl (newAt _ _ _ _ rfl) (by simp [It.vs, Value.oneCell']) (by omega) (by unfold maxLen; omega) (by have := H0.out.size; simp; omega) (fun v6 z6 hown6 hg6 _ => ?_); have HO6 := Lib.hid hown6; have HG6 := Lib.hid hg6; clear hown6 hg6))
                have st := HRL.out.take2 (o' := o2 + 4) (by have := HCM.out; omega) (grownBy_none_then H0.out (alloc_none _ _)) HG6.out HO6.out (fun _ => rfl)
                exact ⟨⟨L ++ [y], x :: r, s, o1, c1, o2 + 4, _, rfl, rfl, st⟩, by simp [lenOf]⟩
            | false =>
              have HLS := Lib.hid hls
              have hcm : ¬ rcmp y.r x.r < 0 := by simpa [lessB] using hls
              have HCM := Lib.hid hcm
              clear hls hcm
              by_cases hcap : c1 = 1
              · have HC1 : Hid (c1 = 1) := hcap
                go_wp2_with fail
                refine wp_region_still_tail 8 (by kernel_rfl) (by kernel_rfl) ?_
                simp only [List.take_succ_cons, List.take_zero, List.drop_succ_cons, List.drop_zero]
                change wpStill _ _ (World.drew _) _ _ _
                repeat still_step
                refine wpStill_nil ?_
                change wpList _ _ _ _ _ (World.drew _)
                go_wp2_with (first | (go_at_call 95; refine (Less_any y.r x.r _).mono ?_; rintro e w5 ⟨rfl, hb5⟩; rw [HLS.out]; have hb5' := hb5.drew_left; have kk : ∀ {b o : Nat} {v : Value}, wr.cell? ⟨b, o, none⟩ = some v → w5.cell? ⟨b, o, none⟩ = some v := fun h => (hb5'.cell (World.block_lt_of_cell? wr _ h)).trans h; have t0 := kk x0; have t1 := kk x1; have t2 := kk x2; have t3 := kk x3; have H0 : Hid (wr.grownBy w5 none) := ⟨hb5'.os, hb5'.tape, hb5'.output, hb5'.size, fun i hi _ => hb5'.block i hi⟩; have hown5 := hown.below hb5'; clear hb5 hb5' kk) | (at_builtin; refine wpList_app1 It.vs 4 40 _ 32 infoIt rfl (by decide) rfl _ _ _ rfl Tryz.underlying22 w2.heap.size _ L rfl (hown5.alloc _) x _ _ rfl rfl (newAt _ _ _ _ rfl) (by simp [It.vs, Value.oneCell']) (by omega) (by unfold maxLen; omega) (by have := H0.out.size; simp; omega) (fun v6 z6 hown6 hg6 _ => ?_); have HO6 := Lib.hid hown6; have HG6 := Lib.hid hg6; clear hown6 hg6))
                have st := HRL.out.take1 (o' := o1) (by have := HCM.out; omega) (grownBy_none_then H0.out (alloc_none _ _)) HG6.out HO6.out (fun h0 => by have := HC1.out; omega)
                have hc0 : c1 - 1 = 0 := by have := HC1.out; omega
                rw [hc0] at st
                exact ⟨⟨L ++ [x], r, y :: s, o1, _, o2, c2, rfl, rfl, st⟩, by simp [lenOf]⟩
              · have HC1 : Hid (c1 ≠ 1) := hcap
                go_wp2_with fail
                refine wp_region_still_tail 8 (by kernel_rfl) (by kernel_rfl) ?_
                simp only [List.take_succ_cons, List.take_zero, List.drop_succ_cons, List.drop_zero]
                change wpStill _ _ (World.drew _) _ _ _
                repeat still_step
                refine wpStill_nil ?_
                change wpList _ _ _ _ _ (World.drew _)
                go_wp2_with (first | (go_at_call 95; refine (Less_any y.r x.r _).mono ?_; rintro e w5 ⟨rfl, hb5⟩; rw [HLS.out]; have hb5' := hb5.drew_left; have kk : ∀ {b o : Nat} {v : Value}, wr.cell? ⟨b, o, none⟩ = some v → w5.cell? ⟨b, o, none⟩ = some v := fun h => (hb5'.cell (World.block_lt_of_cell? wr _ h)).trans h; have t0 := kk x0; have t1 := kk x1; have t2 := kk x2; have t3 := kk x3; have H0 : Hid (wr.grownBy w5 none) := ⟨hb5'.os, hb5'.tape, hb5'.output, hb5'.size, fun i hi _ => hb5'.block i hi⟩; have hown5 := hown.below hb5'; clear hb5 hb5' kk) | (at_builtin; refine wpList_app1 It.vs 4 40 _ 32 infoIt rfl (by decide) rfl _ _ _ rfl Tryz.underlying22 w2.heap.size _ L rfl (hown5.alloc _) x _ _ rfl rfl (newAt _ _ _ _ rfl) (by simp [It.vs, Value.oneCell']) (by omega) (by unfold maxLen; omega) (by have := H0.out.size; simp; omega) (fun v6 z6 hown6 hg6 _ => ?_); have HO6 := Lib.hid hown6; have HG6 := Lib.hid hg6; clear hown6 hg6))
                have st := HRL.out.take1 (o' := o1 + 4) (by have := HCM.out; omega) (grownBy_none_then H0.out (alloc_none _ _)) HG6.out HO6.out (fun _ => rfl)
                exact ⟨⟨L ++ [x], r, y :: s, o1 + 4, _, o2, c2, rfl, rfl, st⟩, by simp [lenOf]⟩
end Go.Proofs.Bg
