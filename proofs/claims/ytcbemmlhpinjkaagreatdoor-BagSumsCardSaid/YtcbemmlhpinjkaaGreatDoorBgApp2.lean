/- Plain words: append of a slice to a list of the call's own; the two slices' types may differ by name. -/
import Derived.Test.YtcbemmlhpinjkaaGreatDoorBgProd
namespace Go.Proofs.Bg
open Go.RowKit

theorem run_append2 {P : Program} {w : World} {t t2 ty e e2 : TypeId} (ht : P.underlying t = some (.slice e)) (ht2 : P.underlying t2 = some (.slice e2)) (v x : Value) :
    (Builtin.append_ #[t, t2] ty #[v, x]).run P w = (Builtin.append_ #[t, t] ty #[v, x]).run P w := by
  cases v <;> simp [Builtin.append_, run_underlying ht, run_underlying ht2, sizeOf, Result.andThen]
theorem run_append_none {P : Program} {w : World} {t ty e : TypeId} {i : TypeInfo} (ht : P.underlying t = some (.slice e)) (hi : P.info? e = some i) (A : Option Addr) (n cap c : Nat) (hc : n ≤ cap) :
    (Builtin.append_ #[t, t] ty #[.slice A n cap, .slice none 0 c]).run P w = .ok (.slice A n cap) w := by
  cases A with
  | none => simp [Builtin.append_, run_underlying ht, sizeOf, typeInfo, hi, Builtin.lenOf, Builtin.firstCells, loadCells, loadCellsFrom, Result.andThen, hc]
  | some a => simp [Builtin.append_, run_underlying ht, sizeOf, typeInfo, hi, Builtin.lenOf, Builtin.firstCells, loadCells, loadCellsFrom, storeCells, Result.andThen, hc]

/-- 'append(s, y...)', y any slice that reads as a list. -/
theorem wpList_appRd {P : Program} {w : World} {ops : Array Oper} {rest : List Oper} {o : Oper} {a : Act} {Q : Exit → Act → World → Prop} {α : Type} (enc : α → List Value) (sz : Nat) (hse : ∀ x, (enc x).length = sz) (h0 : 0 < sz) (hone : ∀ x, ∀ u ∈ enc x, u.oneCell' = true)
    (e e2 : TypeId) (z : Value) (bytes : Nat) (hinf : (P.info? e).map (fun i => (i.zero, i.size, i.bytes)) = some (some z, sz, bytes)) (hzs : z.cells.size = sz)
    (hgd : o.guard = none) (s x : Operand) (t t2 : TypeId) (ho : o.op = .call { callee := .builtin .append, args := #[s, x], argTypes := #[t, t2] }) (ht : P.underlying t = some (.slice e)) (ht2 : P.underlying t2 = some (.slice e2)) (base : Nat) (v : Value) (l : List α) (hs : a.eval s = v) (hown : Own enc sz e base w v l)
    (lo n c : Nat) (A : Option Addr) (y : List α) (hx : a.eval x = .slice A n c) (hy : Rd enc sz w lo A n y)
    (hbytes : (l.length + n) * bytes ≤ 140737488355328) (h63 : l.length + n ≤ maxLen) (hbase : base ≤ w.heap.size)
    (h : ∀ v' w', Own enc sz e base w' v' (l ++ y) → w.grownBy w' v.ownBlock → (v'.ownBlock = v.ownBlock ∨ v'.ownBlock = some w.heap.size) → wpList P ops Q rest (a.put o.dst v') w') : wpList P ops Q (o :: rest) a w := by
  obtain ⟨i, hi, hz0, hz1, hz2⟩ := info_parts hinf
  have hn := hy.len
  have main : ∃ v' w', (Builtin.append_ #[t, t] o.type #[v, .slice A n c]).run P w = .ok v' w' ∧ Own enc sz e base w' v' (l ++ y) ∧ w.grownBy w' v.ownBlock ∧ (v'.ownBlock = v.ownBlock ∨ v'.ownBlock = some w.heap.size) := by
    cases A with
    | none =>
      have hn0 : n = 0 := by
        cases n with
        | zero => rfl
        | succ k => obtain ⟨b, off, e, _⟩ := hy.2.2 (by omega); cases e
      subst hn0
      have hl0 : y = [] := List.length_eq_zero_iff.1 hn
      subst hl0
      obtain ⟨A1, c1, rfl⟩ := hown.shape
      exact ⟨_, w, run_append_none ht hi A1 l.length c1 c hown.capOf, by simpa using hown, World.grownBy.refl _ _, .inl rfl⟩
    | some ad =>
      have hnews : ∀ j u, (y.flatMap enc)[j]? = some u → w.cell? (ad.add j) = some u := by
        intro j u hu
        have hlen := flat_length hse y
        have hj : j < y.length * sz := by rw [← hlen]; exact (List.getElem?_eq_some_iff.1 hu).1
        have hpos : 0 < n := by
          rw [← hn]
          rcases Nat.eq_zero_or_pos y.length with h | h
          · rw [h] at hj; omega
          · exact h
        obtain ⟨b, off, e', _, hc⟩ := hy.2.2 hpos
        cases e'
        have e1 : (⟨b, off, none⟩ : Addr).add j = ⟨b, off + j, none⟩ := by unfold Addr.add; split <;> simp_all
        have hd : j / sz < y.length := (Nat.div_lt_iff_lt_mul h0).2 hj
        have hx : y[j / sz]? = some y[j / sz] := List.getElem?_eq_getElem hd
        have hm : j % sz < (enc y[j / sz]).length := by rw [hse]; exact Nat.mod_lt _ h0
        have hv : (enc y[j / sz])[j % sz]? = some ((enc y[j / sz])[j % sz]'hm) := List.getElem?_eq_getElem hm
        have hf := flat_at hse y _ _ hx _ _ hv
        have hjj : j / sz * sz + j % sz = j := by rw [Nat.mul_comm]; exact Nat.div_add_mod j sz
        rw [hjj, hu] at hf
        cases hf
        have := hc _ _ hx _ _ hv
        have e2 : off + j / sz * sz + j % sz = off + j := by omega
        rw [e2] at this
        rw [e1]
        exact this
      obtain ⟨v', w', hr, h2, h3, _, h5⟩ := run_append_own_at (P := P) w base t o.type e i z sz bytes ht hi hz0 hz1 hz2 hzs h0 v l.length (l.flatMap enc) hown ad n c (y.flatMap enc) (by rw [flat_length hse, hn]) hnews (fun u hu => by
        obtain ⟨q, _, hq⟩ := List.mem_flatMap.1 hu
        exact hone q u hq) h63 hbytes hbase
      refine ⟨v', w', hr, ?_, h3, h5⟩
      unfold Own
      rw [List.length_append, List.flatMap_append, hn]
      exact h2
  refine wpList_plain hgd fun K hK => ?_
  obtain ⟨v', w', hr, h2, h3, h5⟩ := main
  unfold Oper.wp execOp
  simp only [ho, resolve, invoke, builtin, Sem.run_bind, Sem.run_pure, Result.andThen_ok, List.map_toArray, List.map_cons, List.map_nil, hs, hx, run_append2 ht ht2, hr]
  exact hK _ _ (h v' w' h2 h3 h5)
theorem It.one (x : It) : ∀ u ∈ x.vs, u.oneCell' = true := by simp [It.vs, Value.oneCell']
theorem iv_one (x : Int) : ∀ u ∈ iv x, u.oneCell' = true := by simp [iv, Value.oneCell']
theorem bv_one' (x : Int) : ∀ u ∈ [Value.int .u8 x], u.oneCell' = true := by simp [Value.oneCell']
end Go.Proofs.Bg
