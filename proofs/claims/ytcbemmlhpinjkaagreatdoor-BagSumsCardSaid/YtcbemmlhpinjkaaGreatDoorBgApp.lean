/- Plain words: a slice that the call itself fills, as a list; append of one element. No program in sight. -/
import Derived.OwnWalk
import Derived.Maps.AppendAt
import Derived.Test.YtcbemmlhpinjkaaGreatDoorBgMem
namespace Go.Proofs.Bg
open Go.RowKit

/-- v is a slice of the call's own (in a block from base on) that holds the list l. -/
def Own {α : Type} (enc : α → List Value) (sz : Nat) (e : TypeId) (base : Nat) (w : World) (v : Value) (l : List α) : Prop := w.ownsRow base e sz v l.length (l.flatMap enc)

section
variable {α : Type} {enc : α → List Value} {sz : Nat} {e : TypeId} {base : Nat} {w w' : World} {v : Value} {l : List α}
theorem Own.nil (enc : α → List Value) (sz : Nat) (e : TypeId) (base : Nat) (w : World) : Own enc sz e base w (.slice none 0 0) [] := World.ownsRow_nil w base e sz
theorem Own.alloc (h : Own enc sz e base w v l) (o : Obj) : Own enc sz e base (w.alloc o) v l := World.ownsRow.alloc h o
theorem Own.drew (h : Own enc sz e base w v l) : Own enc sz e base w.drew v l := h
theorem Own.grown {row : Option Nat} (h : Own enc sz e base w v l) (hg : w.grownBy w' row) (hne : v.ownBlock = none ∨ v.ownBlock ≠ row) : Own enc sz e base w' v l := World.ownsRow.kept h hg hne
theorem Own.below (h : Own enc sz e base w v l) (hb : Below w.heap.size w w') : Own enc sz e base w' v l :=
  World.ownsRow.kept (row := none) h ⟨hb.os, hb.tape, hb.output, hb.size, fun i hi _ => hb.block i hi⟩ (by cases v.ownBlock <;> simp)
theorem Own.rd (hs : ∀ x, (enc x).length = sz) (h : Own enc sz e base w v l) : ∃ A cap, v = .slice A l.length cap ∧ Rd enc sz w base A l.length l := Rd.of_own hs rfl h
theorem Own.blk (h : Own enc sz e base w v l) : ∀ k, v.ownBlock = some k → base ≤ k ∧ k < w.heap.size := World.ownsRow.lt h
theorem Own.shape (h : Own enc sz e base w v l) : ∃ A cap, v = .slice A l.length cap := by
  rcases h.2 with ⟨rfl, h0⟩ | ⟨g, cap, cur, rfl, _⟩
  · exact ⟨none, 0, by rw [h0]⟩
  · exact ⟨_, cap, rfl⟩
end

theorem newCells (W : World) (c : Array Value) (T : TypeId) : ∀ j u, c.toList[j]? = some u → (W.alloc (.cells c T)).cell? ((⟨W.heap.size, 0, none⟩ : Addr).add j) = some u := fun j u h => by
  have e : (⟨W.heap.size, 0, none⟩ : Addr).add j = ⟨W.heap.size, j, none⟩ := by unfold Addr.add; split <;> simp_all
  rw [e]
  have hb : (W.alloc (.cells c T)).heap[W.heap.size]? = some (.cells c T) := by
    show (W.heap.push _)[W.heap.size]? = _
    simp
  exact cell_at_block hb (by simpa using h)

/-- The same, the block's number spelled as the walk has it. -/
theorem newAt (W : World) (xs : List Value) (T : TypeId) (b : Nat) (hb : b = W.heap.size) : ∀ j u, xs[j]? = some u → (W.alloc (.cells xs.toArray T)).cell? ((⟨b, 0, none⟩ : Addr).add j) = some u := by
  subst hb
  exact newCells W xs.toArray T

/-- The same, the new block some draws ago. -/
theorem newCells_drew (W : World) (c : Array Value) (T : TypeId) : ∀ j u, c.toList[j]? = some u → (W.alloc (.cells c T)).drew.cell? ((⟨W.heap.size, 0, none⟩ : Addr).add j) = some u := newCells W c T

def lenOf : Value → Nat | .slice _ n _ => n | _ => 0

/-- 'append(s, x)', x in a new block. -/
theorem wpList_app1 {α : Type} {P : Program} {w : World} {ops : Array Oper} {rest : List Oper} {o : Oper} {a : Act} {Q : Exit → Act → World → Prop} (enc : α → List Value) (sz : Nat) (e : TypeId) (z : Value) (bytes : Nat) (hinf : (P.info? e).map (fun i => (i.zero, i.size, i.bytes)) = some (some z, sz, bytes)) (hzs : z.cells.size = sz) (hsz : 0 < sz)
    (hgd : o.guard = none) (s x : Operand) (t : TypeId) (ho : o.op = .call { callee := .builtin .append, args := #[s, x], argTypes := #[t, t] }) (ht : P.underlying t = some (.slice e)) (base : Nat) (v : Value) (l : List α) (hs : a.eval s = v) (hown : Own enc sz e base w v l)
    (y : α) (ad : Addr) (c : Nat) (hx : a.eval x = .slice (some ad) 1 c) (hl : (enc y).length = sz) (hnews : ∀ j u, (enc y)[j]? = some u → w.cell? (ad.add j) = some u) (h1 : ∀ u ∈ enc y, u.oneCell' = true)
    (hbytes : (l.length + 1) * bytes ≤ 140737488355328) (h63 : l.length + 1 ≤ maxLen) (hbase : base ≤ w.heap.size)
    (h : ∀ v' w', Own enc sz e base w' v' (l ++ [y]) → w.grownBy w' v.ownBlock → (v'.ownBlock = v.ownBlock ∨ v'.ownBlock = some w.heap.size) → wpList P ops Q rest (a.put o.dst v') w') : wpList P ops Q (o :: rest) a w := by
  obtain ⟨i, hi, hz0, hz1, hz2⟩ := info_parts hinf
  refine wpList_append_own_at w hgd s x t ho base e i z sz bytes ht hi hz0 hz1 hz2 hzs hsz v l.length (l.flatMap enc) hs hown ad 1 c (enc y) hx (by rw [hl]; omega) hnews h1 h63 hbytes hbase fun v' w' h2 h3 _ h5 => h v' w' ?_ h3 h5
  unfold Own
  rw [List.length_append, List.flatMap_append]
  simpa using h2

end Go.Proofs.Bg
