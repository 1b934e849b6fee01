/- Texts of our own, merged: BgMem BgApp BgSort PkLex PkBits PkMem PkPure PkOwn PkLeaf PkSet PkOpen PkOrder PkInsP PkApp PkVals PkIn PkFormed PkCheck PkClone PkSort PkCompact PkCompactW PkSorted PkGrown PkRefSo PkRuleP. -/
import Derived.WalkKit
import Derived.Deep.Draws
import Derived.OwnWalk
import Derived.Maps.AppendAt
import Derived.Shelf.GgSortFunc.InsertionK
import Derived.Sort.OwnSorted
import Derived.Shelf.SlSortCmp.Insertion
import Derived.IntWalk
import Derived.Lib.Hide
import Derived.WalkSpells
import Derived.WalkLawsBesides
import Derived.StillTailTactics
import Derived.Sort.Grow
import Derived.BigQuiet
import Derived.Deep.QuietTactic
import Derived.Test.YtonjmakaebecjaaGreatDoorProg
import Derived.Deep.Slices
import Derived.Deep.Strs
import Derived.WideShapes
import Derived.Deep.RegionWith
import Derived.Laws.Rows
import Derived.Maps.OwnSet
import Derived.Deep.Onto
import Derived.Test.YtonjmakaebecjaaGreatDoorPkShelf
import Derived.Lib.SliceRun

section
/- Plain words for the walks over package bag: records and items, what a slice of them reads as, and what becomes of a reading when new memory is laid. No program in sight. -/
namespace Go.Proofs.Bg
open Go.RowKit

theorem ret_bool {a b : Bool} (h : a = b) : Ending.returned (.bool a) = .returned (.bool b) := by rw [h]
theorem ret_int {k : IntKind} {a b : Int} (h : a = b) : Ending.returned (.int k a) = .returned (.int k b) := by rw [h]

/-- A record; an item. -/
structure Rc where
  at_ : Int
  key : Int
  val : Int
deriving DecidableEq
structure It where
  r : Rc
  n : Int
deriving DecidableEq

def Rc.vs (r : Rc) : List Value := [.int .i64 r.at_, .int .i64 r.key, .int .i64 r.val]
def It.vs (x : It) : List Value := [.int .i64 x.r.at_, .int .i64 x.r.key, .int .i64 x.r.val, .int .i64 x.n]
def iv (x : Int) : List Value := [.int .i64 x]
theorem Rc.vs_length (r : Rc) : r.vs.length = 3 := rfl
theorem It.vs_length (x : It) : x.vs.length = 4 := rfl
theorem iv_length (x : Int) : (iv x).length = 1 := rfl

/-- A slice's address A and its length n: the list l lies there, sz cells an element, in a block from lo on. -/
def Rd {α : Type} (enc : α → List Value) (sz : Nat) (w : World) (lo : Nat) (A : Option Addr) (n : Nat) (l : List α) : Prop :=
  l.length = n ∧ n ≤ 9223372036854775807 ∧ (0 < n → ∃ b off, A = some ⟨b, off, none⟩ ∧ lo ≤ b ∧ ∀ i x, l[i]? = some x → ∀ j v, (enc x)[j]? = some v → w.cell? ⟨b, off + i * sz + j, none⟩ = some v)

section
variable {α : Type} {enc : α → List Value} {sz : Nat} {w w' : World} {lo n : Nat} {A : Option Addr} {l : List α}

theorem Rd.len (h : Rd enc sz w lo A n l) : l.length = n := h.1
theorem Rd.le (h : Rd enc sz w lo A n l) : n ≤ 9223372036854775807 := h.2.1
theorem Rd.below (h : Rd enc sz w lo A n l) (hb : Below w.heap.size w w') : Rd enc sz w' lo A n l :=
  ⟨h.1, h.2.1, fun hn => by
    obtain ⟨b, off, e, hl, hc⟩ := h.2.2 hn
    refine ⟨b, off, e, hl, fun i x hx j v hv => ?_⟩
    have h1 := hc i x hx j v hv
    exact (hb.cell (World.block_lt_of_cell? w _ h1)).trans h1⟩
theorem Rd.low {lo' : Nat} (h : Rd enc sz w lo A n l) (hl : lo' ≤ lo) : Rd enc sz w lo' A n l :=
  ⟨h.1, h.2.1, fun hn => by
    obtain ⟨b, off, e, hlo, hc⟩ := h.2.2 hn
    exact ⟨b, off, e, Nat.le_trans hl hlo, hc⟩⟩
theorem Rd.nil (w : World) (lo : Nat) (A : Option Addr) : Rd enc sz w lo A 0 [] := ⟨rfl, by omega, fun h => absurd h (by omega)⟩
theorem Rd.at_ (h : Rd enc sz w lo A n l) {k : Nat} (hk : k < n) : ∃ b off x, A = some ⟨b, off, none⟩ ∧ lo ≤ b ∧ l[k]? = some x ∧ ∀ j v, (enc x)[j]? = some v → w.cell? ⟨b, off + k * sz + j, none⟩ = some v := by
  obtain ⟨b, off, e, hlo, hc⟩ := h.2.2 (by omega)
  have hk' : k < l.length := by rw [h.1]; exact hk
  exact ⟨b, off, l[k], e, hlo, List.getElem?_eq_getElem hk', fun j v hv => hc k _ (List.getElem?_eq_getElem hk') j v hv⟩
end

theorem Rd.it_at {w : World} {lo n : Nat} {A : Option Addr} {l : List It} (h : Rd It.vs 4 w lo A n l) {k : Nat} (hk : k < n) :
    ∃ b off x, A = some ⟨b, off, none⟩ ∧ lo ≤ b ∧ l[k]? = some x ∧ w.cell? ⟨b, off + k * 4, none⟩ = some (.int .i64 x.r.at_) ∧ w.cell? ⟨b, off + k * 4 + 1, none⟩ = some (.int .i64 x.r.key) ∧ w.cell? ⟨b, off + k * 4 + 2, none⟩ = some (.int .i64 x.r.val) ∧ w.cell? ⟨b, off + k * 4 + 3, none⟩ = some (.int .i64 x.n) := by
  obtain ⟨b, off, x, e, hlo, hx, hc⟩ := h.at_ hk
  exact ⟨b, off, x, e, hlo, hx, hc 0 _ rfl, hc 1 _ rfl, hc 2 _ rfl, hc 3 _ rfl⟩
theorem Rd.rc_at {w : World} {lo n : Nat} {A : Option Addr} {l : List Rc} (h : Rd Rc.vs 3 w lo A n l) {k : Nat} (hk : k < n) :
    ∃ b off x, A = some ⟨b, off, none⟩ ∧ lo ≤ b ∧ l[k]? = some x ∧ w.cell? ⟨b, off + k * 3, none⟩ = some (.int .i64 x.at_) ∧ w.cell? ⟨b, off + k * 3 + 1, none⟩ = some (.int .i64 x.key) ∧ w.cell? ⟨b, off + k * 3 + 2, none⟩ = some (.int .i64 x.val) := by
  obtain ⟨b, off, x, e, hlo, hx, hc⟩ := h.at_ hk
  exact ⟨b, off, x, e, hlo, hx, hc 0 _ rfl, hc 1 _ rfl, hc 2 _ rfl⟩
theorem Rd.int_at {w : World} {lo n : Nat} {A : Option Addr} {l : List Int} (h : Rd iv 1 w lo A n l) {k : Nat} (hk : k < n) :
    ∃ b off x, A = some ⟨b, off, none⟩ ∧ lo ≤ b ∧ l[k]? = some x ∧ w.cell? ⟨b, off + k, none⟩ = some (.int .i64 x) := by
  obtain ⟨b, off, x, e, hlo, hx, hc⟩ := h.at_ hk
  exact ⟨b, off, x, e, hlo, hx, by have := hc 0 _ rfl; simpa using this⟩

/-- An element's cells in the row of all cells. -/
theorem flat_at {α : Type} {enc : α → List Value} {sz : Nat} (hs : ∀ x, (enc x).length = sz) : ∀ (l : List α) (i : Nat) (x : α), l[i]? = some x → ∀ j v, (enc x)[j]? = some v → (l.flatMap enc)[i * sz + j]? = some v
  | [], i, x, h, _, _, _ => by simp at h
  | a :: r, 0, x, h, j, v, hv => by
    simp only [List.getElem?_cons_zero, Option.some.injEq] at h
    subst h
    have hj : j < (enc a).length := (List.getElem?_eq_some_iff.1 hv).1
    rw [List.flatMap_cons, List.getElem?_append_left (by omega)]
    simpa using hv
  | a :: r, i + 1, x, h, j, v, hv => by
    simp only [List.getElem?_cons_succ] at h
    have ih := flat_at hs r i x h j v hv
    rw [List.flatMap_cons, List.getElem?_append_right (by rw [hs a]; have := Nat.add_mul i 1 sz; omega), hs a]
    have e : (i + 1) * sz + j - sz = i * sz + j := by have := Nat.add_mul i 1 sz; omega
    rw [e]; exact ih

theorem flat_length {α : Type} {enc : α → List Value} {sz : Nat} (hs : ∀ x, (enc x).length = sz) (l : List α) : (l.flatMap enc).length = l.length * sz := by
  induction l with
  | nil => simp
  | cons a r ih => simp [ih, hs a, Nat.succ_mul]; omega

/-- What the call owns reads as a list. -/
theorem Rd.of_own {α : Type} {enc : α → List Value} {sz : Nat} (hs : ∀ x, (enc x).length = sz) {w : World} {base : Nat} {e : TypeId} {v : Value} {n : Nat} {l : List α} (hl : l.length = n) (h : w.ownsRow base e sz v n (l.flatMap enc)) :
    ∃ A cap, v = .slice A n cap ∧ Rd enc sz w base A n l := by
  obtain ⟨hlen, h⟩ := h
  rcases h with ⟨rfl, h0⟩ | ⟨g, cap, cur, rfl, hb, hh, h1, h2, h3, h4⟩
  · subst h0
    obtain rfl := List.eq_nil_of_length_eq_zero hl
    exact ⟨none, 0, rfl, Rd.nil _ _ _⟩
  · refine ⟨_, cap, rfl, hl, by unfold maxLen at h2; omega, fun _ => ⟨g, 0, rfl, hb, fun i x hx j u hu => ?_⟩⟩
    have hfl := flat_at hs l i x hx j u hu
    have hown : w.ownsRow base e sz (.slice (some ⟨g, 0, none⟩) n cap) n (l.flatMap enc) := ⟨hlen, .inr ⟨g, cap, cur, rfl, hb, hh, h1, h2, h3, h4⟩⟩
    have hc := hown.cellAt (i * sz + j) (by rw [← hlen]; exact (List.getElem?_eq_some_iff.1 hfl).1)
    rw [hfl] at hc
    simpa using hc

/-- Old cells, old marks: as they were. -/
theorem bcell {W w1 : World} (hb : Below W.heap.size W w1) : (∀ b o, b < W.heap.size → w1.cell? ⟨b, o, none⟩ = W.cell? ⟨b, o, none⟩) ∧ (∀ b o, b < W.heap.size → w1.frozen? ⟨b, o, none⟩ = W.frozen? ⟨b, o, none⟩) :=
  ⟨fun b o h => hb.cell (p := ⟨b, o, none⟩) h, fun b o h => hb.frozen (p := ⟨b, o, none⟩) h⟩

/-- A cell from before a new block, and behind what was done after it. -/
theorem keep_cell {wr w1 : World} {o : Obj} (hb : Below (wr.alloc o).heap.size (wr.alloc o) w1) {b off : Nat} {v : Value} (h : wr.cell? ⟨b, off, none⟩ = some v) : w1.cell? ⟨b, off, none⟩ = some v := by
  have hlt := World.block_lt_of_cell? wr _ h
  have e1 : w1.heap[b]? = (wr.alloc o).heap[b]? := hb.block b (by simp at hlt ⊢; omega)
  have e2 : (wr.alloc o).heap[b]? = wr.heap[b]? := Below.heap_alloc wr o b hlt
  rw [← h]
  exact World.cell?_of_block (e1.trans e2)
theorem keep_new {wr w1 : World} {c : Array Value} {T : TypeId} (hb : Below (wr.alloc (.cells c T)).heap.size (wr.alloc (.cells c T)) w1) : w1.heap[wr.heap.size]? = some (.cells c T) := by
  rw [hb.block _ (by simp)]
  show (wr.heap.push _)[wr.heap.size]? = _
  simp
theorem cell_at_block {w : World} {b off : Nat} {c : Array Value} {T : TypeId} {v : Value} (h : w.heap[b]? = some (.cells c T)) (hv : c[off]? = some v) : w.cell? ⟨b, off, none⟩ = some v := by
  simp [World.cell?, h, hv]
theorem free_at_block {w : World} {b off : Nat} {c : Array Value} {T : TypeId} (h : w.heap[b]? = some (.cells c T)) : w.frozen? ⟨b, off, none⟩ = false := by
  simp [World.frozen?, h]
theorem box4 {wr w1 : World} {v0 v1 v2 v3 : Value} {T : TypeId} (hb : Below (wr.alloc (.cells #[v0, v1, v2, v3] T)).heap.size (wr.alloc (.cells #[v0, v1, v2, v3] T)) w1) :
    w1.cell? ⟨wr.heap.size, 0, none⟩ = some v0 ∧ w1.cell? ⟨wr.heap.size, 1, none⟩ = some v1 ∧ w1.cell? ⟨wr.heap.size, 2, none⟩ = some v2 ∧ w1.cell? ⟨wr.heap.size, 3, none⟩ = some v3 :=
  ⟨cell_at_block (keep_new hb) rfl, cell_at_block (keep_new hb) rfl, cell_at_block (keep_new hb) rfl, cell_at_block (keep_new hb) rfl⟩
/-- A new block, and behind what was done after it: below the old heap nothing has turned. -/
theorem below_box {B : Nat} {w wr w1 : World} {o : Obj} (h : Below B w wr) (hB : B ≤ wr.heap.size) (hb : Below (wr.alloc o).heap.size (wr.alloc o) w1) : Below B w w1 :=
  (h.alloc hB _).trans (hb.mono (by simp; omega))
theorem _root_.Go.World.grownBy.then_ {a b' c : World} {row : Option Nat} (h : a.grownBy b' row) (k : b'.grownBy c row) (_h : ∀ j : Nat, row = some j → a.heap.size ≤ j ∨ row = some j) : a.grownBy c row :=
  ⟨k.os.trans h.os, k.tape.trans h.tape, k.output.trans h.output, Nat.le_trans h.size k.size, fun i hi hne => (k.block i (Nat.lt_of_lt_of_le hi h.size) hne).trans (h.block i hi hne)⟩
theorem setCell_at {w : World} {g off : Nat} {c : Array Value} {T : TypeId} (h : w.heap[g]? = some (.cells c T)) (v : Value) : (w.setCell ⟨g, off, none⟩ v).heap[g]? = some (.cells (c.setIfInBounds off v) T) ∧ w.grownBy (w.setCell ⟨g, off, none⟩ v) (some g) := by
  refine ⟨by simp [World.setCell, Array.getElem?_modify, h], rfl, rfl, rfl, by simp [World.setCell], fun i _ hi => ?_⟩
  have : g ≠ i := fun e => hi (by rw [e])
  simp [World.setCell, Array.getElem?_modify, this]
theorem set3 {w : World} {g : Nat} {a0 b0 c0 : Value} {T : TypeId} (h : w.heap[g]? = some (.cells #[a0, b0, c0] T)) (a b c : Value) :
    (((w.setCell ⟨g, 0, none⟩ a).setCell ⟨g, 1, none⟩ b).setCell ⟨g, 2, none⟩ c).heap[g]? = some (.cells #[a, b, c] T) ∧ w.grownBy (((w.setCell ⟨g, 0, none⟩ a).setCell ⟨g, 1, none⟩ b).setCell ⟨g, 2, none⟩ c) (some g) := by
  obtain ⟨h1, g1⟩ := setCell_at (off := 0) h a
  obtain ⟨h2, g2⟩ := setCell_at (off := 1) h1 b
  obtain ⟨h3, g3⟩ := setCell_at (off := 2) h2 c
  exact ⟨h3, (g1.then_ g2 (fun j e => .inr e)).then_ g3 (fun j e => .inr e)⟩

theorem _root_.Go.RowKit.Below.drew_left {B : Nat} {w W : World} (h : Below B w.drew W) : Below B w W := ⟨h.os, h.tape, h.output, h.size, h.block⟩
theorem below_drewN {B : Nat} {w W : World} (h : Below B w W) (n : Nat) : Below B w (W.drewN n) := ⟨h.os, h.tape, h.output, h.size, h.block⟩

end Go.Proofs.Bg
end

section
/- Plain words: a slice that the call itself fills, as a list; append of one element. No program in sight. -/
namespace Go.Proofs.Bg
open Go.RowKit

/-- v is a slice of the call's own (in a block from base on) that holds the list l. -/
def Own {α : Type} (enc : α → List Value) (sz : Nat) (e : TypeId) (base : Nat) (w : World) (v : Value) (l : List α) : Prop := w.ownsRow base e sz v l.length (l.flatMap enc)

section
variable {α : Type} {enc : α → List Value} {sz : Nat} {e : TypeId} {base : Nat} {w w' : World} {v : Value} {l : List α}
theorem Own.nil (enc : α → List Value) (sz : Nat) (e : TypeId) (base : Nat) (w : World) : Own enc sz e base w (.slice none 0 0) [] := World.ownsRow_nil w base e sz
theorem Own.alloc (h : Own enc sz e base w v l) (o : Obj) : Own enc sz e base (w.alloc o) v l := World.ownsRow.alloc h o
theorem Own.drew (h : Own enc sz e base w v l) : Own enc sz e base w.drew v l := h
theorem Own.grown {row : Option Nat} (h : Own enc sz e base w v l) (hg : w.grownBy w' row) (hne : v.ownBlock = none ∨ v.ownBlock ≠ row) : Own enc sz e base w' v l := World.ownsRow.kept h hg hne
theorem Own.below (h : Own enc sz e base w v l) (hb : Below w.heap.size w w') : Own enc sz e base w' v l :=
  World.ownsRow.kept (row := none) h ⟨hb.os, hb.tape, hb.output, hb.size, fun i hi _ => hb.block i hi⟩ (by cases v.ownBlock <;> simp)
theorem Own.rd (hs : ∀ x, (enc x).length = sz) (h : Own enc sz e base w v l) : ∃ A cap, v = .slice A l.length cap ∧ Rd enc sz w base A l.length l := Rd.of_own hs rfl h
theorem Own.blk (h : Own enc sz e base w v l) : ∀ k, v.ownBlock = some k → base ≤ k ∧ k < w.heap.size := World.ownsRow.lt h
theorem Own.shape (h : Own enc sz e base w v l) : ∃ A cap, v = .slice A l.length cap := by
  rcases h.2 with ⟨rfl, h0⟩ | ⟨g, cap, cur, rfl, _⟩
  · exact ⟨none, 0, by rw [h0]⟩
  · exact ⟨_, cap, rfl⟩
end

theorem newCells (W : World) (c : Array Value) (T : TypeId) : ∀ j u, c.toList[j]? = some u → (W.alloc (.cells c T)).cell? ((⟨W.heap.size, 0, none⟩ : Addr).add j) = some u := fun j u h => by
  have e : (⟨W.heap.size, 0, none⟩ : Addr).add j = ⟨W.heap.size, j, none⟩ := by unfold Addr.add; split <;> simp_all
  rw [e]
  have hb : (W.alloc (.cells c T)).heap[W.heap.size]? = some (.cells c T) := by
    show (W.heap.push _)[W.heap.size]? = _
    simp
  exact cell_at_block hb (by simpa using h)

/-- The same, the block's number spelled as the walk has it. -/
theorem newAt (W : World) (xs : List Value) (T : TypeId) (b : Nat) (hb : b = W.heap.size) : ∀ j u, xs[j]? = some u → (W.alloc (.cells xs.toArray T)).cell? ((⟨b, 0, none⟩ : Addr).add j) = some u := by
  subst hb
  exact newCells W xs.toArray T

/-- The same, the new block some draws ago. -/
theorem newCells_drew (W : World) (c : Array Value) (T : TypeId) : ∀ j u, c.toList[j]? = some u → (W.alloc (.cells c T)).drew.cell? ((⟨W.heap.size, 0, none⟩ : Addr).add j) = some u := newCells W c T

def lenOf : Value → Nat | .slice _ n _ => n | _ => 0

/-- 'append(s, x)', x in a new block. -/
theorem wpList_app1 {α : Type} {P : Program} {w : World} {ops : Array Oper} {rest : List Oper} {o : Oper} {a : Act} {Q : Exit → Act → World → Prop} (enc : α → List Value) (sz : Nat) (e : TypeId) (z : Value) (bytes : Nat) (hinf : (P.info? e).map (fun i => (i.zero, i.size, i.bytes)) = some (some z, sz, bytes)) (hzs : z.cells.size = sz) (hsz : 0 < sz)
    (hgd : o.guard = none) (s x : Operand) (t : TypeId) (ho : o.op = .call { callee := .builtin .append, args := #[s, x], argTypes := #[t, t] }) (ht : P.underlying t = some (.slice e)) (base : Nat) (v : Value) (l : List α) (hs : a.eval s = v) (hown : Own enc sz e base w v l)
    (y : α) (ad : Addr) (c : Nat) (hx : a.eval x = .slice (some ad) 1 c) (hl : (enc y).length = sz) (hnews : ∀ j u, (enc y)[j]? = some u → w.cell? (ad.add j) = some u) (h1 : ∀ u ∈ enc y, u.oneCell' = true)
    (hbytes : (l.length + 1) * bytes ≤ 140737488355328) (h63 : l.length + 1 ≤ maxLen) (hbase : base ≤ w.heap.size)
    (h : ∀ v' w', Own enc sz e base w' v' (l ++ [y]) → w.grownBy w' v.ownBlock → (v'.ownBlock = v.ownBlock ∨ v'.ownBlock = some w.heap.size) → wpList P ops Q rest (a.put o.dst v') w') : wpList P ops Q (o :: rest) a w := by
  obtain ⟨i, hi, hz0, hz1, hz2⟩ := info_parts hinf
  refine wpList_append_own_at w hgd s x t ho base e i z sz bytes ht hi hz0 hz1 hz2 hzs hsz v l.length (l.flatMap enc) hs hown ad 1 c (enc y) hx (by rw [hl]; omega) hnews h1 h63 hbytes hbase fun v' w' h2 h3 _ h5 => h v' w' ?_ h3 h5
  unfold Own
  rw [List.length_append, List.flatMap_append]
  simpa using h2

end Go.Proofs.Bg
end

section
/- Plain words: what stands behind a sort; the order of records is a strict one. No program in sight. -/
namespace Go.Proofs.Bg
open Go.RowKit
open Go.Sort (grow putRow mapBlock flatK HoldsK Holds putRowK SWO PermIn SortedIn get_flatK size_flatK heap_grow_old)

theorem grownBy_row {α : Type} [Inhabited α] (enc : α → Value) {w : World} {g n : Nat} {os : Array Obj} (d : Array α) : w.grownBy (grow (putRow enc (Sort.ahead w n) g 0 d) os) (some g) := by
  refine ⟨rfl, rfl, rfl, by simp, fun k hk hne => ?_⟩
  rw [heap_grow_old _ _ (by simpa using hk)]
  have : g ≠ k := fun e => hne (by rw [e])
  simp [putRow, mapBlock, Sort.ahead, Array.getElem?_modify, this]

theorem holdsK_of_own {α : Type} [Inhabited α] {enc : α → List Value} {sz : Nat} (h0 : 0 < sz) (hs : ∀ x, (enc x).length = sz) {w : World} {base g cap : Nat} {e : TypeId} {l : List α} (h : Own enc sz e base w (.slice (some ⟨g, 0, none⟩) l.length cap) l) : HoldsK enc sz w g 0 l.toArray := by
  intro j hj
  rw [size_flatK] at hj
  have hj' : j < l.length * sz := by simpa using hj
  have hd : j / sz < l.length := (Nat.div_lt_iff_lt_mul h0).2 hj'
  have hm : j % sz < sz := Nat.mod_lt _ h0
  have hjj : j / sz * sz + j % sz = j := by rw [Nat.mul_comm]; exact Nat.div_add_mod j sz
  have hx : l[j / sz]? = some l[j / sz] := List.getElem?_eq_getElem hd
  have hm' : j % sz < (enc l[j / sz]).length := by rw [hs]; exact hm
  have hv : (enc l[j / sz])[j % sz]? = some ((enc l[j / sz])[j % sz]'hm') := List.getElem?_eq_getElem hm'
  have hf := flat_at hs l _ _ hx _ _ hv
  rw [hjj] at hf
  have hc := World.ownsRow.cellAt h j (by rw [← flat_length hs l]; exact (List.getElem?_eq_some_iff.1 hf).1)
  refine ⟨?_, by rw [Nat.zero_add]; exact World.ownsRow.frozenAt h j⟩
  rw [Nat.zero_add, hc, hf, id_eq, get_flatK _ _ _ _ (by simpa using hj')]
  have e1 : l.toArray[j / sz]! = l[j / sz] := by simp [hd]
  rw [e1, getElem!_pos (enc l[j / sz]) (j % sz) hm']

theorem rd_of_holdsK {α : Type} [Inhabited α] {enc : α → List Value} {sz : Nat} (hs : ∀ x, (enc x).length = sz) {w : World} {base g : Nat} {l : List α} (h : HoldsK enc sz w g 0 l.toArray) (hb : base ≤ g) (hl : l.length ≤ 9223372036854775807) : Rd enc sz w base (some ⟨g, 0, none⟩) l.length l := by
  refine ⟨rfl, hl, fun _ => ⟨g, 0, rfl, hb, fun i x hx j v hv => ?_⟩⟩
  have hi : i < l.length := (List.getElem?_eq_some_iff.1 hx).1
  have hj : j < sz := by rw [← hs x]; exact (List.getElem?_eq_some_iff.1 hv).1
  have hc := (h.cell (i := i) (c := j) (by simpa using hi) hj).1
  have e1 : l.toArray[i]! = x := by
    have := (List.getElem?_eq_some_iff.1 hx).2
    simp [hi, this]
  rw [e1] at hc
  rw [hc]
  have := (List.getElem?_eq_some_iff.1 hv)
  obtain ⟨h1, h2⟩ := this
  simp [h1, h2]

/-! ### the order of records -/
def cmpI (a b : Int) : Int := if a < b then -1 else if b < a then 1 else 0
/-- The first of three numbers that is not 0. -/
def or3 (a b c : Int) : Int := if a = 0 then if b = 0 then c else b else a
/-- The order of records. -/
def rcmp (x y : Rc) : Int := or3 (cmpI x.at_ y.at_) (cmpI x.key y.key) (cmpI x.val y.val)

theorem rcmp_neg (x y : Rc) : rcmp x y < 0 ↔ x.at_ < y.at_ ∨ (x.at_ = y.at_ ∧ (x.key < y.key ∨ (x.key = y.key ∧ x.val < y.val))) := by
  unfold rcmp or3 cmpI
  repeat' split
  all_goals omega
theorem rcmp_zero (x y : Rc) : rcmp x y = 0 ↔ x = y := by
  have : x = y ↔ x.at_ = y.at_ ∧ x.key = y.key ∧ x.val = y.val := by cases x; cases y; simp
  rw [this]
  unfold rcmp or3 cmpI
  repeat' split
  all_goals omega
theorem rcmp_swo : SWO (ltOf rcmp) where
  irrefl x := by unfold ltOf; rw [decide_eq_false_iff_not, rcmp_neg]; omega
  trans x y z h1 h2 := by
    unfold ltOf at *
    rw [decide_eq_true_iff, rcmp_neg] at *
    omega
  ntrans x y z h1 h2 := by
    unfold ltOf at *
    rw [decide_eq_false_iff_not, rcmp_neg] at *
    omega

/-- Sorted, and each once. -/
def Incr (l : List Rc) : Prop := l.Pairwise (fun x y => rcmp x y < 0)
instance : Inhabited Rc := ⟨⟨0, 0, 0⟩⟩
theorem incr_of_sorted {d d' : Array Rc} (hp : PermIn 0 d.size d d') (hs : SortedIn (ltOf rcmp) 0 d.size d') (hn : d.toList.Nodup) : Incr d'.toList ∧ d'.toList.Perm d.toList := by
  obtain ⟨h1, _, h3⟩ := hp
  have hp' : d'.toList.Perm d.toList := by
    have e1 : d'.extract 0 d.size = d' := by rw [← h1]; simp
    have e2 : d.extract 0 d.size = d := by simp
    rw [e1, e2] at h3
    exact h3
  refine ⟨List.pairwise_iff_getElem.2 fun i j hi hj hij => ?_, hp'⟩
  have hi' : i < d'.size := by simpa using hi
  have hj' : j < d'.size := by simpa using hj
  have h := hs i j (Nat.zero_le _) hij (by omega)
  rw [getElem!_pos d' j hj', getElem!_pos d' i hi'] at h
  have hne : d'[i] ≠ d'[j] := by
    intro e
    have hnn := (hp'.nodup_iff).2 hn
    have := (List.getElem_inj hnn (h₀ := hi) (h₁ := hj)).1 (by simpa using e)
    omega
  unfold ltOf at h
  rw [decide_eq_false_iff_not, rcmp_neg] at h
  have hz := mt (rcmp_zero d'[i] d'[j]).1 hne
  have hx : rcmp d'[i] d'[j] < 0 := by
    rw [rcmp_neg]
    have : ¬ (d'[i].at_ = d'[j].at_ ∧ d'[i].key = d'[j].key ∧ d'[i].val = d'[j].val) := by
      intro hc
      apply hne
      cases hu : d'[i]; cases hv : d'[j]
      rw [hu, hv] at hc
      simp at hc
      simp [hc]
    omega
  simpa using hx

end Go.Proofs.Bg
end

section
/- Plain words: the order of rows; rows sorted, each once. No program in sight. -/
namespace Go.Proofs.Bg
open Go.RowKit
open Go.Sort (SWO PermIn SortedIn)

/-- The order of rows. -/
def lexC : List Int → List Int → Int
  | [], [] => 0
  | [], _ :: _ => -1
  | _ :: _, [] => 1
  | a :: r, b :: s => if a < b then -1 else if b < a then 1 else lexC r s
/-- The reference's word for it. -/
def orderC : List Int → List Int → Int
  | [], s => 0 - (s.length : Int)
  | a :: r, [] => ((a :: r).length : Int)
  | a :: r, b :: s => if a < b then -1 else if b < a then 1 else orderC r s

theorem lexC_zero : ∀ {a b : List Int}, lexC a b = 0 ↔ a = b
  | [], [] => by simp [lexC]
  | [], b :: s => by simp [lexC]
  | a :: r, [] => by simp [lexC]
  | a :: r, b :: s => by
    rw [lexC]
    by_cases h1 : a < b
    · simp [h1]; intro h; omega
    · by_cases h2 : b < a
      · simp [h1, h2]; intro h; omega
      · have : a = b := by omega
        subst this
        simp [lexC_zero]
theorem lexC_self (a : List Int) : lexC a a = 0 := lexC_zero.2 rfl
theorem lexC_flip : ∀ (a b : List Int), lexC a b = - lexC b a
  | [], [] => rfl
  | [], b :: s => rfl
  | a :: r, [] => rfl
  | a :: r, b :: s => by
    rw [lexC, lexC, lexC_flip r s]
    repeat' split
    all_goals omega
theorem lexC_trans : ∀ {a b c : List Int}, lexC a b < 0 → lexC b c < 0 → lexC a c < 0
  | [], [], _, h, _ => by simp [lexC] at h
  | a :: r, [], _, h, _ => by simp [lexC] at h
  | _, b :: s, [], _, h => by simp [lexC] at h
  | [], b :: s, c :: t, _, _ => by simp [lexC]
  | a :: r, b :: s, c :: t, h1, h2 => by
    rw [lexC] at h1 h2 ⊢
    by_cases ab : a < b
    · by_cases bc : b < c
      · rw [if_pos (by omega)]; omega
      · by_cases cb : c < b
        · rw [if_neg bc, if_pos cb] at h2; omega
        · rw [if_pos (by omega)]; omega
    · by_cases ba : b < a
      · rw [if_neg ab, if_pos ba] at h1; omega
      · by_cases bc : b < c
        · rw [if_pos (by omega)]; omega
        · by_cases cb : c < b
          · rw [if_neg bc, if_pos cb] at h2; omega
          · rw [if_neg ab, if_neg ba] at h1
            rw [if_neg bc, if_neg cb] at h2
            rw [if_neg (by omega), if_neg (by omega)]
            exact lexC_trans h1 h2
theorem orderC_lex : ∀ (a b : List Int), (orderC a b < 0 ↔ lexC a b < 0) ∧ (orderC a b = 0 ↔ lexC a b = 0)
  | [], [] => by simp [orderC, lexC]
  | [], b :: s => by simp [orderC, lexC]; omega
  | a :: r, [] => by simp [orderC, lexC]; omega
  | a :: r, b :: s => by
    rw [orderC, lexC]
    by_cases h1 : a < b
    · simp [h1]
    · by_cases h2 : b < a
      · simp [h1, h2]
      · simp only [h1, h2, if_false]
        exact orderC_lex r s
theorem orderC_zero {a b : List Int} : orderC a b = 0 ↔ a = b := (orderC_lex a b).2.trans lexC_zero
theorem lexC_cases (a b : List Int) : lexC a b < 0 ∨ a = b ∨ lexC b a < 0 := by
  have h1 := lexC_flip a b
  by_cases h : lexC a b < 0
  · exact .inl h
  · by_cases h2 : lexC a b = 0
    · exact .inr (.inl (lexC_zero.1 h2))
    · exact .inr (.inr (by omega))

/-- Rows sorted, each once. -/
def RowsUp (l : List (List Int)) : Prop := l.Pairwise (fun x y => lexC x y < 0)
/-- A row put where it belongs, unless it is there. -/
def insR (x : List Int) : List (List Int) → List (List Int)
  | [] => [x]
  | y :: r => if lexC x y < 0 then x :: y :: r else if lexC x y = 0 then y :: r else y :: insR x r
def sortR : List (List Int) → List (List Int)
  | [] => []
  | x :: r => insR x (sortR r)
theorem mem_insR {x z : List Int} : ∀ {l : List (List Int)}, z ∈ insR x l ↔ z = x ∨ z ∈ l
  | [] => by simp [insR]
  | y :: r => by
    rw [insR]
    split
    · simp
    · split
      · rename_i h
        have := lexC_zero.1 h
        subst this
        simp
      · rw [List.mem_cons, mem_insR, List.mem_cons]
        constructor
        · rintro (h | h | h)
          · exact .inr (.inl h)
          · exact .inl h
          · exact .inr (.inr h)
        · rintro (h | h | h)
          · exact .inr (.inl h)
          · exact .inl h
          · exact .inr (.inr h)
theorem insR_up {x : List Int} : ∀ {l : List (List Int)}, RowsUp l → RowsUp (insR x l)
  | [], _ => by simp [insR, RowsUp]
  | y :: r, h => by
    have h' := List.pairwise_cons.1 h
    rw [insR]
    split
    · rename_i hxy
      refine List.pairwise_cons.2 ⟨fun z hz => ?_, h⟩
      rcases List.mem_cons.1 hz with rfl | hz
      · exact hxy
      · exact lexC_trans hxy (h'.1 z hz)
    · split
      · exact h
      · rename_i h1 h2
        refine List.pairwise_cons.2 ⟨fun z hz => ?_, insR_up h'.2⟩
        rcases mem_insR.1 hz with rfl | hz
        · have := lexC_flip z y
          omega
        · exact h'.1 z hz
theorem mem_sortR {z : List Int} : ∀ {l : List (List Int)}, z ∈ sortR l ↔ z ∈ l
  | [] => by simp [sortR]
  | x :: r => by rw [sortR, mem_insR, mem_sortR, List.mem_cons]
theorem sortR_up : ∀ (l : List (List Int)), RowsUp (sortR l)
  | [] => List.Pairwise.nil
  | _ :: r => insR_up (sortR_up r)
theorem up_unique : ∀ {a b : List (List Int)}, RowsUp a → RowsUp b → (∀ z, z ∈ a ↔ z ∈ b) → a = b
  | [], [], _, _, _ => rfl
  | [], y :: s, _, _, h => by have := (h y).2 (by simp); cases this
  | x :: r, [], _, _, h => by have := (h x).1 (by simp); cases this
  | x :: r, y :: s, ha, hb, h => by
    have ha' := List.pairwise_cons.1 ha
    have hb' := List.pairwise_cons.1 hb
    have hxy : x = y := by
      rcases List.mem_cons.1 ((h x).1 (by simp)) with e | hx
      · exact e
      · rcases List.mem_cons.1 ((h y).2 (by simp)) with e | hy
        · exact e.symm
        · have h1 := hb'.1 x hx
          have h2 := ha'.1 y hy
          have := lexC_flip x y
          omega
    subst hxy
    congr 1
    refine up_unique ha'.2 hb'.2 fun z => ?_
    have hz := h z
    rw [List.mem_cons, List.mem_cons] at hz
    constructor
    · intro hm
      rcases hz.1 (.inr hm) with e | h
      · subst e
        have := ha'.1 z hm
        rw [lexC_self] at this
        omega
      · exact h
    · intro hm
      rcases hz.2 (.inr hm) with e | h
      · subst e
        have := hb'.1 z hm
        rw [lexC_self] at this
        omega
      · exact h
theorem sortR_of_up {l : List (List Int)} (h : RowsUp l) : sortR l = l := up_unique (sortR_up l) h fun _ => mem_sortR
theorem sortR_unique {l s : List (List Int)} (h : RowsUp s) (hm : ∀ z, z ∈ s ↔ z ∈ l) : s = sortR l := up_unique h (sortR_up l) fun z => (hm z).trans mem_sortR.symm
theorem length_insR (x : List Int) : ∀ l : List (List Int), (insR x l).length ≤ l.length + 1
  | [] => by simp [insR]
  | y :: r => by
    rw [insR]
    have := length_insR x r
    split
    · simp
    · split <;> simp <;> omega
theorem length_sortR : ∀ l : List (List Int), (sortR l).length ≤ l.length
  | [] => by simp [sortR]
  | x :: r => by
    have h1 := length_insR x (sortR r)
    have h2 := length_sortR r
    rw [sortR]
    simp
    omega
/-- The next of equal rows left out. -/
def dedR : List (List Int) → List (List Int)
  | [] => []
  | [x] => [x]
  | x :: y :: r => if x = y then dedR (y :: r) else x :: dedR (y :: r)
theorem dedR_mem : ∀ (l : List (List Int)) (z : List Int), z ∈ dedR l ↔ z ∈ l
  | [], z => Iff.rfl
  | [x], z => Iff.rfl
  | x :: y :: r, z => by
    rw [dedR]
    split
    · rename_i h
      subst h
      rw [dedR_mem (x :: r) z]
      simp
    · rw [List.mem_cons, dedR_mem (y :: r) z, List.mem_cons, List.mem_cons, List.mem_cons]
theorem dedR_up : ∀ (l : List (List Int)), l.Pairwise (fun x y => ¬ lexC y x < 0) → RowsUp (dedR l)
  | [], _ => List.Pairwise.nil
  | [x], _ => by simp [dedR, RowsUp]
  | x :: y :: r, h => by
    have h' := List.pairwise_cons.1 h
    rw [dedR]
    split
    · exact dedR_up (y :: r) h'.2
    · rename_i hne
      have ih := dedR_up (y :: r) h'.2
      refine List.pairwise_cons.2 ⟨fun z hz => ?_, ih⟩
      rw [dedR_mem] at hz
      have hxy : lexC x y < 0 := by
        have h1 := h'.1 y (by simp)
        rcases lexC_cases x y with h2 | h2 | h2
        · exact h2
        · exact absurd h2 hne
        · exact absurd h2 h1
      rcases List.mem_cons.1 hz with rfl | hz
      · exact hxy
      · have h1 := (List.pairwise_cons.1 h'.2).1 z hz
        rcases lexC_cases y z with h2 | h2 | h2
        · exact lexC_trans hxy h2
        · rw [← h2]; exact hxy
        · exact absurd h2 h1
theorem dedR_sortR {l s : List (List Int)} (h : s.Pairwise (fun x y => ¬ lexC y x < 0)) (hp : s.Perm l) : dedR s = sortR l :=
  sortR_unique (dedR_up s h) fun z => (dedR_mem s z).trans hp.mem_iff
theorem lexC_swo : SWO (ltOf lexC) where
  irrefl x := by unfold ltOf; rw [lexC_self]; rfl
  trans x y z h1 h2 := by
    unfold ltOf at *
    rw [decide_eq_true_iff] at *
    exact lexC_trans h1 h2
  ntrans x y z h1 h2 := by
    unfold ltOf at *
    rw [decide_eq_false_iff_not] at *
    intro h
    rcases lexC_cases y z with h3 | h3 | h3
    · exact h2 h3
    · subst h3; exact h1 h
    · exact h1 (lexC_trans h h3)
end Go.Proofs.Bg
end

section
/- Plain words: sets of columns as numbers of bits. No program in sight. -/
namespace Go.Proofs.Bg
open Go.RowKit

theorem ofInt_nat (a : Nat) : BitVec.ofInt 64 (a : Int) = BitVec.ofNat 64 a := by
  apply BitVec.eq_of_toNat_eq
  simp
theorem wrap_nat {a : Nat} (h : a < 2 ^ 63) : IntKind.i64.wrap (a : Int) = (a : Int) := IntWalk.i64_in _ (by omega)
theorem bor_nat {a b : Nat} (ha : a < 2 ^ 63) (hb : b < 2 ^ 63) : bits .or .i64 (a : Int) (b : Int) = ((a ||| b : Nat) : Int) := by
  have h : a ||| b < 2 ^ 63 := Nat.or_lt_two_pow ha hb
  show IntKind.i64.wrap (((BitVec.ofInt 64 (a : Int) ||| BitVec.ofInt 64 (b : Int)).toNat : Nat) : Int) = _
  rw [ofInt_nat, ofInt_nat, BitVec.toNat_or, BitVec.toNat_ofNat, BitVec.toNat_ofNat, Nat.mod_eq_of_lt (by omega), Nat.mod_eq_of_lt (by omega), wrap_nat h]
theorem band_nat {a b : Nat} (ha : a < 2 ^ 63) (hb : b < 2 ^ 63) : bits .and .i64 (a : Int) (b : Int) = ((a &&& b : Nat) : Int) := by
  have h : a &&& b < 2 ^ 63 := Nat.and_lt_two_pow a hb
  show IntKind.i64.wrap (((BitVec.ofInt 64 (a : Int) &&& BitVec.ofInt 64 (b : Int)).toNat : Nat) : Int) = _
  rw [ofInt_nat, ofInt_nat, BitVec.toNat_and, BitVec.toNat_ofNat, BitVec.toNat_ofNat, Nat.mod_eq_of_lt (by omega), Nat.mod_eq_of_lt (by omega), wrap_nat h]
/-- a without the bits of b. -/
def bdiff (a b : Nat) : Nat := a ^^^ (a &&& b)
theorem testBit_bdiff (a b i : Nat) : (bdiff a b).testBit i = (a.testBit i && !b.testBit i) := by
  unfold bdiff
  rw [Nat.testBit_xor, Nat.testBit_and]
  cases a.testBit i <;> cases b.testBit i <;> rfl
theorem bdiff_lt {a b n : Nat} (ha : a < 2 ^ n) : bdiff a b < 2 ^ n := Nat.xor_lt_two_pow ha (Nat.lt_of_le_of_lt Nat.and_le_left ha)
theorem bandnot_nat {a b : Nat} (ha : a < 2 ^ 63) (_ : b < 2 ^ 63) : bits .andNot .i64 (a : Int) (b : Int) = ((bdiff a b : Nat) : Int) := by
  show IntKind.i64.wrap (((BitVec.ofInt 64 (a : Int) &&& ~~~ BitVec.ofInt 64 (b : Int)).toNat : Nat) : Int) = _
  have e : (BitVec.ofInt 64 (a : Int) &&& ~~~ BitVec.ofInt 64 (b : Int)).toNat = bdiff a b := by
    rw [ofInt_nat, ofInt_nat]
    apply Nat.eq_of_testBit_eq
    intro i
    rw [testBit_bdiff, BitVec.testBit_toNat, BitVec.getLsbD_and, BitVec.getLsbD_not, BitVec.getLsbD_ofNat, BitVec.getLsbD_ofNat]
    by_cases hi : i < 64
    · simp [hi]
    · have : a.testBit i = false := Nat.testBit_lt_two_pow (Nat.lt_of_lt_of_le ha (Nat.pow_le_pow_right (by decide) (by omega)))
      simp [hi, this]
  rw [e, wrap_nat (bdiff_lt ha)]

/-- The bit of a column. -/
def pw (c : Nat) : Nat := 2 ^ c
theorem pw_lt {c n : Nat} (h : c < n) : pw c < 2 ^ n := Nat.pow_lt_pow_right (by decide) h
theorem pw_pos (c : Nat) : 0 < pw c := Nat.two_pow_pos c
theorem testBit_pw (c i : Nat) : (pw c).testBit i = decide (c = i) := Nat.testBit_two_pow
/-- '1 << c', as a walk has it. -/
theorem shl_nat {c : Nat} (h : c < 62) : IntKind.i64.wrap (2 ^ c) = ((pw c : Nat) : Int) := by
  have h1 := pw_lt h
  have e : (2 : Int) ^ c = ((pw c : Nat) : Int) := by simp [pw]
  rw [e]
  exact wrap_nat (by omega)
/-- 'x >> c & 1', as a walk has it. -/
theorem shr_nat (x c : Nat) : (x : Int) / 2 ^ c = ((x >>> c : Nat) : Int) := by
  rw [Nat.shiftRight_eq_div_pow]
  simp
theorem shr_le {x n : Nat} (c : Nat) (h : x < n) : x >>> c < n := by
  rw [Nat.shiftRight_eq_div_pow]
  exact Nat.lt_of_le_of_lt (Nat.div_le_self _ _) h
theorem and_one (x c : Nat) : (x >>> c) &&& 1 = if x.testBit c then 1 else 0 := by
  rw [Nat.testBit, Nat.and_comm]
  have h : 1 &&& x >>> c ≤ 1 := Nat.and_le_left
  generalize 1 &&& x >>> c = y at h
  have : y = 0 ∨ y = 1 := by omega
  rcases this with rfl | rfl <;> rfl

theorem band_one {x c : Nat} (h : x < 2 ^ 63) : bits .and .i64 ((x >>> c : Nat) : Int) 1 = if x.testBit c then 1 else 0 := by
  have h2 := band_nat (a := x >>> c) (b := 1) (shr_le c h) (by decide)
  rw [and_one] at h2
  refine h2.trans ?_
  cases x.testBit c <;> rfl

/-- A set of columns as a number of bits. -/
def bitsFrom (o : Nat) : List Int → Nat
  | [] => o
  | c :: r => bitsFrom (o ||| pw c.toNat) r
def bitsN (l : List Int) : Nat := bitsFrom 0 l
/-- The columns of a number of bits, below n. -/
def colsFrom (x c : Nat) : Nat → List Int
  | 0 => []
  | n + 1 => if x.testBit c then (c : Int) :: colsFrom x (c + 1) n else colsFrom x (c + 1) n
def colsN (x : Nat) : List Int := colsFrom x 0 8

/-- A set of columns below n: increasing, each behind p. -/
def setFrom (p : Int) (n : Int) : List Int → Bool
  | [] => true
  | c :: r => decide (p < c) && decide (0 ≤ c) && decide (c < n) && setFrom c n r
def setB (l : List Int) (n : Int) : Bool := setFrom (-1) n l

theorem setFrom_mem {n : Int} : ∀ {l : List Int} {p : Int}, setFrom p n l = true → ∀ c ∈ l, 0 ≤ c ∧ c < n ∧ p < c
  | [], _, _, c, h => by cases h
  | a :: r, p, h, c, hc => by
    simp only [setFrom, Bool.and_eq_true, decide_eq_true_eq] at h
    obtain ⟨⟨⟨h1, h2⟩, h3⟩, h4⟩ := h
    rcases List.mem_cons.1 hc with rfl | hc
    · exact ⟨h2, h3, h1⟩
    · obtain ⟨a1, a2, a3⟩ := setFrom_mem h4 c hc
      exact ⟨a1, a2, by omega⟩
theorem setB_mem {n : Int} {l : List Int} (h : setB l n = true) : ∀ c ∈ l, 0 ≤ c ∧ c < n := fun c hc => ⟨(setFrom_mem h c hc).1, (setFrom_mem h c hc).2.1⟩
theorem setFrom_pairwise {n : Int} : ∀ {l : List Int} {p : Int}, setFrom p n l = true → l.Pairwise (· < ·)
  | [], _, _ => List.Pairwise.nil
  | a :: r, p, h => by
    simp only [setFrom, Bool.and_eq_true] at h
    exact List.pairwise_cons.2 ⟨fun c hc => (setFrom_mem h.2 c hc).2.2, setFrom_pairwise h.2⟩
theorem setFrom_length {n : Nat} : ∀ {l : List Int} {p : Int}, -1 ≤ p → setFrom p n l = true → (l.length : Int) ≤ (n : Int) - 1 - p ∨ l = []
  | [], _, _, _ => .inr rfl
  | a :: r, p, hp, h => by
    simp only [setFrom, Bool.and_eq_true, decide_eq_true_eq] at h
    obtain ⟨⟨⟨h1, h2⟩, h3⟩, h4⟩ := h
    have h0 : -1 ≤ a := by omega
    rcases setFrom_length h0 h4 with h5 | h5
    · left; simp; omega
    · subst h5; left; simp; omega
theorem setB_length {n : Nat} {l : List Int} (h : setB l n = true) : l.length ≤ n := by
  rcases setFrom_length (by omega) h with h5 | h5
  · omega
  · subst h5; simp

theorem bitsFrom_lt {n : Nat} : ∀ {l : List Int} {o : Nat}, o < 2 ^ n → (∀ c ∈ l, 0 ≤ c ∧ c < n) → bitsFrom o l < 2 ^ n
  | [], o, h, _ => h
  | c :: r, o, h, hl => by
    have h1 := hl c (by simp)
    have h2 : o ||| pw c.toNat < 2 ^ n := Nat.or_lt_two_pow h (pw_lt (by omega))
    rw [bitsFrom]
    exact bitsFrom_lt h2 (fun d hd => hl d (by simp [hd]))
theorem bitsN_lt {n : Nat} {l : List Int} (hl : ∀ c ∈ l, 0 ≤ c ∧ c < n) : bitsN l < 2 ^ n := bitsFrom_lt (Nat.two_pow_pos n) hl
theorem testBit_bitsFrom (i : Nat) : ∀ (l : List Int) (o : Nat), (∀ c ∈ l, 0 ≤ c) → (bitsFrom o l).testBit i = (o.testBit i || decide ((i : Int) ∈ l))
  | [], o, _ => by simp [bitsFrom]
  | c :: r, o, h => by
    rw [bitsFrom, testBit_bitsFrom i r _ (fun d hd => h d (by simp [hd])), Nat.testBit_or, testBit_pw]
    have hc := h c (by simp)
    have e : decide (c.toNat = i) = decide ((i : Int) = c) := by
      by_cases hh : c.toNat = i
      · have : (i : Int) = c := by omega
        simp [hh, this]
      · have : ¬ (i : Int) = c := by omega
        simp [hh, this]
    rw [e]
    by_cases h1 : (i : Int) = c <;> simp [h1]
theorem testBit_bitsN {l : List Int} (h : ∀ c ∈ l, 0 ≤ c) (i : Nat) : (bitsN l).testBit i = decide ((i : Int) ∈ l) := by
  rw [bitsN, testBit_bitsFrom i l 0 h]
  simp
theorem mem_colsFrom {x : Nat} : ∀ {n c : Nat} {d : Int}, d ∈ colsFrom x c n ↔ ∃ k : Nat, d = (k : Int) ∧ c ≤ k ∧ k < c + n ∧ x.testBit k = true
  | 0, c, d => by
    constructor
    · intro h; cases h
    · rintro ⟨k, _, h1, h2, _⟩; omega
  | n + 1, c, d => by
    rw [colsFrom]
    have ih := @mem_colsFrom x n (c + 1) d
    split
    · rename_i hb
      rw [List.mem_cons, ih]
      constructor
      · rintro (rfl | ⟨k, h1, h2, h3, h4⟩)
        · exact ⟨c, rfl, by omega, by omega, hb⟩
        · exact ⟨k, h1, by omega, by omega, h4⟩
      · rintro ⟨k, h1, h2, h3, h4⟩
        by_cases hk : k = c
        · left; rw [h1, hk]
        · right; exact ⟨k, h1, by omega, by omega, h4⟩
    · rename_i hb
      rw [ih]
      constructor
      · rintro ⟨k, h1, h2, h3, h4⟩
        exact ⟨k, h1, by omega, by omega, h4⟩
      · rintro ⟨k, h1, h2, h3, h4⟩
        have hk : k ≠ c := fun e => by rw [e] at h4; exact hb h4
        exact ⟨k, h1, by omega, by omega, h4⟩
theorem colsFrom_pairwise (x : Nat) : ∀ (n c : Nat), (colsFrom x c n).Pairwise (· < ·)
  | 0, _ => List.Pairwise.nil
  | n + 1, c => by
    rw [colsFrom]
    split
    · refine List.pairwise_cons.2 ⟨fun d hd => ?_, colsFrom_pairwise x n (c + 1)⟩
      obtain ⟨k, rfl, h1, _⟩ := mem_colsFrom.1 hd
      omega
    · exact colsFrom_pairwise x n (c + 1)
theorem colsFrom_length (x : Nat) : ∀ (n c : Nat), (colsFrom x c n).length ≤ n
  | 0, _ => by simp [colsFrom]
  | n + 1, c => by
    rw [colsFrom]
    have := colsFrom_length x n (c + 1)
    split
    · simp; omega
    · omega

theorem drop_at {α : Type} {l : List α} {k : Nat} {x : α} (h : l[k]? = some x) : l.drop k = x :: l.drop (k + 1) := by
  obtain ⟨h1, h2⟩ := List.getElem?_eq_some_iff.1 h
  rw [List.drop_eq_getElem_cons h1, h2]
end Go.Proofs.Bg
end

section
/- Plain words: rows, tables, rules and trees in memory. No program in sight. -/
namespace Go.Proofs.Bg
open Go.RowKit

/-- A slice's three words; a table's, a rule's, a tree's. -/
structure Sl where
  A : Option Addr
  n : Nat
  cap : Nat
def Sl.v (s : Sl) : Value := .slice s.A s.n s.cap
def Sl.vs (s : Sl) : List Value := [.slice s.A s.n s.cap]
theorem Sl.vs_length (s : Sl) : s.vs.length = 1 := rfl
structure Tb where
  cols : Sl
  rows : Sl
def Tb.v (t : Tb) : Value := .agg #[.slice t.cols.A t.cols.n t.cols.cap, .slice t.rows.A t.rows.n t.rows.cap]
def Tb.vs (t : Tb) : List Value := [.slice t.cols.A t.cols.n t.cols.cap, .slice t.rows.A t.rows.n t.rows.cap]
theorem Tb.vs_length (t : Tb) : t.vs.length = 2 := rfl
structure Fd where
  from_ : Sl
  to_ : Int
def Fd.vs (t : Fd) : List Value := [.slice t.from_.A t.from_.n t.from_.cap, .int .i64 t.to_]
theorem Fd.vs_length (t : Fd) : t.vs.length = 2 := rfl
structure Tr where
  table : Int
  kids : Sl
def Tr.v (t : Tr) : Value := .agg #[.int .i64 t.table, .slice t.kids.A t.kids.n t.kids.cap]
def Tr.vs (t : Tr) : List Value := [.int .i64 t.table, .slice t.kids.A t.kids.n t.kids.cap]
theorem Tr.vs_length (t : Tr) : t.vs.length = 2 := rfl

/-- A table; a rule; a tree. -/
structure PT where
  cols : List Int
  rows : List (List Int)
deriving DecidableEq
structure PF where
  from_ : List Int
  to_ : Int
deriving DecidableEq
inductive PTr where
  | mk (table : Int) (kids : List PTr)

/-- Two lists, pair by pair. -/
def All2 {α β : Type} (R : α → β → Prop) (a : List α) (b : List β) : Prop := a.length = b.length ∧ ∀ (i : Nat) x y, a[i]? = some x → b[i]? = some y → R x y
theorem All2.mono {α β : Type} {R S : α → β → Prop} {a : List α} {b : List β} (h : All2 R a b) (hr : ∀ x y, R x y → S x y) : All2 S a b := ⟨h.1, fun i x y h1 h2 => hr _ _ (h.2 i x y h1 h2)⟩
theorem All2.nil {α β : Type} (R : α → β → Prop) : All2 R [] [] := ⟨rfl, fun i x y h => by simp at h⟩
theorem All2.at_ {α β : Type} {R : α → β → Prop} {a : List α} {b : List β} (h : All2 R a b) {i : Nat} {x : α} (hx : a[i]? = some x) : ∃ y, b[i]? = some y ∧ R x y := by
  have hi : i < b.length := by rw [← h.1]; exact (List.getElem?_eq_some_iff.1 hx).1
  exact ⟨b[i], List.getElem?_eq_getElem hi, h.2 i x _ hx (List.getElem?_eq_getElem hi)⟩
theorem All2.snoc {α β : Type} {R : α → β → Prop} {a : List α} {b : List β} (h : All2 R a b) {x : α} {y : β} (hxy : R x y) : All2 R (a ++ [x]) (b ++ [y]) := by
  refine ⟨by simp [h.1], fun i s l h1 h2 => ?_⟩
  by_cases hi : i < a.length
  · rw [List.getElem?_append_left hi] at h1
    rw [List.getElem?_append_left (by rw [← h.1]; exact hi)] at h2
    exact h.2 i s l h1 h2
  · have e : i = a.length := by
      have := (List.getElem?_eq_some_iff.1 h1).1
      simp at this
      omega
    subst e
    rw [List.getElem?_append_right (Nat.le_refl _)] at h1
    rw [h.1, List.getElem?_append_right (Nat.le_refl _)] at h2
    simp at h1 h2
    subst h1 h2
    exact hxy
theorem All2.cons {α β : Type} {R : α → β → Prop} {a : List α} {b : List β} {x : α} {y : β} (hxy : R x y) (h : All2 R a b) : All2 R (x :: a) (y :: b) := by
  refine ⟨by simp [h.1], fun i s l h1 h2 => ?_⟩
  cases i with
  | zero => cases h1; cases h2; exact hxy
  | succ i => exact h.2 i s l (by simpa using h1) (by simpa using h2)
theorem All2.set {α β : Type} {R : α → β → Prop} {a : List α} {b : List β} (h : All2 R a b) {i : Nat} {x : α} {y : β} (hxy : R x y) : All2 R (a.set i x) (b.set i y) := by
  refine ⟨by simp [h.1], fun j s l h1 h2 => ?_⟩
  rw [List.getElem?_set] at h1 h2
  by_cases hij : i = j
  · subst hij
    simp only [if_true] at h1 h2
    split at h1
    · split at h2
      · cases h1; cases h2; exact hxy
      · cases h2
    · cases h1
  · rw [if_neg hij] at h1 h2
    exact h.2 j s l h1 h2

/-- A slice of integers, of rows; a table; tables; rules. -/
def IntsAt (w : World) (lo : Nat) (s : Sl) (l : List Int) : Prop := Rd iv 1 w lo s.A s.n l
def RowsAt (w : World) (lo : Nat) (s : Sl) (l : List (List Int)) : Prop := ∃ ss, Rd Sl.vs 1 w lo s.A s.n ss ∧ All2 (IntsAt w lo) ss l
def TabAt (w : World) (lo : Nat) (t : Tb) (T : PT) : Prop := IntsAt w lo t.cols T.cols ∧ RowsAt w lo t.rows T.rows
def TabsAt (w : World) (lo : Nat) (A : Option Addr) (n : Nat) (l : List PT) : Prop := ∃ ts, Rd Tb.vs 2 w lo A n ts ∧ All2 (TabAt w lo) ts l
def FdAt (w : World) (lo : Nat) (t : Fd) (T : PF) : Prop := t.to_ = T.to_ ∧ IntsAt w lo t.from_ T.from_
def FdsAt (w : World) (lo : Nat) (A : Option Addr) (n : Nat) (l : List PF) : Prop := ∃ ts, Rd Fd.vs 2 w lo A n ts ∧ All2 (FdAt w lo) ts l
inductive TreeAt (w : World) (lo : Nat) : Tr → PTr → Prop
  | mk (t : Tr) (kids : List PTr) (ks : List Tr) (h : Rd Tr.vs 2 w lo t.kids.A t.kids.n ks) (hl : ks.length = kids.length) (hk : ∀ (i : Nat) x y, ks[i]? = some x → kids[i]? = some y → TreeAt w lo x y) : TreeAt w lo t (.mk t.table kids)

section
variable {w w' : World} {lo n : Nat} {s : Sl} {A : Option Addr}
theorem IntsAt.below {l : List Int} (h : IntsAt w lo s l) (hb : Below w.heap.size w w') : IntsAt w' lo s l := Rd.below h hb
theorem RowsAt.below {l : List (List Int)} (h : RowsAt w lo s l) (hb : Below w.heap.size w w') : RowsAt w' lo s l := by
  obtain ⟨ss, h1, h2⟩ := h
  exact ⟨ss, h1.below hb, h2.mono fun x y h => h.below hb⟩
theorem TabAt.below {t : Tb} {T : PT} (h : TabAt w lo t T) (hb : Below w.heap.size w w') : TabAt w' lo t T := ⟨h.1.below hb, h.2.below hb⟩
theorem TabsAt.below {l : List PT} (h : TabsAt w lo A n l) (hb : Below w.heap.size w w') : TabsAt w' lo A n l := by
  obtain ⟨ts, h1, h2⟩ := h
  exact ⟨ts, h1.below hb, h2.mono fun x y h => h.below hb⟩
theorem FdsAt.below {l : List PF} (h : FdsAt w lo A n l) (hb : Below w.heap.size w w') : FdsAt w' lo A n l := by
  obtain ⟨ts, h1, h2⟩ := h
  exact ⟨ts, h1.below hb, h2.mono fun x y h => ⟨h.1, Rd.below h.2 hb⟩⟩
theorem TreeAt.keep {t : Tr} {T : PTr} (h : TreeAt w lo t T) (hb : Below w.heap.size w w') : TreeAt w' lo t T := by
  induction h with
  | mk t kids ks h hl _ ih => exact .mk t kids ks (h.below hb) hl ih
theorem IntsAt.low {lo' : Nat} {l : List Int} (h : IntsAt w lo s l) (hl : lo' ≤ lo) : IntsAt w lo' s l := Rd.low h hl
theorem RowsAt.low {lo' : Nat} {l : List (List Int)} (h : RowsAt w lo s l) (hl : lo' ≤ lo) : RowsAt w lo' s l := by
  obtain ⟨ss, h1, h2⟩ := h
  exact ⟨ss, h1.low hl, h2.mono fun x y h => h.low hl⟩
theorem TabAt.low {lo' : Nat} {t : Tb} {T : PT} (h : TabAt w lo t T) (hl : lo' ≤ lo) : TabAt w lo' t T := ⟨h.1.low hl, h.2.low hl⟩
theorem TabsAt.low {lo' : Nat} {l : List PT} (h : TabsAt w lo A n l) (hl : lo' ≤ lo) : TabsAt w lo' A n l := by
  obtain ⟨ts, h1, h2⟩ := h
  exact ⟨ts, h1.low hl, h2.mono fun x y h => h.low hl⟩
theorem TreeAt.low {lo' : Nat} {t : Tr} {T : PTr} (h : TreeAt w lo t T) (hl : lo' ≤ lo) : TreeAt w lo' t T := by
  induction h with
  | mk t kids ks h hk _ ih => exact .mk t kids ks (h.low hl) hk ih
theorem IntsAt.len {l : List Int} (h : IntsAt w lo s l) : l.length = s.n := h.1
theorem RowsAt.len {l : List (List Int)} (h : RowsAt w lo s l) : l.length = s.n := by
  obtain ⟨ss, h1, h2⟩ := h
  rw [← h2.1, h1.len]
theorem RowsAt.le {l : List (List Int)} (h : RowsAt w lo s l) : s.n ≤ 9223372036854775807 := by
  obtain ⟨ss, h1, h2⟩ := h
  exact h1.le
theorem TabsAt.len {l : List PT} (h : TabsAt w lo A n l) : l.length = n := by
  obtain ⟨ss, h1, h2⟩ := h
  rw [← h2.1, h1.len]
theorem TabsAt.le {l : List PT} (h : TabsAt w lo A n l) : n ≤ 9223372036854775807 := by
  obtain ⟨ss, h1, h2⟩ := h
  exact h1.le
theorem FdsAt.len {l : List PF} (h : FdsAt w lo A n l) : l.length = n := by
  obtain ⟨ss, h1, h2⟩ := h
  rw [← h2.1, h1.len]
theorem FdsAt.le {l : List PF} (h : FdsAt w lo A n l) : n ≤ 9223372036854775807 := by
  obtain ⟨ss, h1, h2⟩ := h
  exact h1.le
theorem IntsAt.at_ {l : List Int} (h : IntsAt w lo s l) {k : Nat} (hk : k < s.n) : ∃ b off x, s.A = some ⟨b, off, none⟩ ∧ lo ≤ b ∧ l[k]? = some x ∧ w.cell? ⟨b, off + k, none⟩ = some (.int .i64 x) := Rd.int_at h hk
theorem Rd.sl_at {l : List Sl} (h : Rd Sl.vs 1 w lo A n l) {k : Nat} (hk : k < n) : ∃ b off x, A = some ⟨b, off, none⟩ ∧ lo ≤ b ∧ l[k]? = some x ∧ w.cell? ⟨b, off + k, none⟩ = some (.slice x.A x.n x.cap) := by
  obtain ⟨b, off, x, e, hl, hx, hc⟩ := h.at_ hk
  exact ⟨b, off, x, e, hl, hx, by have := hc 0 _ rfl; simpa using this⟩
theorem RowsAt.at_ {l : List (List Int)} (h : RowsAt w lo s l) {k : Nat} (hk : k < s.n) : ∃ b off x r, s.A = some ⟨b, off, none⟩ ∧ lo ≤ b ∧ l[k]? = some r ∧ w.cell? ⟨b, off + k, none⟩ = some (.slice x.A x.n x.cap) ∧ IntsAt w lo x r := by
  obtain ⟨ss, h1, h2⟩ := h
  obtain ⟨b, off, x, e, hl, hx, hc⟩ := h1.sl_at hk
  obtain ⟨r, hr, hR⟩ := h2.at_ hx
  exact ⟨b, off, x, r, e, hl, hr, hc, hR⟩
theorem TabsAt.at_ {l : List PT} (h : TabsAt w lo A n l) {k : Nat} (hk : k < n) : ∃ b off t T, A = some ⟨b, off, none⟩ ∧ lo ≤ b ∧ l[k]? = some T ∧ w.cell? ⟨b, off + k * 2, none⟩ = some (.slice t.cols.A t.cols.n t.cols.cap) ∧ w.cell? ⟨b, off + k * 2 + 1, none⟩ = some (.slice t.rows.A t.rows.n t.rows.cap) ∧ TabAt w lo t T := by
  obtain ⟨ts, h1, h2⟩ := h
  obtain ⟨b, off, x, e, hl, hx, hc⟩ := Rd.at_ h1 hk
  obtain ⟨r, hr, hR⟩ := h2.at_ hx
  exact ⟨b, off, x, r, e, hl, hr, hc 0 _ rfl, hc 1 _ rfl, hR⟩
theorem FdsAt.at_ {l : List PF} (h : FdsAt w lo A n l) {k : Nat} (hk : k < n) : ∃ b off t T, A = some ⟨b, off, none⟩ ∧ lo ≤ b ∧ l[k]? = some T ∧ w.cell? ⟨b, off + k * 2, none⟩ = some (.slice t.A t.n t.cap) ∧ w.cell? ⟨b, off + k * 2 + 1, none⟩ = some (.int .i64 T.to_) ∧ IntsAt w lo t T.from_ := by
  obtain ⟨ts, h1, h2⟩ := h
  obtain ⟨b, off, x, e, hl, hx, hc⟩ := Rd.at_ h1 hk
  obtain ⟨r, hr, hR⟩ := h2.at_ hx
  exact ⟨b, off, x.from_, r, e, hl, hr, hc 0 _ rfl, by have := hc 1 _ rfl; rw [hR.1] at this; exact this, hR.2⟩
end

theorem Own.rdOf {α : Type} {enc : α → List Value} {sz : Nat} {T : TypeId} {base n cap : Nat} {A : Option Addr} {w : World} {l : List α} (hs : ∀ x, (enc x).length = sz) (h : Own enc sz T base w (.slice A n cap) l) : Rd enc sz w base A l.length l := by
  obtain ⟨A', cap', e, hr⟩ := h.rd hs
  cases e
  exact hr
theorem Own.rdN {α : Type} {enc : α → List Value} {sz : Nat} {T : TypeId} {base n cap : Nat} {A : Option Addr} {w : World} {l : List α} (hs : ∀ x, (enc x).length = sz) (h : Own enc sz T base w (.slice A n cap) l) : Rd enc sz w base A n l := by
  have e : n = l.length := by
    obtain ⟨A', cap', e, hr⟩ := h.rd hs
    cases e; rfl
  subst e
  exact h.rdOf hs
theorem own_ne {α β : Type} {enc : α → List Value} {enc' : β → List Value} {sz sz' : Nat} {T T' : TypeId} {base base' : Nat} {w : World} {v v' : Value} {l : List α} {l' : List β} (h : Own enc sz T base w v l) (h' : Own enc' sz' T' base' w v' l') (hT : T ≠ T') : v.ownBlock = none ∨ v.ownBlock ≠ v'.ownBlock := by
  rcases h.2 with ⟨e, _⟩ | ⟨g, cap, cur, e, _, hb, _⟩
  · exact .inl (by rw [e]; rfl)
  · refine .inr fun ee => ?_
    rcases h'.2 with ⟨e', _⟩ | ⟨g', cap', cur', e', _, hb', _⟩
    · rw [e, e'] at ee; cases ee
    · rw [e, e'] at ee
      have : g = g' := Option.some.inj ee
      subst this
      rw [hb] at hb'
      cases hb'
      exact hT rfl
theorem bchain {w0 w1 w2 : World} (h : Below w0.heap.size w0 w1) (h2 : Below w1.heap.size w1 w2) : Below w0.heap.size w0 w2 := h.trans (h2.mono h.size)
theorem new_block (w : World) (c : Array Value) (T : TypeId) : (w.alloc (.cells c T)).heap[w.heap.size]? = some (.cells c T) := by
  show (w.heap.push _)[w.heap.size]? = _
  simp
theorem below_new (w : World) (o : Obj) : Below w.heap.size w (w.alloc o) := (Below.refl _ _).alloc (Nat.le_refl _) _
theorem below_row {w W W' : World} {row : Option Nat} (h : Below w.heap.size w W) (hg : W.grownBy W' row) (hr : ∀ g, row = some g → w.heap.size ≤ g) : Below w.heap.size w W' := h.grown hg h.size hr
end Go.Proofs.Bg
end

section
/- Plain words: what the functions of package pick compute on tables. No program in sight. -/
namespace Go.Proofs.Bg
open Go.RowKit

def rangeB (v : Int) : Bool := decide (-1000000000 ≤ v) && decide (v ≤ 1000000000)
def valsB (l : List Int) : Bool := l.all rangeB
/-- A row behind another one. -/
def afterB (p : Option (List Int)) (r : List Int) : Bool := match p with | none => true | some q => decide (lexC q r < 0)
def rowsB (m : Nat) : Option (List Int) → List (List Int) → Bool
  | _, [] => true
  | p, r :: rest => decide (r.length = m) && afterB p r && valsB r && rowsB m (some r) rest
/-- A formed table. -/
def formedB (T : PT) : Bool := setB T.cols 8 && decide (T.rows.length ≤ 500) && rowsB T.cols.length none T.rows
/-- Given tables. -/
def givenB (l : List PT) : Bool := decide (0 < l.length) && decide (l.length ≤ 5) && l.all (fun T => formedB T && decide (T.rows.length ≤ 16))

/-- The values of a row, each at the place of its column. -/
structure V8 where
  a0 : Int
  a1 : Int
  a2 : Int
  a3 : Int
  a4 : Int
  a5 : Int
  a6 : Int
  a7 : Int
deriving DecidableEq
def V8.zero : V8 := ⟨0, 0, 0, 0, 0, 0, 0, 0⟩
def V8.vs (v : V8) : List Value := [.int .i64 v.a0, .int .i64 v.a1, .int .i64 v.a2, .int .i64 v.a3, .int .i64 v.a4, .int .i64 v.a5, .int .i64 v.a6, .int .i64 v.a7]
def V8.v (v : V8) : Value := .agg #[.int .i64 v.a0, .int .i64 v.a1, .int .i64 v.a2, .int .i64 v.a3, .int .i64 v.a4, .int .i64 v.a5, .int .i64 v.a6, .int .i64 v.a7]
theorem V8.vs_length (v : V8) : v.vs.length = 8 := rfl
theorem V8.v_inj (a b : V8) (h : a.v = b.v) : a = b := by
  cases a; cases b
  simp only [V8.v, Value.agg.injEq, Array.mk.injEq, List.cons.injEq, Value.int.injEq, and_true, true_and] at h
  obtain ⟨rfl, rfl, rfl, rfl, rfl, rfl, rfl, rfl⟩ := h
  rfl
def V8.get (v : V8) : Nat → Int
  | 0 => v.a0 | 1 => v.a1 | 2 => v.a2 | 3 => v.a3 | 4 => v.a4 | 5 => v.a5 | 6 => v.a6 | 7 => v.a7 | _ => 0
def V8.set (v : V8) (c : Nat) (x : Int) : V8 := match c with
  | 0 => { v with a0 := x } | 1 => { v with a1 := x } | 2 => { v with a2 := x } | 3 => { v with a3 := x }
  | 4 => { v with a4 := x } | 5 => { v with a5 := x } | 6 => { v with a6 := x } | 7 => { v with a7 := x } | _ => v
theorem V8.get_set {v : V8} {c : Nat} {x : Int} (hc : c < 8) (i : Nat) : (v.set c x).get i = if i = c then x else v.get i := by
  have hcs : c = 0 ∨ c = 1 ∨ c = 2 ∨ c = 3 ∨ c = 4 ∨ c = 5 ∨ c = 6 ∨ c = 7 := by omega
  by_cases hi : i < 8
  · have his : i = 0 ∨ i = 1 ∨ i = 2 ∨ i = 3 ∨ i = 4 ∨ i = 5 ∨ i = 6 ∨ i = 7 := by omega
    rcases hcs with rfl | rfl | rfl | rfl | rfl | rfl | rfl | rfl <;> rcases his with rfl | rfl | rfl | rfl | rfl | rfl | rfl | rfl <;> rfl
  · rw [if_neg (by omega)]
    obtain ⟨j, rfl⟩ : ∃ j, i = j + 8 := ⟨i - 8, by omega⟩
    rfl
theorem V8.ext {v u : V8} (h : ∀ i, i < 8 → v.get i = u.get i) : v = u := by
  have h0 := h 0 (by decide)
  have h1 := h 1 (by decide)
  have h2 := h 2 (by decide)
  have h3 := h 3 (by decide)
  have h4 := h 4 (by decide)
  have h5 := h 5 (by decide)
  have h6 := h 6 (by decide)
  have h7 := h 7 (by decide)
  cases v; cases u
  simp only [V8.get] at h0 h1 h2 h3 h4 h5 h6 h7
  subst h0 h1 h2 h3 h4 h5 h6 h7
  rfl
/-- The values of a row in columns put over others. -/
def overV : V8 → List Int → List Int → V8
  | v, c :: cs, x :: xs => overV (v.set c.toNat x) cs xs
  | v, _, _ => v
def spreadV (cols row : List Int) : V8 := overV V8.zero cols row
def onlyV (v : V8) (x : Nat) : V8 :=
  ⟨if x.testBit 0 then v.a0 else 0, if x.testBit 1 then v.a1 else 0, if x.testBit 2 then v.a2 else 0, if x.testBit 3 then v.a3 else 0, if x.testBit 4 then v.a4 else 0, if x.testBit 5 then v.a5 else 0, if x.testBit 6 then v.a6 else 0, if x.testBit 7 then v.a7 else 0⟩
theorem onlyV_get (v : V8) (x i : Nat) (hi : i < 8) : (onlyV v x).get i = if x.testBit i then v.get i else 0 := by
  have his : i = 0 ∨ i = 1 ∨ i = 2 ∨ i = 3 ∨ i = 4 ∨ i = 5 ∨ i = 6 ∨ i = 7 := by omega
  rcases his with rfl | rfl | rfl | rfl | rfl | rfl | rfl | rfl <;> rfl
def inV (v : V8) (cols : List Int) : List Int := cols.map fun c => v.get c.toNat
/-- v's values in columns put over u. -/
def mixV (u v : V8) : List Int → V8
  | [] => u
  | c :: cs => mixV (u.set c.toNat (v.get c.toNat)) v cs
/-- The rows of a join, as they come. -/
def joinRows (a b : PT) : List (List Int) :=
  a.rows.flatMap fun r => (b.rows.filter fun s => decide (onlyV (spreadV b.cols s) (bitsN a.cols) = onlyV (spreadV a.cols r) (bitsN b.cols))).map fun s =>
    inV (mixV (spreadV b.cols s) (spreadV a.cols r) a.cols) (colsN (bitsN a.cols ||| bitsN b.cols))
def joinB (a b : PT) : Option PT := if (joinRows a b).length ≤ 500 then some ⟨colsN (bitsN a.cols ||| bitsN b.cols), sortR (joinRows a b)⟩ else none
/-- The last table of a set. -/
def lastT (x : Nat) : Nat := Nat.log2 x
/-- The joins of all sets of given tables, from 1 on, with so much still to go. -/
def joinsFrom (l : List PT) : Nat → Nat → List PT → Option (List PT)
  | 0, _, out => some out
  | n + 1, x, out =>
    if x - pw (lastT x) = 0 then joinsFrom l n (x + 1) (out ++ [l.getD (lastT x) ⟨[], []⟩])
    else match joinB (out.getD (x - pw (lastT x)) ⟨[], []⟩) (l.getD (lastT x) ⟨[], []⟩) with
      | some t => joinsFrom l n (x + 1) (out ++ [t])
      | none => none
def joinsB (l : List PT) : Option (List PT) := joinsFrom l (pw l.length - 1) 1 [⟨[], []⟩]
end Go.Proofs.Bg
end

section
/- Plain words: cells of the call's own slices set; parts of slices. No program in sight. -/
namespace Go.Proofs.Bg
open Go.RowKit

theorem ownsRow_set {w : World} {base g n cap size k : Nat} {e : TypeId} {xs : List Value} (h : w.ownsRow base e size (.slice (some ⟨g, 0, none⟩) n cap) k xs) (j : Nat) (_ : j < xs.length) (u : Value) :
    (w.setCell ⟨g, j, none⟩ u).ownsRow base e size (.slice (some ⟨g, 0, none⟩) n cap) k (xs.set j u) ∧ w.grownBy (w.setCell ⟨g, j, none⟩ u) (some g) := by
  obtain ⟨hl, h⟩ := h
  rcases h with ⟨hv, _⟩ | ⟨g', cap', cur, hv, hb, hh, h1, h2, h3, h4⟩
  · cases hv
  · cases hv
    obtain ⟨q1, q2⟩ := setCell_at (off := j) hh u
    refine ⟨⟨by simp [hl], .inr ⟨g, cap, cur.setIfInBounds j u, rfl, hb, q1, h1, h2, by simp [h3], ?_⟩⟩, q2⟩
    rw [Array.toList_setIfInBounds, List.take_set, h4]
theorem flatMap_set {α : Type} {enc : α → List Value} {sz : Nat} (hs : ∀ x, (enc x).length = sz) : ∀ (l : List α) (i j : Nat) (x y : α) (u : Value), l[i]? = some x → enc y = (enc x).set j u → j < sz → (l.set i y).flatMap enc = (l.flatMap enc).set (i * sz + j) u
  | [], i, j, x, y, u, h, _, _ => by simp at h
  | a :: r, 0, j, x, y, u, h, he, hj => by
    simp only [List.getElem?_cons_zero, Option.some.injEq] at h
    subst h
    simp only [List.set_cons_zero, List.flatMap_cons, he, Nat.zero_mul, Nat.zero_add]
    rw [List.set_append_left _ _ (by rw [hs]; exact hj)]
  | a :: r, i + 1, j, x, y, u, h, he, hj => by
    simp only [List.getElem?_cons_succ] at h
    have ih := flatMap_set hs r i j x y u h he hj
    simp only [List.set_cons_succ, List.flatMap_cons, ih]
    have e : (i + 1) * sz + j = sz + (i * sz + j) := by rw [Nat.succ_mul]; omega
    rw [List.set_append_right _ _ (by rw [hs, e]; omega), hs, e]
    congr 2
    omega
/-- One cell of an element set. -/
theorem Own.setAt {α : Type} {enc : α → List Value} {sz : Nat} {T : TypeId} {base n cap g : Nat} {w : World} {l : List α} (hs : ∀ x, (enc x).length = sz) (h : Own enc sz T base w (.slice (some ⟨g, 0, none⟩) n cap) l) {i j : Nat} {x y : α} {u : Value} (hx : l[i]? = some x) (he : enc y = (enc x).set j u) (hj : j < sz) :
    Own enc sz T base (w.setCell ⟨g, i * sz + j, none⟩ u) (.slice (some ⟨g, 0, none⟩) n cap) (l.set i y) ∧ w.grownBy (w.setCell ⟨g, i * sz + j, none⟩ u) (some g) := by
  have hi : i < l.length := (List.getElem?_eq_some_iff.1 hx).1
  have hlt : i * sz + j < (l.flatMap enc).length := by
    rw [flat_length hs]
    have : (i + 1) * sz ≤ l.length * sz := Nat.mul_le_mul_right _ hi
    rw [Nat.succ_mul] at this
    omega
  obtain ⟨h1, h2⟩ := ownsRow_set h (i * sz + j) hlt u
  refine ⟨?_, h2⟩
  unfold Own
  rw [flatMap_set hs l i j x y u hx he hj, List.length_set]
  exact h1
/-- An element of one cell set. -/
theorem Own.set1 {α : Type} {enc : α → List Value} {T : TypeId} {base n cap g : Nat} {w : World} {l : List α} (hs : ∀ x, (enc x).length = 1) (h : Own enc 1 T base w (.slice (some ⟨g, 0, none⟩) n cap) l) {i : Nat} (hi : i < l.length) {y : α} {u : Value} (he : enc y = [u]) :
    Own enc 1 T base (w.setCell ⟨g, i, none⟩ u) (.slice (some ⟨g, 0, none⟩) n cap) (l.set i y) ∧ w.grownBy (w.setCell ⟨g, i, none⟩ u) (some g) := by
  have hx : l[i]? = some l[i] := List.getElem?_eq_getElem hi
  have hl := hs l[i]
  have he' : enc y = (enc l[i]).set 0 u := by
    rw [he]
    cases hq : enc l[i] with
    | nil => rw [hq] at hl; simp at hl
    | cons a r => rw [hq] at hl; simp at hl; subst hl; rfl
  have := Own.setAt hs h hx he' (by decide)
  simpa using this
/-- The block behind an own slice that is not empty. -/
theorem Own.at_ {α : Type} {enc : α → List Value} {sz : Nat} {T : TypeId} {base n cap : Nat} {A : Option Addr} {w : World} {l : List α} (hs : ∀ x, (enc x).length = sz) (h : Own enc sz T base w (.slice A n cap) l) {i : Nat} (hi : i < l.length) :
    ∃ g x, A = some ⟨g, 0, none⟩ ∧ base ≤ g ∧ g < w.heap.size ∧ n = l.length ∧ l[i]? = some x ∧ (∀ j v, (enc x)[j]? = some v → w.cell? ⟨g, i * sz + j, none⟩ = some v) ∧ ∀ o, w.frozen? ⟨g, o, none⟩ = false := by
  have h' := h
  rcases h'.2 with ⟨e, e0⟩ | ⟨g, cap', cur, e, hb, hh, _⟩
  · omega
  · cases e
    have hr := h.rdOf hs
    obtain ⟨b, off, x, e1, _, hx, hc⟩ := hr.at_ hi
    cases e1
    exact ⟨g, x, rfl, hb, (Array.getElem?_eq_some_iff.1 hh).1, rfl, hx, fun j v hv => by have := hc j v hv; rw [Nat.zero_add] at this; exact this, fun o => free_at_block hh⟩
theorem Own.len {α : Type} {enc : α → List Value} {sz : Nat} {T : TypeId} {base n cap : Nat} {A : Option Addr} {w : World} {l : List α} (h : Own enc sz T base w (.slice A n cap) l) : n = l.length := by
  obtain ⟨A', cap', e⟩ := h.shape
  cases e; rfl

theorem Own.capMax {α : Type} {enc : α → List Value} {sz : Nat} {T : TypeId} {base n cap : Nat} {A : Option Addr} {w : World} {l : List α} (h : Own enc sz T base w (.slice A n cap) l) : cap ≤ 9223372036854775807 := by
  rcases h.2 with ⟨e, _⟩ | ⟨g, cap', cur, e, _, _, _, h1, _⟩
  · cases e; omega
  · cases e; unfold maxLen at h1; omega
theorem Own.heap {α : Type} {enc : α → List Value} {sz : Nat} {T : TypeId} {base n cap g : Nat} {w : World} {l : List α} (h : Own enc sz T base w (.slice (some ⟨g, 0, none⟩) n cap) l) : ∃ cc, w.heap[g]? = some (.cells cc T) := by
  rcases h.2 with ⟨e, _⟩ | ⟨g', cap', cur, e, _, h1, _⟩
  · cases e
  · cases e; exact ⟨cur, h1⟩
/-- Own memory stays where a block of another type, or a map, is turned. -/
theorem Own.grownT {α : Type} {enc : α → List Value} {sz : Nat} {T T' : TypeId} {base g : Nat} {w w' : World} {v : Value} {l : List α} {c : Array Value} (h : Own enc sz T base w v l) (hg : w.grownBy w' (some g)) (hc : w.heap[g]? = some (.cells c T')) (hT : T ≠ T') : Own enc sz T base w' v l := by
  refine h.grown hg ?_
  rcases h.2 with ⟨e, _⟩ | ⟨g', cap, cur, e, _, hb, _⟩
  · exact .inl (by rw [e]; rfl)
  · refine .inr fun ee => ?_
    rw [e] at ee
    have : g' = g := Option.some.inj ee
    subst this
    rw [hb] at hc
    cases hc
    exact hT rfl
/-- A part of a slice. -/
theorem Rd.drop {α : Type} {enc : α → List Value} {sz : Nat} {w : World} {lo n b off : Nat} {l : List α} (h : Rd enc sz w lo (some ⟨b, off, none⟩) n l) (k : Nat) (hk : k ≤ n) : Rd enc sz w lo (some ⟨b, off + k * sz, none⟩) (n - k) (l.drop k) := by
  refine ⟨by rw [List.length_drop, h.1], by have := h.le; omega, fun hn => ?_⟩
  obtain ⟨b', off', e, hlo, hc⟩ := h.2.2 (by omega)
  cases e
  refine ⟨b, _, rfl, hlo, fun i x hx j v hv => ?_⟩
  rw [List.getElem?_drop] at hx
  have := hc (k + i) x hx j v hv
  rw [Nat.add_mul] at this
  have e : off + k * sz + i * sz + j = off + (k * sz + i * sz) + j := by omega
  rw [e]
  exact this
theorem Rd.take {α : Type} {enc : α → List Value} {sz : Nat} {w : World} {lo n : Nat} {A : Option Addr} {l : List α} (h : Rd enc sz w lo A n l) (k : Nat) (hk : k ≤ n) : Rd enc sz w lo A k (l.take k) := by
  refine ⟨by rw [List.length_take, h.1]; omega, by have := h.le; omega, fun hn => ?_⟩
  obtain ⟨b', off', e, hlo, hc⟩ := h.2.2 (by omega)
  refine ⟨b', off', e, hlo, fun i x hx j v hv => ?_⟩
  have hi : i < k := by
    have := (List.getElem?_eq_some_iff.1 hx).1
    rw [List.length_take] at this
    omega
  rw [List.getElem?_take_of_lt hi] at hx
  exact hc i x hx j v hv
/-- A reading stays if the block that was turned is another one. -/
theorem Rd.grown {α : Type} {enc : α → List Value} {sz : Nat} {w w' : World} {lo n : Nat} {A : Option Addr} {l : List α} {row : Option Nat} (h : Rd enc sz w lo A n l) (hg : w.grownBy w' row) (_ : 0 < sz) (_ : ∀ x, (enc x).length = sz) (hne : 0 < n → ∀ b off, A = some ⟨b, off, none⟩ → row ≠ some b) : Rd enc sz w' lo A n l := by
  refine ⟨h.1, h.2.1, fun hn => ?_⟩
  obtain ⟨b, off, e, hlo, hc⟩ := h.2.2 hn
  refine ⟨b, off, e, hlo, fun i x hx j v hv => ?_⟩
  have h1 := hc i x hx j v hv
  have hlt := World.block_lt_of_cell? w _ h1
  exact (World.cell?_of_block (hg.block b hlt (fun ee => hne hn b off e ee.symm))).trans h1
end Go.Proofs.Bg
end

section
/- Contracts: cmp.Compare, slices.Compare, slices.Equal at integers; setIn, bitsOf, columnsOf. -/
namespace Go.Proofs.Bg
open Go.RowKit

theorem ret_of {a b : Value} (h : a = b) : Ending.returned a = .returned b := by rw [h]

/-- Some draws on. -/
def DrN (w w' : World) : Prop := ∃ q, w' = w.drewN q
theorem DrN.refl (w : World) : DrN w w := ⟨0, rfl⟩
theorem DrN.below {w w' : World} (h : DrN w w') : Below w.heap.size w w' := by
  obtain ⟨q, rfl⟩ := h
  exact below_drewN (Below.refl _ _) q
theorem DrN.drewN {w w' : World} (h : DrN w w') (n : Nat) : DrN w (w'.drewN n) := by
  obtain ⟨q, rfl⟩ := h
  exact ⟨q + n, by simp⟩
theorem DrN.drew {w w' : World} (h : DrN w w') : DrN w w'.drew := h.drewN 1
theorem DrN.trans {w w' w2 : World} (h : DrN w w') (h2 : DrN w' w2) : DrN w w2 := by
  obtain ⟨q, rfl⟩ := h2
  exact h.drewN q

theorem cmpCompare_any (a b : Int) (w : World) : Calls Tryz.prog 155 #[.int .i64 a, .int .i64 b] w fun e w' => e = .returned (.int .i64 (cmpI a b)) ∧ w = w' := by
  rcases Int.lt_trichotomy a b with h | h | h
  · go_enter Tryz.func155, Tryz.ntmps155
    go_wp2
    go_ret
    exact ⟨ret_int (by rw [cmpI, if_pos h]), rfl⟩
  · subst h
    go_enter Tryz.func155, Tryz.ntmps155
    go_wp2
    go_ret
    exact ⟨ret_int (by simp [cmpI]), rfl⟩
  · have h' : ¬ a < b := by omega
    go_enter Tryz.func155, Tryz.ntmps155
    go_wp2
    go_ret
    exact ⟨ret_int (by rw [cmpI, if_neg (by omega), if_pos h]), rfl⟩

set_option maxRecDepth 100000 in
theorem Compare_any (A B : Option Addr) (n m capA capB : Nat) (a b : List Int) (w : World) (hA : Rd iv 1 w 0 A n a) (hB : Rd iv 1 w 0 B m b) :
    Calls Tryz.prog 140 #[.slice A n capA, .slice B m capB] w fun e w' => e = .returned (.int .i64 (lexC a b)) ∧ w' = w := by
  have HA := Lib.hid hA
  have HB := Lib.hid hB
  have hle := hA.le
  have hle2 := hB.le
  clear hA hB
  go_enter Tryz.func140, Tryz.ntmps140
  go_wp2_with fail
  go_loopw [11] (fun i wr => ∃ k : Nat, k ≤ n ∧ k ≤ m ∧ i = .int .i64 k ∧ lexC a b = lexC (a.drop k) (b.drop k) ∧ wr = w) (fun i _ => n - (intOf i).toNat)
  case atStart => exact ⟨0, by omega, by omega, rfl, rfl, rfl⟩
  case round =>
    obtain ⟨k, hk, hkm, rfl, he, rfl⟩ := hrel
    have HE := Lib.hid he
    clear he
    by_cases hlt : k < n
    · obtain ⟨b1, o1, x, rfl, _, hx, c0⟩ := HA.out.int_at hlt
      have HX := Lib.hid (drop_at hx)
      clear hx
      have hi1 : (k : Int) < n := by omega
      by_cases hlt2 : k < m
      · obtain ⟨b2, o2, y, rfl, _, hy, d0⟩ := HB.out.int_at hlt2
        have HY := Lib.hid (drop_at hy)
        have hi2 : (k : Int) < m := by omega
        have HC := Lib.hid (cmpCompare_any x y wr)
        clear hy
        by_cases hxy : x = y
        · subst hxy
          have e0 : cmpI x x = 0 := by simp [cmpI]
          rw [e0] at HC
          clear e0
          go_wp2_with (go_at_call 155; (with_reducible refine HC.out.mono ?_); rintro e w' ⟨rfl, rfl⟩)
          exact ⟨⟨k + 1, by omega, by omega, by go_num, by rw [HE.out, HX.out, HY.out, lexC, if_neg (by omega), if_neg (by omega)], by first | rfl | trivial⟩, by simp [intOf]; omega⟩
        · have HR : Hid (lexC a b = cmpI x y) := by
            show _ = _
            rw [HE.out, HX.out, HY.out, lexC, cmpI]
            by_cases h1 : x < y
            · rw [if_pos h1, if_pos h1]
            · rw [if_neg h1, if_neg h1, if_pos (by omega), if_pos (by omega)]
          have e0 : (cmpI x y == 0) = false := by
            have : cmpI x y ≠ 0 := by unfold cmpI; split; omega; split <;> omega
            simpa using this
          have e0' : (cmpI x y != 0) = true := by rw [bne, e0]; rfl
          generalize cmpI x y = q at *
          clear hxy
          go_wp2_with (go_at_call 155; (with_reducible refine HC.out.mono ?_); rintro e w' ⟨rfl, rfl⟩)
          go_ret
          exact ⟨ret_int HR.out.symm, rfl⟩
      · have hkm' : k = m := by omega
        subst hkm'
        have HR : Hid (lexC a b = 1) := by
          show _ = _
          rw [HE.out, HX.out, (List.drop_eq_nil_of_le (by rw [HB.out.len]; exact Nat.le_refl _) : b.drop k = []), lexC]
        clear hlt2
        go_wp2_with fail
        go_ret
        exact ⟨ret_int HR.out.symm, rfl⟩
    · have hk' : k = n := by omega
      subst hk'
      clear hlt
      by_cases hlt2 : k < m
      · obtain ⟨b2, o2, y, rfl, _, hy, d0⟩ := HB.out.int_at hlt2
        have HR : Hid (lexC a b = -1) := by
          show _ = _
          rw [HE.out, drop_at hy, (List.drop_eq_nil_of_le (by rw [HA.out.len]; exact Nat.le_refl _) : a.drop k = []), lexC]
        have hi2 : (k : Int) < m := by omega
        clear hy d0
        go_wp2_with fail
        go_ret
        exact ⟨ret_int HR.out.symm, rfl⟩
      · have hkm' : k = m := by omega
        subst hkm'
        have HR : Hid (lexC a b = 0) := by
          show _ = _
          rw [HE.out, (List.drop_eq_nil_of_le (by rw [HA.out.len]; exact Nat.le_refl _) : a.drop k = []), (List.drop_eq_nil_of_le (by rw [HB.out.len]; exact Nat.le_refl _) : b.drop k = []), lexC]
        clear hlt2
        go_wp2_with fail
        go_ret
        exact ⟨ret_int HR.out.symm, rfl⟩

set_option maxRecDepth 100000 in
set_option maxHeartbeats 4000000 in
theorem Equal_any (A B : Option Addr) (n m capA capB : Nat) (a b : List Int) (w : World) (hA : Rd iv 1 w 0 A n a) (hB : Rd iv 1 w 0 B m b) :
    Calls Tryz.prog 142 #[.slice A n capA, .slice B m capB] w fun e w' => e = .returned (.bool (decide (a = b))) ∧ DrN w w' := by
  have HA := Lib.hid hA
  have HB := Lib.hid hB
  have hle := hA.le
  have hle2 := hB.le
  clear hA hB
  cases hnm : ((n : Int) != (m : Int)) with
  | true =>
    have hne : decide (a = b) = false := by
      rw [decide_eq_false_iff_not]
      rintro rfl
      have h1 := HA.out.len
      have h2 := HB.out.len
      simp at hnm
      omega
    rw [hne]
    clear hne
    go_enter Tryz.func142, Tryz.ntmps142
    go_wp2
    go_ret
    exact ⟨rfl, DrN.refl _⟩
  | false =>
    have hE : n = m := by simp at hnm; omega
    subst hE
    go_enter Tryz.func142, Tryz.ntmps142
    go_wp2_with fail
    go_loopw [5, 13] (fun _ i wr => ∃ k : Nat, k ≤ n ∧ i = .int .i64 k ∧ a.take k = b.take k ∧ DrN w wr) (fun _ i _ => n - (intOf i).toNat)
    case atStart => exact ⟨0, by omega, rfl, by simp, DrN.refl _⟩
    case round =>
      obtain ⟨k, hk, rfl, ht, hD⟩ := hrel
      have hW := hD.below
      have HD := Lib.hid hD
      have hRa := HA.out.below hW
      have hRb := HB.out.below hW
      have HT := Lib.hid ht
      clear hW ht hD
      by_cases hlt : k < n
      · obtain ⟨b1, o1, x, rfl, _, hx, c0⟩ := hRa.int_at hlt
        obtain ⟨b2, o2, y, rfl, _, hy, d0⟩ := hRb.int_at hlt
        have HX := Lib.hid hx
        have HY := Lib.hid hy
        have hi0 : (0 : Int) ≤ k := by omega
        have hi1 : (k : Int) < n := by omega
        clear hx hy hRa hRb
        by_cases hxy : x = y
        · subst hxy
          go_wp2_with fail
          go_quiet (fail)
          go_wp2_with fail
          exact ⟨⟨k + 1, by omega, by go_num, by rw [List.take_add_one, List.take_add_one, HX.out, HY.out, HT.out], HD.out.drewN _⟩, by simp [intOf]; omega⟩
        · have hne : decide (a = b) = false := by
            rw [decide_eq_false_iff_not]
            rintro rfl
            rw [HX.out] at HY
            exact hxy (Option.some.inj HY.out)
          have HNE := Lib.hid hne
          have e0 : (x == y) = false := by simpa using hxy
          have e0' : (x != y) = true := by rw [bne, e0]; rfl
          clear hne hxy
          go_wp2_with fail
          go_quiet (fail)
          go_wp2_with fail
          go_ret
          refine ⟨ret_bool ?_, HD.out.drewN _⟩
          rw [HNE.out]
      · have hk' : k = n := by omega
        subst hk'
        clear hRa hRb hlt
        go_wp2_with fail
        go_ret
        refine ⟨ret_bool ?_, HD.out⟩
        have h := HT.out
        rw [List.take_of_length_le (by rw [HA.out.len]; exact Nat.le_refl _), List.take_of_length_le (by rw [HB.out.len]; exact Nat.le_refl _)] at h
        simp [h]
end Go.Proofs.Bg
end

section
/- Contracts: setIn, bitsOf, columnsOf. -/
namespace Go.Proofs.Bg
open Go.RowKit

theorem infoInt : (Tryz.prog.info? 3).map (fun i => (i.zero, i.size, i.bytes)) = some (some (.int .i64 0), 1, 8) := by kernel_rfl
/-- The element ahead of place k. -/
def prevI (l : List Int) (k : Nat) : Int := if k = 0 then -1 else l.getD (k - 1) 0
theorem prevI_succ {l : List Int} {k : Nat} {x : Int} (h : l[k]? = some x) : prevI l (k + 1) = x := by
  simp [prevI, h]

set_option maxRecDepth 100000 in
theorem setIn_any (A : Option Addr) (n cap : Nat) (N : Int) (l : List Int) (w : World) (hA : Rd iv 1 w 0 A n l) :
    Calls Tryz.prog 91 #[.slice A n cap, .int .i64 N] w fun e w' => e = .returned (.bool (setB l N)) ∧ w' = w := by
  have HA := Lib.hid hA
  have hle := hA.le
  clear hA
  go_enter Tryz.func91, Tryz.ntmps91
  go_wp2_with fail
  go_loopw [9] (fun i wr => ∃ k : Nat, k ≤ n ∧ i = .int .i64 k ∧ setB l N = setFrom (prevI l k) N (l.drop k) ∧ (-1 ≤ prevI l k) ∧ wr = w) (fun i _ => n - (intOf i).toNat)
  case atStart => exact ⟨0, by omega, rfl, rfl, by simp [prevI], rfl⟩
  case round =>
    obtain ⟨k, hk, rfl, he, hp, rfl⟩ := hrel
    have HE := Lib.hid he
    clear he
    by_cases hlt : k < n
    · obtain ⟨b1, o1, x, hb, _, hx, c0⟩ := HA.out.int_at hlt
      have HX := Lib.hid (drop_at hx)
      have HPS := Lib.hid (prevI_succ hx)
      clear hx
      rw [HX.out, setFrom] at HE
      subst hb
      have hi1 : (k : Int) < n := by omega
      by_cases h0 : x < 0
      · have HR : Hid (setB l N = false) := by
          show _ = _
          have hd : decide (0 ≤ x) = false := by rw [decide_eq_false_iff_not]; omega
          rw [HE.out, hd, Bool.and_false, Bool.false_and, Bool.false_and]
        have hd : decide (x < 0) = true := by simpa using h0
        clear h0
        go_wp2_with fail
        go_ret
        refine ⟨ret_bool HR.out.symm, ?_⟩
        first | rfl | trivial
      · have hd : decide (x < 0) = false := by simpa using h0
        by_cases h1 : N ≤ x
        · have HR : Hid (setB l N = false) := by
            show _ = _
            have hd : decide (x < N) = false := by rw [decide_eq_false_iff_not]; omega
            rw [HE.out, hd, Bool.and_false, Bool.false_and]
          have hd1 : decide (N ≤ x) = true := by simpa using h1
          clear h0 h1
          go_wp2_with fail
          go_ret
          refine ⟨ret_bool HR.out.symm, ?_⟩
          first | rfl | trivial
        · have hd1 : decide (N ≤ x) = false := by simpa using h1
          by_cases hk0 : k = 0
          · have HK := Lib.hid hk0
            have hg : decide ((0 : Int) < (k : Int)) = false := by rw [decide_eq_false_iff_not]; omega
            have hg' : decide (0 < k) = false := by rw [decide_eq_false_iff_not]; omega
            have HR : Hid (setB l N = setFrom (prevI l (k + 1)) N (l.drop (k + 1))) := by
              show _ = _
              have e1 : decide (prevI l k < x) = true := by rw [decide_eq_true_eq, HK.out]; simp [prevI]; omega
              have e2 : decide (0 ≤ x) = true := by rw [decide_eq_true_eq]; omega
              have e3 : decide (x < N) = true := by rw [decide_eq_true_eq]; omega
              rw [HE.out, e1, e2, e3, HPS.out]
              rfl
            have HP1 : Hid (-1 ≤ prevI l (k + 1)) := by show _ ≤ _; rw [HPS.out]; omega
            clear h0 h1 HE hk0
            go_wp2_with fail
            exact ⟨⟨k + 1, by omega, by go_num, HR.out, HP1.out, by first | rfl | trivial⟩, by simp [intOf]; omega⟩
          · obtain ⟨j, rfl⟩ : ∃ j, k = j + 1 := ⟨k - 1, by omega⟩
            obtain ⟨b2, o2, y, hb2, _, hy, d0⟩ := HA.out.int_at (k := j) (by omega)
            cases hb2
            have HY := Lib.hid (prevI_succ hy)
            clear hy
            have hw : IntKind.i64.wrap ((j : Int) + 1 - 1) = (j : Int) := by rw [Int.add_sub_cancel]; exact IntWalk.i64_in _ (by omega)
            have hg : decide ((0 : Int) < (j : Int) + 1) = true := by rw [decide_eq_true_eq]; omega
            by_cases h2 : y < x
            · have HR : Hid (setB l N = setFrom (prevI l (j + 1 + 1)) N (l.drop (j + 1 + 1))) := by
                show _ = _
                have e1 : decide (prevI l (j + 1) < x) = true := by rw [decide_eq_true_eq, HY.out]; omega
                have e2 : decide (0 ≤ x) = true := by rw [decide_eq_true_eq]; omega
                have e3 : decide (x < N) = true := by rw [decide_eq_true_eq]; omega
                rw [HE.out, e1, e2, e3, HPS.out]
                rfl
              have HP1 : Hid (-1 ≤ prevI l (j + 1 + 1)) := by show _ ≤ _; rw [HPS.out]; omega
              have hd2 : decide (x ≤ y) = false := by rw [decide_eq_false_iff_not]; omega
              clear h0 h1 h2 HE hp
              go_wp2_with fail
              exact ⟨⟨j + 1 + 1, by omega, by go_num, HR.out, HP1.out, by first | rfl | trivial⟩, by simp [intOf]; omega⟩
            · have HR : Hid (setB l N = false) := by
                show _ = _
                have e1 : decide (prevI l (j + 1) < x) = false := by rw [decide_eq_false_iff_not, HY.out]; omega
                rw [HE.out, e1, Bool.false_and, Bool.false_and, Bool.false_and]
              have hd2 : decide (x ≤ y) = true := by rw [decide_eq_true_eq]; omega
              clear h0 h1 h2 HE hp
              go_wp2_with fail
              go_ret
              refine ⟨ret_bool HR.out.symm, ?_⟩
              first | rfl | trivial
    · have hk' : k = n := by omega
      subst hk'
      have HR : Hid (setB l N = true) := by
        show _ = _
        rw [HE.out, (List.drop_eq_nil_of_le (by rw [HA.out.len]; exact Nat.le_refl _) : l.drop k = []), setFrom]
      clear hlt
      go_wp2_with fail
      go_ret
      exact ⟨ret_bool HR.out.symm, rfl⟩

set_option maxRecDepth 100000 in
theorem bitsOf_any (A : Option Addr) (n cap : Nat) (l : List Int) (w : World) (hA : Rd iv 1 w 0 A n l) (hl : ∀ c ∈ l, 0 ≤ c ∧ c < 8) :
    Calls Tryz.prog 92 #[.slice A n cap] w fun e w' => e = .returned (.int .i64 (bitsN l : Nat)) ∧ w' = w := by
  have HA := Lib.hid hA
  have HL := Lib.hid hl
  have hle := hA.le
  clear hA hl
  go_enter Tryz.func92, Tryz.ntmps92
  go_wp2_with fail
  go_loopw [3, 8] (fun o i wr => ∃ k q : Nat, k ≤ n ∧ i = .int .i64 k ∧ o = .int .i64 q ∧ q < 256 ∧ bitsN l = bitsFrom q (l.drop k) ∧ wr = w) (fun _ i _ => n - (intOf i).toNat)
  case atStart => exact ⟨0, 0, by omega, rfl, rfl, by omega, rfl, rfl⟩
  case round =>
    obtain ⟨k, q, hk, rfl, rfl, hq, he, rfl⟩ := hrel
    have HE := Lib.hid he
    clear he
    by_cases hlt : k < n
    · obtain ⟨b1, o1, x, rfl, _, hx, c0⟩ := HA.out.int_at hlt
      have HX := Lib.hid (drop_at hx)
      have hm := HL.out x (List.mem_of_getElem? hx)
      clear hx
      rw [HX.out, bitsFrom] at HE
      obtain ⟨c, rfl⟩ : ∃ c : Nat, x = (c : Int) := ⟨x.toNat, by omega⟩
      rw [Int.toNat_natCast] at HE
      have hc : c < 8 := by omega
      have hp := pw_lt hc
      have hs := shl_nat (c := c) (by omega)
      have ho := bor_nat (a := q) (b := pw c) (by omega) (by omega)
      have hor : q ||| pw c < 256 := Nat.or_lt_two_pow (n := 8) hq hp
      generalize q ||| pw c = Q at *
      generalize pw c = P at *
      have hi1 : (k : Int) < n := by omega
      have h0 : (0 : Int) ≤ c := by omega
      have h64 : (c : Int) ≤ 64 := by omega
      clear hm
      go_wp2_with fail
      exact ⟨⟨k + 1, Q, by omega, by go_num, by first | rfl | rw [ho], hor, HE.out, by first | rfl | trivial⟩, by simp [intOf]; omega⟩
    · have hk' : k = n := by omega
      subst hk'
      have HR : Hid (bitsN l = q) := by
        show _ = _
        rw [HE.out, (List.drop_eq_nil_of_le (by rw [HA.out.len]; exact Nat.le_refl _) : l.drop k = []), bitsFrom]
      clear hlt
      go_wp2_with fail
      go_ret
      rw [HR.out]
      exact ⟨rfl, rfl⟩

set_option maxRecDepth 100000 in
theorem columnsOf_any (x : Nat) (w : World) (hx : x < 256) :
    Calls Tryz.prog 98 #[.int .i64 x] w fun e w' => ∃ v, e = .returned v ∧ Own iv 1 3 w.heap.size w' v (colsN x) ∧ Below w.heap.size w w' := by
  have HXL := Lib.hid hx
  clear hx
  go_enter Tryz.func98, Tryz.ntmps98
  go_wp2_with fail
  go_loopw [3, 4] (fun v i wr => ∃ k : Nat, ∃ l : List Int, k ≤ 8 ∧ i = .int .i64 k ∧ l.length ≤ k ∧ Own iv 1 3 w.heap.size wr v l ∧ colsN x = l ++ colsFrom x k (8 - k) ∧ Below w.heap.size w wr) (fun _ i _ => 8 - (intOf i).toNat)
  case atStart => exact ⟨0, [], by omega, rfl, by simp, Own.nil _ _ _ _ _, rfl, Below.refl _ _⟩
  case round =>
    obtain ⟨k, l, hk, rfl, hlen, hown, he, hB⟩ := hrel
    obtain ⟨A, cap, rfl⟩ := hown.shape
    have HO := Lib.hid hown
    have HB := Lib.hid hB
    have HE := Lib.hid he
    clear hown hB he
    by_cases hlt : k < 8
    · have e8 : 8 - k = (8 - (k + 1)) + 1 := by omega
      rw [e8, colsFrom] at HE
      clear e8
      have hs := shr_nat x k
      have hb := band_one (x := x) (c := k) (Nat.lt_trans HXL.out (by decide))
      have h0 : (0 : Int) ≤ k := by omega
      have h64 : (k : Int) ≤ 64 := by omega
      have h8 : decide ((k : Int) < 8) = true := by rw [decide_eq_true_eq]; omega
      have h8' : decide (k < 8) = true := by rw [decide_eq_true_eq]; omega
      generalize x >>> k = y at *
      cases ht : x.testBit k with
      | true =>
        rw [ht] at hb HE
        have HT := Lib.hid ht
        clear ht
        simp only [if_true] at hb HE
        go_wp2_with (at_builtin; go_loud (refine wpList_app1 iv 1 3 _ 8 infoInt rfl (by decide) rfl _ _ _ rfl Tryz.underlying32 w.heap.size _ l rfl (HO.out.alloc _) (k : Int) _ _ rfl rfl (newAt _ _ _ _ (by simp)) (by simp [iv, Value.oneCell']) (by omega) (by unfold maxLen; omega) (by have := HB.out.size; simp; omega) (fun v4 w4 hown4 hg4 _ => ?_)))
        exact ⟨⟨k + 1, l ++ [(k : Int)], by omega, by go_num, by simp; omega, hown4, by rw [HE.out]; simp, below_row (HB.out.alloc HB.out.size _) hg4 (fun g e => (HO.out.blk g e).1)⟩, by simp [intOf]; omega⟩
      | false =>
        rw [ht] at hb HE
        clear ht
        simp only [Bool.false_eq_true, if_false] at hb HE
        go_wp2_with fail
        exact ⟨⟨k + 1, l, by omega, by go_num, by omega, HO.out, HE.out, HB.out⟩, by simp [intOf]; omega⟩
    · have hk' : k = 8 := by omega
      subst hk'
      have HR : Hid (colsN x = l) := by show _ = _; rw [HE.out]; simp [colsFrom]
      clear hlt
      go_wp2_with fail
      go_ret
      exact ⟨_, rfl, by rw [HR.out]; exact HO.out, HB.out⟩
end Go.Proofs.Bg
end

section
/- Arguments that are handed in, opened: integers, rows, rules, tables. -/
namespace Go.Proofs.Bg
open Go.RowKit Go.ChangeShapes Go.WideShapes Go.Deep

instance : Inhabited Sl := ⟨⟨none, 0, 0⟩⟩
instance : Inhabited Fd := ⟨⟨default, 0⟩⟩
instance : Inhabited Tb := ⟨⟨default, default⟩⟩
theorem cellsI : Tryz.prog.cellsOf 3 = 1 := by kernel_rfl
theorem cellsIs : Tryz.prog.cellsOf 32 = 1 := by kernel_rfl
theorem cellsRs : Tryz.prog.cellsOf 38 = 1 := by kernel_rfl
theorem cellsFd : Tryz.prog.cellsOf 149 = 2 := by kernel_rfl
theorem spotN {w : World} {a : Addr} {v : Value} (h : w.cell? a = some v) : a.spot = none := by
  unfold World.cell? at h
  split at h
  · split at h
    · cases h
    · rename_i hs
      cases hh : a.spot with
      | none => rfl
      | some q => rw [hh] at hs; simp at hs
  · cases h
theorem all2_choose {α β : Type} {R : α → β → Prop} : ∀ {a : List α}, (∀ x ∈ a, ∃ y, R x y) → ∃ b, All2 R a b
  | [], _ => ⟨[], All2.nil _⟩
  | x :: a, h => by
    obtain ⟨y, hy⟩ := h x (by simp)
    obtain ⟨b, hb⟩ := all2_choose (a := a) fun z hz => h z (by simp [hz])
    exact ⟨y :: b, All2.cons hy hb⟩

section
variable {H : Type} {enc : TypeId × Value → H} {W : World} {spare : Nat → Bool} {held : Bool}
set_option maxRecDepth 100000 in
/-- A slice's cells, opened. -/
theorem open_cells {α : Type} [Inhabited α] {t e : TypeId} {fuel : Nat} {cs : List Value} {x : DataW H × List MemPlace} (en : α → List Value) (sz : Nat) (p : α → Prop) (hpos : 0 < sz) (hce : Tryz.prog.cellsOf e = sz) (hen : ∀ y, (en y).length = sz)
    (hel : ∀ n cs x, DataW.trod enc Tryz.prog W 0 spare held n e cs = some x → ∃ y, cs = en y ∧ p y)
    (ht : Tryz.prog.underlying t = some (.slice e)) (hf : DataW.trod enc Tryz.prog W 0 spare held fuel t cs = some x) :
    ∃ (s : Sl) (l : List α), cs = s.vs ∧ Rd en sz W 0 s.A s.n l ∧ (∀ y ∈ l, p y) ∧ s.n ≤ s.cap ∧ s.cap ≤ maxLen := by
  rcases open_slice ht hf with ⟨rfl, _⟩ | ⟨a, len, cap, m, k, D, Pl, rfl, _, hl, hm, hmm, hd, hall⟩
  · exact ⟨⟨none, 0, 0⟩, [], rfl, Rd.nil _ _ _, by simp, Nat.le_refl _, Nat.zero_le _⟩
  · have hlm : len ≤ m := by rw [hmm]; split <;> omega
    have each : ∀ i, i < len → ∃ y : α, (∀ j v, (en y)[j]? = some v → W.cell? (a.add (i * sz + j)) = some v) ∧ p y := fun i hi => by
      obtain ⟨cs', h1, h2⟩ := hall i (by omega)
      rw [hce] at h1
      obtain ⟨_, hlen, hcell⟩ := World.cells?_some h1
      obtain ⟨y, rfl, hp⟩ := hel _ _ _ h2
      refine ⟨y, fun j v hv => ?_, hp⟩
      have hj : j < sz := by rw [← hen y]; exact (List.getElem?_eq_some_iff.1 hv).1
      have := hcell j hj
      rw [add_add] at this
      rw [this, hv]
    obtain ⟨f, hf'⟩ := choose_lt each
    refine ⟨⟨some a, len, cap⟩, (List.range len).map f, rfl, ⟨by simp, by unfold maxLen at hm; show len ≤ _; omega, fun h0 => ?_⟩, ?_, hl, hm⟩
    · have h0 : 0 < len := h0
      have hs : a.spot = none := by
        have hl0 : 0 < (en (f 0)).length := by rw [hen]; exact hpos
        have := spotN ((hf' 0 h0).1 0 _ (List.getElem?_eq_getElem hl0))
        have e : (a.add (0 * sz + 0)).spot = none := this
        have ea : a.add (0 * sz + 0) = a := by unfold Addr.add; simp
        rwa [ea] at e
      obtain ⟨b, off, sp⟩ := a
      simp only at hs
      subst hs
      refine ⟨b, off, rfl, Nat.zero_le _, fun i x hx j v hv => ?_⟩
      have hi : i < len := by simpa using (List.getElem?_eq_some_iff.1 hx).1
      have ex : f i = x := by simpa [List.getElem?_map, List.getElem?_range hi] using hx
      subst ex
      have := (hf' i hi).1 j v hv
      have e1 : (⟨b, off, none⟩ : Addr).add (i * sz + j) = ⟨b, off + (i * sz + j), none⟩ := by unfold Addr.add; split <;> simp_all
      rw [e1] at this
      have e2 : off + i * sz + j = off + (i * sz + j) := by omega
      rw [e2]
      exact this
    · intro x hx
      obtain ⟨i, hi, rfl⟩ := List.mem_map.1 hx
      exact (hf' i (List.mem_range.1 hi)).2
set_option maxRecDepth 100000 in
theorem open_ints {t : TypeId} {fuel : Nat} {cs : List Value} {x : DataW H × List MemPlace} (ht : Tryz.prog.underlying t = some (.slice 3)) (hf : DataW.trod enc Tryz.prog W 0 spare held fuel t cs = some x) :
    ∃ (s : Sl) (l : List Int), cs = s.vs ∧ IntsAt W 0 s l ∧ (∀ y ∈ l, -9223372036854775808 ≤ y ∧ y ≤ 9223372036854775807) ∧ s.n ≤ s.cap ∧ s.cap ≤ maxLen :=
  open_cells iv 1 (fun y => -9223372036854775808 ≤ y ∧ y ≤ 9223372036854775807) (by decide) cellsI iv_length (fun n cs x hx => by
    obtain ⟨z, e, _, hw⟩ := DataW.trod_int Tryz.underlying3 hx
    exact ⟨z, e, by
      simp [Lit.wf, IntKind.min, IntKind.max, IntKind.signed, IntKind.bits] at hw
      omega⟩) ht hf
set_option maxRecDepth 100000 in
theorem open_rows {t : TypeId} {fuel : Nat} {cs : List Value} {x : DataW H × List MemPlace} (ht : Tryz.prog.underlying t = some (.slice 32)) (hf : DataW.trod enc Tryz.prog W 0 spare held fuel t cs = some x) :
    ∃ (s : Sl) (l : List (List Int)), cs = s.vs ∧ RowsAt W 0 s l ∧ (∀ r ∈ l, ∀ y ∈ r, -9223372036854775808 ≤ y ∧ y ≤ 9223372036854775807) ∧ s.n ≤ s.cap ∧ s.cap ≤ maxLen := by
  obtain ⟨s, ss, h1, h2, h3, h4, h5⟩ := open_cells Sl.vs 1 (fun y => ∃ r, IntsAt W 0 y r ∧ ∀ y ∈ r, -9223372036854775808 ≤ y ∧ y ≤ 9223372036854775807) (by decide) cellsIs Sl.vs_length (fun n cs x hx => by
    obtain ⟨s, l, h1, h2, h3, _, _⟩ := open_ints Tryz.underlying32 hx
    exact ⟨s, h1, l, h2, h3⟩) ht hf
  obtain ⟨L, hL⟩ := all2_choose h3
  refine ⟨s, L, h1, ⟨ss, h2, hL.mono fun _ _ h => h.1⟩, fun r hr => ?_, h4, h5⟩
  obtain ⟨i, hi, rfl⟩ := List.getElem_of_mem hr
  have hi2 : i < ss.length := by rw [hL.1]; exact hi
  exact (hL.2 i ss[i] _ (List.getElem?_eq_getElem hi2) (List.getElem?_eq_getElem hi)).2
set_option maxRecDepth 100000 in
theorem fd_cells (n : Nat) (cs : List Value) (x : DataW H × List MemPlace) (h : DataW.trod enc Tryz.prog W 0 spare held n 149 cs = some x) : ∃ y : Fd, cs = y.vs ∧ ∃ T, FdAt W 0 y T := by
  obtain ⟨y0, y1, k, _, hlen, u0, u1⟩ := trod_struct2 Tryz.underlying149 h
  rw [cellsFd] at hlen
  match cs, hlen with
  | [v0, v1], _ =>
    simp only [cellsIs, cellsI, List.drop, List.take] at u0 u1
    obtain ⟨s, l, e0, hs, _, _, _⟩ := open_ints Tryz.underlying32 u0
    obtain ⟨a, e1, _, _⟩ := DataW.trod_int Tryz.underlying3 u1
    simp only [Sl.vs, List.cons.injEq, and_true] at e0 e1
    exact ⟨⟨s, a⟩, by rw [e0, e1]; rfl, ⟨l, a⟩, rfl, hs⟩
set_option maxRecDepth 100000 in
theorem open_fds {t : TypeId} {fuel : Nat} {cs : List Value} {x : DataW H × List MemPlace} (ht : Tryz.prog.underlying t = some (.slice 149)) (hf : DataW.trod enc Tryz.prog W 0 spare held fuel t cs = some x) :
    ∃ (s : Sl) (l : List PF), cs = s.vs ∧ FdsAt W 0 s.A s.n l ∧ s.n ≤ s.cap ∧ s.cap ≤ maxLen := by
  obtain ⟨s, ss, h1, h2, h3, h4, h5⟩ := open_cells Fd.vs 2 (fun y => ∃ T, FdAt W 0 y T) (by decide) cellsFd Fd.vs_length fd_cells ht hf
  obtain ⟨L, hL⟩ := all2_choose h3
  exact ⟨s, L, h1, ⟨ss, h2, hL⟩, h4, h5⟩
end
set_option maxRecDepth 100000 in
/-- A slice's value, from its cells. -/
theorem slice_of {t e : TypeId} {W : World} {r : Reach} {base : Nat} {v : Value} {s : Sl} (ht : Tryz.prog.underlying t = some (.slice e)) (hval : Value.okWide Tryz.prog W r base t v) (h : v.cells.toList = s.vs) : v = .slice s.A s.n s.cap := by
  obtain ⟨A, n, cap, rfl⟩ := okWide_slice ht hval
  simpa [Value.cells, Sl.vs] using h
end Go.Proofs.Bg
end

section
/- Contracts: the reference's Order, SameRows, Same, SameTables. -/
namespace Go.Proofs.Bg
open Go.RowKit

set_option maxRecDepth 100000 in
set_option maxHeartbeats 4000000 in
theorem Order_any (A B : Option Addr) (n m capA capB : Nat) (a b : List Int) (w : World) (hA : Rd iv 1 w 0 A n a) (hB : Rd iv 1 w 0 B m b) :
    Calls Tryz.prog 22 #[.slice A n capA, .slice B m capB] w fun e w' => e = .returned (.int .i64 (orderC a b)) ∧ DrN w w' := by
  have HA := Lib.hid hA
  have HB := Lib.hid hB
  have hle := hA.le
  have hle2 := hB.le
  clear hA hB
  go_enter Tryz.func22, Tryz.ntmps22
  go_wp2_with fail
  go_loopw [5] (fun i wr => ∃ k : Nat, k ≤ n ∧ k ≤ m ∧ i = .int .i64 k ∧ orderC a b = orderC (a.drop k) (b.drop k) ∧ DrN w wr) (fun i _ => n - (intOf i).toNat)
  case atStart => exact ⟨0, by omega, by omega, rfl, rfl, DrN.refl _⟩
  case round =>
    obtain ⟨k, hk, hkm, rfl, he, hD⟩ := hrel
    have HE := Lib.hid he
    have HD := Lib.hid hD
    have hRa := HA.out.below hD.below
    have hRb := HB.out.below hD.below
    clear he hD
    by_cases hlt : k < n
    · by_cases hlt2 : k < m
      · obtain ⟨b1, o1, x, rfl, -, hx, c0⟩ := hRa.int_at hlt
        obtain ⟨b2, o2, y, rfl, -, hy, d0⟩ := hRb.int_at hlt2
        have HX := Lib.hid (drop_at hx)
        have HY := Lib.hid (drop_at hy)
        have hi0 : (0 : Int) ≤ k := by omega
        have hi1 : (k : Int) < n := by omega
        have hi2 : (k : Int) < m := by omega
        rw [HX.out, HY.out, orderC] at HE
        clear hx hy hRa hRb
        by_cases h1 : x < y
        · have e1 : decide (x < y) = true := by simpa using h1
          rw [if_pos h1] at HE
          clear h1
          go_wp2_with fail
          go_quiet (fail)
          go_wp2_with fail
          go_ret
          rw [HE.out]
          exact ⟨rfl, HD.out.drewN _⟩
        · have e1 : decide (x < y) = false := by simpa using h1
          rw [if_neg h1] at HE
          by_cases h2 : y < x
          · have e2 : decide (y < x) = true := by simpa using h2
            rw [if_pos h2] at HE
            clear h1 h2
            go_wp2_with fail
            go_quiet (fail)
            go_wp2_with fail
            go_quiet (fail)
            go_wp2_with fail
            go_ret
            rw [HE.out]
            refine ⟨rfl, ?_⟩
            first | exact HD.out.drewN _ | exact (HD.out.drewN _).drewN _
          · have e2 : decide (y < x) = false := by simpa using h2
            rw [if_neg h2] at HE
            clear h1 h2
            go_wp2_with fail
            go_quiet (fail)
            go_wp2_with fail
            go_quiet (fail)
            go_wp2_with fail
            refine ⟨⟨k + 1, by omega, by omega, by go_num, HE.out, ?_⟩, by simp [intOf]; omega⟩
            first | exact HD.out.drewN _ | exact (HD.out.drewN _).drewN _
      · have hkm' : k = m := by omega
        have HR : Hid (orderC a b = (n : Int) - m) := by
          show _ = _
          obtain ⟨x, hx⟩ : ∃ x, a[k]? = some x := ⟨_, List.getElem?_eq_getElem (by rw [HA.out.len]; exact hlt)⟩
          rw [HE.out, drop_at hx, (List.drop_eq_nil_of_le (by rw [HB.out.len]; omega) : b.drop k = []), orderC, ← drop_at hx, List.length_drop, HA.out.len]
          omega
        have e1 : decide ((k : Int) < (m : Int)) = false := by rw [decide_eq_false_iff_not]; omega
        have e1' : decide (k < m) = false := by rw [decide_eq_false_iff_not]; omega
        have hw : IntKind.i64.wrap ((n : Int) - m) = (n : Int) - m := IntWalk.i64_in _ (by omega)
        clear hkm' hlt2 hRa hRb
        go_wp2_with fail
        go_ret
        rw [HR.out]
        exact ⟨rfl, HD.out⟩
    · have hk' : k = n := by omega
      have HR : Hid (orderC a b = (n : Int) - m) := by
        show _ = _
        rw [HE.out, (List.drop_eq_nil_of_le (by rw [HA.out.len]; omega) : a.drop k = []), orderC, List.length_drop, HB.out.len]
        omega
      have e1 : decide ((k : Int) < (n : Int)) = false := by rw [decide_eq_false_iff_not]; omega
      have e1' : decide (k < n) = false := by rw [decide_eq_false_iff_not]; omega
      have hw : IntKind.i64.wrap ((n : Int) - m) = (n : Int) - m := IntWalk.i64_in _ (by omega)
      clear hk' hlt hRa hRb
      go_wp2_with fail
      go_ret
      rw [HR.out]
      exact ⟨rfl, HD.out⟩

set_option maxRecDepth 100000 in
set_option maxHeartbeats 4000000 in
theorem SameRows_any (A B : Option Addr) (n m capA capB : Nat) (R S : List (List Int)) (w : World) (hA : RowsAt w 0 ⟨A, n, capA⟩ R) (hB : RowsAt w 0 ⟨B, m, capB⟩ S) :
    Calls Tryz.prog 51 #[.slice A n capA, .slice B m capB] w fun e w' => e = .returned (.bool (decide (R = S))) ∧ DrN w w' := by
  have HA := Lib.hid hA
  have HB := Lib.hid hB
  have HLA : Hid (R.length = n) := hA.len
  have HLB : Hid (S.length = m) := hB.len
  have hle : n ≤ 9223372036854775807 := hA.le
  have hle2 : m ≤ 9223372036854775807 := hB.le
  clear hA hB
  cases hnm : ((n : Int) != (m : Int)) with
  | true =>
    have hne : decide (R = S) = false := by
      rw [decide_eq_false_iff_not]
      rintro rfl
      have h1 := HLA.out
      have h2 := HLB.out
      simp at hnm
      omega
    rw [hne]
    clear hne
    go_enter Tryz.func51, Tryz.ntmps51
    go_wp2
    go_ret
    exact ⟨rfl, DrN.refl _⟩
  | false =>
    have hE : n = m := by simp at hnm; omega
    subst hE
    go_enter Tryz.func51, Tryz.ntmps51
    go_wp2_with fail
    go_loopw [5] (fun i wr => ∃ k : Nat, k ≤ n ∧ i = .int .i64 k ∧ R.take k = S.take k ∧ DrN w wr) (fun i _ => n - (intOf i).toNat)
    case atStart => exact ⟨0, by omega, rfl, by simp, DrN.refl _⟩
    case round =>
      obtain ⟨k, hk, rfl, ht, hD⟩ := hrel
      have hRa := HA.out.below hD.below
      have hRb := HB.out.below hD.below
      have HT := Lib.hid ht
      have HD := Lib.hid hD
      clear ht hD
      by_cases hlt : k < n
      · obtain ⟨b1, o1, s, x, e1, -, hx, c0, hsx⟩ := hRa.at_ hlt
        obtain ⟨b2, o2, t, y, e2, -, hy, d0, hty⟩ := hRb.at_ hlt
        simp only [] at e1 e2
        subst e1 e2
        have HX := Lib.hid hx
        have HY := Lib.hid hy
        have hi0 : (0 : Int) ≤ k := by omega
        have hi1 : (k : Int) < n := by omega
        have Q := Lib.hid (fun q => Order_any s.A t.A s.n t.n s.cap t.cap x y (wr.drewN q) (hsx.below (below_drewN (Below.refl _ _) q)) (hty.below (below_drewN (Below.refl _ _) q)))
        have HZ := Lib.hid (orderC_zero (a := x) (b := y))
        generalize orderC x y = z at *
        clear hx hy hRa hRb hsx hty
        by_cases hz : z = 0
        · have e0 : (z == 0) = true := by simpa using hz
          have e0' : (z != 0) = false := by rw [bne, e0]; rfl
          have HEQ : Hid (x = y) := HZ.out.1 hz
          clear hz
          go_wp2_with fail
          go_quiet (first | (go_at_call 22; with_reducible exact Calls.quiet_of (Q.out _)))
          go_wp2_with fail
          exact ⟨⟨k + 1, by omega, by go_num, by rw [List.take_add_one, List.take_add_one, HX.out, HY.out, HT.out, HEQ.out], HD.out.drewN _⟩, by simp [intOf]; omega⟩
        · have e0 : (z == 0) = false := by simpa using hz
          have e0' : (z != 0) = true := by rw [bne, e0]; rfl
          have hne : decide (R = S) = false := by
            rw [decide_eq_false_iff_not]
            rintro rfl
            rw [HX.out] at HY
            exact hz (HZ.out.2 (Option.some.inj HY.out))
          have HNE := Lib.hid hne
          clear hz hne
          go_wp2_with fail
          go_quiet (first | (go_at_call 22; with_reducible exact Calls.quiet_of (Q.out _)))
          go_wp2_with fail
          go_ret
          refine ⟨ret_bool ?_, HD.out.drewN _⟩
          rw [HNE.out]
      · have hk' : k = n := by omega
        have e1 : decide ((k : Int) < (n : Int)) = false := by rw [decide_eq_false_iff_not]; omega
        have e1' : decide (k < n) = false := by rw [decide_eq_false_iff_not]; omega
        have hRS : Hid (decide (R = S) = true) := by
          show _ = _
          have h := HT.out
          rw [List.take_of_length_le (by rw [HLA.out]; omega), List.take_of_length_le (by rw [HLB.out]; omega)] at h
          simp [h]
        clear hRa hRb hlt hk'
        go_wp2_with fail
        go_ret
        rw [hRS.out]
        exact ⟨rfl, HD.out⟩

set_option maxRecDepth 100000 in
theorem Same_any (t u : Tb) (T U : PT) (w : World) (ht : TabAt w 0 t T) (hu : TabAt w 0 u U) :
    Calls Tryz.prog 32 #[.agg #[.slice t.cols.A t.cols.n t.cols.cap, .slice t.rows.A t.rows.n t.rows.cap], .agg #[.slice u.cols.A u.cols.n u.cols.cap, .slice u.rows.A u.rows.n u.rows.cap]] w fun e w' => e = .returned (.bool (decide (T = U))) ∧ Below w.heap.size w w' := by
  obtain ⟨⟨cA, cn, ck⟩, ⟨rA, rn, rk⟩⟩ := t
  obtain ⟨⟨cB, dn, dk⟩, ⟨rB, sn, sk⟩⟩ := u
  generalize hW : (w.alloc (.cells #[.slice cA cn ck, .slice rA rn rk] 40)).alloc (.cells #[.slice cB dn dk, .slice rB sn sk] 40) = W
  have hB : Below w.heap.size w W := by rw [← hW]; exact (below_new w _).alloc (by simp) _
  have HW := Lib.hid hW
  have HB := Lib.hid hB
  have q0 : W.heap[w.heap.size]? = some (.cells #[.slice cA cn ck, .slice rA rn rk] 40) := by
    rw [← hW, Below.heap_alloc _ _ _ (by simp)]; exact new_block _ _ _
  have q1 : W.heap[w.heap.size + 1]? = some (.cells #[.slice cB dn dk, .slice rB sn sk] 40) := by
    rw [← hW]
    have := new_block (w.alloc (.cells #[.slice cA cn ck, .slice rA rn rk] 40)) #[.slice cB dn dk, .slice rB sn sk] 40
    simpa using this
  have H0 := Lib.hid q0
  have H1 := Lib.hid q1
  have c00 := cell_at_block (off := 0) q0 rfl
  have c10 := cell_at_block (off := 0) q1 rfl
  have Q1 := Lib.hid (Order_any cA cB cn dn ck dk T.cols U.cols W (Rd.below ht.1 hB) (Rd.below hu.1 hB))
  have hra := ht.2.below hB
  have hrb := hu.2.below hB
  have HRA := Lib.hid hra
  have HRB := Lib.hid hrb
  have HZ := Lib.hid (orderC_zero (a := T.cols) (b := U.cols))
  generalize orderC T.cols U.cols = z at *
  clear hW hB q0 q1 ht hu hra hrb
  by_cases hz : z = 0
  · have e0 : (z == 0) = true := by simpa using hz
    have HEQ : Hid (T.cols = U.cols) := HZ.out.1 hz
    have HFIN : Hid (decide (T.rows = U.rows) = decide (T = U)) := by
      show _ = _
      have h1 := HEQ.out
      cases T; cases U
      simp only [] at h1
      subst h1
      simp
    clear hz
    go_enter Tryz.func32, Tryz.ntmps32
    go_wp2_with fail
    rw [HW.out]
    (with_reducible refine Q1.out.mono ?_)
    rintro e w2 ⟨rfl, hd2⟩
    have hb2 := hd2.below
    have d01 := cell_at_block (off := 1) ((hb2.block _ (Array.getElem?_eq_some_iff.1 H0.out).1).trans H0.out) rfl
    have d11 := cell_at_block (off := 1) ((hb2.block _ (Array.getElem?_eq_some_iff.1 H1.out).1).trans H1.out) rfl
    have Q2 := Lib.hid (SameRows_any rA rB rn sn rk sk T.rows U.rows w2 (HRA.out.below hb2) (HRB.out.below hb2))
    have HB2 := Lib.hid (bchain HB.out hb2)
    clear hd2 hb2 Q1
    go_wp2_with fail
    (with_reducible refine Q2.out.mono ?_)
    rintro e w3 ⟨rfl, hd3⟩
    have HB3 := Lib.hid (bchain HB2.out hd3.below)
    rw [HFIN.out]
    clear hd3 Q2
    go_wp2_with fail
    go_ret
    exact ⟨rfl, HB3.out⟩
  · have e0 : (z == 0) = false := by simpa using hz
    have HFIN : Hid (decide (T = U) = false) := by
      show _ = _
      rw [decide_eq_false_iff_not]
      rintro rfl
      exact hz (HZ.out.2 rfl)
    clear hz
    go_enter Tryz.func32, Tryz.ntmps32
    go_wp2_with fail
    rw [HW.out]
    (with_reducible refine Q1.out.mono ?_)
    rintro e w2 ⟨rfl, hd2⟩
    have HB2 := Lib.hid (bchain HB.out hd2.below)
    clear hd2 Q1
    go_wp2_with fail
    go_ret
    rw [HFIN.out]
    exact ⟨rfl, HB2.out⟩

set_option maxRecDepth 100000 in
set_option maxHeartbeats 4000000 in
theorem SameTables_any (A B : Option Addr) (n m capA capB : Nat) (R S : List PT) (w : World) (hA : TabsAt w 0 A n R) (hB : TabsAt w 0 B m S) :
    Calls Tryz.prog 26 #[.slice A n capA, .slice B m capB] w fun e w' => e = .returned (.bool (decide (R = S))) ∧ Below w.heap.size w w' := by
  have HA := Lib.hid hA
  have HB := Lib.hid hB
  have HLA : Hid (R.length = n) := hA.len
  have HLB : Hid (S.length = m) := hB.len
  have hle : n ≤ 9223372036854775807 := hA.le
  have hle2 : m ≤ 9223372036854775807 := hB.le
  clear hA hB
  cases hnm : ((n : Int) != (m : Int)) with
  | true =>
    have hne : decide (R = S) = false := by
      rw [decide_eq_false_iff_not]
      rintro rfl
      have h1 := HLA.out
      have h2 := HLB.out
      simp at hnm
      omega
    rw [hne]
    clear hne
    go_enter Tryz.func26, Tryz.ntmps26
    go_wp2
    go_ret
    exact ⟨rfl, Below.refl _ _⟩
  | false =>
    have hE : n = m := by simp at hnm; omega
    subst hE
    go_enter Tryz.func26, Tryz.ntmps26
    go_wp2_with fail
    go_loopw [5] (fun i wr => ∃ k : Nat, k ≤ n ∧ i = .int .i64 k ∧ R.take k = S.take k ∧ Below w.heap.size w wr) (fun i _ => n - (intOf i).toNat)
    case atStart => exact ⟨0, by omega, rfl, by simp, Below.refl _ _⟩
    case round =>
      obtain ⟨k, hk, rfl, ht, hD⟩ := hrel
      have hRa := HA.out.below hD
      have hRb := HB.out.below hD
      have HT := Lib.hid ht
      have HD := Lib.hid hD
      clear ht hD
      by_cases hlt : k < n
      · obtain ⟨b1, o1, s, x, rfl, -, hx, c0, c1, hsx⟩ := hRa.at_ hlt
        obtain ⟨b2, o2, t, y, rfl, -, hy, d0, d1, hty⟩ := hRb.at_ hlt
        have HX := Lib.hid hx
        have HY := Lib.hid hy
        have hi0 : (0 : Int) ≤ k := by omega
        have hi1 : (k : Int) < n := by omega
        have Q := Lib.hid (fun W (hb : Below wr.heap.size wr W) => Same_any s t x y W (hsx.below hb) (hty.below hb))
        clear hx hy hRa hRb hsx hty
        by_cases hz : x = y
        · have HQ : Hid (decide (x = y) = true) := by show _ = _; simpa using hz
          have HEQ := Lib.hid hz
          rw [HQ.out] at Q
          clear hz HQ
          go_wp2_with fail
          go_region_with (go_at_call 32; (with_reducible refine (Q.out _ (by repeat' first | exact Below.refl _ _ | refine Below.drew ?_)).mono ?_); rintro e w3 ⟨rfl, hb3⟩)
          all_goals go_wp2_with fail
          all_goals exact ⟨⟨k + 1, by omega, by go_num, by rw [List.take_add_one, List.take_add_one, HX.out, HY.out, HT.out, HEQ.out], bchain HD.out.drew hb3⟩, by simp [intOf]; omega⟩
        · have HQ : Hid (decide (x = y) = false) := by show _ = _; simpa using hz
          have hne : decide (R = S) = false := by
            rw [decide_eq_false_iff_not]
            rintro rfl
            rw [HX.out] at HY
            exact hz (Option.some.inj HY.out)
          have HNE := Lib.hid hne
          rw [HQ.out] at Q
          clear hz HQ hne
          go_wp2_with fail
          go_region_with (go_at_call 32; (with_reducible refine (Q.out _ (by repeat' first | exact Below.refl _ _ | refine Below.drew ?_)).mono ?_); rintro e w3 ⟨rfl, hb3⟩)
          all_goals go_wp2_with fail
          all_goals go_ret
          all_goals rw [HNE.out]
          all_goals exact ⟨rfl, bchain HD.out.drew hb3⟩
      · have hk' : k = n := by omega
        have e1 : decide ((k : Int) < (n : Int)) = false := by rw [decide_eq_false_iff_not]; omega
        have e1' : decide (k < n) = false := by rw [decide_eq_false_iff_not]; omega
        have hRS : Hid (decide (R = S) = true) := by
          show _ = _
          have h := HT.out
          rw [List.take_of_length_le (by rw [HLA.out]; omega), List.take_of_length_le (by rw [HLB.out]; omega)] at h
          simp [h]
        clear hRa hRb hlt hk'
        go_wp2_with fail
        go_ret
        rw [hRS.out]
        exact ⟨rfl, HD.out⟩
end Go.Proofs.Bg
end

section
/- Plain words: rows put one by one where they belong. No program in sight. -/
namespace Go.Proofs.Bg
open Go.RowKit

/-- A row put before all greater ones. -/
def insAt {α : Type} (l : List α) (a : Nat) (x : α) : List α := l.take a ++ x :: l.drop a
theorem ins_up {x : List Int} {l : List (List Int)} {a : Nat} (h : RowsUp l) (h1 : ∀ z ∈ l.drop a, lexC x z < 0) (h2 : a = 0 ∨ ∃ z, l[a - 1]? = some z ∧ lexC z x < 0) : RowsUp (insAt l a x) := by
  have h0 : RowsUp (l.take a ++ l.drop a) := by rw [List.take_append_drop]; exact h
  obtain ⟨p1, p2, p3⟩ := List.pairwise_append.1 h0
  have key : ∀ y ∈ l.take a, lexC y x < 0 := fun y hy => by
    rcases h2 with h2 | ⟨z, hz, hzx⟩
    · subst h2; simp at hy
    · obtain ⟨i, hi, rfl⟩ := List.getElem_of_mem hy
      have hi' : i < a ∧ i < l.length := by rw [List.length_take] at hi; omega
      rw [List.getElem_take]
      obtain ⟨hz1, hz2⟩ := List.getElem?_eq_some_iff.1 hz
      by_cases e : i = a - 1
      · subst e; rw [hz2]; exact hzx
      · have := List.pairwise_iff_getElem.1 h i (a - 1) hi'.2 hz1 (by omega)
        rw [hz2] at this
        exact lexC_trans this hzx
  refine List.pairwise_append.2 ⟨p1, List.pairwise_cons.2 ⟨h1, p2⟩, fun y hy z hz => ?_⟩
  rcases List.mem_cons.1 hz with rfl | hz
  · exact key y hy
  · exact p3 y hy z hz
theorem mem_insAt {α : Type} {x z : α} {l : List α} {a : Nat} : z ∈ insAt l a x ↔ z = x ∨ z ∈ l := by
  conv => rhs; rw [← List.take_append_drop a l]
  unfold insAt
  rw [List.mem_append, List.mem_cons, List.mem_append]
  constructor
  · rintro (h | h | h)
    · exact .inr (.inl h)
    · exact .inl h
    · exact .inr (.inr h)
  · rintro (h | h | h)
    · exact .inr (.inl h)
    · exact .inl h
    · exact .inr (.inr h)
theorem insAt_len {α : Type} {l : List α} {a : Nat} {x : α} (h : a ≤ l.length) : (insAt l a x).length = l.length + 1 := by simp [insAt]; omega
/-- One place more is made free. -/
theorem insAt_down {α : Type} {l : List α} {k : Nat} {x y : α} (hy : l[k]? = some y) : (insAt l (k + 1) x).set (k + 1) y = insAt l k y := by
  have hk := (List.getElem?_eq_some_iff.1 hy).1
  have e : (l.take (k + 1)).length = k + 1 := by simp; omega
  unfold insAt
  rw [List.set_append_right _ _ (by omega), e, Nat.sub_self, List.set_cons_zero, List.take_add_one, hy]
  rw [List.append_assoc]
  congr 1
  rw [drop_at hy]
  rfl
theorem insAt_set {α : Type} {l : List α} {a : Nat} {x y : α} (h : a ≤ l.length) : (insAt l a y).set a x = insAt l a x := by
  have e : (l.take a).length = a := by simp; omega
  unfold insAt
  rw [List.set_append_right _ _ (by omega), e, Nat.sub_self, List.set_cons_zero]
theorem insAt_at {α : Type} {l : List α} {a k : Nat} {x y : α} (hk : k < a) (hy : l[k]? = some y) : (insAt l a x)[k]? = some y := by
  have hl := (List.getElem?_eq_some_iff.1 hy).1
  unfold insAt
  rw [List.getElem?_append_left (by simp; omega), List.getElem?_take_of_lt hk, hy]
theorem insAt_end {α : Type} (l : List α) (x : α) : insAt l l.length x = l ++ [x] := by simp [insAt]
theorem insAt_all2 {α β : Type} {R : α → β → Prop} {a : List α} {b : List β} (h : All2 R a b) {i : Nat} {x : α} {y : β} (hi : i ≤ a.length) (hxy : R x y) : All2 R (insAt a i x) (insAt b i y) := by
  have hl := h.1
  have ha : (a.take i).length = i := by simp; omega
  have hb : (b.take i).length = i := by simp; omega
  refine ⟨by rw [insAt_len hi, insAt_len (by omega), hl], fun j s t h1 h2 => ?_⟩
  unfold insAt at h1 h2
  by_cases hj : j < i
  · rw [List.getElem?_append_left (by omega), List.getElem?_take_of_lt hj] at h1 h2
    exact h.2 j s t h1 h2
  · rw [List.getElem?_append_right (by omega)] at h1 h2
    rw [ha] at h1
    rw [hb] at h2
    cases hji : j - i with
    | zero =>
      rw [hji] at h1 h2
      cases h1; cases h2; exact hxy
    | succ m =>
      rw [hji] at h1 h2
      rw [List.getElem?_cons_succ, List.getElem?_drop] at h1 h2
      exact h.2 _ s t h1 h2
theorem up_sortR {rows L : List (List Int)} (h : RowsUp rows) (hm : ∀ z, z ∈ rows ↔ z ∈ L) : rows = sortR L := up_unique h (sortR_up L) fun z => (hm z).trans mem_sortR.symm
end Go.Proofs.Bg
end

section
/- Plain words: append of a slice to a list of the call's own; the two slices' types may differ by name. -/
namespace Go.Proofs.Bg
open Go.RowKit

theorem Own.capOf {α : Type} {enc : α → List Value} {sz : Nat} {T : TypeId} {base n cap : Nat} {A : Option Addr} {w : World} {l : List α} (h : Own enc sz T base w (.slice A n cap) l) : n ≤ cap := by
  rcases h.2 with ⟨e, _⟩ | ⟨g, cap', cur, e, _, _, h1, _⟩
  · cases e; exact Nat.le_refl _
  · cases e; exact h1
theorem run_append2 {P : Program} {w : World} {t t2 ty e e2 : TypeId} (ht : P.underlying t = some (.slice e)) (ht2 : P.underlying t2 = some (.slice e2)) (v x : Value) :
    (Builtin.append_ #[t, t2] ty #[v, x]).run P w = (Builtin.append_ #[t, t] ty #[v, x]).run P w := by
  cases v <;> simp [Builtin.append_, run_underlying ht, run_underlying ht2, sizeOf, Result.andThen]
theorem run_append_none {P : Program} {w : World} {t ty e : TypeId} {i : TypeInfo} (ht : P.underlying t = some (.slice e)) (hi : P.info? e = some i) (A : Option Addr) (n cap c : Nat) (hc : n ≤ cap) :
    (Builtin.append_ #[t, t] ty #[.slice A n cap, .slice none 0 c]).run P w = .ok (.slice A n cap) w := by
  cases A with
  | none => simp [Builtin.append_, run_underlying ht, sizeOf, typeInfo, hi, Builtin.lenOf, Builtin.firstCells, Result.andThen, hc]
  | some a => simp [Builtin.append_, run_underlying ht, sizeOf, typeInfo, hi, Builtin.lenOf, Builtin.firstCells, loadCells, storeCells, Result.andThen, hc]

/-- 'append(s, y...)', y any slice that reads as a list. -/
theorem wpList_appRd {P : Program} {w : World} {ops : Array Oper} {rest : List Oper} {o : Oper} {a : Act} {Q : Exit → Act → World → Prop} {α : Type} (enc : α → List Value) (sz : Nat) (hse : ∀ x, (enc x).length = sz) (h0 : 0 < sz) (hone : ∀ x, ∀ u ∈ enc x, u.oneCell' = true)
    (e e2 : TypeId) (z : Value) (bytes : Nat) (hinf : (P.info? e).map (fun i => (i.zero, i.size, i.bytes)) = some (some z, sz, bytes)) (hzs : z.cells.size = sz)
    (hgd : o.guard = none) (s x : Operand) (t t2 : TypeId) (ho : o.op = .call { callee := .builtin .append, args := #[s, x], argTypes := #[t, t2] }) (ht : P.underlying t = some (.slice e)) (ht2 : P.underlying t2 = some (.slice e2)) (base : Nat) (v : Value) (l : List α) (hs : a.eval s = v) (hown : Own enc sz e base w v l)
    (lo n c : Nat) (A : Option Addr) (y : List α) (hx : a.eval x = .slice A n c) (hy : Rd enc sz w lo A n y)
    (hbytes : (l.length + n) * bytes ≤ 140737488355328) (h63 : l.length + n ≤ maxLen) (hbase : base ≤ w.heap.size)
    (h : ∀ v' w', Own enc sz e base w' v' (l ++ y) → w.grownBy w' v.ownBlock → (v'.ownBlock = v.ownBlock ∨ v'.ownBlock = some w.heap.size) → wpList P ops Q rest (a.put o.dst v') w') : wpList P ops Q (o :: rest) a w := by
  obtain ⟨i, hi, hz0, hz1, hz2⟩ := info_parts hinf
  have hn := hy.len
  have main : ∃ v' w', (Builtin.append_ #[t, t] o.type #[v, .slice A n c]).run P w = .ok v' w' ∧ Own enc sz e base w' v' (l ++ y) ∧ w.grownBy w' v.ownBlock ∧ (v'.ownBlock = v.ownBlock ∨ v'.ownBlock = some w.heap.size) := by
    cases A with
    | none =>
      have hn0 : n = 0 := by
        cases n with
        | zero => rfl
        | succ k => obtain ⟨b, off, e, _⟩ := hy.2.2 (by omega); cases e
      subst hn0
      have hl0 : y = [] := List.length_eq_zero_iff.1 hn
      subst hl0
      obtain ⟨A1, c1, rfl⟩ := hown.shape
      exact ⟨_, w, run_append_none ht hi A1 l.length c1 c hown.capOf, by simpa using hown, World.grownBy.refl _ _, .inl rfl⟩
    | some ad =>
      have hnews : ∀ j u, (y.flatMap enc)[j]? = some u → w.cell? (ad.add j) = some u := by
        intro j u hu
        have hlen := flat_length hse y
        have hj : j < y.length * sz := by rw [← hlen]; exact (List.getElem?_eq_some_iff.1 hu).1
        have hpos : 0 < n := by
          rw [← hn]
          rcases Nat.eq_zero_or_pos y.length with h | h
          · rw [h] at hj; omega
          · exact h
        obtain ⟨b, off, e', _, hc⟩ := hy.2.2 hpos
        cases e'
        have e1 : (⟨b, off, none⟩ : Addr).add j = ⟨b, off + j, none⟩ := by unfold Addr.add; split <;> simp_all
        have hd : j / sz < y.length := (Nat.div_lt_iff_lt_mul h0).2 hj
        have hx : y[j / sz]? = some y[j / sz] := List.getElem?_eq_getElem hd
        have hm : j % sz < (enc y[j / sz]).length := by rw [hse]; exact Nat.mod_lt _ h0
        have hv : (enc y[j / sz])[j % sz]? = some ((enc y[j / sz])[j % sz]'hm) := List.getElem?_eq_getElem hm
        have hf := flat_at hse y _ _ hx _ _ hv
        have hjj : j / sz * sz + j % sz = j := by rw [Nat.mul_comm]; exact Nat.div_add_mod j sz
        rw [hjj, hu] at hf
        cases hf
        have := hc _ _ hx _ _ hv
        have e2 : off + j / sz * sz + j % sz = off + j := by omega
        rw [e2] at this
        rw [e1]
        exact this
      obtain ⟨v', w', hr, h2, h3, _, h5⟩ := run_append_own_at (P := P) w base t o.type e i z sz bytes ht hi hz0 hz1 hz2 hzs h0 v l.length (l.flatMap enc) hown ad n c (y.flatMap enc) (by rw [flat_length hse, hn]) hnews (fun u hu => by
        obtain ⟨q, _, hq⟩ := List.mem_flatMap.1 hu
        exact hone q u hq) h63 hbytes hbase
      refine ⟨v', w', hr, ?_, h3, h5⟩
      unfold Own
      rw [List.length_append, List.flatMap_append, hn]
      exact h2
  refine wpList_plain hgd fun K hK => ?_
  obtain ⟨v', w', hr, h2, h3, h5⟩ := main
  unfold Oper.wp execOp
  simp only [ho, resolve, invoke, builtin, Sem.run_bind, Sem.run_pure, Result.andThen_ok, List.map_toArray, List.map_cons, List.map_nil, hs, hx, run_append2 ht ht2, hr]
  exact hK _ _ (h v' w' h2 h3 h5)
theorem iv_one (x : Int) : ∀ u ∈ iv x, u.oneCell' = true := by simp [iv, Value.oneCell']
theorem Sl.one (x : Sl) : ∀ u ∈ x.vs, u.oneCell' = true := by simp [Sl.vs, Value.oneCell']
theorem Tb.one (x : Tb) : ∀ u ∈ x.vs, u.oneCell' = true := by simp [Tb.vs, Value.oneCell']
end Go.Proofs.Bg
end

section
/- Contracts: spread, only, in: the values of a row at the places of their columns. -/
namespace Go.Proofs.Bg
open Go.RowKit

/-- Block g holds values. -/
def H8 (w : World) (g : Nat) (v : V8) : Prop := w.heap[g]? = some (.cells #[.int .i64 v.a0, .int .i64 v.a1, .int .i64 v.a2, .int .i64 v.a3, .int .i64 v.a4, .int .i64 v.a5, .int .i64 v.a6, .int .i64 v.a7] 142)
theorem H8.cells {w : World} {g : Nat} {v : V8} (h : H8 w g v) : w.cell? ⟨g, 0, none⟩ = some (.int .i64 v.a0) ∧ w.cell? ⟨g, 1, none⟩ = some (.int .i64 v.a1) ∧ w.cell? ⟨g, 2, none⟩ = some (.int .i64 v.a2) ∧ w.cell? ⟨g, 3, none⟩ = some (.int .i64 v.a3) ∧ w.cell? ⟨g, 4, none⟩ = some (.int .i64 v.a4) ∧ w.cell? ⟨g, 5, none⟩ = some (.int .i64 v.a5) ∧ w.cell? ⟨g, 6, none⟩ = some (.int .i64 v.a6) ∧ w.cell? ⟨g, 7, none⟩ = some (.int .i64 v.a7) :=
  ⟨cell_at_block h rfl, cell_at_block h rfl, cell_at_block h rfl, cell_at_block h rfl, cell_at_block h rfl, cell_at_block h rfl, cell_at_block h rfl, cell_at_block h rfl⟩
theorem H8.free {w : World} {g : Nat} {v : V8} (h : H8 w g v) (o : Nat) : w.frozen? ⟨g, o, none⟩ = false := free_at_block h
theorem H8.at_ {w : World} {g : Nat} {v : V8} (h : H8 w g v) {c : Nat} (hc : c < 8) : w.cell? ⟨g, c, none⟩ = some (.int .i64 (v.get c)) := by
  have hcs : c = 0 ∨ c = 1 ∨ c = 2 ∨ c = 3 ∨ c = 4 ∨ c = 5 ∨ c = 6 ∨ c = 7 := by omega
  rcases hcs with rfl | rfl | rfl | rfl | rfl | rfl | rfl | rfl <;> exact cell_at_block h rfl
theorem H8.lt {w : World} {g : Nat} {v : V8} (h : H8 w g v) : g < w.heap.size := (Array.getElem?_eq_some_iff.1 h).1
theorem H8.set {w : World} {g : Nat} {v : V8} (h : H8 w g v) {c : Nat} (hc : c < 8) (x : Int) : H8 (w.setCell ⟨g, c, none⟩ (.int .i64 x)) g (v.set c x) ∧ w.grownBy (w.setCell ⟨g, c, none⟩ (.int .i64 x)) (some g) := by
  obtain ⟨h1, h2⟩ := setCell_at (off := c) h (.int .i64 x)
  refine ⟨?_, h2⟩
  have hcs : c = 0 ∨ c = 1 ∨ c = 2 ∨ c = 3 ∨ c = 4 ∨ c = 5 ∨ c = 6 ∨ c = 7 := by omega
  rcases hcs with rfl | rfl | rfl | rfl | rfl | rfl | rfl | rfl <;> exact h1
theorem H8.keep {w w' : World} {g : Nat} {v : V8} (h : H8 w g v) (hb : Below w.heap.size w w') : H8 w' g v := (hb.block g h.lt).trans h
theorem H8.grown {w w' : World} {g : Nat} {v : V8} {row : Option Nat} (h : H8 w g v) (hg : w.grownBy w' row) (hne : some g ≠ row) : H8 w' g v := (hg.block g h.lt hne).trans h
theorem H8.new (w : World) (v : V8) : H8 (w.alloc (.cells #[.int .i64 v.a0, .int .i64 v.a1, .int .i64 v.a2, .int .i64 v.a3, .int .i64 v.a4, .int .i64 v.a5, .int .i64 v.a6, .int .i64 v.a7] 142)) w.heap.size v := new_block _ _ _
theorem H8.zero (w : World) (g : Nat) (hg : g = w.heap.size) : H8 (w.alloc (.cells #[.int .i64 0, .int .i64 0, .int .i64 0, .int .i64 0, .int .i64 0, .int .i64 0, .int .i64 0, .int .i64 0] 142)) g V8.zero := by
  subst hg
  exact new_block _ _ _
theorem H8.alloc {w : World} {g : Nat} {v : V8} (h : H8 w g v) (o : Obj) : H8 (w.alloc o) g v := (Below.heap_alloc w o g h.lt).trans h
/-- All values stored. -/
def set8 (w : World) (g : Nat) (v : V8) : World := (((((((w.setCell ⟨g, 0, none⟩ (.int .i64 v.a0)).setCell ⟨g, 1, none⟩ (.int .i64 v.a1)).setCell ⟨g, 2, none⟩ (.int .i64 v.a2)).setCell ⟨g, 3, none⟩ (.int .i64 v.a3)).setCell ⟨g, 4, none⟩ (.int .i64 v.a4)).setCell ⟨g, 5, none⟩ (.int .i64 v.a5)).setCell ⟨g, 6, none⟩ (.int .i64 v.a6)).setCell ⟨g, 7, none⟩ (.int .i64 v.a7)
theorem H8.set' {w w0 : World} {g : Nat} {v : V8} (h : H8 w g v ∧ w0.grownBy w (some g)) (c : Nat) (hc : c < 8) (x : Int) : H8 (w.setCell ⟨g, c, none⟩ (.int .i64 x)) g (v.set c x) ∧ w0.grownBy (w.setCell ⟨g, c, none⟩ (.int .i64 x)) (some g) :=
  ⟨(h.1.set hc x).1, h.2.then_ (h.1.set hc x).2 (fun _ e => .inr e)⟩
theorem set_all (u v : V8) : (((((((u.set 0 v.a0).set 1 v.a1).set 2 v.a2).set 3 v.a3).set 4 v.a4).set 5 v.a5).set 6 v.a6).set 7 v.a7 = v := by
  cases u; cases v; rfl
theorem H8.put {w : World} {g : Nat} {u : V8} (h : H8 w g u) (v : V8) : H8 (set8 w g v) g v ∧ w.grownBy (set8 w g v) (some g) := by
  have h0 : H8 w g u ∧ w.grownBy w (some g) := ⟨h, World.grownBy.refl _ _⟩
  have h1 := H8.set' (H8.set' (H8.set' (H8.set' (H8.set' (H8.set' (H8.set' (H8.set' h0 0 (by decide) v.a0) 1 (by decide) v.a1) 2 (by decide) v.a2) 3 (by decide) v.a3) 4 (by decide) v.a4) 5 (by decide) v.a5) 6 (by decide) v.a6) 7 (by decide) v.a7
  rw [set_all u v] at h1
  unfold set8
  exact h1

theorem infoV8 : (Tryz.prog.info? 142).map (·.size) = some 8 := by kernel_rfl
theorem results8 {fn : Func} {p : Tmp} (h : fn.results = #[.cell p 142]) (tmps : Array Value) (w : World) (g : Nat) (v : V8) (hp : tmps.getD p undef = .pointer (some ⟨g, 0, none⟩)) (h8 : H8 w g v) : (results fn tmps).run Tryz.prog w = .ok v.v w :=
  results_cell_row h tmps w g _ _ _ _ hp h8 Tryz.underlying142 rfl infoV8

theorem overV_step {u : V8} {cols row : List Int} {k : Nat} {c x : Int} (hc : cols[k]? = some c) (hx : row[k]? = some x) : overV u (cols.drop k) (row.drop k) = overV (u.set c.toNat x) (cols.drop (k + 1)) (row.drop (k + 1)) := by
  rw [drop_at hc, drop_at hx, overV]

set_option maxRecDepth 100000 in
set_option maxHeartbeats 4000000 in
theorem spread_any (A B R : Option Addr) (n m q capA capB capR : Nat) (cols row : List Int) (w : World) (hA : Rd iv 1 w 0 A n cols) (hR : Rd iv 1 w 0 R q row) (hl : ∀ c ∈ cols, 0 ≤ c ∧ c < 8) (hq : n = q) :
    Calls Tryz.prog 108 #[.agg #[.slice A n capA, .slice B m capB], .slice R q capR] w fun e w' => e = .returned (spreadV cols row).v ∧ Below w.heap.size w w' := by
  subst hq
  have HA := Lib.hid hA
  have HR := Lib.hid hR
  have HL := Lib.hid hl
  have hle := hA.le
  clear hA hR hl
  go_enter Tryz.func108, Tryz.ntmps108
  go_wp2_with fail
  go_loopw [11] (fun i wr => ∃ k : Nat, ∃ u : V8, k ≤ n ∧ i = .int .i64 k ∧ spreadV cols row = overV u (cols.drop k) (row.drop k) ∧ H8 wr (w.heap.size + 1) V8.zero ∧ H8 wr (w.heap.size + 2) u ∧ Below w.heap.size w wr) (fun i _ => n - (intOf i).toNat)
  case atStart =>
    refine ⟨0, V8.zero, by omega, rfl, rfl, ?_, ?_, (((below_new w _).alloc (by simp) _).alloc (by simp; omega) _)⟩
    · exact (H8.zero _ _ (by simp)).alloc _
    · exact H8.zero _ _ (by simp)
  case round =>
    obtain ⟨k, u, hk, rfl, he, h1, h2, hB⟩ := hrel
    have HE := Lib.hid he
    have HB := Lib.hid hB
    have H1 := Lib.hid h1
    have H2 := Lib.hid h2
    clear he hB h1 h2
    by_cases hlt : k < n
    · obtain ⟨b1, o1, c, rfl, _, hc, c0⟩ := (HA.out.below HB.out).int_at hlt
      obtain ⟨b2, o2, x, rfl, _, hx, d0⟩ := (HR.out.below HB.out).int_at hlt
      have hm := HL.out c (List.mem_of_getElem? hc)
      have HS := Lib.hid (overV_step (u := u) hc hx)
      clear hc hx
      obtain ⟨j, rfl⟩ : ∃ j : Nat, c = (j : Int) := ⟨c.toNat, by omega⟩
      rw [Int.toNat_natCast] at HS
      have hj : j < 8 := by omega
      have hj0 : (0 : Int) ≤ j := by omega
      have hj8 : (j : Int) < 8 := by omega
      have e0 := H2.out.at_ hj
      have f0 := H2.out.free j
      have hi1 : (k : Int) < n := by omega
      clear hm
      go_wp2_with fail
      obtain ⟨q1, q2⟩ := H2.out.set hj x
      exact ⟨⟨k + 1, u.set j x, by omega, by go_num, by rw [HE.out, HS.out], H1.out.grown q2 (by simp), q1, below_row HB.out q2 (fun g e => by cases e; omega)⟩, by simp [intOf]; omega⟩
    · have hk' : k = n := by omega
      subst hk'
      have HF : Hid (spreadV cols row = u) := by
        show _ = _
        rw [HE.out, (List.drop_eq_nil_of_le (by rw [HA.out.len]; exact Nat.le_refl _) : cols.drop k = []), overV]
        intro _ _ _ _ h; cases h
      obtain ⟨e0, e1, e2, e3, e4, e5, e6, e7⟩ := H2.out.cells
      obtain ⟨z0, z1, z2, z3, z4, z5, z6, z7⟩ := H1.out.cells
      have fz := H1.out.free
      have ff := H2.out.free
      clear hlt
      go_wp2_with fail
      obtain ⟨q1, q2⟩ := H1.out.put u
      have HQ := Lib.hid (below_row HB.out q2 (fun g e => by cases e; omega))
      change bodyPost _ _ _ _ _ (set8 wr (w.heap.size + 1) u)
      clear e0 e1 e2 e3 e4 e5 e6 e7 z0 z1 z2 z3 z4 z5 z6 z7 fz ff q2
      generalize set8 wr (w.heap.size + 1) u = W at q1 HQ ⊢
      refine bodyPost_ret (results8 rfl _ _ (w.heap.size + 1) u rfl q1) rfl ?_
      rw [HF.out]
      exact ⟨rfl, HQ.out⟩

/-- The columns of v ahead of k that are in x. -/
def onlyTo (v : V8) (x : Nat) : Nat → V8
  | 0 => v
  | k + 1 => if x.testBit k then onlyTo v x k else (onlyTo v x k).set k 0
theorem onlyTo_8 (v : V8) (x : Nat) : onlyTo v x 8 = onlyV v x := by
  have h : ∀ n, n ≤ 8 → ∀ i, (onlyTo v x n).get i = if i < n ∧ x.testBit i = false then 0 else v.get i := by
    intro n
    induction n with
    | zero => intro _ i; simp [onlyTo]
    | succ n ih =>
      intro hn i
      rw [onlyTo]
      split
      · rename_i hb
        rw [ih (by omega)]
        by_cases hi : i = n
        · subst hi; simp [hb]
        · by_cases h1 : i < n
          · have : i < n + 1 := by omega
            simp [h1, this]
          · have : ¬ i < n + 1 := by omega
            simp [h1, this]
      · rename_i hb
        rw [V8.get_set (by omega), ih (by omega)]
        by_cases hi : i = n
        · subst hi
          have : x.testBit i = false := by simpa using hb
          simp [this]
        · rw [if_neg hi]
          by_cases h1 : i < n
          · have : i < n + 1 := by omega
            simp [h1, this]
          · have : ¬ i < n + 1 := by omega
            simp [h1, this]
  apply V8.ext
  intro i hi
  rw [h 8 (by omega), onlyV_get _ _ _ hi]
  cases x.testBit i <;> simp [hi]

set_option maxRecDepth 100000 in
set_option maxHeartbeats 4000000 in
theorem only_any (v : V8) (x : Nat) (w : World) (hx : x < 256) :
    Calls Tryz.prog 116 #[.agg #[.int .i64 v.a0, .int .i64 v.a1, .int .i64 v.a2, .int .i64 v.a3, .int .i64 v.a4, .int .i64 v.a5, .int .i64 v.a6, .int .i64 v.a7], .int .i64 x] w fun e w' => e = .returned (onlyV v x).v ∧ Below w.heap.size w w' := by
  have HX := Lib.hid hx
  clear hx
  go_enter Tryz.func116, Tryz.ntmps116
  go_wp2_with fail
  go_loopw [6] (fun i wr => ∃ k : Nat, k ≤ 8 ∧ i = .int .i64 k ∧ H8 wr (w.heap.size + 1) V8.zero ∧ H8 wr w.heap.size (onlyTo v x k) ∧ Below w.heap.size w wr) (fun i _ => 8 - (intOf i).toNat)
  case atStart =>
    refine ⟨0, by omega, rfl, H8.zero _ _ (by simp), ?_, ((below_new w _).alloc (by simp) _)⟩
    exact (H8.new w v).alloc _
  case round =>
    obtain ⟨k, hk, rfl, h1, h2, hB⟩ := hrel
    have HB := Lib.hid hB
    have H1 := Lib.hid h1
    have H2 := Lib.hid h2
    clear hB h1 h2
    by_cases hlt : k < 8
    · have hs := shr_nat x k
      have hb := band_one (x := x) (c := k) (Nat.lt_trans HX.out (by decide))
      have h0 : (0 : Int) ≤ k := by omega
      have h64 : (k : Int) ≤ 64 := by omega
      have h8 : decide ((k : Int) < 8) = true := by rw [decide_eq_true_eq]; omega
      have h8' : decide (k < 8) = true := by rw [decide_eq_true_eq]; omega
      have HT : Hid (onlyTo v x (k + 1) = if x.testBit k then onlyTo v x k else (onlyTo v x k).set k 0) := rfl
      generalize x >>> k = y at *
      cases ht : x.testBit k with
      | true =>
        rw [ht] at hb HT
        clear ht
        simp only [if_true] at hb HT
        go_wp2_with fail
        exact ⟨⟨k + 1, by omega, by go_num, H1.out, by rw [HT.out]; exact H2.out, HB.out⟩, by simp [intOf]; omega⟩
      | false =>
        rw [ht] at hb HT
        clear ht
        simp only [Bool.false_eq_true, if_false] at hb HT
        have e0 := H2.out.at_ hlt
        have f0 := H2.out.free k
        have hi8 : (k : Int) < 8 := by omega
        go_wp2_with fail
        obtain ⟨q1, q2⟩ := H2.out.set hlt 0
        exact ⟨⟨k + 1, by omega, by go_num, H1.out.grown q2 (by simp), by rw [HT.out]; exact q1, below_row HB.out q2 (fun g e => by cases e; omega)⟩, by simp [intOf]; omega⟩
    · have hk' : k = 8 := by omega
      subst hk'
      have HF := Lib.hid (onlyTo_8 v x)
      obtain ⟨e0, e1, e2, e3, e4, e5, e6, e7⟩ := H2.out.cells
      obtain ⟨z0, z1, z2, z3, z4, z5, z6, z7⟩ := H1.out.cells
      have fz := H1.out.free
      have ff := H2.out.free
      rw [HF.out] at H2
      clear hlt
      rw [HF.out] at e0 e1 e2 e3 e4 e5 e6 e7
      generalize hu : onlyV v x = u at *
      have HU := Lib.hid hu
      clear hu
      go_wp2_with fail
      obtain ⟨q1, q2⟩ := H1.out.put u
      have HQ := Lib.hid (below_row HB.out q2 (fun g e => by cases e; omega))
      change bodyPost _ _ _ _ _ (set8 wr (w.heap.size + 1) u)
      clear e0 e1 e2 e3 e4 e5 e6 e7 z0 z1 z2 z3 z4 z5 z6 z7 fz ff q2
      generalize set8 wr (w.heap.size + 1) u = W at q1 HQ ⊢
      refine bodyPost_ret (results8 rfl _ _ (w.heap.size + 1) u rfl q1) rfl ?_
      rw [HU.out]
      exact ⟨rfl, HQ.out⟩
end Go.Proofs.Bg
end

section
/- Contracts: the values of some columns as a row; a formed table; given tables. -/
namespace Go.Proofs.Bg
open Go.RowKit

set_option maxRecDepth 100000 in
set_option maxHeartbeats 4000000 in
theorem in_any (v : V8) (A : Option Addr) (n cap : Nat) (cols : List Int) (w : World) (hA : Rd iv 1 w 0 A n cols) (hl : ∀ c ∈ cols, 0 ≤ c ∧ c < 8) (hn : n ≤ 1000) :
    Calls Tryz.prog 109 #[.agg #[.int .i64 v.a0, .int .i64 v.a1, .int .i64 v.a2, .int .i64 v.a3, .int .i64 v.a4, .int .i64 v.a5, .int .i64 v.a6, .int .i64 v.a7], .slice A n cap] w fun e w' => ∃ v', e = .returned v' ∧ Own iv 1 3 w.heap.size w' v' (inV v cols) ∧ Below w.heap.size w w' := by
  obtain ⟨i0, hi, hz0, hz1, hz2⟩ := info_parts infoInt
  have HA := Lib.hid hA
  have HL := Lib.hid hl
  have HLEN := Lib.hid hA.len
  clear hA hl
  have hb1 := below_new w (.cells #[.int .i64 v.a0, .int .i64 v.a1, .int .i64 v.a2, .int .i64 v.a3, .int .i64 v.a4, .int .i64 v.a5, .int .i64 v.a6, .int .i64 v.a7] 142)
  have h81 := H8.new w v
  have HB1 := Lib.hid hb1
  have H81 := Lib.hid h81
  clear hb1 h81
  go_enter Tryz.func109, Tryz.ntmps109
  go_wp2_with (at_make; refine wpList_make_own _ rfl _ _ _ rfl (w.heap.size + 1) 3 i0 _ 1 Tryz.underlying32 hi hz0 hz1 .i64 .i64 _ n rfl rfl rfl (by rw [hz2]; omega) (by unfold maxLen; omega) (by simp) ?_; intro w1 hown1 hg1)
  have hsz0 : (w.alloc (.cells #[.int .i64 v.a0, .int .i64 v.a1, .int .i64 v.a2, .int .i64 v.a3, .int .i64 v.a4, .int .i64 v.a5, .int .i64 v.a6, .int .i64 v.a7] 142)).heap.size = w.heap.size + 1 := by simp
  rw [hsz0] at hown1
  have hO1 : Own iv 1 3 (w.heap.size + 1) w1 (.slice (some ⟨w.heap.size + 1, 0, none⟩) 0 n) [] := hown1
  have hB2 : Below w.heap.size w w1 := below_row HB1.out hg1 (fun g e => by cases e)
  have h82 : H8 w1 w.heap.size v := H81.out.grown hg1 (by simp)
  have hw0 : w.heap.size + 1 ≤ w1.heap.size := by have := hg1.size; simpa using this
  clear hown1 hg1 HB1 H81 hsz0
  go_loopw [5, 13] (fun v' i wr => ∃ k : Nat, k ≤ n ∧ i = .int .i64 k ∧ Own iv 1 3 (w.heap.size + 1) wr v' (inV v (cols.take k)) ∧ H8 wr w.heap.size v ∧ Below w.heap.size w wr) (fun _ i _ => n - (intOf i).toNat)
  case atStart => exact ⟨0, by omega, rfl, hO1, h82, hB2⟩
  case round =>
    clear hO1 h82 hB2 hw0
    obtain ⟨k, hk, rfl, hown, h8, hB⟩ := hrel
    obtain ⟨A', cap', rfl⟩ := hown.shape
    have HO := Lib.hid hown
    have HB := Lib.hid hB
    have H8r := Lib.hid h8
    have hlen : (inV v (cols.take k)).length ≤ 1000 := by
      simp only [inV, List.length_map, List.length_take]; omega
    clear hown hB h8
    by_cases hlt : k < n
    · obtain ⟨b1, o1, c, rfl, _, hc, c0⟩ := (HA.out.below HB.out).int_at hlt
      have hm := HL.out c (List.mem_of_getElem? hc)
      obtain ⟨j, rfl⟩ : ∃ j : Nat, c = (j : Int) := ⟨c.toNat, by omega⟩
      have HT : Hid (inV v (cols.take (k + 1)) = inV v (cols.take k) ++ [v.get j]) := by
        show _ = _
        rw [List.take_add_one, hc]
        simp [inV]
      have hj : j < 8 := by omega
      have hj0 : (0 : Int) ≤ j := by omega
      have hj8 : (j : Int) < 8 := by omega
      have e0 := H8r.out.at_ hj
      have hi1 : (k : Int) < n := by omega
      clear hm hc
      generalize inV v (cols.take k) = l at *
      go_wp2_with (at_builtin; go_loud (refine wpList_app1 iv 1 3 _ 8 infoInt rfl (by decide) rfl _ _ _ rfl Tryz.underlying32 (w.heap.size + 1) _ l rfl (HO.out.alloc _) (v.get j) _ _ rfl rfl (newAt _ _ _ _ (by simp)) (by simp [iv, Value.oneCell']) (by omega) (by unfold maxLen; omega) (by have := H8r.out.lt; simp; omega) (fun v4 w4 hown4 hg4 _ => ?_)))
      exact ⟨⟨k + 1, by omega, by go_num, by rw [HT.out]; exact hown4, (H8r.out.alloc _).grown hg4 (fun e => by have := (HO.out.blk _ e.symm).1; omega), below_row (HB.out.alloc HB.out.size _) hg4 (fun g e => by have := (HO.out.blk _ e).1; omega)⟩, by simp [intOf]; omega⟩
    · have hk' : k = n := by omega
      subst hk'
      have HR : Hid (inV v (cols.take k) = inV v cols) := by show _ = _; rw [List.take_of_length_le (by rw [HLEN.out]; exact Nat.le_refl _)]
      clear hlt
      go_wp2_with fail
      go_ret
      refine ⟨_, rfl, ?_, HB.out⟩
      have := HO.out
      rw [HR.out] at this
      rw [HR.out]
      exact World.ownsRow.mono this (by omega)
end Go.Proofs.Bg
end

section
/- Contracts: a formed table. -/
namespace Go.Proofs.Bg
open Go.RowKit

def prevR (l : List (List Int)) (k : Nat) : Option (List Int) := if k = 0 then none else some (l.getD (k - 1) [])
theorem prevR_succ {l : List (List Int)} {k : Nat} {x : List Int} (h : l[k]? = some x) : prevR l (k + 1) = some x := by
  simp [prevR, h]
theorem valsB_drop {l : List Int} {k : Nat} {x : Int} (h : l[k]? = some x) : valsB (l.drop k) = (rangeB x && valsB (l.drop (k + 1))) := by
  rw [drop_at h]; rfl

/-- What the loop of formed holds. -/
def FRel (T : PT) (k : Nat) (w : World) (g : Nat) (t : Tb) (wr : World) : Prop :=
  formedB T = rowsB T.cols.length (prevR T.rows k) (T.rows.drop k) ∧ wr.cell? ⟨g, 0, none⟩ = some (.slice t.cols.A t.cols.n t.cols.cap) ∧ wr.cell? ⟨g, 1, none⟩ = some (.slice t.rows.A t.rows.n t.rows.cap) ∧ Below w.heap.size w wr

set_option maxRecDepth 100000 in
set_option maxHeartbeats 8000000 in
theorem formed_raw (cA rA : Option Addr) (cn rn ck rk : Nat) (T : PT) (w : World) (h : Rd iv 1 w 0 cA cn T.cols ∧ RowsAt w 0 ⟨rA, rn, rk⟩ T.rows) :
    Calls Tryz.prog 103 #[.agg #[.slice cA cn ck, .slice rA rn rk]] w fun e w' => e = .returned (.bool (formedB T)) ∧ Below w.heap.size w w' := by
  have hb1 := below_new w (.cells #[.slice cA cn ck, .slice rA rn rk] 40)
  have Q1 := Lib.hid (setIn_any cA cn ck 8 T.cols _ (Rd.below h.1 hb1))
  have hn1 : new_block w #[.slice cA cn ck, .slice rA rn rk] 40 = new_block w #[.slice cA cn ck, .slice rA rn rk] 40 := rfl
  have HN := Lib.hid (new_block w #[.slice cA cn ck, .slice rA rn rk] 40)
  have HB1 := Lib.hid hb1
  have HT := Lib.hid h
  have HC : Hid (T.cols.length = cn) := h.1.len
  have HRL : Hid (T.rows.length = rn) := h.2.len
  have hle : rn ≤ 9223372036854775807 := h.2.le
  have hle2 : cn ≤ 9223372036854775807 := Rd.le h.1
  clear hb1 hn1 h
  cases hs : setB T.cols 8 with
  | false =>
    have HR : Hid (formedB T = false) := by show _ = _; simp [formedB, hs]
    rw [hs] at Q1
    clear hs
    go_enter Tryz.func103, Tryz.ntmps103
    go_wp2_with (go_at_call 91; (with_reducible refine Q1.out.mono ?_); rintro e w' ⟨rfl, rfl⟩)
    go_ret
    exact ⟨ret_bool HR.out.symm, HB1.out⟩
  | true =>
    have hcn : cn ≤ 8 := by rw [← HC.out]; exact setB_length hs
    by_cases h500 : rn ≤ 500
    · have HF : Hid (formedB T = rowsB T.cols.length none T.rows) := by show _ = _; simp [formedB, hs, HRL.out, h500]
      have d5 : decide ((500 : Int) < (rn : Int)) = false := by rw [decide_eq_false_iff_not]; omega
      have d5' : decide (500 < rn) = false := by rw [decide_eq_false_iff_not]; omega
      rw [hs] at Q1
      clear hs
      go_enter Tryz.func103, Tryz.ntmps103
      go_wp2_with (go_at_call 91; (with_reducible refine Q1.out.mono ?_); rintro e w' ⟨rfl, rfl⟩)
      clear d5 d5' Q1
      go_loopw [20] (fun i wr => ∃ k : Nat, k ≤ rn ∧ i = .int .i64 k ∧ FRel T k w w.heap.size ⟨⟨cA, cn, ck⟩, ⟨rA, rn, rk⟩⟩ wr) (fun i _ => rn - (intOf i).toNat)
      case atStart => exact ⟨0, by omega, rfl, by rw [HF.out]; rfl, cell_at_block HN.out rfl, cell_at_block HN.out rfl, HB1.out⟩
      case round =>
        obtain ⟨k, hk, rfl, he, cc, cr, hB⟩ := hrel
        simp only [] at cc cr
        have HE := Lib.hid he
        have HB := Lib.hid hB
        clear he hB HN
        by_cases hlt : k < rn
        · obtain ⟨b1, o1, s, r, hb, _, hr, c0, hR⟩ := (HT.out.2.below HB.out).at_ hlt
          simp only [] at hb
          subst hb
          have HX := Lib.hid (drop_at hr)
          have HPS := Lib.hid (prevR_succ hr)
          rw [HX.out, rowsB] at HE
          have HRL2 := Lib.hid hR.len
          have hsle : s.n ≤ 9223372036854775807 := Rd.le hR
          have HRR := Lib.hid hR
          have hi1 : (k : Int) < rn := by omega
          clear hr hR
          by_cases hlen : s.n = cn
          · have dl : ((s.n : Int) != (cn : Int)) = false := by simp [hlen]
            have el : decide (r.length = T.cols.length) = true := by rw [decide_eq_true_eq, HRL2.out, HC.out, hlen]
            rw [el, Bool.true_and] at HE
            clear el hlen
            have hpv : k = 0 ∨ ∃ j p s2, k = j + 1 ∧ prevR T.rows k = some p ∧ wr.cell? ⟨b1, o1 + j, none⟩ = some (.slice s2.A s2.n s2.cap) ∧ IntsAt wr 0 s2 p := by
              rcases Nat.eq_zero_or_pos k with h0 | h0
              · exact .inl h0
              · obtain ⟨j, rfl⟩ : ∃ j, k = j + 1 := ⟨k - 1, by omega⟩
                obtain ⟨b2, o2, s2, p, hb2, _, hp, d0, hP⟩ := (HT.out.2.below HB.out).at_ (k := j) (by show j < rn; omega)
                cases hb2
                exact .inr ⟨j, p, s2, rfl, prevR_succ hp, d0, hP⟩
            have hGO : (afterB (prevR T.rows k) r = false) ∨ (afterB (prevR T.rows k) r = true) := by cases afterB (prevR T.rows k) r <;> simp
            rcases hpv with hk0 | ⟨j, p, s2, rfl, hp, d0, hP⟩
            · have HK := Lib.hid hk0
              have el : afterB (prevR T.rows k) r = true := by rw [hk0]; rfl
              rw [el, Bool.true_and] at HE
              have hg : decide ((0 : Int) < (k : Int)) = false := by rw [decide_eq_false_iff_not]; omega
              have hg' : decide (0 < k) = false := by rw [decide_eq_false_iff_not]; omega
              clear el hk0 hGO
              obtain ⟨wo, rfl⟩ : ∃ x, x = wr := ⟨_, rfl⟩
              go_wp2_with fail
              go_loopw [48] (fun i wr => ∃ k2 : Nat, k2 ≤ s.n ∧ i = .int .i64 k2 ∧ valsB r = valsB (r.drop k2) ∧ wr = wo) (fun i _ => s.n - (intOf i).toNat)
              case atStart => exact ⟨0, by omega, rfl, rfl, rfl⟩
              case round =>
                obtain ⟨k2, hk2, rfl, hv, rfl⟩ := hrel
                have HV := Lib.hid hv
                clear hv
                by_cases hlt2 : k2 < s.n
                · obtain ⟨b3, o3, x, hb3, _, hx, x0⟩ := HRR.out.at_ hlt2
                  have hVD := valsB_drop hx
                  rw [hVD] at HV
                  rw [hb3]
                  clear hVD hx hb3
                  have hi2 : (k2 : Int) < s.n := by omega
                  by_cases h1 : x < -1000000000
                  · have dx : decide (x < -1000000000) = true := by simpa using h1
                    have HR : Hid (formedB T = false) := by
                      show _ = _
                      have : rangeB x = false := by simp [rangeB]; omega
                      rw [HE.out, HV.out, this, Bool.false_and, Bool.false_and]
                    clear h1
                    go_wp2_with fail
                    go_ret
                    exact ⟨ret_bool HR.out.symm, HB.out⟩
                  · have dx : decide (x < -1000000000) = false := by simpa using h1
                    by_cases h2 : 1000000000 < x
                    · have dy : decide (1000000000 < x) = true := by simpa using h2
                      have HR : Hid (formedB T = false) := by
                        show _ = _
                        have : rangeB x = false := by simp [rangeB]; omega
                        rw [HE.out, HV.out, this, Bool.false_and, Bool.false_and]
                      clear h1 h2
                      go_wp2_with fail
                      go_ret
                      exact ⟨ret_bool HR.out.symm, HB.out⟩
                    · have dy : decide (1000000000 < x) = false := by simpa using h2
                      have HR : Hid (valsB r = valsB (r.drop (k2 + 1))) := by
                        show _ = _
                        have : rangeB x = true := by simp [rangeB]; omega
                        rw [HV.out, this, Bool.true_and]
                      clear h1 h2
                      go_wp2_with fail
                      exact ⟨⟨k2 + 1, by omega, by go_num, HR.out, by first | rfl | trivial⟩, by simp [intOf]; omega⟩
                · have hk' : k2 = s.n := by omega
                  have HR : Hid (formedB T = rowsB T.cols.length (prevR T.rows (k + 1)) (T.rows.drop (k + 1))) := by
                    show _ = _
                    rw [HE.out, HV.out, (List.drop_eq_nil_of_le (by rw [HRL2.out]; omega) : r.drop k2 = []), HPS.out]
                    rfl
                  have d1 : decide ((k2 : Int) < (s.n : Int)) = false := by rw [decide_eq_false_iff_not]; omega
                  have d2 : decide (k2 < s.n) = false := by rw [decide_eq_false_iff_not]; omega
                  clear hlt2 hk'
                  go_wp2_with fail
                  exact ⟨⟨k + 1, by omega, by go_num, HR.out, cc, cr, HB.out⟩, by simp [intOf]; omega⟩
            · have Q2 := Lib.hid (Compare_any s2.A s.A s2.n s.n s2.cap s.cap p r wr hP HRR.out)
              have ea : afterB (prevR T.rows (j + 1)) r = decide (lexC p r < 0) := by rw [hp]; rfl
              rw [ea] at hGO HE
              have hw : IntKind.i64.wrap ((j : Int) + 1 - 1) = (j : Int) := by rw [Int.add_sub_cancel]; exact IntWalk.i64_in _ (by omega)
              have hg : decide ((0 : Int) < (j : Int) + 1) = true := by rw [decide_eq_true_eq]; omega
              clear ea hP hp
              rcases hGO with hgo | hgo
              · have HR : Hid (formedB T = false) := by show _ = _; rw [HE.out, hgo, Bool.false_and, Bool.false_and]
                have hd : decide (0 ≤ lexC p r) = true := by
                  rw [decide_eq_false_iff_not] at hgo
                  rw [decide_eq_true_eq]; omega
                generalize lexC p r = z at *
                clear hgo HE
                go_wp2_with (go_at_call 140; (with_reducible refine Q2.out.mono ?_); rintro e w' ⟨rfl, rfl⟩)
                go_ret
                exact ⟨ret_bool HR.out.symm, HB.out⟩
              · rw [hgo, Bool.true_and] at HE
                have hd : decide (0 ≤ lexC p r) = false := by
                  rw [decide_eq_true_eq] at hgo
                  rw [decide_eq_false_iff_not]; omega
                generalize lexC p r = z at *
                clear hgo
                obtain ⟨wo, rfl⟩ : ∃ x, x = wr := ⟨_, rfl⟩
                go_wp2_with (go_at_call 140; (with_reducible refine Q2.out.mono ?_); rintro e w' ⟨rfl, hw'⟩; obtain rfl := hw'.symm)
                clear Q2 hd
                go_loopw [48] (fun i wr => ∃ k2 : Nat, k2 ≤ s.n ∧ i = .int .i64 k2 ∧ valsB r = valsB (r.drop k2) ∧ wr = wo) (fun i _ => s.n - (intOf i).toNat)
                case atStart => exact ⟨0, by omega, rfl, rfl, rfl⟩
                case round =>
                  obtain ⟨k2, hk2, rfl, hv, rfl⟩ := hrel
                  have HV := Lib.hid hv
                  clear hv
                  by_cases hlt2 : k2 < s.n
                  · obtain ⟨b3, o3, x, hb3, _, hx, x0⟩ := HRR.out.at_ hlt2
                    have hVD := valsB_drop hx
                    rw [hVD] at HV
                    rw [hb3]
                    clear hVD hx hb3
                    have hi2 : (k2 : Int) < s.n := by omega
                    by_cases h1 : x < -1000000000
                    · have dx : decide (x < -1000000000) = true := by simpa using h1
                      have HR : Hid (formedB T = false) := by
                        show _ = _
                        have : rangeB x = false := by simp [rangeB]; omega
                        rw [HE.out, HV.out, this, Bool.false_and, Bool.false_and]
                      clear h1
                      go_wp2_with fail
                      go_ret
                      exact ⟨ret_bool HR.out.symm, HB.out⟩
                    · have dx : decide (x < -1000000000) = false := by simpa using h1
                      by_cases h2 : 1000000000 < x
                      · have dy : decide (1000000000 < x) = true := by simpa using h2
                        have HR : Hid (formedB T = false) := by
                          show _ = _
                          have : rangeB x = false := by simp [rangeB]; omega
                          rw [HE.out, HV.out, this, Bool.false_and, Bool.false_and]
                        clear h1 h2
                        go_wp2_with fail
                        go_ret
                        exact ⟨ret_bool HR.out.symm, HB.out⟩
                      · have dy : decide (1000000000 < x) = false := by simpa using h2
                        have HR : Hid (valsB r = valsB (r.drop (k2 + 1))) := by
                          show _ = _
                          have : rangeB x = true := by simp [rangeB]; omega
                          rw [HV.out, this, Bool.true_and]
                        clear h1 h2
                        go_wp2_with fail
                        exact ⟨⟨k2 + 1, by omega, by go_num, HR.out, by first | rfl | trivial⟩, by simp [intOf]; omega⟩
                  · have hk' : k2 = s.n := by omega
                    have HR : Hid (formedB T = rowsB T.cols.length (prevR T.rows (j + 1 + 1)) (T.rows.drop (j + 1 + 1))) := by
                      show _ = _
                      rw [HE.out, HV.out, (List.drop_eq_nil_of_le (by rw [HRL2.out]; omega) : r.drop k2 = []), HPS.out]
                      rfl
                    have d1 : decide ((k2 : Int) < (s.n : Int)) = false := by rw [decide_eq_false_iff_not]; omega
                    have d2 : decide (k2 < s.n) = false := by rw [decide_eq_false_iff_not]; omega
                    clear hlt2 hk'
                    go_wp2_with fail
                    exact ⟨⟨j + 1 + 1, by omega, by go_num, HR.out, cc, cr, HB.out⟩, by simp [intOf]; omega⟩
          · have dl : ((s.n : Int) != (cn : Int)) = true := by simp; omega
            have HR : Hid (formedB T = false) := by
              show _ = _
              have el : decide (r.length = T.cols.length) = false := by rw [decide_eq_false_iff_not, HRL2.out, HC.out]; exact hlen
              rw [HE.out, el, Bool.false_and, Bool.false_and, Bool.false_and]
            clear hlen
            go_wp2_with fail
            go_ret
            exact ⟨ret_bool HR.out.symm, HB.out⟩
        · have hk' : k = rn := by omega
          have HR : Hid (formedB T = true) := by
            show _ = _
            rw [HE.out, (List.drop_eq_nil_of_le (by rw [HRL.out]; omega) : T.rows.drop k = []), rowsB]
          have d1 : decide ((k : Int) < (rn : Int)) = false := by rw [decide_eq_false_iff_not]; omega
          have d2 : decide (k < rn) = false := by rw [decide_eq_false_iff_not]; omega
          clear hlt hk'
          go_wp2_with fail
          go_ret
          exact ⟨ret_bool HR.out.symm, HB.out⟩
    · have HR : Hid (formedB T = false) := by show _ = _; simp [formedB, HRL.out, h500]
      have d5 : decide ((500 : Int) < (rn : Int)) = true := by rw [decide_eq_true_eq]; omega
      have d5' : decide (500 < rn) = true := by rw [decide_eq_true_eq]; omega
      rw [hs] at Q1
      clear hs h500
      go_enter Tryz.func103, Tryz.ntmps103
      go_wp2_with (go_at_call 91; (with_reducible refine Q1.out.mono ?_); rintro e w' ⟨rfl, rfl⟩)
      go_ret
      exact ⟨ret_bool HR.out.symm, HB1.out⟩

theorem formed_any (t : Tb) (T : PT) (w : World) (h : TabAt w 0 t T) :
    Calls Tryz.prog 103 #[.agg #[.slice t.cols.A t.cols.n t.cols.cap, .slice t.rows.A t.rows.n t.rows.cap]] w fun e w' => e = .returned (.bool (formedB T)) ∧ Below w.heap.size w w' :=
  formed_raw _ _ _ _ _ _ T w h
end Go.Proofs.Bg
end

section
/- Contract: given tables. -/
namespace Go.Proofs.Bg
open Go.RowKit

def givenT (T : PT) : Bool := formedB T && decide (T.rows.length ≤ 16)
def errArg (b : Bool) : Int := if b then 0 else 2

set_option maxRecDepth 100000 in
set_option maxHeartbeats 8000000 in
theorem Check_any (A : Option Addr) (n cap : Nat) (l : List PT) (w : World) (h : TabsAt w 0 A n l) :
    Calls Tryz.prog 33 #[.slice A n cap] w fun e w' => e = .returned (.int .i64 (errArg (givenB l))) ∧ Below w.heap.size w w' := by
  have HA := Lib.hid h
  have HL := Lib.hid h.len
  have hle := h.le
  clear h
  by_cases h0 : n = 0
  · subst h0
    have HR : Hid (errArg (givenB l) = 2) := by show _ = _; simp [givenB, HL.out, errArg]
    go_enter Tryz.func33, Tryz.ntmps33
    go_wp2_with fail
    go_ret
    rw [HR.out]
    exact ⟨rfl, Below.refl _ _⟩
  · have d0 : ((n : Int) == 0) = false := by simpa using h0
    have d0' : (n == 0) = false := by simpa using h0
    by_cases h5 : n ≤ 5
    · have d5 : decide ((5 : Int) < (n : Int)) = false := by rw [decide_eq_false_iff_not]; omega
      have d5' : decide (5 < n) = false := by rw [decide_eq_false_iff_not]; omega
      have HG : Hid (givenB l = (l.drop 0).all givenT) := by
        show _ = _
        have e1 : decide (0 < l.length) = true := by rw [decide_eq_true_eq, HL.out]; omega
        have e2 : decide (l.length ≤ 5) = true := by rw [decide_eq_true_eq, HL.out]; omega
        rw [givenB, e1, e2]
        rfl
      clear h0
      go_enter Tryz.func33, Tryz.ntmps33
      go_wp2_with fail
      clear d0 d0' d5 d5'
      go_loopw [15] (fun i wr => ∃ k : Nat, k ≤ n ∧ i = .int .i64 k ∧ givenB l = (l.drop k).all givenT ∧ Below w.heap.size w wr) (fun i _ => n - (intOf i).toNat)
      case atStart => exact ⟨0, by omega, rfl, HG.out, Below.refl _ _⟩
      case round =>
        obtain ⟨k, hk, rfl, he, hB⟩ := hrel
        have HE := Lib.hid he
        have HB := Lib.hid hB
        clear he hB HG
        by_cases hlt : k < n
        · obtain ⟨b1, o1, t, T, rfl, _, hT, c0, c1, hTT⟩ := (HA.out.below HB.out).at_ hlt
          have HX := Lib.hid (drop_at hT)
          have HTT := Lib.hid hTT
          have HTR : Hid (T.rows.length = t.rows.n) := hTT.2.len
          have hrle : t.rows.n ≤ 9223372036854775807 := hTT.2.le
          have hi1 : (k : Int) < n := by omega
          rw [HX.out, List.all_cons] at HE
          have hb2 := below_new wr (.cells #[.slice t.cols.A t.cols.n t.cols.cap, .slice t.rows.A t.rows.n t.rows.cap] 40)
          have HB2 := Lib.hid (bchain HB.out hb2)
          have Q := Lib.hid (formed_any t T _ (hTT.below hb2))
          have HN := Lib.hid (new_block wr #[.slice t.cols.A t.cols.n t.cols.cap, .slice t.rows.A t.rows.n t.rows.cap] 40)
          clear hT hTT hb2
          cases hf : formedB T with
          | false =>
            have HR : Hid (givenB l = false) := by show _ = _; rw [HE.out, givenT, hf, Bool.false_and, Bool.false_and]
            rw [hf] at Q
            clear hf HE
            go_wp2_with (go_at_call 103; (with_reducible refine Q.out.mono ?_); rintro e w' ⟨rfl, hb3⟩; have HB3 := Lib.hid hb3; clear hb3)
            go_ret
            rw [HR.out]
            exact ⟨rfl, bchain HB2.out HB3.out⟩
          | true =>
            rw [hf] at Q
            by_cases h16 : t.rows.n ≤ 16
            · have HR : Hid (givenB l = (l.drop (k + 1)).all givenT) := by
                show _ = _
                have e1 : decide (T.rows.length ≤ 16) = true := by rw [decide_eq_true_eq, HTR.out]; exact h16
                rw [HE.out, givenT, hf, e1]
                rfl
              have d6 : decide ((16 : Int) < (t.rows.n : Int)) = false := by rw [decide_eq_false_iff_not]; omega
              have d6' : decide (16 < t.rows.n) = false := by rw [decide_eq_false_iff_not]; omega
              clear hf HE h16
              go_wp2_with (go_at_call 103; (with_reducible refine Q.out.mono ?_); rintro e w' ⟨rfl, hb3⟩; have n0 := cell_at_block (off := 0) ((hb3.block _ (by simp)).trans HN.out) rfl; have n1 := cell_at_block (off := 1) ((hb3.block _ (by simp)).trans HN.out) rfl; have HB3 := Lib.hid hb3; clear hb3)
              exact ⟨⟨k + 1, by omega, by go_num, HR.out, bchain HB2.out HB3.out⟩, by simp [intOf]; omega⟩
            · have HR : Hid (givenB l = false) := by
                show _ = _
                have e1 : decide (T.rows.length ≤ 16) = false := by rw [decide_eq_false_iff_not, HTR.out]; exact h16
                rw [HE.out, givenT, e1, Bool.and_false, Bool.false_and]
              have d6 : decide ((16 : Int) < (t.rows.n : Int)) = true := by rw [decide_eq_true_eq]; omega
              have d6' : decide (16 < t.rows.n) = true := by rw [decide_eq_true_eq]; omega
              clear hf HE h16
              go_wp2_with (go_at_call 103; (with_reducible refine Q.out.mono ?_); rintro e w' ⟨rfl, hb3⟩; have n0 := cell_at_block (off := 0) ((hb3.block _ (by simp)).trans HN.out) rfl; have n1 := cell_at_block (off := 1) ((hb3.block _ (by simp)).trans HN.out) rfl; have HB3 := Lib.hid hb3; clear hb3)
              go_ret
              rw [HR.out]
              exact ⟨rfl, bchain HB2.out HB3.out⟩
        · have hk' : k = n := by omega
          have HR : Hid (givenB l = true) := by
            show _ = _
            rw [HE.out, (List.drop_eq_nil_of_le (by rw [HL.out]; omega) : l.drop k = [])]
            rfl
          have d1 : decide ((k : Int) < (n : Int)) = false := by rw [decide_eq_false_iff_not]; omega
          have d2 : decide (k < n) = false := by rw [decide_eq_false_iff_not]; omega
          clear hlt hk'
          go_wp2_with fail
          go_ret
          rw [HR.out]
          exact ⟨rfl, HB.out⟩
    · have HR : Hid (errArg (givenB l) = 2) := by
        show _ = _
        have : decide (l.length ≤ 5) = false := by rw [decide_eq_false_iff_not, HL.out]; exact h5
        simp [givenB, this, errArg]
      have d5 : decide ((5 : Int) < (n : Int)) = true := by rw [decide_eq_true_eq]; omega
      have d5' : decide (5 < n) = true := by rw [decide_eq_true_eq]; omega
      clear h0 h5
      go_enter Tryz.func33, Tryz.ntmps33
      go_wp2_with fail
      go_ret
      rw [HR.out]
      exact ⟨rfl, Below.refl _ _⟩
end Go.Proofs.Bg
end

section
/- Contracts: slices.Clone at integers and at rows; copied. -/
namespace Go.Proofs.Bg
open Go.RowKit

theorem infoSl : (Tryz.prog.info? 32).map (fun i => (i.zero, i.size, i.bytes)) = some (some (.slice none 0 0), 1, 24) := by kernel_rfl
theorem flat_iv (l : List Int) : l.flatMap iv = l.map (Value.int .i64) := by
  induction l with
  | nil => rfl
  | cons a r ih => simp [iv] at ih ⊢; exact ih

theorem CloneI_any (A : Option Addr) (n cap : Nat) (l : List Int) (w : World) (hA : Rd iv 1 w 0 A n l) (hn : n ≤ 1000000) :
    Calls Tryz.prog 80 #[.slice A n cap] w fun e w' => ∃ v, e = .returned v ∧ Own iv 1 3 w.heap.size w' v l ∧ Below w.heap.size w w' := by
  have hlen := hA.len
  cases A with
  | none =>
    have h0 : n = 0 := by
      cases n with
      | zero => rfl
      | succ k => obtain ⟨b, off, e, _⟩ := hA.2.2 (by omega); cases e
    subst h0
    obtain rfl := List.eq_nil_of_length_eq_zero hlen
    exact (Tryz.slices_Clone_int_nil 0 cap w).mono fun e w' ⟨he, hw⟩ => ⟨_, he, by subst hw; exact Own.nil _ _ _ _ _, by rw [hw]; exact Below.refl _ _⟩
  | some a =>
    by_cases h0 : n = 0
    · subst h0
      obtain rfl := List.eq_nil_of_length_eq_zero hlen
      exact (Tryz.slices_Clone_int_zero a cap w).mono fun e w' ⟨v, he, ho, _, hb⟩ => ⟨v, he, ho, hb⟩
    · obtain ⟨b, off, e, _, hc⟩ := hA.2.2 (by omega)
      cases e
      refine (Tryz.slices_Clone_int b off n cap l w (by omega) (by omega) fun j hj => ?_).mono fun e w' ⟨v, he, ho, _, hb⟩ => ⟨v, he, ?_, hb⟩
      · have := hc j l[j] (List.getElem?_eq_getElem hj) 0 _ rfl
        simp only [Nat.mul_one, Nat.add_zero] at this
        rw [this]
        simp [hj]
      · unfold Own
        rw [flat_iv, hlen]
        rw [List.take_of_length_le (by omega)] at ho
        exact ho

set_option maxRecDepth 100000 in
theorem CloneR_any (A : Option Addr) (n cap : Nat) (ss : List Sl) (w : World) (hA : Rd Sl.vs 1 w 0 A n ss) (hn : n ≤ 1000000) :
    Calls Tryz.prog 65 #[.slice A n cap] w fun e w' => ∃ v, e = .returned v ∧ Own Sl.vs 1 32 w.heap.size w' v ss ∧ Below w.heap.size w w' := by
  have hlen := hA.len
  have HA := Lib.hid hA
  clear hA
  have q22 : ∀ (w : World) (a : Option Addr) (n c n' c' : Nat), (binOp .eql 38 (.slice a n c) (.slice none n' c')).run Tryz.prog w = .ok (.bool a.isNone) w := fun w a n c n' c' => Lib.run_eql_slice_nil w _ _ a n c n' c' Tryz.underlying38
  cases A with
  | none =>
    have h0 : n = 0 := by
      cases n with
      | zero => rfl
      | succ k => obtain ⟨b, off, e, _⟩ := HA.out.2.2 (by omega); cases e
    subst h0
    obtain rfl := List.eq_nil_of_length_eq_zero hlen
    go_enter Tryz.func65, Tryz.ntmps65
    go_wp2_with fail
    go_ret
    exact ⟨_, rfl, Own.nil _ _ _ _ _, Below.refl _ _⟩
  | some a =>
    have hown : Own Sl.vs 1 32 w.heap.size (w.alloc (.cells #[] 32)) (.slice (some ⟨w.heap.size, 0, none⟩) 0 0) [] :=
      ⟨rfl, .inr ⟨w.heap.size, 0, #[], rfl, Nat.le_refl _, new_block _ _ _, Nat.le_refl _, by unfold maxLen; omega, rfl, rfl⟩⟩
    have HO := Lib.hid hown
    have HR := Lib.hid (HA.out.below (below_new w (.cells #[] 32)))
    have HB := Lib.hid (below_new w (.cells #[] 32))
    clear hown
    go_enter Tryz.func65, Tryz.ntmps65
    go_wp2_with (at_builtin; go_loud (refine wpList_appRd Sl.vs 1 Sl.vs_length (by decide) Sl.one 32 32 _ 24 infoSl rfl rfl _ _ _ _ rfl Tryz.underlying38 Tryz.underlying38 w.heap.size _ [] rfl HO.out 0 n _ _ ss rfl HR.out (by simp; omega) (by unfold maxLen; simp; omega) (by simp) (fun v4 w4 hown4 hg4 _ => ?_)))
    go_ret
    exact ⟨_, rfl, hown4, below_row HB.out hg4 (fun g e => by cases e; exact Nat.le_refl _)⟩

/-- Rows of the call's own, each in a block of its own. -/
def OwnRows (base : Nat) (w : World) (v : Value) (l : List (List Int)) : Prop := ∃ ss : List Sl, Own Sl.vs 1 32 base w v ss ∧ All2 (fun s r => Own iv 1 3 base w s.v r) ss l
theorem OwnRows.below {base : Nat} {w w' : World} {v : Value} {l : List (List Int)} (h : OwnRows base w v l) (hb : Below w.heap.size w w') : OwnRows base w' v l := by
  obtain ⟨ss, h1, h2⟩ := h
  exact ⟨ss, h1.below hb, h2.mono fun x y h => h.below hb⟩
theorem Own.low {α : Type} {enc : α → List Value} {sz : Nat} {T : TypeId} {base base' : Nat} {w : World} {v : Value} {l : List α} (h : Own enc sz T base w v l) (hb : base' ≤ base) : Own enc sz T base' w v l := World.ownsRow.mono h hb
theorem Own.ints {base : Nat} {w : World} {s : Sl} {r : List Int} (h : Own iv 1 3 base w s.v r) : IntsAt w base s r := h.rdN iv_length
theorem OwnRows.shape {base : Nat} {w : World} {v : Value} {l : List (List Int)} (h : OwnRows base w v l) : ∃ A cap, v = .slice A l.length cap := by
  obtain ⟨ss, h1, h2⟩ := h
  obtain ⟨A, cap, e⟩ := h1.shape
  exact ⟨A, cap, by rw [e, h2.1]⟩
theorem OwnRows.rows {base : Nat} {w : World} {A : Option Addr} {n cap : Nat} {l : List (List Int)} (h : OwnRows base w (.slice A n cap) l) : RowsAt w base ⟨A, n, cap⟩ l := by
  obtain ⟨ss, h1, h2⟩ := h
  exact ⟨ss, h1.rdN Sl.vs_length, h2.mono fun x y h => h.ints⟩

set_option maxRecDepth 100000 in
set_option maxHeartbeats 4000000 in
theorem copied_any (s : Sl) (l : List (List Int)) (w : World) (h : RowsAt w 0 s l) (hn : s.n ≤ 1000000) (hr : ∀ r ∈ l, r.length ≤ 1000000) :
    Calls Tryz.prog 88 #[.slice s.A s.n s.cap] w fun e w' => ∃ v, e = .returned v ∧ OwnRows w.heap.size w' v l ∧ Below w.heap.size w w' := by
  obtain ⟨i0, hi, hz0, hz1, hz2⟩ := info_parts infoSl
  obtain ⟨A, n, cap⟩ := s
  have HA := Lib.hid h
  have HL : Hid (l.length = n) := h.len
  have hle : n ≤ 1000000 := hn
  have HR := Lib.hid hr
  clear h hn hr
  go_enter Tryz.func88, Tryz.ntmps88
  go_wp2_with (at_make; refine wpList_make_own _ rfl _ _ _ rfl w.heap.size 32 i0 _ 1 Tryz.underlying38 hi hz0 hz1 .i64 .i64 _ n rfl rfl rfl (by rw [hz2]; omega) (by unfold maxLen; omega) (by simp) ?_; intro w1 hown1 hg1)
  have hO1 : OwnRows w.heap.size w1 (.slice (some ⟨w.heap.size, 0, none⟩) 0 n) [] := ⟨[], hown1, All2.nil _⟩
  have hB1 : Below w.heap.size w w1 := below_row (Below.refl _ _) hg1 (fun g e => by cases e)
  clear hown1 hg1
  go_loopw [3, 11] (fun v i wr => ∃ k : Nat, k ≤ n ∧ i = .int .i64 k ∧ OwnRows w.heap.size wr v (l.take k) ∧ Below w.heap.size w wr) (fun _ i _ => n - (intOf i).toNat)
  case atStart => exact ⟨0, by omega, rfl, hO1, hB1⟩
  case round =>
    clear hO1 hB1
    obtain ⟨k, hk, rfl, hO, hB⟩ := hrel
    obtain ⟨ss, h1, h2⟩ := hO
    obtain ⟨A', cap', rfl⟩ := h1.shape
    have H1 := Lib.hid h1
    have H2 := Lib.hid h2
    have HB := Lib.hid hB
    have hlen : ss.length ≤ 1000000 := by rw [h2.1, List.length_take]; omega
    clear h1 h2 hB
    by_cases hlt : k < n
    · obtain ⟨b1, o1, s, r, hb, _, hr, c0, hR⟩ := (HA.out.below HB.out).at_ hlt
      simp only [] at hb
      subst hb
      have hrl := HR.out r (List.mem_of_getElem? hr)
      have hsl := hR.len
      have Q := Lib.hid (CloneI_any s.A s.n s.cap r wr hR (by omega))
      have HT : Hid (l.take (k + 1) = l.take k ++ [r]) := by show _ = _; rw [List.take_add_one, hr]; rfl
      have hi1 : (k : Int) < n := by omega
      clear hr hR hsl hrl
      go_wp2_with fail
      (with_reducible refine Q.out.mono ?_)
      rintro e w2 ⟨v2, rfl, hown2, hb2⟩
      obtain ⟨A2, c2, rfl⟩ := hown2.shape
      have H1b := Lib.hid (H1.out.below hb2)
      have H2b := Lib.hid (H2.out.mono (S := fun s r => Own iv 1 3 w.heap.size w2 s.v r) fun x y h => h.below hb2)
      have HBb := Lib.hid (bchain HB.out hb2)
      have HO2 := Lib.hid (hown2.low HB.out.size)
      have hrl : r.length = r.length := rfl
      generalize hm : r.length = m at *
      have HM := Lib.hid hm
      clear hown2 hb2 Q hrl hm
      go_wp2_with (at_builtin; go_loud (refine wpList_app1 Sl.vs 1 32 _ 24 infoSl rfl (by decide) rfl _ _ _ rfl Tryz.underlying38 w.heap.size _ ss rfl (H1b.out.alloc _) ⟨A2, m, c2⟩ _ _ rfl rfl (newAt _ _ _ _ (by simp)) (by simp [Sl.vs, Value.oneCell']) (by omega) (by unfold maxLen; omega) (by have := HBb.out.size; simp; omega) (fun v4 w4 hown4 hg4 _ => ?_)))
      have hall : All2 (fun s r => Own iv 1 3 w.heap.size w4 s.v r) (ss ++ [⟨A2, m, c2⟩]) (l.take k ++ [r]) :=
        (H2b.out.snoc (x := ⟨A2, m, c2⟩) HO2.out).mono fun x y h => (h.alloc (.cells #[.slice A2 m c2] 32)).grown hg4 (own_ne (h.alloc (.cells #[.slice A2 m c2] 32)) (H1b.out.alloc (.cells #[.slice A2 m c2] 32)) (by decide))
      exact ⟨⟨k + 1, by omega, by go_num, by rw [HT.out]; exact ⟨_, hown4, hall⟩, below_row (HBb.out.alloc HBb.out.size _) hg4 (fun g e => (H1b.out.blk g e).1)⟩, by simp [intOf]; omega⟩
    · have hk' : k = n := by omega
      subst hk'
      have HR : Hid (l.take k = l) := by show _ = _; rw [List.take_of_length_le (by rw [HL.out]; exact Nat.le_refl _)]
      clear hlt
      go_wp2_with fail
      go_ret
      exact ⟨_, rfl, ⟨ss, H1.out, by have := H2.out; rw [HR.out] at this; exact this⟩, HB.out⟩
end Go.Proofs.Bg
end

section
/- Contract: slices.SortFunc at rows. -/
namespace Go.Proofs.Bg
open Go.RowKit
variable {lo : Nat}
open Go.Sort (grow Holds PermIn SortedIn putRow putCells mapBlock onCells heap_grow_old SWO)

/-- A row that lies in another block. -/
def Away (lo : Nat) (w : World) (g : Option Nat) (s : Sl) (r : List Int) : Prop := IntsAt w lo s r ∧ (0 < s.n → ∀ b off, s.A = some ⟨b, off, none⟩ → g ≠ some b)
theorem Away.grown {w w' : World} {g : Option Nat} {s : Sl} {r : List Int} (h : Away lo w g s r) (hg : w.grownBy w' g) : Away lo w' g s r := ⟨Rd.grown h.1 hg (by decide) iv_length h.2, h.2⟩
theorem Away.below {w w' : World} {g : Option Nat} {s : Sl} {r : List Int} (h : Away lo w g s r) (hb : Below w.heap.size w w') : Away lo w' g s r := ⟨h.1.below hb, h.2⟩

theorem own_putRow {β : Type} [Inhabited β] (enc : β → Value) (f : β → Sl) (hf : ∀ x, enc x = (f x).v) {w : World} {g cap n base : Nat} {T : TypeId} {os : Array Obj} {ss : List Sl} (d : Array β) (hd : d.size = ss.length) (h : Own Sl.vs 1 T base w (.slice (some ⟨g, 0, none⟩) ss.length cap) ss) :
    Own Sl.vs 1 T base (grow (putRow enc (Sort.ahead w n) g 0 d) os) (.slice (some ⟨g, 0, none⟩) ss.length cap) (d.toList.map f) := by
  rcases h.2 with ⟨e, _⟩ | ⟨g', cap', cur, e, hb, hh, h1, h2, h3, h4⟩
  · cases e
  · cases e
    have hg : g < w.heap.size := (Array.getElem?_eq_some_iff.1 hh).1
    have hh' : (grow (putRow enc (Sort.ahead w n) g 0 d) os).heap[g]? = some (.cells (putCells enc 0 d cur) T (0, 0)) := by
      rw [heap_grow_old _ _ (by simpa using hg)]
      simp [putRow, mapBlock, Sort.ahead, Array.getElem?_modify, hh, onCells]
    have hl : (d.toList.map f).length = ss.length := by simp [hd]
    have hfl : (d.toList.map f).flatMap Sl.vs = d.toList.map enc := by
      clear hl
      generalize d.toList = dl
      induction dl with
      | nil => rfl
      | cons a r ih => simp only [List.map_cons, List.flatMap_cons, ih, Sl.vs, hf]; rfl
    refine ⟨by rw [hfl]; simp, .inr ⟨g, cap, _, by rw [hl], hb, hh', by rw [hl]; exact h1, h2, by simp [putCells, h3], ?_⟩⟩
    rw [hfl, hl]
    apply List.ext_getElem?
    intro j
    by_cases hj : j < ss.length
    · rw [List.getElem?_take_of_lt (by omega), Array.getElem?_toList]
      simp [putCells, hd, hj, show j < cur.size by omega]
    · rw [List.getElem?_take_eq_none (by omega), List.getElem?_eq_none (by simp; omega)]

/-- A row of a world, away from a block. -/
abbrev RowP (lo : Nat) (w : World) (g : Nat) : Type := { p : Sl × List Int // Away lo w (some g) p.1 p.2 }
instance (w : World) (g : Nat) : Inhabited (RowP lo w g) := ⟨⟨(⟨none, 0, 0⟩, []), Rd.nil _ _ _, fun _ b off h => by cases h⟩⟩

theorem zipP {w : World} {g : Nat} : ∀ {ss : List Sl} {rows : List (List Int)}, All2 (Away lo w (some g)) ss rows → ∃ d : List (RowP lo w g), d.map (fun x => x.1.1) = ss ∧ d.map (fun x => x.1.2) = rows
  | [], [], _ => ⟨[], rfl, rfl⟩
  | [], _ :: _, h => by have := h.1; simp at this
  | _ :: _, [], h => by have := h.1; simp at this
  | s :: ss, r :: rows, h => by
    have h0 := h.2 0 s r rfl rfl
    have ht : All2 (Away lo w (some g)) ss rows := ⟨by have := h.1; simpa using this, fun i x y h1 h2 => h.2 (i + 1) x y (by simpa using h1) (by simpa using h2)⟩
    obtain ⟨d, h1, h2⟩ := zipP ht
    exact ⟨⟨(s, r), h0⟩ :: d, by simp [h1], by simp [h2]⟩

/-- What the sort leaves. -/
def SortOut (lo : Nat) (w : World) (base : Nat) (A : Option Addr) (n cap : Nat) (rows : List (List Int)) (w' : World) : Prop :=
  ∃ ss' rows', Own Sl.vs 1 32 base w' (.slice A n cap) ss' ∧ ss'.length = n ∧ All2 (Away lo w' (Value.slice A n cap).ownBlock) ss' rows' ∧ rows'.Perm rows ∧ rows'.Pairwise (fun x y => ¬ lexC y x < 0) ∧ w.grownBy w' (Value.slice A n cap).ownBlock

theorem SortRows_any (base : Nat) (A : Option Addr) (cap : Nat) (ss : List Sl) (rows : List (List Int)) (w : World) (h : Own Sl.vs 1 32 base w (.slice A ss.length cap) ss) (hr : All2 (Away lo w (Value.slice A ss.length cap).ownBlock) ss rows) (hlen : ss.length < 4611686018427387904) :
    Calls Tryz.prog 139 #[.slice A ss.length cap, .func (.func 140) #[] #[]] w fun e w' => e = .returned (.tuple #[]) ∧ SortOut lo w base A ss.length cap rows w' := by
  by_cases h0 : ss = []
  · subst h0
    have hrn : rows = [] := List.eq_nil_of_length_eq_zero hr.1.symm
    subst hrn
    have hc := Tryz.slices_SortFunc_none (α := Int) A cap (.func (.func 140) #[] #[]) w
    exact hc.mono fun e w' ⟨he, hw⟩ => ⟨he, [], [], by rw [hw]; exact h, rfl, All2.nil _, List.Perm.refl _, List.Pairwise.nil, by rw [hw]; exact World.grownBy.refl _ _⟩
  · have hpos : 0 < ss.length := List.length_pos_iff.2 h0
    obtain ⟨g, x, rfl, hb, hgl, _, _, _, hfz⟩ := h.at_ Sl.vs_length hpos
    obtain ⟨d, hd1, hd2⟩ := zipP hr
    have hds : d.length = ss.length := by rw [← hd1]; simp
    have eg : ∀ args w, (callFunc 140 args).run Tryz.prog w = .ok (.enter 140 args) w := enters_of Tryz.func140 (by kernel_rfl) rfl
    have hH : Holds (fun x : RowP lo w g => x.1.1.v) w g 0 d.toArray := by
      intro j hj
      have hj' : j < d.length := by simpa using hj
      obtain ⟨g', y, e, _, _, _, hy, hc, _⟩ := h.at_ Sl.vs_length (i := j) (by omega)
      cases e
      refine ⟨?_, hfz _⟩
      have hc0 := hc 0 _ rfl
      have hy' : ss[j]? = some (d[j]).1.1 := by rw [← hd1]; simp [hj']
      rw [hy] at hy'
      cases hy'
      rw [Nat.zero_add]
      simp only [Nat.mul_one, Nat.add_zero] at hc0
      rw [hc0]
      simp [hj', Sl.v]
    have hc := Tryz.slices_SortFunc (α := RowP lo w g) (fun x => x.1.1.v) (fun _ => rfl) (fun x y => lexC x.1.2 y.1.2) ⟨fun x => lexC_swo.irrefl x.1.2, fun x y z => lexC_swo.trans x.1.2 y.1.2 z.1.2, fun x y z => lexC_swo.ntrans x.1.2 y.1.2 z.1.2⟩ 140 #[] g 0 cap d.toArray w eg (fun m os dk _ x y => by
      have hg : w.grownBy (sortWorld (fun x : RowP lo w g => x.1.1.v) w g 0 m dk os) (some g) := grownBy_row _ _
      have hx := x.2.grown hg
      have hy := y.2.grown hg
      exact (Compare_any _ _ _ _ _ _ _ _ _ (Rd.low hx.1 (Nat.zero_le _)) (Rd.low hy.1 (Nat.zero_le _))).mono fun e w' ⟨he, hw⟩ => ⟨he, 0, #[], by rw [hw, Go.Sort.grow_empty]; rfl⟩) hH hgl (by simpa [hds] using hlen)
    simp only [List.size_toArray] at hc
    rw [hds] at hc
    refine hc.mono ?_
    rintro e w' ⟨he, d', n, os, hp, hs, hw⟩
    have hsz : d'.size = d.length := hp.1
    have hgr : w.grownBy w' (some g) := by rw [hw]; exact grownBy_row _ _
    have hperm : d'.toList.Perm d := by
      obtain ⟨_, _, h3⟩ := hp
      have e1 : d'.extract 0 d.length = d' := by rw [← hsz]; simp
      have e2 : d.toArray.extract 0 d.length = d.toArray := by simp
      rw [hds] at e1 e2
      rw [e1, e2] at h3
      simpa using h3
    refine ⟨he, d'.toList.map (fun x => x.1.1), d'.toList.map (fun x => x.1.2), ?_, by simp [hsz, hds], ?_, ?_, ?_, hgr⟩
    · have q := own_putRow (β := RowP lo w g) (fun x => x.1.1.v) (fun x => x.1.1) (fun _ => rfl) (n := n) (os := os) d' (hsz.trans hds) h
      rw [hw]
      exact q
    · refine ⟨by simp, fun i x y h1 h2 => ?_⟩
      rw [List.getElem?_map] at h1 h2
      cases hi : d'.toList[i]? with
      | none => rw [hi] at h1; cases h1
      | some z =>
        rw [hi] at h1 h2
        cases h1; cases h2
        exact z.2.grown hgr
    · rw [← hd2]
      exact hperm.map _
    · rw [List.pairwise_map, List.pairwise_iff_getElem]
      intro i j hi hj hij
      have hi' : i < d'.size := by simpa using hi
      have hj' : j < d'.size := by simpa using hj
      have hh := hs i j (Nat.zero_le _) hij (by omega)
      rw [getElem!_pos d' j hj', getElem!_pos d' i hi'] at hh
      unfold ltOf at hh
      rw [decide_eq_false_iff_not] at hh
      simpa using hh
end Go.Proofs.Bg
end

section
/- Contract: slices.CompactFunc at rows. -/
namespace Go.Proofs.Bg
open Go.RowKit
variable {lo : Nat}

theorem setCells_at {b : Nat} : ∀ (vs : List Value) (o : Nat) {w : World} {c : Array Value} {T : TypeId}, w.heap[b]? = some (.cells c T) → ∃ c' : Array Value, (w.setCells b o vs).heap[b]? = some (.cells c' T) ∧ c'.size = c.size ∧ (∀ i, i < o → c'[i]? = c[i]?) ∧ w.grownBy (w.setCells b o vs) (some b)
  | [], o, w, c, T, h => ⟨c, h, rfl, fun _ _ => rfl, World.grownBy.refl _ _⟩
  | v :: r, o, w, c, T, h => by
    obtain ⟨h1, g1⟩ := setCell_at (off := o) h v
    obtain ⟨c', h2, h3, h4, g2⟩ := setCells_at r (o + 1) h1
    exact ⟨c', h2, by rw [h3]; simp, fun i hi => by rw [h4 i (by omega)]; simp [show o ≠ i by omega], g1.then_ g2 (fun _ e => .inr e)⟩

/-- The head of an own slice, what stands behind it turned. -/
theorem Own.cut {T : TypeId} {base g n cap k : Nat} {w w' : World} {l : List Sl} {c' : Array Value} (h : Own Sl.vs 1 T base w (.slice (some ⟨g, 0, none⟩) n cap) l) (hk : k ≤ l.length) (hc : ∀ c : Array Value, w.heap[g]? = some (.cells c T) → w'.heap[g]? = some (.cells c' T) ∧ c'.size = c.size ∧ ∀ i, i < k → c'[i]? = c[i]?) :
    Own Sl.vs 1 T base w' (.slice (some ⟨g, 0, none⟩) k cap) (l.take k) := by
  have hn := h.len
  subst hn
  rcases h.2 with ⟨e, _⟩ | ⟨g', cap', cur, e, hb, hh, h1, h2, h3, h4⟩
  · cases e
  · cases e
    obtain ⟨q1, q2, q3⟩ := hc cur hh
    have hl : (l.take k).length = k := by rw [List.length_take]; omega
    refine ⟨by rw [flat_length Sl.vs_length], .inr ⟨g, cap, c', by rw [hl], hb, q1, by rw [hl]; omega, h2, by rw [q2, h3], ?_⟩⟩
    rw [hl, Nat.mul_one]
    have e1 : (l.take k).flatMap Sl.vs = (l.flatMap Sl.vs).take k := by
      clear q3 h4 hl hc h
      induction l generalizing k with
      | nil => simp
      | cons a r ih =>
        cases k with
        | zero => simp
        | succ k => simp [Sl.vs] at ih ⊢; exact ih (by simpa using hk) (by simpa using h1 |> Nat.le_of_succ_le) 
    rw [e1, ← h4]
    apply List.ext_getElem?
    intro i
    by_cases hi : i < k
    · rw [List.getElem?_take_of_lt hi, List.getElem?_take_of_lt hi, List.getElem?_take_of_lt (by omega), Array.getElem?_toList, Array.getElem?_toList, q3 i hi]
    · rw [List.getElem?_take_eq_none (by omega), List.getElem?_take_eq_none (by omega)]

/-- The first of equal neighbours. -/
def ded2 : Option (List Int) → List (Sl × List Int) → List (Sl × List Int)
  | _, [] => []
  | p, z :: r => if p = some z.2 then ded2 (some z.2) r else z :: ded2 (some z.2) r
theorem ded2_mem : ∀ (l : List (Sl × List Int)) (p : Option (List Int)) (z : Sl × List Int), z ∈ ded2 p l → z ∈ l
  | [], _, _, h => h
  | a :: r, p, z, h => by
    rw [ded2] at h
    split at h
    · exact List.mem_cons_of_mem _ (ded2_mem r _ z h)
    · rcases List.mem_cons.1 h with rfl | h
      · simp
      · exact List.mem_cons_of_mem _ (ded2_mem r _ z h)
theorem ded2_rows : ∀ (l : List (Sl × List Int)) (p : Option (List Int)) (x : List Int), x ∈ l.map Prod.snd → x ∈ (ded2 p l).map Prod.snd ∨ p = some x
  | [], _, _, h => by simp at h
  | a :: r, p, x, h => by
    rw [ded2]
    rw [List.map_cons, List.mem_cons] at h
    split
    · rename_i hp
      rcases h with rfl | h
      · exact .inr hp
      · rcases ded2_rows r (some a.2) x h with h | h
        · exact .inl h
        · rw [← h]; exact .inr hp
    · rcases h with rfl | h
      · exact .inl (by simp)
      · rcases ded2_rows r (some a.2) x h with h | h
        · exact .inl (by simp at h ⊢; exact .inr h)
        · cases h
          exact .inl (by simp)
theorem ded2_up : ∀ (l : List (Sl × List Int)) (p : Option (List Int)), (l.map Prod.snd).Pairwise (fun x y => ¬ lexC y x < 0) → (∀ q, p = some q → ∀ x ∈ l.map Prod.snd, ¬ lexC x q < 0) → RowsUp ((ded2 p l).map Prod.snd) ∧ ∀ q, p = some q → ∀ x ∈ (ded2 p l).map Prod.snd, lexC q x < 0
  | [], p, _, _ => ⟨List.Pairwise.nil, fun q _ x hx => by simp [ded2] at hx⟩
  | a :: r, p, h, hp => by
    rw [List.map_cons] at h
    obtain ⟨h1, h2⟩ := List.pairwise_cons.1 h
    obtain ⟨i1, i2⟩ := ded2_up r (some a.2) h2 (fun q hq x hx => by cases hq; exact h1 x hx)
    rw [ded2]
    split
    · rename_i hpa
      exact ⟨i1, fun q hq x hx => by rw [hpa] at hq; cases hq; exact i2 _ rfl x hx⟩
    · rename_i hpa
      refine ⟨?_, fun q hq x hx => ?_⟩
      · rw [List.map_cons]
        exact List.pairwise_cons.2 ⟨fun x hx => i2 _ rfl x hx, i1⟩
      · have hqa : lexC q a.2 < 0 := by
          have h3 := hp q hq a.2 (by simp)
          rcases lexC_cases q a.2 with h4 | h4 | h4
          · exact h4
          · exact absurd (by rw [hq, h4]) hpa
          · exact absurd h4 h3
        rw [List.map_cons] at hx
        rcases List.mem_cons.1 hx with rfl | hx
        · exact hqa
        · exact lexC_trans hqa (i2 _ rfl x hx)
theorem ded2_sortR {l : List (Sl × List Int)} {rows : List (List Int)} (hp : (l.map Prod.snd).Perm rows) (hs : (l.map Prod.snd).Pairwise (fun x y => ¬ lexC y x < 0)) : (ded2 none l).map Prod.snd = sortR rows := by
  refine sortR_unique (ded2_up l none hs (fun q h => by cases h)).1 fun z => ?_
  rw [← hp.mem_iff]
  constructor
  · intro h
    obtain ⟨y, hy, rfl⟩ := List.mem_map.1 h
    exact List.mem_map.2 ⟨y, ded2_mem l none y hy, rfl⟩
  · intro h
    rcases ded2_rows l none z h with h | h
    · exact h
    · cases h

theorem eqR_at {wr : World} {g : Option Nat} {s t : Sl} {a b : List Int} (hs : Away lo wr g s a) (ht : Away lo wr g t b) : ∀ n, Calls Tryz.prog 142 #[.slice s.A s.n s.cap, .slice t.A t.n t.cap] (wr.drewN n) fun e w' => e = .returned (.bool (decide (a = b))) ∧ ∃ m, w' = (wr.drewN n).drewN m := fun n => by
  have hb : Below wr.heap.size wr (wr.drewN n) := below_drewN (Below.refl _ _) n
  exact Equal_any s.A t.A s.n t.n s.cap t.cap a b _ ((Rd.low hs.1 (Nat.zero_le _)).below hb) ((Rd.low ht.1 (Nat.zero_le _)).below hb)

/-- What the first loop holds. -/
def C1 (zs : List (Sl × List Int)) (k : Nat) : Prop := ∃ p, zs[k - 1]? = some p ∧ ded2 none zs = zs.take k ++ ded2 (some p.2) (zs.drop k)
/-- What the second one holds. -/
def C2 (zs : List (Sl × List Int)) (T : TypeId) (base g cap : Nat) (w wr : World) (c j : Nat) : Prop :=
  ∃ cur K p, Own Sl.vs 1 T base wr (.slice (some ⟨g, 0, none⟩) zs.length cap) cur ∧ cur.length = zs.length ∧ cur.take c = K.map Prod.fst ∧ K.length = c ∧ (∀ i, j ≤ i + 1 → cur[i]? = (zs.map Prod.fst)[i]?) ∧ zs[j - 1]? = some p ∧ ded2 none zs = K ++ ded2 (some p.2) (zs.drop j) ∧ c + 1 ≤ j ∧ j ≤ zs.length ∧ w.grownBy wr (some g)
end Go.Proofs.Bg
end

section
/- Contract: slices.CompactFunc at rows: the walk. -/
namespace Go.Proofs.Bg
open Go.RowKit
variable {lo : Nat}

theorem below_grown {w w' : World} {row : Option Nat} (h : Below w.heap.size w w') : w.grownBy w' row := ⟨h.os, h.tape, h.output, h.size, fun i hi _ => h.block i hi⟩
theorem C1.step {zs : List (Sl × List Int)} {k : Nat} {p z : Sl × List Int} (h : ded2 none zs = zs.take k ++ ded2 (some p.2) (zs.drop k)) (hz : zs[k]? = some z) (hne : ¬ z.2 = p.2) : ded2 none zs = zs.take (k + 1) ++ ded2 (some z.2) (zs.drop (k + 1)) := by
  rw [h, drop_at hz, ded2, if_neg (fun e => hne (Option.some.inj e).symm), List.take_add_one, hz]
  simp

set_option maxRecDepth 100000 in
set_option maxHeartbeats 8000000 in
theorem CompactRows_any (base g cap : Nat) (zs : List (Sl × List Int)) (w : World) (h : Own Sl.vs 1 32 base w (.slice (some ⟨g, 0, none⟩) zs.length cap) (zs.map Prod.fst)) (hr : ∀ z ∈ zs, Away lo w (some g) z.1 z.2) (hlen : zs.length ≤ 1000000) (h2 : 2 ≤ zs.length) :
    Calls Tryz.prog 141 #[.slice (some ⟨g, 0, none⟩) zs.length cap, .func (.func 142) #[] #[]] w fun e w' => e = .returned (.slice (some ⟨g, 0, none⟩) (ded2 none zs).length cap) ∧ Own Sl.vs 1 32 base w' (.slice (some ⟨g, 0, none⟩) (ded2 none zs).length cap) ((ded2 none zs).map Prod.fst) ∧ w.grownBy w' (some g) := by
  have HO := Lib.hid h
  have HR := Lib.hid hr
  have eg : ∀ args w, (callFunc 142 args).run Tryz.prog w = .ok (.enter 142 args) w := enters_of Tryz.func142 (by kernel_rfl) rfl
  have hcapn := h.capOf
  have hcapm := h.capMax
  have HZ : ∀ k, k < zs.length → ∃ z, zs[k]? = some z := fun k hk => ⟨_, List.getElem?_eq_getElem hk⟩
  clear h hr
  generalize hn : zs.length = n at *
  have HN := Lib.hid hn
  clear hn
  go_enter Tryz.func141, Tryz.ntmps141
  go_wp2_with fail
  go_loopw [5] (fun i wr => ∃ k : Nat, 1 ≤ k ∧ k ≤ n ∧ i = .int .i64 k ∧ C1 zs k ∧ DrN w wr) (fun i _ => n - (intOf i).toNat)
  case atStart =>
    refine ⟨1, by omega, by omega, rfl, ?_, DrN.refl _⟩
    obtain ⟨z, hz⟩ := HZ 0 (by omega)
    refine ⟨z, hz, ?_⟩
    have : zs = z :: zs.drop 1 := by have := drop_at hz; simpa using this
    rw [this, ded2, if_neg (by simp)]
    simp
  case round =>
    obtain ⟨k, hk1, hk, rfl, ⟨p, hp, he⟩, hD⟩ := hrel
    obtain ⟨j, rfl⟩ : ∃ j, k = j + 1 := ⟨k - 1, by omega⟩
    have HE := Lib.hid he
    have HD := Lib.hid hD
    have hOr := HO.out.below hD.below
    rw [Nat.add_sub_cancel] at hp
    by_cases hlt : j + 1 < n
    · obtain ⟨z, hz⟩ := HZ (j + 1) hlt
      obtain ⟨_, x1, e1, -, -, -, hx1, hc1, -⟩ := hOr.at_ Sl.vs_length (i := j) (by simp [HN.out]; omega)
      cases e1
      obtain ⟨_, x2, e2, -, -, -, hx2, hc2, -⟩ := hOr.at_ Sl.vs_length (i := j + 1) (by simp [HN.out]; omega)
      cases e2
      simp only [List.getElem?_map, hp, hz, Option.map_some, Option.some.injEq] at hx1 hx2
      subst hx1 hx2
      have c1 := hc1 0 _ rfl
      have c2 := hc2 0 _ rfl
      simp only [Nat.mul_one, Nat.add_zero] at c1 c2
      have hA1 := (HR.out p (List.mem_of_getElem? hp)).below hD.below
      have hA2 := (HR.out z (List.mem_of_getElem? hz)).below hD.below
      have Q := Lib.hid (eqR_at hA2 hA1)
      have hw : IntKind.i64.wrap ((j : Int) + 1 - 1) = (j : Int) := by rw [Int.add_sub_cancel]; exact IntWalk.i64_in _ (by omega)
      have hi1 : ((j : Int) + 1) < n := by omega
      have hi2 : (j : Int) < n := by omega
      have hi0 : (0 : Int) ≤ j := by omega
      have HP := Lib.hid hp
      have HZZ := Lib.hid hz
      clear hc1 hc2 hp hz he hA1 hA2 hOr hD
      by_cases heq : z.2 = p.2
      · have HQ : Hid (decide (z.2 = p.2) = true) := by show _ = _; simpa using heq
        rw [HQ.out] at Q
        have hded : ded2 none zs = zs.take (j + 1) ++ ded2 (some z.2) (zs.drop (j + 1 + 1)) := by
          rw [HE.out, drop_at HZZ.out, ded2, if_pos (by rw [heq])]
        have h2c : C2 zs 32 base g cap w wr (j + 1) (j + 1 + 1) := by
          refine ⟨zs.map Prod.fst, zs.take (j + 1), z, by rw [HN.out]; exact HO.out.below HD.out.below, by simp, by rw [List.map_take], by rw [List.length_take, HN.out]; omega, fun i _ => rfl, by simpa using HZZ.out, hded, by omega, by rw [HN.out]; omega, below_grown HD.out.below⟩
        have H2C := Lib.hid h2c
        clear heq HQ hded h2c
        have hsl : (j : Int) + 1 ≤ (n : Int) := by omega
        have hsl' : (n : Int) ≤ (cap : Int) := by omega
        go_wp2_with fail
        go_quiet (first | (go_at_fn 142; exact Calls.quiet_of (Q.out _)))
        obtain ⟨wo, rfl⟩ : ∃ x, x = wr := ⟨_, rfl⟩
        go_wp2_with fail
        clear c1 c2 Q hw hi1 hi2 hi0 hsl hsl' HP HZZ
        go_loopw [5, 7] (fun s5 s7 wr => ∃ c q : Nat, 1 ≤ q ∧ s5 = .int .i64 c ∧ s7 = .int .i64 q ∧ C2 zs 32 base g cap w wr c (j + 1 + q)) (fun _ s7 _ => n - (intOf s7).toNat)
        case atStart => exact ⟨j + 1, 1, by omega, by go_num, rfl, by
          obtain ⟨cur, K, p', q1, q2, q3, q4, q5, q6, q7, q8, q9, q10⟩ := H2C.out
          exact ⟨cur, K, p', q1.below (below_drewN (Below.refl _ _) _), q2, q3, q4, q5, q6, q7, q8, q9, q10.then_ (below_grown (row := some g) (below_drewN (Below.refl _ _) _)) (fun _ e => .inr e)⟩⟩
        case round =>
          clear H2C HE HD
          obtain ⟨c, q, hq1, rfl, rfl, cur, K, p', o1, o2, o3, o4, o5, o6, o7, o8, o9, o10⟩ := hrel
          have HO1 := Lib.hid o1
          have HL2 := Lib.hid o2
          have HK := Lib.hid o3
          have HKL := Lib.hid o4
          have HS := Lib.hid o5
          have HP' := Lib.hid o6
          have HDE := Lib.hid o7
          have HG := Lib.hid o10
          rw [HN.out] at o9
          clear o2 o3 o4 o5 o6 o7 o10
          by_cases hlt2 : j + 1 + q < n
          · obtain ⟨z', hz'⟩ := HZ (j + 1 + q) hlt2
            have hcl : cur.length = n := by rw [HL2.out, HN.out]
            obtain ⟨_, x1, e1, -, -, -, hx1, hc1, hf⟩ := o1.at_ Sl.vs_length (i := j + 1 + q - 1) (by omega)
            cases e1
            obtain ⟨_, x2, e2, -, -, -, hx2, hc2, -⟩ := o1.at_ Sl.vs_length (i := j + 1 + q) (by omega)
            cases e2
            obtain ⟨_, x3, e3, -, -, -, hx3, hc3, -⟩ := o1.at_ Sl.vs_length (i := c) (by omega)
            cases e3
            rw [HS.out _ (by omega)] at hx1 hx2
            simp only [List.getElem?_map, HP'.out, hz', Option.map_some, Option.some.injEq] at hx1 hx2
            subst hx1 hx2
            have c1 := hc1 0 _ rfl
            have c2 := hc2 0 _ rfl
            have c3 := hc3 0 _ rfl
            simp only [Nat.mul_one, Nat.add_zero] at c1 c2 c3
            have e1 : j + 1 + q - 1 = j + 1 + (q - 1) := by omega
            rw [e1] at c1
            have hA1 := (HR.out p' (List.mem_of_getElem? HP'.out)).grown HG.out
            have hA2 := (HR.out z' (List.mem_of_getElem? hz')).grown HG.out
            have QQ := Lib.hid (eqR_at hA2 hA1)
            have HZ' := Lib.hid hz'
            obtain ⟨r, rfl⟩ : ∃ r, q = r + 1 := ⟨q - 1, by omega⟩
            rw [Nat.add_sub_cancel] at c1
            have hw : IntKind.i64.wrap ((r : Int) + 1 - 1) = (r : Int) := by rw [Int.add_sub_cancel]; exact IntWalk.i64_in _ (by omega)
            have hb1 : ((r : Int) + 1) < ((n - (j + 1) : Nat) : Int) := by omega
            have hb2 : (r : Int) < ((n - (j + 1) : Nat) : Int) := by omega
            have hb0 : (0 : Int) ≤ r := by omega
            have hf0 := hf c
            have hcn : (c : Int) < n := by omega
            clear hx3 hc1 hc2 hc3 hz' hA1 hA2 o1 e1 hf
            by_cases heq : z'.2 = p'.2
            · have HQ : Hid (decide (z'.2 = p'.2) = true) := by show _ = _; simpa using heq
              rw [HQ.out] at QQ
              have HNX : Hid (ded2 none zs = K ++ ded2 (some z'.2) (zs.drop (j + 1 + (r + 1) + 1))) := by
                show _ = _
                rw [HDE.out, drop_at HZ'.out, ded2, if_pos (by rw [heq])]
              clear heq HQ
              go_wp2_with fail
              go_quiet (first | (go_at_fn 142; exact Calls.quiet_of (QQ.out _)))
              go_wp2_with fail
              refine ⟨⟨c, r + 1 + 1, by omega, rfl, by go_num, cur, K, z', HO1.out.below (below_drewN (Below.refl _ _) _), HL2.out, HK.out, HKL.out, fun i hi => HS.out i (by omega), by simpa using HZ'.out, HNX.out, by omega, by rw [HN.out]; omega, HG.out.then_ (below_grown (row := some g) (below_drewN (Below.refl _ _) _)) (fun _ e => .inr e)⟩, by simp [intOf]; omega⟩
            · have HQ : Hid (decide (z'.2 = p'.2) = false) := by show _ = _; simpa using heq
              rw [HQ.out] at QQ
              have HNX : Hid (ded2 none zs = (K ++ [z']) ++ ded2 (some z'.2) (zs.drop (j + 1 + (r + 1) + 1))) := by
                show _ = _
                rw [HDE.out, drop_at HZ'.out, ded2, if_neg (fun e => heq (Option.some.inj e).symm), List.append_assoc]
                rfl
              clear heq HQ
              go_wp2_with fail
              go_quiet (first | (go_at_fn 142; exact Calls.quiet_of (QQ.out _)))
              go_wp2_with fail
              have hO2 := HO1.out.below (below_drewN (Below.refl _ _) nq)
              have hcur : c < cur.length := by omega
              obtain ⟨q1, q2⟩ := Own.set1 Sl.vs_length hO2 hcur (y := z'.1) (u := z'.1.v) rfl
              refine ⟨⟨c + 1, r + 1 + 1, by omega, by go_num, by go_num, cur.set c z'.1, K ++ [z'], z', q1, by rw [List.length_set]; exact HL2.out, ?_, by simp [HKL.out], fun i hi => ?_, by simpa using HZ'.out, HNX.out, by omega, by rw [HN.out]; omega, (HG.out.then_ (below_grown (row := some g) (below_drewN (Below.refl _ _) _)) (fun _ e => .inr e)).then_ q2 (fun _ e => .inr e)⟩, by simp [intOf]; omega⟩
              · rw [List.take_add_one, List.getElem?_set_self hcur, List.take_set_of_le (Nat.le_refl _), HK.out, List.map_append]
                rfl
              · rw [List.getElem?_set_ne (by omega)]
                exact HS.out i (by omega)
          · have hq : j + 1 + q = n := by omega
            have HF : Hid (ded2 none zs = K) := by
              show _ = _
              rw [HDE.out, hq, (List.drop_eq_nil_of_le (by rw [HN.out]; exact Nat.le_refl _) : zs.drop n = []), ded2, List.append_nil]
            have hcl : cur.length = n := by rw [HL2.out, HN.out]
            have v32 : ∀ w, (zeroValue 32).run Tryz.prog w = .ok (.slice none 0 0) w := fun w => by kernel_rfl
            have hcells : ∀ i, i < n - c → (wr.cell? ⟨g, c + i, none⟩).isSome = true := fun i hi => by
              obtain ⟨_, x3, e3, -, -, -, hx3, hc3, -⟩ := o1.at_ Sl.vs_length (i := c + i) (by omega)
              cases e3
              have := hc3 0 _ rfl
              simp only [Nat.mul_one, Nat.add_zero] at this
              rw [this]; rfl
            obtain ⟨_, x3, e3, -, -, -, hx3, hc3, hf3⟩ := o1.at_ Sl.vs_length (i := c) (by omega)
            cases e3
            have hcl' : ∀ ty, (Builtin.clear_ #[38] ty #[.slice (some ⟨g, c, none⟩) (n - c) (cap - c)]).run Tryz.prog wr = .ok (.tuple #[]) (wr.setCells g c (List.replicate (n - c) (.slice none 0 0))) :=
              fun ty => Lib.run_clear_slice wr _ _ ty _ Tryz.underlying38 v32 rfl rfl g c _ _ (by omega) hcells (fun i _ => hf3 _)
            obtain ⟨cc, hcc⟩ := HO1.out.heap
            obtain ⟨c', k1, k2, k3, k4⟩ := setCells_at (List.replicate (n - c) (.slice none 0 0)) c hcc
            have hfin := Own.cut (k := c) (w' := wr.setCells g c (List.replicate (n - c) (.slice none 0 0))) HO1.out (by omega) (fun c0 h0 => by rw [hcc] at h0; cases h0; exact ⟨k1, k2, k3⟩)
            rw [HK.out] at hfin
            have HFIN := Lib.hid hfin
            have HGF := Lib.hid (HG.out.then_ k4 (fun _ e => .inr e))
            have hz1 : decide ((q : Int) < ((n - (j + 1) : Nat) : Int)) = false := by rw [decide_eq_false_iff_not]; omega
            have hz2 : decide (q < n - (j + 1)) = false := by rw [decide_eq_false_iff_not]; omega
            have hcn : (c : Int) ≤ n := by omega
            have hcn2 : (n : Int) ≤ cap := by omega
            have hcn3 : (c : Int) ≤ cap := by omega
            clear hcells hx3 hc3 hf3 k1 k2 k3 k4 hcc hfin o1 hlt2 hq hcl v32
            go_wp2_with fail
            go_ret
            rw [HF.out, HKL.out]
            exact ⟨rfl, HFIN.out, HGF.out⟩
      · have HS := Lib.hid (C1.step HE.out HZZ.out heq)
        have HQ : Hid (decide (z.2 = p.2) = false) := by show _ = _; simpa using heq
        rw [HQ.out] at Q
        clear heq HQ
        go_wp2_with fail
        go_quiet (first | (go_at_fn 142; exact Calls.quiet_of (Q.out _)))
        go_wp2_with fail
        exact ⟨⟨j + 1 + 1, by omega, by omega, by go_num, ⟨z, by simpa using HZZ.out, HS.out⟩, HD.out.drewN _⟩, by simp [intOf]; omega⟩
    · have hk' : j + 1 = n := by omega
      have hd : ded2 none zs = zs := by
        rw [HE.out, hk', List.take_of_length_le (by rw [HN.out]; exact Nat.le_refl _), (List.drop_eq_nil_of_le (by rw [HN.out]; exact Nat.le_refl _) : zs.drop n = []), ded2, List.append_nil]
      have HDD := Lib.hid hd
      have hg : w.grownBy wr (some g) := (below_grown hD.below)
      have HG := Lib.hid hg
      have HOR := Lib.hid hOr
      have d1 : decide (((j : Int) + 1) < (n : Int)) = false := by rw [decide_eq_false_iff_not]; omega
      have d2 : decide (j + 1 < n) = false := by rw [decide_eq_false_iff_not]; omega
      clear he hD hOr hd hg hlt hp
      go_wp2_with fail
      go_ret
      rw [HDD.out, HN.out]
      exact ⟨rfl, HOR.out, HG.out⟩
end Go.Proofs.Bg
end

section
/- Contract: sorted: rows sorted, each once. -/
namespace Go.Proofs.Bg
open Go.RowKit
variable {lo : Nat}

/-- Rows, their headers in memory of the call's own. -/
def RowsOwnL (lo base : Nat) (w : World) (v : Value) (rows : List (List Int)) : Prop := ∃ ss, Own Sl.vs 1 32 base w v ss ∧ All2 (IntsAt w lo) ss rows
abbrev RowsOwn (base : Nat) (w : World) (v : Value) (rows : List (List Int)) : Prop := RowsOwnL 0 base w v rows
theorem RowsOwn.rows {base : Nat} {w : World} {A : Option Addr} {n cap : Nat} {l : List (List Int)} (h : RowsOwn base w (.slice A n cap) l) : RowsAt w 0 ⟨A, n, cap⟩ l := by
  obtain ⟨ss, h1, h2⟩ := h
  exact ⟨ss, (h1.rdN Sl.vs_length).low (Nat.zero_le _), h2⟩
theorem RowsOwnL.shape {base : Nat} {w : World} {v : Value} {l : List (List Int)} (h : RowsOwnL lo base w v l) : ∃ A cap, v = .slice A l.length cap := by
  obtain ⟨ss, h1, h2⟩ := h
  obtain ⟨A, cap, e⟩ := h1.shape
  exact ⟨A, cap, by rw [e, h2.1]⟩
theorem RowsOwnL.below {base : Nat} {w w' : World} {v : Value} {l : List (List Int)} (h : RowsOwnL lo base w v l) (hb : Below w.heap.size w w') : RowsOwnL lo base w' v l := by
  obtain ⟨ss, h1, h2⟩ := h
  exact ⟨ss, h1.below hb, h2.mono fun x y h => h.below hb⟩

theorem away_new {w w1 : World} {s : Sl} {r : List Int} {v : Value} {base : Nat} {α : Type} {enc : α → List Value} {sz : Nat} {T : TypeId} {l : List α} (h : IntsAt w lo s r) (hb : Below w.heap.size w w1) (ho : Own enc sz T base w1 v l) (hbase : w.heap.size ≤ base) : Away lo w1 v.ownBlock s r := by
  refine ⟨h.below hb, fun hn b off e he => ?_⟩
  obtain ⟨b', off', e', _, hc⟩ := h.2.2 hn
  rw [e] at e'
  cases e'
  have hl : 0 < r.length := by rw [h.1]; exact hn
  have := World.block_lt_of_cell? w _ (hc 0 r[0] (List.getElem?_eq_getElem hl) 0 _ rfl)
  have h2 := (ho.blk b he).1
  simp at this
  omega
theorem zip_of {w : World} {g : Option Nat} : ∀ {ss : List Sl} {rows : List (List Int)}, All2 (Away lo w g) ss rows → ∃ zs : List (Sl × List Int), zs.map Prod.fst = ss ∧ zs.map Prod.snd = rows ∧ ∀ z ∈ zs, Away lo w g z.1 z.2
  | [], [], _ => ⟨[], rfl, rfl, fun z h => by cases h⟩
  | [], _ :: _, h => by have := h.1; simp at this
  | _ :: _, [], h => by have := h.1; simp at this
  | s :: ss, r :: rows, h => by
    have h0 := h.2 0 s r rfl rfl
    have ht : All2 (Away lo w g) ss rows := ⟨by have := h.1; simpa using this, fun i x y h1 h2 => h.2 (i + 1) x y (by simpa using h1) (by simpa using h2)⟩
    obtain ⟨zs, h1, h2, h3⟩ := zip_of ht
    exact ⟨(s, r) :: zs, by simp [h1], by simp [h2], fun z hz => by
      rcases List.mem_cons.1 hz with rfl | hz
      · exact h0
      · exact h3 z hz⟩
theorem all2_zip {R : Sl → List Int → Prop} : ∀ {zs : List (Sl × List Int)}, (∀ z ∈ zs, R z.1 z.2) → All2 R (zs.map Prod.fst) (zs.map Prod.snd)
  | [], _ => All2.nil _
  | z :: zs, h => by
    rw [List.map_cons, List.map_cons]
    exact All2.cons (h z (by simp)) (all2_zip fun y hy => h y (by simp [hy]))

set_option maxRecDepth 100000 in
theorem Compact_any (base : Nat) (A : Option Addr) (n cap : Nat) (zs : List (Sl × List Int)) (w : World) (h : Own Sl.vs 1 32 base w (.slice A n cap) (zs.map Prod.fst)) (hr : ∀ z ∈ zs, Away lo w (Value.slice A n cap).ownBlock z.1 z.2) (hlen : zs.length ≤ 1000000) :
    Calls Tryz.prog 141 #[.slice A n cap, .func (.func 142) #[] #[]] w fun e w' => ∃ v, e = .returned v ∧ RowsOwnL lo base w' v ((ded2 none zs).map Prod.snd) ∧ w.grownBy w' (Value.slice A n cap).ownBlock := by
  have hn : n = zs.length := by have := h.len; simpa using this
  subst hn
  by_cases h2 : 2 ≤ zs.length
  · obtain ⟨g, x, rfl, -, -, -, -, -, -⟩ := h.at_ Sl.vs_length (i := 0) (by simp; omega)
    refine (CompactRows_any base g cap zs w h hr hlen h2).mono fun e w' ⟨he, ho, hg⟩ => ⟨_, he, ⟨_, ho, all2_zip fun z hz => ((hr z (ded2_mem zs none z hz)).grown hg).1⟩, hg⟩
  · have hd : ded2 none zs = zs := by
      cases zs with
      | nil => rfl
      | cons a r =>
        cases r with
        | nil => simp [ded2]
        | cons b r => simp at h2
    have HO := Lib.hid h
    have HR := Lib.hid hr
    have HD := Lib.hid hd
    have d1 : decide ((zs.length : Int) < 2) = true := by rw [decide_eq_true_eq]; omega
    have d2 : decide (zs.length < 2) = true := by rw [decide_eq_true_eq]; omega
    clear h hr hd
    go_enter Tryz.func141, Tryz.ntmps141
    go_wp2_with fail
    go_ret
    refine ⟨_, rfl, ?_, World.grownBy.refl _ _⟩
    rw [HD.out]
    exact ⟨_, HO.out, all2_zip fun z hz => (HR.out z hz).1⟩

set_option maxRecDepth 100000 in
theorem sorted_lo (s : Sl) (rows : List (List Int)) (w : World) (h : RowsAt w lo s rows) (hn : s.n ≤ 1000000) :
    Calls Tryz.prog 101 #[.slice s.A s.n s.cap] w fun e w' => ∃ v, e = .returned v ∧ RowsOwnL lo w.heap.size w' v (sortR rows) ∧ Below w.heap.size w w' := by
  obtain ⟨ss, h1, h2⟩ := h
  have HL : Hid (ss.length = s.n) := h1.len
  have Q := Lib.hid (CloneR_any s.A s.n s.cap ss w (h1.low (Nat.zero_le _)) hn)
  have H2 := Lib.hid h2
  clear h1 h2
  go_enter Tryz.func101, Tryz.ntmps101
  go_wp2_with fail
  (with_reducible refine Q.out.mono ?_)
  rintro e w1 ⟨v, rfl, hown, hb1⟩
  obtain ⟨A1, c1, rfl⟩ := hown.shape
  have hall : All2 (Away lo w1 (Value.slice A1 ss.length c1).ownBlock) ss rows := H2.out.mono fun x y h => away_new h hb1 hown (Nat.le_refl _)
  have Q2 := Lib.hid (SortRows_any w.heap.size A1 c1 ss rows w1 hown hall (by rw [HL.out]; omega))
  have HB1 := Lib.hid hb1
  have HO1 := Lib.hid hown
  have hsl : ss.length ≤ 1000000 := by rw [HL.out]; exact hn
  clear Q hown hall hb1 HL H2
  go_wp2_with fail
  (with_reducible refine Q2.out.mono ?_)
  rintro e w2 ⟨rfl, ss2, rows2, ho2, hl2, ha2, hp2, hs2, hg2⟩
  obtain ⟨zs, hz1, hz2, hz3⟩ := zip_of ha2
  have hzl : zs.length = ss.length := by rw [← hl2, ← hz1]; simp
  rw [← hz1] at ho2
  have Q3 := Lib.hid (Compact_any w.heap.size A1 ss.length c1 zs w2 ho2 hz3 (by omega))
  have HB2 := Lib.hid (below_row HB1.out hg2 (fun g e => (HO1.out.blk g e).1))
  have HO2 := Lib.hid ho2
  have hss : (ded2 none zs).map Prod.snd = sortR rows := ded2_sortR (by rw [hz2]; exact hp2) (by rw [hz2]; exact hs2)
  rw [hss] at Q3
  clear Q2 ho2 hl2 ha2 hp2 hs2 hg2 hz1 hz2 hz3 hss HO1 hzl
  go_wp2_with fail
  (with_reducible refine Q3.out.mono ?_)
  rintro e w3 ⟨v3, rfl, hr3, hg3⟩
  have HR3 := Lib.hid hr3
  have HB3 := Lib.hid (below_row HB2.out hg3 (fun g e => (HO2.out.blk g e).1))
  clear hr3 hg3 Q3
  go_wp2_with fail
  go_ret
  exact ⟨_, rfl, HR3.out, HB3.out⟩
theorem sorted_any (s : Sl) (rows : List (List Int)) (w : World) (h : RowsAt w 0 s rows) (hn : s.n ≤ 1000000) :
    Calls Tryz.prog 101 #[.slice s.A s.n s.cap] w fun e w' => ∃ v, e = .returned v ∧ RowsOwn w.heap.size w' v (sortR rows) ∧ Below w.heap.size w w' := sorted_lo s rows w h hn
end Go.Proofs.Bg
end

section
/- Plain words: readings stay where a block of slices is turned. -/
namespace Go.Proofs.Bg
open Go.RowKit

/-- A reading of numbers stays where a block that holds no number is turned. -/
theorem Rd.grownS {w w' : World} {lo n g : Nat} {A : Option Addr} {row : List Int} {cs : Array Value} {T : TypeId} {fr : Nat × Nat} (h : Rd iv 1 w lo A n row) (hg : w.grownBy w' (some g)) (hb : w.heap[g]? = some (.cells cs T fr)) (hc : ∀ (i : Nat) (x : Int), cs[i]? ≠ some (.int .i64 x)) : Rd iv 1 w' lo A n row :=
  h.grown hg (by decide) iv_length (fun hn b off e ee => by
    cases ee
    subst e
    obtain ⟨b', off', e', _, hc'⟩ := h.2.2 hn
    cases e'
    have hl := h.len
    have hx : row[0]? = some (row[0]'(by omega)) := List.getElem?_eq_getElem _
    have h1 := hc' 0 _ hx 0 _ rfl
    rw [cell_of_row w g _ cs T fr hb] at h1
    exact hc _ _ h1)
theorem RowsOwnL.grownS {lo base g : Nat} {w w' : World} {v : Value} {rows : List (List Int)} {cs : Array Value} {T : TypeId} (h : RowsOwnL lo base w v rows) (hg : w.grownBy w' (some g)) (hb : w.heap[g]? = some (.cells cs T)) (hT : 32 ≠ T) (hc : ∀ (i : Nat) (x : Int), cs[i]? ≠ some (.int .i64 x)) : RowsOwnL lo base w' v rows := by
  obtain ⟨ss, h1, h2⟩ := h
  exact ⟨ss, h1.grownT hg hb hT, h2.mono fun x y hxy => Rd.grownS hxy hg hb hc⟩
theorem RowsOwnL.lowB {lo lo' base base' : Nat} {w : World} {v : Value} {rows : List (List Int)} (h : RowsOwnL lo base w v rows) (hl : lo' ≤ lo) (hb : base' ≤ base) : RowsOwnL lo' base' w v rows := by
  obtain ⟨ss, h1, h2⟩ := h
  exact ⟨ss, World.ownsRow.mono h1 hb, h2.mono fun x y h => Rd.low h hl⟩
theorem pair_noInt (a b : Sl) : ∀ (i : Nat) (x : Int), (#[Value.slice a.A a.n a.cap, .slice b.A b.n b.cap] : Array Value)[i]? ≠ some (.int .i64 x) := by
  intro i x h
  match i with
  | 0 => simp at h
  | 1 => simp at h
  | i + 2 => simp at h
/-- A table in the call's own memory. -/
structure OwnTab (base : Nat) (w : World) (t : Tb) (T : PT) : Prop where
  cols : Own iv 1 3 base w t.cols.v T.cols
  rows : RowsOwnL base base w t.rows.v T.rows
theorem OwnTab.tab {base : Nat} {w : World} {t : Tb} {T : PT} (h : OwnTab base w t T) : TabAt w base t T := by
  obtain ⟨⟨cA, cn, ck⟩, ⟨rA, rn, rk⟩⟩ := t
  obtain ⟨ss, h1, h2⟩ := h.rows
  exact ⟨h.cols.rdN iv_length, ⟨ss, h1.rdN Sl.vs_length, h2⟩⟩
theorem OwnTab.below {base : Nat} {w w' : World} {t : Tb} {T : PT} (h : OwnTab base w t T) (hb : Below w.heap.size w w') : OwnTab base w' t T := ⟨h.cols.below hb, h.rows.below hb⟩
theorem OwnTab.low {base base' : Nat} {w : World} {t : Tb} {T : PT} (h : OwnTab base w t T) (hb : base' ≤ base) : OwnTab base' w t T := ⟨h.cols.low hb, h.rows.lowB hb hb⟩
/-- A block that lies below is turned. -/
theorem OwnTab.far {base g : Nat} {w w' : World} {t : Tb} {T : PT} (h : OwnTab base w t T) (hg : w.grownBy w' (some g)) (hlt : g < base) : OwnTab base w' t T := by
  obtain ⟨ss, h1, h2⟩ := h.rows
  refine ⟨h.cols.grown hg (.inr fun e => by have := (h.cols.blk _ e).1; omega), ⟨ss, h1.grown hg (.inr fun e => by have := (h1.blk _ e).1; omega), h2.mono fun x y hxy => Rd.grown hxy hg (by decide) iv_length (fun hn b off e ee => by
    cases ee
    obtain ⟨b', off', e', hlo, _⟩ := hxy.2.2 hn
    rw [e] at e'
    cases e'
    omega)⟩⟩
theorem OwnTab.grownS {base g : Nat} {w w' : World} {t : Tb} {T : PT} {cs : Array Value} {ty : TypeId} (h : OwnTab base w t T) (hg : w.grownBy w' (some g)) (hb : w.heap[g]? = some (.cells cs ty)) (h1 : 32 ≠ ty) (h2 : 3 ≠ ty) (hc : ∀ (i : Nat) (x : Int), cs[i]? ≠ some (.int .i64 x)) : OwnTab base w' t T := ⟨h.cols.grownT hg hb h2, h.rows.grownS hg hb h1 hc⟩
end Go.Proofs.Bg
end

section
/- Contract: ref sorted. -/
namespace Go.Proofs.Bg
open Go.RowKit

theorem Own.shapeI {α : Type} {enc : α → List Value} {sz : Nat} {e : TypeId} {base : Nat} {w : World} {v : Value} {l : List α} (h : Own enc sz e base w v l) : ∃ A n cap, v = .slice A n cap := by
  obtain ⟨A, cap, rfl⟩ := h.shape
  exact ⟨A, _, cap, rfl⟩
theorem orderC_pos {a b : List Int} : (0 < orderC a b) ↔ lexC b a < 0 := by
  have h := orderC_lex a b
  have f := lexC_flip b a
  constructor
  · intro hp
    rcases lexC_cases a b with h1 | h1 | h1
    · have := h.1.2 h1; omega
    · have := orderC_zero.2 h1; omega
    · exact h1
  · intro hp
    have h1 : ¬ lexC a b < 0 := by omega
    have h2 : ¬ lexC a b = 0 := by omega
    have h3 := mt h.1.1 h1
    have h4 := mt h.2.1 h2
    omega

set_option maxRecDepth 100000 in
set_option maxHeartbeats 8000000 in
theorem sortedR_lo {lo : Nat} (s : Sl) (L : List (List Int)) (w : World) (h : RowsAt w lo s L) (hn : s.n ≤ 1000000) :
    Calls Tryz.prog 121 #[.slice s.A s.n s.cap] w fun e w' => ∃ v, e = .returned v ∧ RowsOwnL lo w.heap.size w' v (sortR L) ∧ Below w.heap.size w w' := by
  obtain ⟨A, n, cap⟩ := s
  have HA := Lib.hid h
  have HL : Hid (L.length = n) := h.len
  have hle : n ≤ 1000000 := hn
  clear h hn
  go_enter Tryz.func121, Tryz.ntmps121
  go_wp2_with fail
  go_loopw [3, 4] (fun v i wr => ∃ (k : Nat) (ss : List Sl) (rows : List (List Int)), k ≤ n ∧ i = .int .i64 k ∧ Own Sl.vs 1 32 w.heap.size wr v ss ∧ All2 (IntsAt w lo) ss rows ∧ RowsUp rows ∧ (∀ z, z ∈ rows ↔ z ∈ L.take k) ∧ rows.length ≤ k ∧ Below w.heap.size w wr) (fun _ i _ => n - (intOf i).toNat)
  case atStart => exact ⟨0, [], [], by omega, rfl, Own.nil _ _ _ _ _, All2.nil _, List.Pairwise.nil, by simp, by simp, Below.refl _ _⟩
  case round =>
    obtain ⟨k, ss, rows, hk, rfl, hO, hR, hU, hM, hlen, hB⟩ := hrel
    obtain ⟨vA, vc, rfl⟩ := hO.shape
    have HO := Lib.hid hO
    have HR := Lib.hid hR
    have HU := Lib.hid hU
    have HM := Lib.hid hM
    have HB := Lib.hid hB
    have HRL : Hid (ss.length = rows.length) := hR.1
    have hssn : ss.length ≤ k := by rw [HRL.out]; exact hlen
    obtain ⟨wo, rfl⟩ : ∃ x, x = wr := ⟨_, rfl⟩
    by_cases hlt : k < n
    · obtain ⟨b1, o1, x, r, eA, -, hr, c0', hx⟩ := HA.out.at_ (k := k) hlt
      simp only [] at eA
      subst eA
      have HX := Lib.hid hx
      have c0 := (hB.cell (World.block_lt_of_cell? _ _ c0')).trans c0'
      have HC0 := Lib.hid c0'
      have HTK : Hid (L.take (k + 1) = L.take k ++ [r]) := by show _ = _; rw [List.take_add_one, hr]; rfl
      have hk1 : (k : Int) < n := by omega
      have hk0 : (0 : Int) ≤ k := by omega
      have HOW := Lib.hid (fun W (hD : DrN wo W) => hO.below hD.below)
      have HCW := Lib.hid (fun W (hD : DrN wo W) => (hD.below.cell (World.block_lt_of_cell? _ _ c0)).trans c0)
      have HXW := Lib.hid (fun W (hD : DrN wo W) => IntsAt.below hx (hB.trans (hD.below.mono hB.size)))
      clear hO hR hU hM hB hr hx c0'
      go_wp2_with fail
      clear c0
      go_loopw [5] (fun a wr => ∃ q : Nat, q ≤ ss.length ∧ a = .int .i64 q ∧ (∀ z ∈ rows.drop q, lexC r z < 0) ∧ DrN wo wr) (fun a _ => (intOf a).toNat)
      case atStart => exact ⟨ss.length, Nat.le_refl _, rfl, by rw [HRL.out, List.drop_length]; simp, DrN.refl _⟩
      case round =>
        obtain ⟨q, hq, rfl, hgt, hD⟩ := hrel
        have HGT := Lib.hid hgt
        have HD := Lib.hid hD
        have hq0' : (0 : Int) ≤ q := by omega
        clear hgt hD
        by_cases hq0 : 0 < q
        · obtain ⟨a, HQA⟩ : ∃ a, Hid (q = a + 1) := ⟨q - 1, by show q = _; omega⟩
          have hqa := HQA.out
          obtain ⟨g, y, e1, -, -, -, hy, hcy, -⟩ := (HOW.out _ HD.out).at_ Sl.vs_length (i := a) (by omega)
          subst e1
          clear hcy
          have hcyW := Lib.hid (fun W (hD : DrN wo W) => by
            obtain ⟨g', y', e1, -, -, -, hy', hcy, -⟩ := (HOW.out W hD).at_ Sl.vs_length (i := a) (by omega)
            cases e1
            rw [hy] at hy'
            cases hy'
            have := hcy 0 _ rfl
            simp only [Nat.mul_one, Nat.add_zero] at this
            exact this)
          obtain ⟨yr, hyr, hyI⟩ := HR.out.at_ hy
          have HYR := Lib.hid hyr
          have HYW := Lib.hid (fun W (hD : DrN wo W) => IntsAt.below hyI (HB.out.trans (hD.below.mono HB.out.size)))
          have QO := Lib.hid (fun W (hD : DrN wo W) => (Order_any y.A x.A y.n x.n y.cap x.cap yr r W ((HYW.out W hD).low (Nat.zero_le _)) ((HXW.out W hD).low (Nat.zero_le _))))
          have d0 : decide ((0 : Int) < (q : Int)) = true := by rw [decide_eq_true_eq]; omega
          have d0' : decide (0 < q) = true := by rw [decide_eq_true_eq]; omega
          have hw : IntKind.i64.wrap ((q : Int) - 1) = (a : Int) := by rw [show (q : Int) - 1 = (a : Int) by omega]; exact IntWalk.i64_in _ (by omega)
          have ha0 : (0 : Int) ≤ a := by omega
          have ha1 : (a : Int) < ss.length := by omega
          have y0 := hcyW.out _ HD.out
          have x0 := HCW.out _ HD.out
          clear hy hyr hyI hqa hq0
          by_cases hg1 : 0 < orderC yr r
          · have d1 : decide ((0 : Int) < orderC yr r) = true := by simpa using hg1
            have HG2 : Hid (∀ z ∈ rows.drop a, lexC r z < 0) := by
              show ∀ z ∈ _, _
              rw [drop_at HYR.out]
              intro z hz
              rcases List.mem_cons.1 hz with rfl | hz
              · exact orderC_pos.1 hg1
              · exact HGT.out z (by rw [HQA.out]; exact hz)
            clear hg1
            go_wp2_with fail
            go_quiet (first | (go_at_call 22; with_reducible exact Calls.quiet_of (QO.out _ (HD.out.drewN _))))
            go_wp2_with fail
            exact ⟨⟨a, by have := HQA.out; omega, by go_num, HG2.out, HD.out.drewN _⟩, by have := HQA.out; simp [intOf]; omega⟩
          · have d1 : decide ((0 : Int) < orderC yr r) = false := by simpa using hg1
            by_cases hz : orderC yr r = 0
            · have d2 : (orderC yr r == 0) = true := by simpa using hz
              have HM2 : Hid (∀ z, z ∈ rows ↔ z ∈ L.take (k + 1)) := by
                show ∀ z, _
                intro z
                rw [HTK.out, List.mem_append, HM.out z]
                constructor
                · exact .inl
                · rintro (h | h)
                  · exact h
                  · rw [List.mem_singleton] at h
                    rw [h, ← orderC_zero.1 hz, ← HM.out]
                    exact List.mem_of_getElem? HYR.out
              clear hg1 hz
              go_wp2_with fail
              go_quiet (first | (go_at_call 22; with_reducible exact Calls.quiet_of (QO.out _ (HD.out.drewN _))))
              have HD2 := Lib.hid (HD.out.drewN nq)
              generalize wr.drewN nq = W2 at HD2 ⊢
              have y1 := hcyW.out _ HD2.out
              have x1 := HCW.out _ HD2.out
              go_wp2_with fail
              go_quiet (first | (go_at_call 22; with_reducible exact Calls.quiet_of (QO.out _ (HD2.out.drewN _))))
              go_wp2_with fail
              exact ⟨⟨k + 1, ss, rows, by omega, by go_num, HOW.out _ (HD2.out.drewN _), HR.out, HU.out, HM2.out, by omega, HB.out.trans ((HD2.out.drewN _).below.mono HB.out.size)⟩, by simp [intOf]; omega⟩
            · have d2 : (orderC yr r == 0) = false := by simpa using hz
              have HUP : Hid (RowsUp (insAt rows q r)) := by
                show RowsUp _
                refine ins_up HU.out HGT.out (.inr ⟨yr, by rw [HQA.out]; exact HYR.out, ?_⟩)
                have h1 := mt (orderC_lex yr r).2.2 hz
                have h2 := lexC_flip yr r
                have h3 := mt orderC_pos.2 hg1
                omega
              clear hg1 hz
              go_wp2_with fail
              go_quiet (first | (go_at_call 22; with_reducible exact Calls.quiet_of (QO.out _ (HD.out.drewN _))))
              have HD2 := Lib.hid (HD.out.drewN nq)
              generalize wr.drewN nq = W2 at HD2 ⊢
              have y1 := hcyW.out _ HD2.out
              have x1 := HCW.out _ HD2.out
              go_wp2_with fail
              go_quiet (first | (go_at_call 22; with_reducible exact Calls.quiet_of (QO.out _ (HD2.out.drewN _))))
              have HD3 := Lib.hid (HD2.out.drewN nq)
              generalize W2.drewN nq = W3 at HD3 ⊢
              have HB3 := Lib.hid (HB.out.trans (HD3.out.below.mono HB.out.size))
              have HO3 := Lib.hid (HOW.out _ HD3.out)
              have hs3 := HB3.out.size
              have HX3 := Lib.hid (HCW.out _ HD3.out)
              clear HOW HCW HXW HD HGT
              go_wp2_with (at_builtin; go_loud (refine wpList_app1 Sl.vs 1 32 _ 24 infoSl rfl (by decide) rfl _ _ _ rfl Tryz.underlying38 w.heap.size _ ss rfl (HO3.out.alloc _) ⟨none, 0, 0⟩ _ _ rfl rfl (newAt _ _ _ _ (by simp)) (by simp [Sl.vs, Value.oneCell']) (by omega) (by unfold maxLen; omega) (by simp; omega) (fun v4 w4 hown4 hg4 _ => ?_)); obtain ⟨A4, n4, c4, rfl⟩ := hown4.shapeI; have HO4 := Lib.hid hown4; have HN4 : Hid (n4 = ss.length + 1) := (by show _ = _; rw [hown4.len]; simp); have HB4 := Lib.hid (below_row (bchain HB3.out (below_new _ _)) hg4 (fun j e => (HO3.out.blk j e).1)); clear hown4 hg4; have hw4 : IntKind.i64.wrap ((n4 : Int) - 1) = (ss.length : Int) := (by have := HN4.out; rw [show (n4 : Int) - 1 = (ss.length : Int) by omega]; exact IntWalk.i64_in _ (by omega)))
              obtain ⟨g4, -, eg4, -, -, -, -, -, -⟩ := HO4.out.at_ Sl.vs_length (i := 0) (by simp)
              subst eg4
              go_loopw [6] (fun kv wr => ∃ (m : Nat) (y4 : Sl), q ≤ m ∧ m ≤ ss.length ∧ kv = .int .i64 m ∧ Own Sl.vs 1 32 w.heap.size wr (.slice (some ⟨g4, 0, none⟩) n4 c4) (insAt ss m y4) ∧ Below w.heap.size w wr) (fun kv _ => (intOf kv).toNat)
              case atStart => exact ⟨ss.length, ⟨none, 0, 0⟩, hq, Nat.le_refl _, rfl, by rw [insAt_end]; exact HO4.out, HB4.out⟩
              case round =>
                obtain ⟨m, y4, hm1, hm2, rfl, hO5, hB5⟩ := hrel
                have HO5 := Lib.hid hO5
                have HB5 := Lib.hid hB5
                have hn4 := HN4.out
                have hlen5 : (insAt ss m y4).length = ss.length + 1 := insAt_len hm2
                obtain ⟨g5, z5, eg5, -, -, -, hz5, hc5, hf5⟩ := hO5.at_ Sl.vs_length (i := m) (by omega)
                cases eg5
                have p1 := hc5 0 _ rfl
                simp only [Nat.mul_one, Nat.add_zero] at p1
                have f1 := hf5 m
                have hm4 : (m : Int) < n4 := by omega
                have hm0 : (0 : Int) ≤ m := by omega
                clear hO5 hz5 hc5 hf5
                by_cases hqm : q < m
                · obtain ⟨m', HMM⟩ : ∃ m', Hid (m = m' + 1) := ⟨m - 1, by show m = _; omega⟩
                  have hmm := HMM.out
                  have HQM : Hid (q ≤ m') := (by show q ≤ m'; omega)
                  have hz : ss[m']? = some ss[m'] := List.getElem?_eq_getElem (by omega)
                  obtain ⟨z, hze⟩ : ∃ z, ss[m']? = some z := ⟨_, hz⟩
                  have HZ := Lib.hid hze
                  obtain ⟨g6, z6, eg6, -, -, -, hz6, hc6, -⟩ := HO5.out.at_ Sl.vs_length (i := m') (by omega)
                  cases eg6
                  rw [insAt_at (by omega) hze] at hz6
                  cases hz6
                  have p0 := hc6 0 _ rfl
                  simp only [Nat.mul_one, Nat.add_zero] at p0
                  have d5 : decide ((q : Int) < (m : Int)) = true := by rw [decide_eq_true_eq]; omega
                  have d5' : decide (q < m) = true := by rw [decide_eq_true_eq]; omega
                  have hw5 : IntKind.i64.wrap ((m : Int) - 1) = (m' : Int) := by rw [show (m : Int) - 1 = (m' : Int) by omega]; exact IntWalk.i64_in _ (by omega)
                  have hm5 : (m' : Int) < n4 := by omega
                  have hm6 : (0 : Int) ≤ m' := by omega
                  obtain ⟨q1, q2⟩ := Own.set1 Sl.vs_length HO5.out (i := m) (by omega) (y := z) (u := .slice z.A z.n z.cap) rfl
                  have HQ1 : Hid (Own Sl.vs 1 32 w.heap.size (wr.setCell ⟨g4, m, none⟩ (.slice z.A z.n z.cap)) (.slice (some ⟨g4, 0, none⟩) n4 c4) (insAt ss m' z)) := by
                    have e := insAt_down (x := y4) hze
                    rw [← hmm] at e
                    rw [e] at q1
                    exact q1
                  have HQ2 := Lib.hid (below_row HB5.out q2 (fun j e => (HO5.out.blk j e).1))
                  clear hz hze hc6 q1 q2 hmm hn4 hlen5 hqm
                  go_wp2_with fail
                  exact ⟨⟨m', z, HQM.out, by have := HMM.out; omega, by go_num, HQ1.out, HQ2.out⟩, by have := HMM.out; simp [intOf]; omega⟩
                · have hqm2 : q = m := by omega
                  subst hqm2
                  have d5 : decide ((q : Int) < (q : Int)) = false := by rw [decide_eq_false_iff_not]; omega
                  have d5' : decide (q < q) = false := by rw [decide_eq_false_iff_not]; omega
                  have x5 := (HB5.out.cell (World.block_lt_of_cell? _ _ HC0.out)).trans HC0.out
                  obtain ⟨q1, q2⟩ := Own.set1 Sl.vs_length HO5.out (i := q) (by omega) (y := x) (u := .slice x.A x.n x.cap) rfl
                  have HQ1 : Hid (Own Sl.vs 1 32 w.heap.size (wr.setCell ⟨g4, q, none⟩ (.slice x.A x.n x.cap)) (.slice (some ⟨g4, 0, none⟩) n4 c4) (insAt ss q x)) := by
                    rw [insAt_set hm2] at q1
                    exact q1
                  have HQ2 := Lib.hid (below_row HB5.out q2 (fun j e => (HO5.out.blk j e).1))
                  have HA2 := Lib.hid (insAt_all2 HR.out hm2 HX.out)
                  have HM3 : Hid (∀ z, z ∈ insAt rows q r ↔ z ∈ L.take (k + 1)) := by
                    show ∀ z, _
                    intro z
                    rw [HTK.out, mem_insAt, List.mem_append, List.mem_singleton, HM.out z]
                    exact Or.comm
                  have HLN : Hid ((insAt rows q r).length ≤ k + 1) := by
                    show _ ≤ _
                    rw [insAt_len (by rw [← HRL.out]; exact hm2)]
                    omega
                  clear q1 q2 hn4 hlen5 hqm
                  go_wp2_with fail
                  exact ⟨⟨k + 1, insAt ss q x, insAt rows q r, by omega, by go_num, HQ1.out, HA2.out, HUP.out, HM3.out, HLN.out, HQ2.out⟩, by simp [intOf]; omega⟩
        · have hqz : q = 0 := by omega
          have d0 : decide ((0 : Int) < (q : Int)) = false := by rw [decide_eq_false_iff_not]; omega
          have d0' : decide (0 < q) = false := by rw [decide_eq_false_iff_not]; omega
          have HUP : Hid (RowsUp (insAt rows q r)) := ins_up HU.out HGT.out (.inl hqz)
          clear hqz hq0
          go_wp2_with fail
          go_quiet (fail)
          go_wp2_with fail
          have HD2 := Lib.hid (HD.out.drewN nq)
          generalize wr.drewN nq = W2 at HD2 ⊢
          go_quiet (fail)
          have HD3 := Lib.hid (HD2.out.drewN nq)
          generalize W2.drewN nq = W3 at HD3 ⊢
          have HB3 := Lib.hid (HB.out.trans (HD3.out.below.mono HB.out.size))
          have HO3 := Lib.hid (HOW.out _ HD3.out)
          have hs3 := HB3.out.size
          have HX3 := Lib.hid (HCW.out _ HD3.out)
          clear HOW HCW HXW HD HGT
          go_wp2_with (at_builtin; go_loud (refine wpList_app1 Sl.vs 1 32 _ 24 infoSl rfl (by decide) rfl _ _ _ rfl Tryz.underlying38 w.heap.size _ ss rfl (HO3.out.alloc _) ⟨none, 0, 0⟩ _ _ rfl rfl (newAt _ _ _ _ (by simp)) (by simp [Sl.vs, Value.oneCell']) (by omega) (by unfold maxLen; omega) (by simp; omega) (fun v4 w4 hown4 hg4 _ => ?_)); obtain ⟨A4, n4, c4, rfl⟩ := hown4.shapeI; have HO4 := Lib.hid hown4; have HN4 : Hid (n4 = ss.length + 1) := (by show _ = _; rw [hown4.len]; simp); have HB4 := Lib.hid (below_row (bchain HB3.out (below_new _ _)) hg4 (fun j e => (HO3.out.blk j e).1)); clear hown4 hg4; have hw4 : IntKind.i64.wrap ((n4 : Int) - 1) = (ss.length : Int) := (by have := HN4.out; rw [show (n4 : Int) - 1 = (ss.length : Int) by omega]; exact IntWalk.i64_in _ (by omega)))
          obtain ⟨g4, -, eg4, -, -, -, -, -, -⟩ := HO4.out.at_ Sl.vs_length (i := 0) (by simp)
          subst eg4
          go_loopw [6] (fun kv wr => ∃ (m : Nat) (y4 : Sl), q ≤ m ∧ m ≤ ss.length ∧ kv = .int .i64 m ∧ Own Sl.vs 1 32 w.heap.size wr (.slice (some ⟨g4, 0, none⟩) n4 c4) (insAt ss m y4) ∧ Below w.heap.size w wr) (fun kv _ => (intOf kv).toNat)
          case atStart => exact ⟨ss.length, ⟨none, 0, 0⟩, hq, Nat.le_refl _, rfl, by rw [insAt_end]; exact HO4.out, HB4.out⟩
          case round =>
            obtain ⟨m, y4, hm1, hm2, rfl, hO5, hB5⟩ := hrel
            have HO5 := Lib.hid hO5
            have HB5 := Lib.hid hB5
            have hn4 := HN4.out
            have hlen5 : (insAt ss m y4).length = ss.length + 1 := insAt_len hm2
            obtain ⟨g5, z5, eg5, -, -, -, hz5, hc5, hf5⟩ := hO5.at_ Sl.vs_length (i := m) (by omega)
            cases eg5
            have p1 := hc5 0 _ rfl
            simp only [Nat.mul_one, Nat.add_zero] at p1
            have f1 := hf5 m
            have hm4 : (m : Int) < n4 := by omega
            have hm0 : (0 : Int) ≤ m := by omega
            clear hO5 hz5 hc5 hf5
            by_cases hqm : q < m
            · obtain ⟨m', HMM⟩ : ∃ m', Hid (m = m' + 1) := ⟨m - 1, by show m = _; omega⟩
              have hmm := HMM.out
              have HQM : Hid (q ≤ m') := (by show q ≤ m'; omega)
              have hz : ss[m']? = some ss[m'] := List.getElem?_eq_getElem (by omega)
              obtain ⟨z, hze⟩ : ∃ z, ss[m']? = some z := ⟨_, hz⟩
              have HZ := Lib.hid hze
              obtain ⟨g6, z6, eg6, -, -, -, hz6, hc6, -⟩ := HO5.out.at_ Sl.vs_length (i := m') (by omega)
              cases eg6
              rw [insAt_at (by omega) hze] at hz6
              cases hz6
              have p0 := hc6 0 _ rfl
              simp only [Nat.mul_one, Nat.add_zero] at p0
              have d5 : decide ((q : Int) < (m : Int)) = true := by rw [decide_eq_true_eq]; omega
              have d5' : decide (q < m) = true := by rw [decide_eq_true_eq]; omega
              have hw5 : IntKind.i64.wrap ((m : Int) - 1) = (m' : Int) := by rw [show (m : Int) - 1 = (m' : Int) by omega]; exact IntWalk.i64_in _ (by omega)
              have hm5 : (m' : Int) < n4 := by omega
              have hm6 : (0 : Int) ≤ m' := by omega
              obtain ⟨q1, q2⟩ := Own.set1 Sl.vs_length HO5.out (i := m) (by omega) (y := z) (u := .slice z.A z.n z.cap) rfl
              have HQ1 : Hid (Own Sl.vs 1 32 w.heap.size (wr.setCell ⟨g4, m, none⟩ (.slice z.A z.n z.cap)) (.slice (some ⟨g4, 0, none⟩) n4 c4) (insAt ss m' z)) := by
                have e := insAt_down (x := y4) hze
                rw [← hmm] at e
                rw [e] at q1
                exact q1
              have HQ2 := Lib.hid (below_row HB5.out q2 (fun j e => (HO5.out.blk j e).1))
              clear hz hze hc6 q1 q2 hmm hn4 hlen5 hqm
              go_wp2_with fail
              exact ⟨⟨m', z, HQM.out, by have := HMM.out; omega, by go_num, HQ1.out, HQ2.out⟩, by have := HMM.out; simp [intOf]; omega⟩
            · have hqm2 : q = m := by omega
              subst hqm2
              have d5 : decide ((q : Int) < (q : Int)) = false := by rw [decide_eq_false_iff_not]; omega
              have d5' : decide (q < q) = false := by rw [decide_eq_false_iff_not]; omega
              have x5 := (HB5.out.cell (World.block_lt_of_cell? _ _ HC0.out)).trans HC0.out
              obtain ⟨q1, q2⟩ := Own.set1 Sl.vs_length HO5.out (i := q) (by omega) (y := x) (u := .slice x.A x.n x.cap) rfl
              have HQ1 : Hid (Own Sl.vs 1 32 w.heap.size (wr.setCell ⟨g4, q, none⟩ (.slice x.A x.n x.cap)) (.slice (some ⟨g4, 0, none⟩) n4 c4) (insAt ss q x)) := by
                rw [insAt_set hm2] at q1
                exact q1
              have HQ2 := Lib.hid (below_row HB5.out q2 (fun j e => (HO5.out.blk j e).1))
              have HA2 := Lib.hid (insAt_all2 HR.out hm2 HX.out)
              have HM3 : Hid (∀ z, z ∈ insAt rows q r ↔ z ∈ L.take (k + 1)) := by
                show ∀ z, _
                intro z
                rw [HTK.out, mem_insAt, List.mem_append, List.mem_singleton, HM.out z]
                exact Or.comm
              have HLN : Hid ((insAt rows q r).length ≤ k + 1) := by
                show _ ≤ _
                rw [insAt_len (by rw [← HRL.out]; exact hm2)]
                omega
              clear q1 q2 hn4 hlen5 hqm
              go_wp2_with fail
              exact ⟨⟨k + 1, insAt ss q x, insAt rows q r, by omega, by go_num, HQ1.out, HA2.out, HUP.out, HM3.out, HLN.out, HQ2.out⟩, by simp [intOf]; omega⟩
    · have hk' : k = n := by omega
      have HE : Hid (rows = sortR L) := by
        show _ = _
        refine up_sortR hU fun z => ?_
        rw [hM z, List.take_of_length_le (by rw [HL.out]; omega)]
      have d1 : decide ((k : Int) < (n : Int)) = false := by rw [decide_eq_false_iff_not]; omega
      have d2 : decide (k < n) = false := by rw [decide_eq_false_iff_not]; omega
      clear hO hR hU hM hB hlt hk'
      go_wp2_with fail
      go_ret
      refine ⟨_, rfl, ?_, HB.out⟩
      rw [← HE.out]
      exact ⟨ss, HO.out, HR.out.mono fun x y h => h.below HB.out⟩
theorem sortedR_any (s : Sl) (L : List (List Int)) (w : World) (h : RowsAt w 0 s L) (hn : s.n ≤ 1000000) :
    Calls Tryz.prog 121 #[.slice s.A s.n s.cap] w fun e w' => ∃ v, e = .returned v ∧ RowsOwn w.heap.size w' v (sortR L) ∧ Below w.heap.size w w' := sortedR_lo s L w h hn
end Go.Proofs.Bg
end

section
/- Plain words: rules, closures, keys. No program in sight. -/
namespace Go.Proofs.Bg
open Go.RowKit

def ruleB (n : Int) (r : PF) : Bool := setB r.from_ n && decide (0 ≤ r.to_) && decide (r.to_ < n)
def rulesB (n : Int) (l : List PF) : Bool := decide (1 ≤ n) && decide (n ≤ 8) && decide (l.length ≤ 10) && l.all (ruleB n)
/-- One rule used: all its columns are there, its own one is not. -/
def firesB (r : PF) (s : Nat) : Bool := decide (bdiff (bitsN r.from_) s = 0) && !s.testBit r.to_.toNat
def useR (r : PF) (s : Nat) : Nat := if firesB r s then s ||| pw r.to_.toNat else s
def roundR : List PF → Nat → Nat
  | [], s => s
  | r :: l, s => roundR l (useR r s)
def closeIt : Nat → List PF → Nat → Nat
  | 0, _, s => s
  | f + 1, l, s => if roundR l s = s then s else closeIt f l (roundR l s)
def closedN (l : List PF) (s : Nat) : Nat := closeIt (256 - s) l s

theorem le_or (a b : Nat) : a ≤ a ||| b := Nat.left_le_or
theorem useR_le (r : PF) (s : Nat) : s ≤ useR r s := by
  unfold useR
  split
  · exact le_or _ _
  · exact Nat.le_refl _
theorem roundR_le : ∀ (l : List PF) (s : Nat), s ≤ roundR l s
  | [], _ => Nat.le_refl _
  | r :: l, s => Nat.le_trans (useR_le r s) (roundR_le l _)
theorem useR_lt {r : PF} {s : Nat} (hr : ruleB 8 r = true) (hs : s < 256) : useR r s < 256 := by
  unfold useR
  split
  · simp only [ruleB, Bool.and_eq_true, decide_eq_true_eq] at hr
    exact Nat.or_lt_two_pow (n := 8) hs (pw_lt (by omega))
  · exact hs
theorem roundR_lt : ∀ {l : List PF} {s : Nat}, (∀ r ∈ l, ruleB 8 r = true) → s < 256 → roundR l s < 256
  | [], s, _, h => h
  | r :: l, s, hl, h => by
    rw [roundR]
    exact roundR_lt (fun x hx => hl x (by simp [hx])) (useR_lt (hl r (by simp)) h)
theorem useR_ne {r : PF} {s : Nat} (h : firesB r s = true) : useR r s ≠ s := by
  intro e
  unfold useR at e
  rw [if_pos h] at e
  have := congrArg (fun x => x.testBit r.to_.toNat) e
  simp only [Nat.testBit_or, testBit_pw] at this
  simp only [firesB, Bool.and_eq_true] at h
  have h2 := h.2
  simp at this h2
  rw [h2] at this
  cases this
theorem closeIt_enough {l : List PF} (hl : ∀ r ∈ l, ruleB 8 r = true) : ∀ (f g s : Nat), s < 256 → 256 - s ≤ f → 256 - s ≤ g → closeIt f l s = closeIt g l s
  | 0, _, s, h, h1, _ => by omega
  | f + 1, 0, s, h, _, h2 => by omega
  | f + 1, g + 1, s, h, h1, h2 => by
    rw [closeIt, closeIt]
    split
    · rfl
    · rename_i hne
      have h3 := roundR_le l s
      have h4 := roundR_lt hl h
      exact closeIt_enough hl f g _ h4 (by omega) (by omega)
theorem closedN_step {l : List PF} (hl : ∀ r ∈ l, ruleB 8 r = true) {s : Nat} (hs : s < 256) : closedN l s = if roundR l s = s then s else closedN l (roundR l s) := by
  have h3 := roundR_le l s
  have h4 := roundR_lt hl hs
  have e : 256 - s = (255 - s) + 1 := by omega
  unfold closedN
  rw [e, closeIt]
  split
  · rfl
  · exact closeIt_enough hl _ _ _ h4 (by omega) (by omega)
theorem closedN_le (l : List PF) : ∀ (f s : Nat), s ≤ closeIt f l s
  | 0, s => Nat.le_refl _
  | f + 1, s => by
    rw [closeIt]
    split
    · exact Nat.le_refl _
    · exact Nat.le_trans (roundR_le l s) (closedN_le l f _)
theorem closeIt_lt {l : List PF} (hl : ∀ r ∈ l, ruleB 8 r = true) : ∀ (f : Nat) {s : Nat}, s < 256 → closeIt f l s < 256
  | 0, s, h => h
  | f + 1, s, h => by
    rw [closeIt]
    split
    · exact h
    · exact closeIt_lt hl f (roundR_lt hl h)
theorem closedN_lt {l : List PF} (hl : ∀ r ∈ l, ruleB 8 r = true) {s : Nat} (h : s < 256) : closedN l s < 256 := closeIt_lt hl _ h
/-- A key: its closure is all, and that of no set with a column less. -/
def keyB (n : Nat) (l : List PF) (s : Nat) : Bool := decide (closedN l s = pw n - 1) && (List.range n).all fun c => !(s.testBit c && decide (closedN l (bdiff s (pw c)) = pw n - 1))
def keysTo (n : Nat) (l : List PF) (k : Nat) : List (List Int) := ((List.range k).filter (keyB n l)).map colsN
def keysB (n : Nat) (l : List PF) : List (List Int) := sortR (keysTo n l (pw n))
theorem keysTo_succ (n : Nat) (l : List PF) (k : Nat) : keysTo n l (k + 1) = if keyB n l k = true then keysTo n l k ++ [colsN k] else keysTo n l k := by
  unfold keysTo
  rw [List.range_succ, List.filter_append]
  by_cases h : keyB n l k = true <;> simp [h]
theorem keysTo_length (n : Nat) (l : List PF) (k : Nat) : (keysTo n l k).length ≤ k := by
  unfold keysTo
  rw [List.length_map]
  have := List.length_filter_le (keyB n l) (List.range k)
  simpa using this
theorem rulesB_all {n : Int} {l : List PF} (h : rulesB n l = true) : ∀ r ∈ l, ruleB 8 r = true := by
  simp only [rulesB, Bool.and_eq_true, decide_eq_true_eq, List.all_eq_true] at h
  intro r hr
  have h1 := h.2 r hr
  simp only [ruleB, Bool.and_eq_true, decide_eq_true_eq] at h1 ⊢
  refine ⟨⟨?_, h1.1.2⟩, by omega⟩
  have hn := h.1.1.2
  clear h
  have : ∀ (m : List Int) (p : Int), setFrom p n m = true → setFrom p 8 m = true := by
    intro m
    induction m with
    | nil => intro p _; rfl
    | cons a r ih =>
      intro p h
      simp only [setFrom, Bool.and_eq_true, decide_eq_true_eq] at h ⊢
      exact ⟨⟨h.1.1, by omega⟩, ih _ h.2⟩
  exact this _ _ h1.1.1

example : keysB 3 [⟨[0], 1⟩, ⟨[1], 2⟩] = [[0]] := by decide +kernel
end Go.Proofs.Bg
end
